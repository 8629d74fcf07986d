/- Texts of this claim, those in one that belong together; printed by a program of this project. -/
import Derived.Test.YtahlbjmafceoeaaGreatDoorProg
import Derived.Lib.Bytealg
import Derived.Test.YtahlbjmafceoeaaGreatDoorKLintTexts1
set_option linter.unusedVariables false
set_option linter.unusedSimpArgs false
set_option maxRecDepth 20000
namespace Go.Proofs.YtahlbjmafceoeaaGreatDoor
open E Go.RowKit _root_.Go.Proofs.Tryz
theorem infoG85_is:(Tryz.prog.info? 5).isSome=true:=by kernel_rfl
noncomputable def infoG85_v:TypeInfo:=(Tryz.prog.info? 5).get infoG85_is
theorem infoG85:Tryz.prog.info? 5=some infoG85_v:=(Option.some_get _).symm
def keys_Zero(x0:(Vector Int 32)):Option (Bool) :=
 some (decide (x0=(Vector.replicate 32 (0:Int):(Vector Int 32))))
theorem keys_Zero_ok(x0:(Vector Int 32))(r:Bool)(hF:keys_Zero x0=some r)(w:World) :
    Calls Tryz.prog 20 #[.agg (Cd.cs (cVec (cInt .u8) 32 (by decide)) x0).toArray] w (fun e w'=>e=.returned (.bool r)∧Below w.heap.size w w'):=by
 unfold keys_Zero at hF
 refine ce (l:=[.agg (Cd.cs (cVec (cInt .u8) 32 (by decide)) x0).toArray]) func20 rfl rfl ?_
 refine at_start ?_
 refine sr ?_
 refine at_box (cs:=Cd.cs (cVec (cInt .u8) 32 (by decide)) x0) rfl rfl rfl ?_
 intro b1
 refine aa (ns ?_)
 refine aw (r_load_aggc (c:=(cVec (cInt .u8) 32 (by decide))) (z:=x0) isAgg23 sizeOf23 rfl (lens_cell .z lw)) ?_
 refine aw (r_build_array (zs:=Cd.cs (cVec (cInt .u8) 32 (by decide)) zv3) (cs:=Cd.cs (cVec (cInt .u8) 32 (by decide)) zv3) underlying23 zeroValue23 rfl sizeOf5 rfl rfl) ?_
 refine aw (r_eqagg (c:=(cVec (cInt .u8) 32 (by decide))) (a:=x0) (b:=zv3) (eqs_vec underlying23 infoT5 sizeOf5 isAgg5 (.inr rfl) (eqs_int underlying5)) rfl Tryz.eqGuardType23 rfl rfl (.inl rfl) rfl) ?_
 refine aa (qn (dz (wq [2] ?_)))
 refine tn (qt ?_)
 have K:=os hF
 subst K
 exact r1 wb
def crawlwayref07_Bytes.l0(x0:(Vector Int 32))(i5:List Int)(i6:Int):Option (List Int) :=
 if (decide (i6<32))=true then (if (0:Int)≤i6∧i6<32 then if (i5.length+1)*1≤140737488355328 then crawlwayref07_Bytes.l0 x0 (i5++[vget x0 i6]) (wr .i64 (i6+1)) else none else none) else (some i5)
 partial_fixpoint
def crawlwayref07_Bytes(x0:(Vector Int 32)):Option (List Int) :=
 crawlwayref07_Bytes.l0 x0 ([]:List Int) 0>>=fun q4=>some q4
theorem crawlwayref07_Bytes_ok(x0:(Vector Int 32))(r:List Int)(hF:crawlwayref07_Bytes x0=some r)(w:World) :
    Calls Tryz.prog 32 #[.agg (Cd.cs (cVec (cInt .u8) 32 (by decide)) x0).toArray] w (fun e w'=>∃ p cap,e=.returned (.slice p r.length cap)∧Own (cInt .u8) 5 w.heap.size w' p cap r∧Below w.heap.size w w'):=by
 unfold crawlwayref07_Bytes at hF
 refine ce (l:=[.agg (Cd.cs (cVec (cInt .u8) 32 (by decide)) x0).toArray]) func32 rfl rfl ?_
 refine at_start ?_
 refine sr ?_
 refine at_box (cs:=Cd.cs (cVec (cInt .u8) 32 (by decide)) x0) rfl rfl rfl ?_
 intro b1
 refine aa (ns (aa (nt (qs (sr (aa (nwq [4,3,1] ?_)))))))
 refine qb ?_
 refine at_own_nil (cInt .u8) 5 ?_
 obtain ⟨q4,hq4,hF⟩:=bM hF
 refine wq [4,3,1] ?_
 refine at_loop_n (B:=0) (A:=fun Y=>∀ (p9:Option Addr) (c10:Nat),At 16 [(3,.slice p9 q4.length c10)] (Wd w [rowE (cInt .u8) 5 p9 c10 q4]) Y) ?_ ?_
 ·intro K
  refine crawlwayref07_Bytes.l0.partial_correctness x0 (motive:=fun i5 i6 x=>KN (fun Y=>∀ (p9:Option Addr) (c10:Nat),At 16 [(3,.slice p9 x.length c10)] (Wd w [rowE (cInt .u8) 5 p9 c10 x]) Y) _ 0→Round (fun Y=>∀ (p7:Option Addr) (c8:Nat),At 16 [(1,.pointer (some ⟨b1,0,none⟩)),(3,.slice p7 i5.length c8),(4,.int .i64 i6)] (Wd w [rowE (cInt .u8) 5 p7 c8 i5,cellsE b1 (Cd.cs (cVec (cInt .u8) 32 (by decide)) x0) 23]) Y) _ _ _) ?_ _ _ _ hq4 K none 0
  ·clear K hF
   intro g ih i5 i6 x hF K p7 c8
   refine at_round ?_
   refine qs (sr (am (aw xl (nwq [6,4,3,1] ?_))))
   obtain ⟨h11,hF⟩|⟨h11,hF⟩:=oi hF
   ·refine ct h11 ?_
    refine sn (qs ?_)
    refine qb ?_
    refine qr (am (am ?_))
    obtain ⟨h12,hF⟩:=gd hF
    refine aw (r_idxArr underlying23 sizeOf5 rfl rfl h12) ?_
    refine aw (r_load_cell isAgg5 rfl (lens_cell0 (c:=(cInt .u8)) (y:=vget x0 i6) (.s .z) (Lens.comp lw (fun z=>vset x0 i6 z) (Lens.vec (cInt .u8) (by decide) x0 i6 h12)) rfl)) ?_
    refine at_lit (cs:=(cInt .u8).all ([vget x0 i6]:List Int)) underlying74 sizeOf5 zeroValue5 rfl rfl rfl (by kernel_rfl) rfl ?_
    intro b13
    obtain ⟨h14,hF⟩:=gd hF
    refine at_append (z:=.int .u8 0) (c:=(cInt .u8)) (ys:=([vget x0 i6]:List Int)) (.s .z) underlying74 infoG85 (by kernel_rfl) (by kernel_rfl) rfl rfl rfl rfl (fun _ hw=>cells_src (hw.ok (Upd.mem .z))) (by kernel_rfl) h14 (app_small h14) rfl ?_
    intro p15 c16
    refine aa (qn (dz (wq [4,3,1] ?_)))
    refine bm ?_
    refine qr (am (aw xa (aa (nwq [4,3,1] ?_))))
    exact at_weak_k (ih _ _ _ hF K p15 c16) ⟨rfl,rfl,rfl,trivial⟩
   refine cf h11 ?_
   refine at_exit ?_
   refine te (te ?_)
   refine at_drop (H:=_) (.s .z) ?_
   obtain rfl:=os hF
   exact at_weak_k (K p7 c8) ⟨rfl,trivial⟩
 skip
 intro p9 c10
 refine at_blk_same ?_
 refine tn (sr (am (aa (nwq [2] ?_))))
 refine qt ?_
 have K:=os hF
 subst K
 exact r1 (fun w1 hw=>⟨p9,c10,rfl,hw.own .z,hw.below⟩)
def crawlwayref01_Bit.l0(x1:Int)(i6:Int)(i7:Int):Option (Int) :=
 if (decide (i7>Int.tmod x1 8))=true then (crawlwayref01_Bit.l0 x1 (wr .i64 (Int.tdiv i6 2)) (wr .i64 (i7-1))) else (some i6)
 partial_fixpoint
def crawlwayref01_Bit(x0:List Int)(x1:Int):Option (Int) :=
 if (0:Int)≤wr .i64 (Int.tdiv x1 8)∧wr .i64 (Int.tdiv x1 8)<(x0.length:Int) then crawlwayref01_Bit.l0 x1 (wr .i64 (lget x0 (wr .i64 (Int.tdiv x1 8)))) 7>>=fun q5=>some (Int.tmod q5 2) else none
theorem crawlwayref01_Bit_ok(x0:List Int)(p0_:Option Addr)(c0_:Nat)(x1:Int)(r:Int)(hF:crawlwayref01_Bit x0 x1=some r)(w:World)(hr0:Row (cInt .u8) w p0_ c0_ x0) :
    Calls Tryz.prog 54 #[.slice p0_ x0.length c0_,.int .i64 x1] w (fun e w'=>e=.returned (.int .i64 r)∧w'=w):=by
 unfold crawlwayref01_Bit at hF
 refine ce (l:=[.slice p0_ x0.length c0_,.int .i64 x1]) func54 rfl rfl ?_
 refine sr (aa (ns (am (am ?_))))
 refine aw (r_iquo rfl rfl (by decide)) ?_
 obtain ⟨h1,hF⟩:=gd hF
 obtain ⟨b3,o4,hp2⟩:=row_ptr hr0 h1
 refine aw (r_idx underlying74 sizeOf5 rfl rfl h1 hp2) ?_
 refine aw (r_load_cell isAgg5 rfl (row_cell0 (fun w1 (h:w1=w)=>by subst h;exact Below.refl _ _) hr0 h1 hp2 rfl)) ?_
 refine aw (r_conv underlying5 underlying3 rfl) ?_
 refine aa (nt (qs (sr (aa (nwq [6,5,1] ?_)))))
 refine qb ?_
 obtain ⟨q5,hq5,hF⟩:=bM hF
 refine wq [6,5,1] ?_
 refine at_loop_n (B:=0) (A:=fun Y=>At 23 [(5,.int .i64 q5)] (fun w'=>w'=w) Y) ?_ ?_
 ·intro K
  refine crawlwayref01_Bit.l0.partial_correctness x1 (motive:=fun i6 i7 x=>KN (fun Y=>At 23 [(5,.int .i64 x)] (fun w'=>w'=w) Y) _ 0→Round (fun Y=>At 23 [(1,.int .i64 x1),(5,.int .i64 i6),(6,.int .i64 i7)] (fun w'=>w'=w) Y) _ _ _) ?_ _ _ _ hq5 K
  ·clear K hF
   intro g ih i6 i7 x hF K
   refine at_round ?_
   refine qs (sr (am (am ?_)))
   refine aw (r_irem rfl rfl (by decide)) ?_
   refine aw (r_igtr rfl rfl) ?_
   refine nwq [16,6,5,1] ?_
   obtain ⟨h8,hF⟩|⟨h8,hF⟩:=oi hF
   ·refine ct h8 ?_
    refine sn (qs ?_)
    refine qb ?_
    refine qr (am ?_)
    refine aw (r_iquo rfl rfl (by decide)) ?_
    refine aa (qn (wq [6,5,1] ?_))
    refine bm ?_
    refine qr (am ?_)
    refine aw (r_isub rfl rfl) ?_
    refine aa (nwq [6,5,1] ?_)
    exact at_weak_k (ih _ _ _ hF K) ⟨rfl,rfl,rfl,trivial⟩
   refine cf h8 ?_
   refine at_exit ?_
   refine te (te ?_)
   obtain rfl:=os hF
   exact at_weak_k K ⟨rfl,trivial⟩
 skip
 skip
 refine at_blk_same ?_
 refine tn (sr (am ?_))
 refine aw (r_irem rfl rfl (by decide)) ?_
 refine aa (nwq [4] ?_)
 refine qt ?_
 have K:=os hF
 subst K
 exact r1 (fun w1 hw=>⟨rfl,hw⟩)
def crawlwayref04_Signs:Option (ByteArray) :=
 some (⟨#[65,66,67,68,69,70,71,72,73,74,75,76,77,78,79,80,81,82,83,84,85,86,87,88,89,90,97,98,99,100,101,102,103,104,105,106,107,108,109,110,111,112,113,114,115,116,117,118,119,120,121,122,48,49,50,51,52,53,54,55,56,57,43,47]⟩)
theorem crawlwayref04_Signs_ok(r:ByteArray)(hF:crawlwayref04_Signs =some r)(w:World) :
    Calls Tryz.prog 55 #[] w (fun e w'=>e=.returned (.string r)∧w'=w):=by
 unfold crawlwayref04_Signs at hF
 refine ce (l:=[]) func55 rfl rfl ?_
 refine at_weak [] trivial ?_
 refine sr (aa ?_)
 refine nws [] trivial ?_
 refine aa (nwq [0] ?_)
 refine qt ?_
 have K:=os hF
 subst K
 exact r1 (fun w1 hw=>⟨rfl,hw⟩)
def crawlwayref04_Encode.l1(x0:List Int)(i3:Int)(i6:Int)(i7:Int):Option (Int) :=
 if (decide (i7<wr .i64 (i3+6)))=true then (if (decide (i7<wr .i64 (8*(x0.length:Int))))=true then (crawlwayref01_Bit x0 i7>>=fun t10=>crawlwayref04_Encode.l1 x0 i3 (wr .i64 ((wr .i64 (2*i6))+t10)) (wr .i64 (i7+1))) else (crawlwayref04_Encode.l1 x0 i3 (wr .i64 (2*i6)) (wr .i64 (i7+1)))) else (some i6)
 partial_fixpoint
def crawlwayref04_Encode.l0(x0:List Int)(i2:ByteArray)(i3:Int):Option (ByteArray) :=
 if (decide (i3<wr .i64 (8*(x0.length:Int))))=true then (crawlwayref04_Encode.l1 x0 i3 0 i3>>=fun q5=>crawlwayref04_Signs>>=fun t11=>if (0:Int)≤q5∧q5≤wr .i64 (q5+1)∧wr .i64 (q5+1)≤(t11.size:Int) then if i2.size+(t11.extract (Int.toNat q5) (Int.toNat (wr .i64 (q5+1)))).size≤140737488355328 then crawlwayref04_Encode.l0 x0 (i2++(t11.extract (Int.toNat q5) (Int.toNat (wr .i64 (q5+1))))) (wr .i64 (i3+6)) else none else none) else (some i2)
 partial_fixpoint
def crawlwayref04_Encode.l2(i15:ByteArray):Option (ByteArray) :=
 if (Int.tmod (i15.size:Int) 4 != 0)=true then (if i15.size+(⟨#[61]⟩:ByteArray).size≤140737488355328 then crawlwayref04_Encode.l2 (i15++(⟨#[61]⟩:ByteArray)) else none) else (some i15)
 partial_fixpoint
def crawlwayref04_Encode(x0:List Int):Option (ByteArray) :=
 crawlwayref04_Encode.l0 x0 (⟨#[]⟩) 0>>=fun q1=>crawlwayref04_Encode.l2 q1>>=fun q14=>some q14
theorem crawlwayref04_Encode_ok(x0:List Int)(p0_:Option Addr)(c0_:Nat)(r:ByteArray)(hF:crawlwayref04_Encode x0=some r)(w:World)(hr0:Row (cInt .u8) w p0_ c0_ x0) :
    Calls Tryz.prog 31 #[.slice p0_ x0.length c0_] w (fun e w'=>e=.returned (.string r)∧w'=w):=by
 unfold crawlwayref04_Encode at hF
 refine ce (l:=[.slice p0_ x0.length c0_]) func31 rfl rfl ?_
 refine sr (aa (ns (aa (nt (qs (sr (aa (nwq [4,3,0] ?_))))))))
 refine qb ?_
 obtain ⟨q1,hq1,hF⟩:=bM hF
 refine wq [4,3,0] ?_
 refine at_loop_n (B:=0) (A:=fun Y=>At 47 [(3,.string q1)] (fun w'=>w'=w) Y) ?_ ?_
 ·intro K
  refine crawlwayref04_Encode.l0.partial_correctness x0 (motive:=fun i2 i3 x=>KN (fun Y=>At 47 [(3,.string x)] (fun w'=>w'=w) Y) _ 0→Round (fun Y=>At 47 [(0,.slice p0_ x0.length c0_),(3,.string i2),(4,.int .i64 i3)] (fun w'=>w'=w) Y) _ _ _) ?_ _ _ _ hq1 K
  ·clear K hF
   intro g ih i2 i3 x hF K
   refine at_round ?_
   refine qs (sr (am (am ?_)))
   refine aw (r_len_sl underlying74 rfl) ?_
   refine aw (r_imul rfl rfl) ?_
   refine aw xl (nwq [11,4,3,0] ?_)
   obtain ⟨h4,hF⟩|⟨h4,hF⟩:=oi hF
   ·refine ct h4 ?_
    refine sn (qs ?_)
    refine qb ?_
    refine sr (aa (nt (qs (sr (am (aa (nwq [6,5,4,3,0] ?_)))))))
    refine qb ?_
    obtain ⟨q5,hq5,hF⟩:=bM hF
    refine wq [6,5,4,3,0] ?_
    refine at_loop_n (B:=2) (A:=fun Y=>At 47 [(0,.slice p0_ x0.length c0_),(3,.string i2),(4,.int .i64 i3),(5,.int .i64 q5)] (fun w'=>w'=w) Y) ?_ ?_
    ·intro K
     refine crawlwayref04_Encode.l1.partial_correctness x0 i3 (motive:=fun i6 i7 x=>KN (fun Y=>At 47 [(0,.slice p0_ x0.length c0_),(3,.string i2),(4,.int .i64 i3),(5,.int .i64 x)] (fun w'=>w'=w) Y) _ 2→Round (fun Y=>At 47 [(0,.slice p0_ x0.length c0_),(3,.string i2),(4,.int .i64 i3),(5,.int .i64 i6),(6,.int .i64 i7)] (fun w'=>w'=w) Y) _ _ _) ?_ _ _ _ hq5 K
     ·clear K hF
      intro g ih i6 i7 x hF K
      refine at_round ?_
      refine qs (sr (am (am (aw xa (aw xl (nwq [18,6,5,4,3,0] ?_))))))
      obtain ⟨h8,hF⟩|⟨h8,hF⟩:=oi hF
      ·refine ct h8 ?_
       refine sn (qs ?_)
       refine qb ?_
       refine sr (am ?_)
       refine aw (r_imul rfl rfl) ?_
       refine aa (ns (am (am ?_)))
       refine aw (r_len_sl underlying74 rfl) ?_
       refine aw (r_imul rfl rfl) ?_
       refine aw xl (nwq [27,6,5,4,3,0] ?_)
       obtain ⟨h9,hF⟩|⟨h9,hF⟩:=oi hF
       ·refine ct h9 ?_
        refine qr (am (am (am ?_)))
        obtain ⟨t10,ht10,hF⟩:=bM hF
        refine at_call0w func54 rfl (by kernel_rfl) rfl rfl (fun w hw=>crawlwayref01_Bit_ok _ _ _ _ _ ht10 w (hr0.below (by subst hw;exact Below.refl _ _))) ?_
        refine aw xa (aa (qn (wq [6,5,4,3,0] ?_)))
        refine bm ?_
        refine qr (am (aw xa (aa (nwq [6,5,4,3,0] ?_))))
        exact at_weak_k (ih _ _ _ hF K) ⟨rfl,rfl,rfl,rfl,rfl,trivial⟩
       refine cf h9 ?_
       refine at_skip ?_
       refine bm ?_
       refine qr (am (aw xa (aa (nwq [6,5,4,3,0] ?_))))
       exact at_weak_k (ih _ _ _ hF K) ⟨rfl,rfl,rfl,rfl,rfl,trivial⟩
      refine cf h8 ?_
      refine at_exit ?_
      refine te (te ?_)
      obtain rfl:=os hF
      exact at_weak_k K ⟨rfl,rfl,rfl,rfl,trivial⟩
    skip
    skip
    refine at_blk_same ?_
    refine tn (qr (am ?_))
    obtain ⟨t11,ht11,hF⟩:=bM hF
    refine at_call0 func55 rfl (by kernel_rfl) rfl rfl (fun w=>crawlwayref04_Signs_ok  _ ht11 w) ?_
    refine am (am (aw xa ?_))
    obtain ⟨h12,hF⟩:=gd hF
    refine aw (r_slice_str underlying9 rfl ⟨_,rfl⟩ ⟨_,rfl⟩ h12) ?_
    obtain ⟨h13,hF⟩:=gd hF
    refine aw (r_concat rfl rfl h13) ?_
    refine aa (qn (wq [4,3,0] ?_))
    refine bm ?_
    refine qr (am (aw xa (aa (nwq [4,3,0] ?_))))
    exact at_weak_k (ih _ _ _ hF K) ⟨rfl,rfl,rfl,trivial⟩
   refine cf h4 ?_
   refine at_exit ?_
   refine te (te ?_)
   obtain rfl:=os hF
   exact at_weak_k K ⟨rfl,trivial⟩
 skip
 skip
 refine at_blk_same ?_
 refine tn (qs ?_)
 refine qb ?_
 obtain ⟨q14,hq14,hF⟩:=bM hF
 refine wq [3] ?_
 refine at_loop_n (B:=4) (A:=fun Y=>At 47 [(3,.string q14)] (fun w'=>w'=w) Y) ?_ ?_
 ·intro K
  refine crawlwayref04_Encode.l2.partial_correctness  (motive:=fun i15 x=>KN (fun Y=>At 47 [(3,.string x)] (fun w'=>w'=w) Y) _ 4→Round (fun Y=>At 47 [(3,.string i15)] (fun w'=>w'=w) Y) _ _ _) ?_ _ _ hq14 K
  ·clear K hF
   intro g ih i15 x hF K
   refine at_round ?_
   refine qs (sr (am ?_))
   refine aw (r_len_str underlying9 rfl) ?_
   refine aw (r_irem rfl rfl (by decide)) ?_
   refine aw xn (nwq [43,3] ?_)
   obtain ⟨h16,hF⟩|⟨h16,hF⟩:=oi hF
   ·refine ct h16 ?_
    refine sn ?_
    refine qb ?_
    refine qr (am ?_)
    obtain ⟨h17,hF⟩:=gd hF
    refine aw (r_concat rfl rfl h17) ?_
    refine aa (qn (wq [3] ?_))
    refine bm ?_
    exact at_weak_k (ih _ _ hF K) ⟨rfl,trivial⟩
   refine cf h16 ?_
   refine at_exit ?_
   refine te (te ?_)
   obtain rfl:=os hF
   exact at_weak_k K ⟨rfl,trivial⟩
 skip
 skip
 refine at_blk_same ?_
 refine tn (sr (am (aa (nwq [2] ?_))))
 refine qt ?_
 have K:=os hF
 subst K
 exact r1 (fun w1 hw=>⟨rfl,hw⟩)
def sixtyfour_Encode.l1(i7:List Int)(i9:ByteArray)(i17:Int)(i18:Int):Option (Int×ByteArray) :=
 if (decide (i18<3))=true then (if (decide (i18<(if 3<(i7.length:Int) then 3 else (i7.length:Int))))=true then (if (0:Int)≤i18∧i18<(i7.length:Int) then sixtyfour_Encode.l1 i7 i9 (ior .u32 (ishl .u32 i17 8) (wr .u32 (lget i7 i18))) (wr .i64 (i18+1)) else none) else (sixtyfour_Encode.l1 i7 i9 (ishl .u32 i17 8) (wr .i64 (i18+1)))) else (some (i17,i9))
 partial_fixpoint
def sixtyfour_Encode.l2(i7:List Int)(q16:Int×ByteArray)(i28:Int)(i29:ByteArray):Option (ByteArray) :=
 if (decide (i28<wr .i64 ((if 3<(i7.length:Int) then 3 else (i7.length:Int))+1)))=true then (if (0:Int)≤wr .u64 (wr .i64 (18-(wr .i64 (6*i28)))) then if (0:Int)≤iand .u32 (ishr .u32 q16.1 (wr .u64 (wr .i64 (18-(wr .i64 (6*i28)))))) 63∧iand .u32 (ishr .u32 q16.1 (wr .u64 (wr .i64 (18-(wr .i64 (6*i28)))))) 63<((⟨#[65,66,67,68,69,70,71,72,73,74,75,76,77,78,79,80,81,82,83,84,85,86,87,88,89,90,97,98,99,100,101,102,103,104,105,106,107,108,109,110,111,112,113,114,115,116,117,118,119,120,121,122,48,49,50,51,52,53,54,55,56,57,43,47]⟩:ByteArray).size:Int) then if (0:Int)≤bt (⟨#[65,66,67,68,69,70,71,72,73,74,75,76,77,78,79,80,81,82,83,84,85,86,87,88,89,90,97,98,99,100,101,102,103,104,105,106,107,108,109,110,111,112,113,114,115,116,117,118,119,120,121,122,48,49,50,51,52,53,54,55,56,57,43,47]⟩:ByteArray) (iand .u32 (ishr .u32 q16.1 (wr .u64 (wr .i64 (18-(wr .i64 (6*i28)))))) 63)∧bt (⟨#[65,66,67,68,69,70,71,72,73,74,75,76,77,78,79,80,81,82,83,84,85,86,87,88,89,90,97,98,99,100,101,102,103,104,105,106,107,108,109,110,111,112,113,114,115,116,117,118,119,120,121,122,48,49,50,51,52,53,54,55,56,57,43,47]⟩:ByteArray) (iand .u32 (ishr .u32 q16.1 (wr .u64 (wr .i64 (18-(wr .i64 (6*i28)))))) 63)<256 then if i29.size+1≤140737488355328 then sixtyfour_Encode.l2 i7 q16 (wr .i64 (i28+1)) (i29.push (UInt8.ofNat (Int.toNat (bt (⟨#[65,66,67,68,69,70,71,72,73,74,75,76,77,78,79,80,81,82,83,84,85,86,87,88,89,90,97,98,99,100,101,102,103,104,105,106,107,108,109,110,111,112,113,114,115,116,117,118,119,120,121,122,48,49,50,51,52,53,54,55,56,57,43,47]⟩:ByteArray) (iand .u32 (ishr .u32 q16.1 (wr .u64 (wr .i64 (18-(wr .i64 (6*i28)))))) 63))))) else none else none else none else none) else (some i29)
 partial_fixpoint
def sixtyfour_Encode.l0(i7:List Int)(i9:ByteArray):Option (ByteArray) :=
 if (decide ((i7.length:Int)>0))=true then (sixtyfour_Encode.l1 i7 i9 0 0>>=fun q16=>sixtyfour_Encode.l2 i7 q16 0 q16.2>>=fun q27=>if (0:Int)≤wr .i64 (3-(if 3<(i7.length:Int) then 3 else (i7.length:Int)))∧wr .i64 (3-(if 3<(i7.length:Int) then 3 else (i7.length:Int)))≤9223372036854775807∧((⟨#[61]⟩:ByteArray).size:Int)*(wr .i64 (3-(if 3<(i7.length:Int) then 3 else (i7.length:Int))))≤140737488355328 then if q27.size+(brep (⟨#[61]⟩:ByteArray) (wr .i64 (3-(if 3<(i7.length:Int) then 3 else (i7.length:Int))))).size≤140737488355328 then if (0:Int)≤(if 3<(i7.length:Int) then 3 else (i7.length:Int))∧(if 3<(i7.length:Int) then 3 else (i7.length:Int))≤(i7.length:Int)∧(i7.length:Int)≤(i7.length:Int) then sixtyfour_Encode.l0 (lsub i7 (if 3<(i7.length:Int) then 3 else (i7.length:Int)) (i7.length:Int)) (q27++(brep (⟨#[61]⟩:ByteArray) (wr .i64 (3-(if 3<(i7.length:Int) then 3 else (i7.length:Int)))))) else none else none else none) else (some i9)
 partial_fixpoint
def sixtyfour_Encode(x0:List Int):Option (ByteArray) :=
 sixtyfour_Encode.l0 x0 ByteArray.empty>>=fun q6=>some q6
theorem sixtyfour_Encode_ok(x0:List Int)(p0_:Option Addr)(c0_:Nat)(r:ByteArray)(hF:sixtyfour_Encode x0=some r)(w:World)(hr0:Row (cInt .u8) w p0_ c0_ x0) :
    Calls Tryz.prog 60 #[.slice p0_ x0.length c0_] w (fun e w'=>e=.returned (.string r)∧Below w.heap.size w w'):=by
 unfold sixtyfour_Encode at hF
 refine ce (l:=[.slice p0_ x0.length c0_]) func60 rfl rfl ?_
 refine at_start ?_
 refine sr (aa (ns ?_))
 refine at_alloc_bld (e:=5) zeroValue97 rfl ?_
 intro b1
 refine nwq [3,0] ?_
 refine qs ?_
 refine qb ?_
 obtain ⟨q6,hq6,hF⟩:=bM hF
 refine wq [3,0] ?_
 refine at_loop_n (B:=0) (A:=fun Y=>∀ (g14:Option Nat),At 53 [(3,.pointer (some ⟨b1,0,none⟩))] (Wd w [bldE 97 5 b1 g14 q6]) Y) ?_ ?_
 ·intro K
  refine sixtyfour_Encode.l0.partial_correctness  (motive:=fun i7 i9 x=>KN (fun Y=>∀ (g14:Option Nat),At 53 [(3,.pointer (some ⟨b1,0,none⟩))] (Wd w [bldE 97 5 b1 g14 x]) Y) _ 0→Round (fun Y=>∀ (p10:Option Addr) (c11:Nat) (hr12:Row (cInt .u8) w p10 c11 i7) (g13:Option Nat),At 53 [(0,.slice p10 i7.length c11),(3,.pointer (some ⟨b1,0,none⟩))] (Wd w [bldE 97 5 b1 g13 i9]) Y) _ _ _) ?_ _ _ _ hq6 K p0_ c0_ hr0 none
  ·clear K hF
   intro g ih i7 i9 x hF K p10 c11 hr12 g13
   refine at_round ?_
   refine qs (sr (am ?_))
   refine aw (r_len_sl underlying74 rfl) ?_
   refine aw (r_igtr rfl rfl) ?_
   refine nwq [10,3,0] ?_
   obtain ⟨h15,hF⟩|⟨h15,hF⟩:=oi hF
   ·refine ct h15 ?_
    refine sn ?_
    refine qb ?_
    refine sr (am ?_)
    refine aw (r_len_sl underlying74 rfl) ?_
    refine aw (r_min rfl rfl) ?_
    refine aa (ns (aa (nt (qs (sr (am (nwq [14,5,4,3,0] ?_)))))))
    refine qb ?_
    obtain ⟨q16,hq16,hF⟩:=bM hF
    refine wq [14,5,4,3,0] ?_
    refine at_loop_n (B:=2) (A:=fun Y=>∀ (g19:Option Nat),At 53 [(0,.slice p10 i7.length c11),(3,.pointer (some ⟨b1,0,none⟩)),(4,.int .i64 (if 3<(i7.length:Int) then 3 else (i7.length:Int))),(5,.int .u32 q16.1)] (Wd w [bldE 97 5 b1 g19 q16.2]) Y) ?_ ?_
    ·intro K
     refine sixtyfour_Encode.l1.partial_correctness i7 i9 (motive:=fun i17 i18 x=>KN (fun Y=>∀ (g19:Option Nat),At 53 [(0,.slice p10 i7.length c11),(3,.pointer (some ⟨b1,0,none⟩)),(4,.int .i64 (if 3<(i7.length:Int) then 3 else (i7.length:Int))),(5,.int .u32 x.1)] (Wd w [bldE 97 5 b1 g19 x.2]) Y) _ 2→Round (fun Y=>At 53 [(0,.slice p10 i7.length c11),(3,.pointer (some ⟨b1,0,none⟩)),(4,.int .i64 (if 3<(i7.length:Int) then 3 else (i7.length:Int))),(5,.int .u32 i17),(14,.int .i64 i18)] (Wd w [bldE 97 5 b1 g13 i9]) Y) _ _ _) ?_ _ _ _ hq16 K
     ·clear K hF
      intro g ih i17 i18 x hF K
      refine at_round ?_
      refine sr (aw xl (nwq [15,14,5,4,3,0] ?_))
      refine qs ?_
      obtain ⟨h20,hF⟩|⟨h20,hF⟩:=oi hF
      ·refine ct h20 ?_
       refine sn (qs ?_)
       refine qb ?_
       refine sr (am (aa (ns (am ?_))))
       refine aw (r_ishl rfl rfl (by decide)) ?_
       refine aa (ns (am (am (aw xl (nwq [21,14,6,5,4,3,0] ?_)))))
       obtain ⟨h21,hF⟩|⟨h21,hF⟩:=oi hF
       ·refine ct h21 ?_
        refine qr (am (am (am ?_)))
        obtain ⟨h22,hF⟩:=gd hF
        obtain ⟨b24,o25,hp23⟩:=row_ptr hr12 h22
        refine aw (r_idx underlying74 sizeOf5 rfl rfl h22 hp23) ?_
        refine aw (r_load_cell isAgg5 rfl (row_cell0 (fun _ h=>h.below) hr12 h22 hp23 rfl)) ?_
        refine aw (r_conv underlying5 underlying24 rfl) ?_
        refine aw (r_ior rfl rfl) ?_
        refine aa (qn (wq [14,5,4,3,0] ?_))
        refine bm ?_
        refine qr (aw xa (am (nwq [14,5,4,3,0] ?_)))
        exact at_weak_k (ih _ _ _ hF K) ⟨rfl,rfl,rfl,rfl,rfl,trivial⟩
       refine cf h21 ?_
       refine at_skip ?_
       refine bm ?_
       refine qr (aw xa (am (nwq [14,5,4,3,0] ?_)))
       exact at_weak_k (ih _ _ _ hF K) ⟨rfl,rfl,rfl,rfl,rfl,trivial⟩
      refine cf h20 ?_
      refine at_exit ?_
      refine te (te ?_)
      obtain rfl:=os hF
      exact at_weak_k (K g13) ⟨rfl,rfl,rfl,rfl,trivial⟩
    skip
    intro g19
    refine at_blk_same ?_
    refine tn (qs (sr (am (aw xa (am (nwq [32,31,5,4,3,0] ?_))))))
    refine qb ?_
    obtain ⟨q27,hq27,hF⟩:=bM hF
    refine wq [32,31,5,4,3,0] ?_
    refine at_loop_n (B:=4) (A:=fun Y=>∀ (g31:Option Nat),At 53 [(0,.slice p10 i7.length c11),(3,.pointer (some ⟨b1,0,none⟩)),(4,.int .i64 (if 3<(i7.length:Int) then 3 else (i7.length:Int)))] (Wd w [bldE 97 5 b1 g31 q27]) Y) ?_ ?_
    ·intro K
     refine sixtyfour_Encode.l2.partial_correctness i7 q16 (motive:=fun i28 i29 x=>KN (fun Y=>∀ (g31:Option Nat),At 53 [(0,.slice p10 i7.length c11),(3,.pointer (some ⟨b1,0,none⟩)),(4,.int .i64 (if 3<(i7.length:Int) then 3 else (i7.length:Int)))] (Wd w [bldE 97 5 b1 g31 x]) Y) _ 4→Round (fun Y=>∀ (g30:Option Nat),At 53 [(0,.slice p10 i7.length c11),(3,.pointer (some ⟨b1,0,none⟩)),(4,.int .i64 (if 3<(i7.length:Int) then 3 else (i7.length:Int))),(5,.int .u32 q16.1),(31,.int .i64 (wr .i64 ((if 3<(i7.length:Int) then 3 else (i7.length:Int))+1))),(32,.int .i64 i28)] (Wd w [bldE 97 5 b1 g30 i29]) Y) _ _ _) ?_ _ _ _ hq27 K g19
     ·clear K hF
      intro g ih i28 i29 x hF K g30
      refine at_round ?_
      refine sr (aw xl (nwq [33,32,31,5,4,3,0] ?_))
      refine qs ?_
      obtain ⟨h32,hF⟩|⟨h32,hF⟩:=oi hF
      ·refine ct h32 ?_
       refine sn (qs ?_)
       refine qb ?_
       refine sr (am (aa (nwq [32,31,7,5,4,3,0] ?_)))
       refine qr (am (am ?_))
       refine aw (r_imul rfl rfl) ?_
       refine aw (r_isub rfl rfl) ?_
       refine aw (r_conv underlying3 underlying119 rfl) ?_
       obtain ⟨h33,hF⟩:=gd hF
       refine aw (r_ishr rfl rfl h33) ?_
       refine aw (r_iand rfl rfl) ?_
       obtain ⟨h34,hF⟩:=gd hF
       refine aw (r_index_str underlying9 rfl rfl h34) ?_
       obtain ⟨h36,hF⟩:=gd hF
       obtain ⟨h37,hF⟩:=gd hF
       refine at_bld_byte (c:=bt (⟨#[65,66,67,68,69,70,71,72,73,74,75,76,77,78,79,80,81,82,83,84,85,86,87,88,89,90,97,98,99,100,101,102,103,104,105,106,107,108,109,110,111,112,113,114,115,116,117,118,119,120,121,122,48,49,50,51,52,53,54,55,56,57,43,47]⟩:ByteArray) (iand .u32 (ishr .u32 q16.1 (wr .u64 (wr .i64 (18-(wr .i64 (6*i28)))))) 63)) .z trivial func84 rfl (by kernel_rfl) rfl rfl h36 h37 Tryz.Builder_WriteByte_k ?_
       intro g35
       refine qn (wq [32,31,5,4,3,0] ?_)
       refine bm ?_
       refine qr (aw xa (am (nwq [32,31,5,4,3,0] ?_)))
       exact at_weak_k (ih _ _ _ hF K g35) ⟨rfl,rfl,rfl,rfl,rfl,rfl,trivial⟩
      refine cf h32 ?_
      refine at_exit ?_
      refine te (te ?_)
      obtain rfl:=os hF
      exact at_weak_k (K g30) ⟨rfl,rfl,rfl,trivial⟩
    skip
    intro g31
    refine at_blk_same ?_
    refine tn (sr (am ?_))
    refine aw (r_isub rfl rfl) ?_
    obtain ⟨h38,hF⟩:=gd hF
    refine cB func85 rfl (fun w1 hw=>rep_lift Tryz.strings_Repeat _ _ w1 h38) ?_
    obtain ⟨h40,hF⟩:=gd hF
    refine at_bld_str (s:=(brep (⟨#[61]⟩:ByteArray) (wr .i64 (3-(if 3<(i7.length:Int) then 3 else (i7.length:Int)))))) .z trivial func58 rfl (by kernel_rfl) rfl rfl h40 Tryz.Builder_WriteString_k ?_
    intro g39
    refine nt (qr (am (am ?_)))
    obtain ⟨h41,hF⟩:=gd hF
    refine aw (r_reslice (c:=(cInt .u8)) underlying74 sizeOf5 rfl (Row.len hr12) ⟨_,rfl⟩ rfl h41) ?_
    refine aa (qn (wq [3,0] ?_))
    refine bm ?_
    exact at_weak_k (ih _ _ _ hF K (rsp p10 c11 (if 3<(i7.length:Int) then 3 else (i7.length:Int)) (Cd.sz (cInt .u8))) (c11-Int.toNat (if 3<(i7.length:Int) then 3 else (i7.length:Int))) (Row.sub hr12 h41) g39) ⟨rfl,rfl,trivial⟩
   refine cf h15 ?_
   refine at_exit ?_
   refine te (te ?_)
   obtain rfl:=os hF
   exact at_weak_k (K g13) ⟨rfl,trivial⟩
 skip
 intro g14
 refine at_blk_same ?_
 refine tn (sr ?_)
 refine at_bld_string .z trivial func59 rfl (by kernel_rfl) rfl rfl Tryz.Builder_String_any_k ?_
 intro g42
 refine aa (qn (dz (wq [2] ?_)))
 refine tn (qt ?_)
 have K:=os hF
 subst K
 exact r1 wb
def keys_Text(x0:(Vector Int 32)):Option (ByteArray) :=
 sixtyfour_Encode (Vector.toList x0)>>=fun t2=>some t2
theorem keys_Text_ok(x0:(Vector Int 32))(r:ByteArray)(hF:keys_Text x0=some r)(w:World) :
    Calls Tryz.prog 35 #[.agg (Cd.cs (cVec (cInt .u8) 32 (by decide)) x0).toArray] w (fun e w'=>e=.returned (.string r)∧Below w.heap.size w w'):=by
 unfold keys_Text at hF
 refine ce (l:=[.agg (Cd.cs (cVec (cInt .u8) 32 (by decide)) x0).toArray]) func35 rfl rfl ?_
 refine at_start ?_
 refine sr ?_
 refine at_box (cs:=Cd.cs (cVec (cInt .u8) 32 (by decide)) x0) rfl rfl rfl ?_
 intro b1
 refine aa (ns ?_)
 refine aw (r_slice_vec x0 underlying23 sizeOf5 rfl) ?_
 obtain ⟨t2,ht2,hF⟩:=bM hF
 refine cB func60 rfl (fun w hw=>sixtyfour_Encode_ok _ _ _ _ ht2 w (vec_row (hw.ok (Upd.mem .z)))) ?_
 refine aa (qn (dz (wq [2] ?_)))
 refine tn (qt ?_)
 have K:=os hF
 subst K
 exact r1 wb
end Go.Proofs.YtahlbjmafceoeaaGreatDoor
namespace Go.Proofs.YtahlbjmafceoeaaGreatDoor
open E
def dig(c:UInt8):Bool:=decide (48≤c.toNat)&&decide (c.toNat≤57)
theorem decDigits_small{n:Nat}(h:n<10):Lib.decDigits n=[UInt8.ofNat (48+n)]:=Lib.decDigits_one h
theorem decDigits_big{n:Nat}(h:¬ n<10):Lib.decDigits n=Lib.decDigits (n/10)++[UInt8.ofNat (48+n%10)]:=by
 rw [Lib.decDigits,dif_neg h]
end Go.Proofs.YtahlbjmafceoeaaGreatDoor
namespace Go.Proofs.YtahlbjmafceoeaaGreatDoor
open E
theorem size_toList(s:ByteArray):s.data.toList.length=s.size:=by
 show s.data.toList.length=s.data.size
 simp
theorem mk_inj{a b:ByteArray}(h:a.data.toList=b.data.toList):a=b:=by
 cases a with | mk a=>cases b with | mk b =>
 simp at h;subst h;rfl
theorem fmtU_list(n:Nat):(fmtU (n:Int)).data.toList=Lib.decDigits n:=by simp [fmtU]
theorem decDigits_len(n:Nat)(h:n<18446744073709551616):(Lib.decDigits n).length≤20:=by
 have key:∀ (k n:Nat),n<10 ^ (k+1)→(Lib.decDigits n).length≤k+1:=by
  intro k
  induction k with
  | zero=>intro n h;rw [decDigits_small (by omega)];simp
  | succ k ih =>
   intro n h
   by_cases h1:n<10
   ·rw [decDigits_small h1];simp
   ·rw [decDigits_big h1,List.length_append]
    have:=ih (n/10) (by rw [Nat.pow_succ] at h;omega)
    simp;omega
 exact key 19 n (by omega)
theorem fmtU_size(n:Nat)(h:n<18446744073709551616):(fmtU (n:Int)).size≤20:=by
 rw [←size_toList,fmtU_list];exact decDigits_len n h
theorem append_list(a b:ByteArray):(a++b).data.toList=a.data.toList++b.data.toList:=by simp [ByteArray.data_append]
theorem text_ref(n:Nat)(h:n<18446744073709551616):crawlwayref03_Text (n:Int)=some (fmtU n):=by
 induction n using Nat.strongRecOn with
 | _ n ih =>
  have hd:wr .u8 (wr .u64 (48+Int.tmod (n:Int) 10))=((48+n%10:Nat):Int):=by
   have e1:Int.tmod (n:Int) 10=((n%10:Nat):Int):=by rw [Int.tmod_eq_emod_of_nonneg (by omega)];omega
   rw [e1,wr_u64 (by omega) (by omega),wr_u8 (by omega) (by omega)];omega
  have hl:((⟨(unb ([wr .u8 (wr .u64 (48+(Int.tmod (n:Int) 10)))])).toArray⟩:ByteArray)).data.toList=[UInt8.ofNat (48+n%10)]:=by
   rw [hd];rfl
  rw [crawlwayref03_Text.eq_def]
  by_cases h1:n<10
  ·rw [if_pos (decide_eq_true (by omega))]
   congr 1
   apply mk_inj
   rw [hl,fmtU_list,decDigits_small h1]
   rw [Nat.mod_eq_of_lt h1]
  ·rw [if_neg (by rw [decide_eq_true_eq];omega)]
   have e2:wr .u64 (Int.tdiv (n:Int) 10)=((n/10:Nat):Int):=by
    have:Int.tdiv (n:Int) 10=((n/10:Nat):Int):=by rw [Int.tdiv_eq_ediv_of_nonneg (by omega)];omega
    rw [this,wr_u64 (by omega) (by omega)]
   rw [e2,ih (n/10) (by omega) (by omega),bindM_some]
   have hsz:=fmtU_size (n/10) (by omega)
   rw [if_pos]
   ·congr 1
    apply mk_inj
    rw [append_list,hl,fmtU_list,fmtU_list,decDigits_big h1]
   ·have:((⟨(unb ([wr .u8 (wr .u64 (48+(Int.tmod (n:Int) 10)))])).toArray⟩:ByteArray)).size=1:=by rw [←size_toList,hl];rfl
    rw [this];omega
theorem text_code(n:Nat)(h:n<18446744073709551616):decimal_Text (n:Int)=some (fmtU n):=by
 unfold decimal_Text
 rw [if_pos (by omega)]
end Go.Proofs.YtahlbjmafceoeaaGreatDoor
namespace Go.Proofs.YtahlbjmafceoeaaGreatDoor
open E Go.RowKit
def bs(l:List UInt8):ByteArray:=⟨l.toArray⟩
theorem bs_list(l:List UInt8):(bs l).data.toList=l:=by simp [bs]
theorem bs_size(l:List UInt8):(bs l).size=l.length:=by
 show (bs l).data.size=_
 simp [bs]
theorem eq_bs(s:ByteArray):s=bs s.data.toList:=by apply mk_inj;rw [bs_list]
end Go.Proofs.YtahlbjmafceoeaaGreatDoor
namespace Go.Proofs.YtahlbjmafceoeaaGreatDoor
open E Go.RowKit
theorem set_step{α:Type}(A l:List α)(i:Nat)(x:α)(hA:A.length=l.length)(hx:A[i]? = some x):(A.take i++l.drop i).set i x=A.take (i+1)++l.drop (i+1):=by
 have hi:i<A.length:=(List.getElem?_eq_some_iff.1 hx).1
 apply List.ext_getElem?
 intro j
 have h1:(A.take i).length=i:=by simp;omega
 have h2:(A.take (i+1)).length=i+1:=by simp;omega
 rw [List.getElem?_set]
 by_cases hj:i=j
 ·subst hj
  have hl:i<(A.take i++l.drop i).length:=by simp;omega
  rw [if_pos rfl,if_pos hl,List.getElem?_append_left (by omega),List.getElem?_take,if_pos (by omega),hx]
 ·rw [if_neg hj]
  by_cases hlt:j<i
  ·rw [List.getElem?_append_left (by omega),List.getElem?_append_left (by omega),List.getElem?_take,List.getElem?_take,if_pos hlt,if_pos (by omega)]
  ·rw [List.getElem?_append_right (by omega),List.getElem?_append_right (by omega),List.getElem?_drop,List.getElem?_drop,h1,h2]
   congr 1;omega
theorem q_size(n:Nat)(h:n<256):(fmtU (n:Int)).size≤3:=by
 have key:∀ n:Nat,n<256→(Lib.decDigits n).length≤3:=by
  intro n hn
  by_cases h1:n<10
  ·rw [decDigits_small h1];simp
  ·rw [decDigits_big h1,List.length_append]
   by_cases h2:n/10<10
   ·rw [decDigits_small h2];simp
   ·rw [decDigits_big h2,decDigits_small (by omega),List.length_append];simp
 have:=key n h
 rw [←size_toList,fmtU_list]
 omega
def qT(m:List UInt8):List ByteArray:=m.map fun b=>fmtU (b.toNat:Int)
def v4(m:List UInt8):Vector Int 4:=lvec 4 (ob m)
theorem v4_toList{m:List UInt8}(hm:m.length=4):(v4 m).toList=ob m:=by
 unfold v4
 rw [lvec_toList 4 _ (by rw [ob_length];omega),List.take_of_length_le (by rw [ob_length];omega)]
theorem v4_of{v:Vector Int 4}{m:List UInt8}(h:v.toList=ob m):v=v4 m:=by
 have hl:m.length=4:=by have:=congrArg List.length h;rw [ob_length] at this;simpa using this.symm
 apply Vector.toList_inj.1
 rw [v4_toList hl,h]
theorem vget_v4{m:List UInt8}(hm:m.length=4)(i:Nat)(c:UInt8)(hc:m[i]? = some c):vget (v4 m) (i:Int)=(c.toNat:Int):=by
 unfold vget
 rw [v4_toList hm,Int.toNat_natCast,List.getD_eq_getElem?_getD]
 unfold ob
 rw [List.getElem?_map,hc];rfl
def vs4(xs:List ByteArray):Vector ByteArray 4:=lvec 4 xs
theorem vs4_toList{xs:List ByteArray}(h:xs.length=4):(vs4 xs).toList=xs:=by
 unfold vs4
 rw [lvec_toList 4 _ (by omega),List.take_of_length_le (by omega)]
theorem vset_vs4{xs:List ByteArray}(h:xs.length=4)(i:Nat)(t:ByteArray):vset (vs4 xs) (i:Int) t=vs4 (xs.set i t):=by
 apply Vector.toList_inj.1
 rw [vset_toList,vs4_toList h,vs4_toList (by simpa using h),Int.toNat_natCast]
theorem quad_loop{m:List UInt8}(hm:m.length=4):∀ (k i:Nat),i+k=4 →
  quad_Text.l0 (v4 m) (i:Int) (vs4 ((qT m).take i++(List.replicate 4 (⟨#[]⟩:ByteArray)).drop i))=some (vs4 (qT m)):=by
 have hql:(qT m).length=4:=by simp [qT,hm]
 intro k
 induction k with
 | zero =>
  intro i hi
  have hz:decide ((i:Int)<4)=false:=decide_eq_false (by omega)
  rw [quad_Text.l0.eq_def,hz,if_neg Bool.false_ne_true,List.drop_eq_nil_of_le (by simp;omega),List.append_nil,List.take_of_length_le (by omega)]
 | succ k ih =>
  intro i hi
  have hz:decide ((i:Int)<4)=true:=decide_eq_true (by omega)
  have hc:m[i]? = some m[i]:=List.getElem?_eq_getElem (by omega)
  generalize m[i]=c at hc
  have hcl:=c.toNat_lt
  have hg:(0:Int)≤(i:Int)∧(i:Int)<4:=by omega
  have hA:((qT m).take i++(List.replicate 4 (⟨#[]⟩:ByteArray)).drop i).length=4:=by simp;omega
  have hstep:=set_step (qT m) (List.replicate 4 (⟨#[]⟩:ByteArray)) i (fmtU (c.toNat:Int)) (by simp;omega) (by unfold qT;rw [List.getElem?_map,hc];rfl)
  rw [quad_Text.l0.eq_def,hz,if_pos rfl,if_pos hg,vget_v4 hm i c hc,wr_u64 (by omega) (by omega),text_code _ (by omega),bindM_some,if_pos hg,vset_vs4 hA,hstep,wr_i64 (by omega) (by omega),show ((i:Int)+1)=((i+1:Nat):Int) by omega]
  exact ih (i+1) (by omega)
def qText(m:List UInt8):List UInt8:=match m with
 | [a,b,c,d]=>Lib.decDigits a.toNat++46::(Lib.decDigits b.toNat++46::(Lib.decDigits c.toNat++46::Lib.decDigits d.toNat))
 | _=>[]
theorem digits3(n:Nat)(h:n<256):(Lib.decDigits n).length≤3:=by
 have:=q_size n h
 rw [←size_toList,fmtU_list] at this
 exact this
theorem qText_len{m:List UInt8}(hm:m.length=4):(qText m).length≤15:=by
 match m,hm with
 | [a,b,c,d],_ =>
  have h1:=digits3 a.toNat a.toNat_lt
  have h2:=digits3 b.toNat b.toNat_lt
  have h3:=digits3 c.toNat c.toNat_lt
  have h4:=digits3 d.toNat d.toNat_lt
  simp only [qText,List.length_append,List.length_cons]
  omega
theorem bjoin_qT{m:List UInt8}(hm:m.length=4):bjoin (qT m) ⟨#[46]⟩=bs (qText m):=by
 match m,hm with
 | [a,b,c,d],_ =>
  apply mk_inj
  rw [bs_list]
  show (bjoin [fmtU (a.toNat:Int),fmtU (b.toNat:Int),fmtU (c.toNat:Int),fmtU (d.toNat:Int)] ⟨#[46]⟩).data.toList=_
  unfold bjoin Lib.join
  simp only [List.map_cons,List.map_nil,fmtU_list]
  simp [List.intercalate,List.intersperse,qText]
theorem quad_text{m:List UInt8}(hm:m.length=4):quad_Text (v4 m)=some (bs (qText m)):=by
 have hql:(qT m).length=4:=by simp [qT,hm]
 unfold quad_Text
 have h:=quad_loop hm 4 0 rfl
 rw [List.take_zero,List.nil_append,List.drop_zero,show ((0:Nat):Int)=0 from rfl] at h
 have hz:(Vector.replicate 4 (⟨#[]⟩:ByteArray):Vector ByteArray 4)=vs4 (List.replicate 4 (⟨#[]⟩:ByteArray)):=by
  apply Vector.toList_inj.1;rw [vs4_toList (by simp)];rfl
 have hsz:=qText_len hm
 rw [hz,h,bindM_some,vs4_toList hql,if_pos (by omega),bjoin_qT hm,if_pos (by rw [bs_size];omega)]
theorem refQuad_loop{m:List UInt8}(hm:m.length=4):crawlwayref08_Text (v4 m)=some (bs (qText m)):=by
 match m,hm with
 | [a,b,c,d],hm =>
  have ha:=a.toNat_lt
  have hb:=b.toNat_lt
  have hc:=c.toNat_lt
  have hd:=d.toNat_lt
  have g0:vget (v4 [a,b,c,d]) 0=(a.toNat:Int):=vget_v4 hm 0 a rfl
  have g1:vget (v4 [a,b,c,d]) 1=(b.toNat:Int):=vget_v4 hm 1 b rfl
  have g2:vget (v4 [a,b,c,d]) 2=(c.toNat:Int):=vget_v4 hm 2 c rfl
  have g3:vget (v4 [a,b,c,d]) 3=(d.toNat:Int):=vget_v4 hm 3 d rfl
  have s0:=q_size a.toNat ha
  have s1:=q_size b.toNat hb
  have s2:=q_size c.toNat hc
  have s3:=q_size d.toNat hd
  have hdot:(⟨#[46]⟩:ByteArray).size=1:=rfl
  have w1:wr .i64 ((1:Int)+1)=2:=by rw [wr_i64 (by omega) (by omega)];rfl
  have w2:wr .i64 ((2:Int)+1)=3:=by rw [wr_i64 (by omega) (by omega)];rfl
  have w3:wr .i64 ((3:Int)+1)=4:=by rw [wr_i64 (by omega) (by omega)];rfl
  have d1:decide ((1:Int)<4)=true:=rfl
  have d2:decide ((2:Int)<4)=true:=rfl
  have d3:decide ((3:Int)<4)=true:=rfl
  have d4:decide ((4:Int)<4)=false:=rfl
  have i1:(0:Int)≤1∧(1:Int)<4:=by omega
  have i2:(0:Int)≤2∧(2:Int)<4:=by omega
  have i3:(0:Int)≤3∧(3:Int)<4:=by omega
  unfold crawlwayref08_Text
  rw [g0,wr_u64 (by omega) (by omega),text_ref _ (by omega),bindM_some]
  rw [crawlwayref08_Text.l0.eq_def,d1,if_pos rfl,if_pos (by omega),if_pos i1,g1,wr_u64 (by omega) (by omega),text_ref _ (by omega),bindM_some,if_pos (by rw [ByteArray.size_append];omega),w1]
  rw [crawlwayref08_Text.l0.eq_def,d2,if_pos rfl,if_pos (by simp only [ByteArray.size_append];omega),if_pos i2,g2,wr_u64 (by omega) (by omega),text_ref _ (by omega),bindM_some,if_pos (by simp only [ByteArray.size_append];omega),w2]
  rw [crawlwayref08_Text.l0.eq_def,d3,if_pos rfl,if_pos (by simp only [ByteArray.size_append];omega),if_pos i3,g3,wr_u64 (by omega) (by omega),text_ref _ (by omega),bindM_some,if_pos (by simp only [ByteArray.size_append];omega),w3]
  rw [crawlwayref08_Text.l0.eq_def,d4,if_neg Bool.false_ne_true,bindM_some]
  refine congrArg some ?_
  apply mk_inj
  rw [bs_list]
  simp only [append_list,fmtU_list,qText]
  simp
end Go.Proofs.YtahlbjmafceoeaaGreatDoor
namespace Go.Proofs.YtahlbjmafceoeaaGreatDoor.Hex
def dgs:ByteArray:=ByteArray.mk #[48,49,50,51,52,53,54,55,56,57,97,98,99,100,101,102]
def dgl:List UInt8:=[48,49,50,51,52,53,54,55,56,57,97,98,99,100,101,102]
def dg(n:Nat):UInt8:=dgl.getD n 0
def dig(n:Nat):ByteArray:=ByteArray.mk #[dg n]
theorem dig_eq:∀ n:Fin 16,dgs.extract n.1 (n.1+1)=dig n.1:=by decide +kernel
theorem dig_extract(n:Nat)(h:n<16):dgs.extract n (n+1)=dig n:=dig_eq ⟨n,h⟩
def grp(n:Nat):ByteArray:=if n<16 then dig n else grp (n/16)++dig (n%16)
def gl(n:Nat)(o:ByteArray):ByteArray:=if n<16 then dig n++o else gl (n/16) (dig (n%16)++o)
theorem gl_eq(n:Nat):∀ o,gl n o=grp n++o:=by
 induction n using Nat.strongRecOn with
 | _ n ih =>
  intro o
  unfold gl grp
  split
  ·rfl
  ·rw [ih _ (by omega),ByteArray.append_assoc]
theorem grp_size(n:Nat):1≤(grp n).size∧∀ k,n<16 ^ (k+1)→(grp n).size≤k+1:=by
 induction n using Nat.strongRecOn with
 | _ n ih =>
  unfold grp
  split
  ·exact ⟨by simp [dig,ByteArray.size],fun k _=>by simp [dig,ByteArray.size]⟩
  ·next h =>
   have ih':=ih _ (show n/16<n by omega)
   rw [ByteArray.size_append]
   have hd:(dig (n%16)).size=1:=rfl
   refine ⟨by omega,fun k hk=>?_⟩
   cases k with
   | zero=>simp at hk;omega
   | succ k =>
    have:=ih'.2 k (by rw [Nat.pow_succ] at hk;omega)
    omega
end Go.Proofs.YtahlbjmafceoeaaGreatDoor.Hex
namespace Go.Proofs.YtahlbjmafceoeaaGreatDoor.Hex
open E Go.RowKit
theorem tab_size:(⟨#[48,49,50,51,52,53,54,55,56,57,97,98,99,100,101,102]⟩:ByteArray).size=16:=rfl
theorem tab_bt(n:Nat)(h:n<16):bt (⟨#[48,49,50,51,52,53,54,55,56,57,97,98,99,100,101,102]⟩:ByteArray) n=(dg n).toNat:=by
 have:∀ n:Fin 16,bt (⟨#[48,49,50,51,52,53,54,55,56,57,97,98,99,100,101,102]⟩:ByteArray) (n.1:Int)=(dg n.1).toNat:=by decide +kernel
 exact this ⟨n,h⟩
end Go.Proofs.YtahlbjmafceoeaaGreatDoor.Hex
namespace Go.Proofs.YtahlbjmafceoeaaGreatDoor.Hex
open E Go.RowKit
theorem enc_digit:∀ n:Fin 16,Utf8.encode (bt (⟨#[48,49,50,51,52,53,54,55,56,57,97,98,99,100,101,102]⟩:ByteArray) (n.1:Int))=dig n.1:=by decide +kernel
theorem group_l0(n:Nat):∀ o:ByteArray,n<65536→o.size+n≤100000→hexes_Group.l0 n o=some (gl n o):=by
 induction n using Nat.strongRecOn with
 | _ n ih =>
  intro o hn ho
  rw [hexes_Group.l0.eq_def]
  have e1:iand .u16 (n:Int) 15=((n%16:Nat):Int):=by
   rw [show (15:Int)=((15:Nat):Int) from rfl,iand_nat .u16 rfl n 15 hn (by decide),Nat.and_two_pow_sub_one_eq_mod n 4]
  have e2:ishr .u16 (n:Int) 4=((n/16:Nat):Int):=ishr_nat .u16 n 4 (by decide)
  have e3:=enc_digit ⟨n%16,by omega⟩
  simp only at e3
  have hd:(dig (n%16)).size=1:=rfl
  simp only [e1,e2,e3,hd,tab_size]
  rw [if_pos (by omega),if_pos (by omega)]
  unfold gl
  by_cases h:n<16
  ·rw [if_pos (by simp;omega),if_pos h,Nat.mod_eq_of_lt h]
  ·rw [if_neg (by simp;omega),if_neg h]
   exact ih _ (by omega) _ (by omega) (by rw [ByteArray.size_append,hd];omega)
theorem group_eq(n:Nat)(h:n<65536):hexes_Group n=some (grp n):=by
 unfold hexes_Group
 have:=group_l0 n ⟨#[]⟩ h (by show 0+n≤_;omega)
 rw [this,bindM_some,gl_eq,show (⟨#[]⟩:ByteArray)=ByteArray.empty from rfl,ByteArray.append_empty]
end Go.Proofs.YtahlbjmafceoeaaGreatDoor.Hex
namespace Go.Proofs.YtahlbjmafceoeaaGreatDoor.Hex
open E Go.RowKit
theorem digit_eq(n:Nat)(h:n<16):crawlwayref05_digit n=some (dig n):=by
 unfold crawlwayref05_digit
 rw [wr_i64 (by omega) (by omega),if_pos (by rw [tab_size];omega)]
 rw [show ((n:Int)+1).toNat=n+1 by omega,Int.toNat_natCast]
 exact congrArg some (dig_extract n h)
end Go.Proofs.YtahlbjmafceoeaaGreatDoor.Hex
namespace Go.Proofs.YtahlbjmafceoeaaGreatDoor.Hex
open E Go.RowKit
theorem refGroup_eq(n:Nat):n<65536→crawlwayref05_Group n=some (grp n):=by
 induction n using Nat.strongRecOn with
 | _ n ih =>
  intro h
  rw [crawlwayref05_Group.eq_def]
  unfold grp
  by_cases hn:n<16
  ·rw [if_pos (by simp;omega),if_pos hn,digit_eq n hn];rfl
  ·have e1:wr .i64 (Int.tdiv (n:Int) 16)=((n/16:Nat):Int):=by
    rw [Int.tdiv_eq_ediv_of_nonneg (by omega),wr_i64 (by omega) (by omega)];omega
   have e2:Int.tmod (n:Int) 16=((n%16:Nat):Int):=by rw [Int.tmod_eq_emod_of_nonneg (by omega)];omega
   have hd:(dig (n%16)).size=1:=rfl
   have hs:=(grp_size (n/16)).2 3 (by omega)
   rw [if_neg (by simp;omega),if_neg hn,e1,ih _ (by omega) (by omega),e2]
   simp only [bindM_some,digit_eq (n%16) (by omega),hd]
   rw [if_pos (by omega)]
end Go.Proofs.YtahlbjmafceoeaaGreatDoor.Hex
namespace Go.Proofs.YtahlbjmafceoeaaGreatDoor.Hex
open E Go.RowKit
def str(l:List UInt8):ByteArray:=⟨l.toArray⟩
theorem str_size(l:List UInt8):(str l).size=l.length:=by simp [str,ByteArray.size]
theorem str_append(l k:List UInt8):str (l++k)=str l++str k:=by
 apply ByteArray.ext;simp [str,ByteArray.data_append]
end Go.Proofs.YtahlbjmafceoeaaGreatDoor.Hex
namespace Go.Proofs.YtahlbjmafceoeaaGreatDoor.Col
open E Go.RowKit
def gr:List UInt8→List Nat
 | a::b::r=>(256*a.toNat+b.toNat)::gr r
 | [_]=>[]
 | []=>[]
theorem gr_lt:∀ (l:List UInt8),∀ n∈gr l,n<65536
 | [],n,h=>by cases h
 | [_],n,h=>by cases h
 | a::b::r,n,h=>by
  rcases List.mem_cons.1 h with rfl | h
  ·have ha:=a.toNat_lt
   have hb:=b.toNat_lt
   omega
  ·exact gr_lt r n h
theorem gr_len:∀ (l:List UInt8),(gr l).length=l.length/2
 | []=>rfl
 | [_]=>by simp [gr]
 | a::b::r=>by simp only [gr,List.length_cons,gr_len r];omega
def runz:List Bool→Nat
 | true::r=>runz r+1
 | _=>0
def lgC:List Bool→Nat→Nat→Nat→Nat→Nat×Nat
 | [],_,p,z,_=>(p,z)
 | b::r,i,p,z,now=>if b=false then lgC r (i+1) p z 0 else if now+1>z then lgC r (i+1) (i+1-(now+1)) (now+1) (now+1) else lgC r (i+1) p z (now+1)
def lgR:List Bool→Nat→Nat→Nat→Nat×Nat
 | [],_,p,z=>(p,z)
 | b::r,i,p,z=>if runz (b::r)>z then lgR r (i+1) i (runz (b::r)) else lgR r (i+1) p z
theorem lg_same8:∀ a b c d e f g h:Bool,lgC [a,b,c,d,e,f,g,h] 0 0 0 0=lgR [a,b,c,d,e,f,g,h] 0 0 0:=by decide +kernel
theorem lg_fits8:∀ a b c d e f g h:Bool,(lgR [a,b,c,d,e,f,g,h] 0 0 0).1+(lgR [a,b,c,d,e,f,g,h] 0 0 0).2≤8:=by decide +kernel
theorem eight{α:Type}{z:List α}(h:z.length=8):∃ a b c d e f g k,z=[a,b,c,d,e,f,g,k]:=by
 match z,h with
 | [a,b,c,d,e,f,g,k],_=>exact ⟨a,b,c,d,e,f,g,k,rfl⟩
def lg(z:List Bool):Nat×Nat:=lgR z 0 0 0
theorem lg_code{z:List Bool}(h:z.length=8):lgC z 0 0 0 0=lg z:=by
 obtain ⟨a,b,c,d,e,f,g,k,rfl⟩:=eight h;exact lg_same8 ..
theorem lg_fits{z:List Bool}(h:z.length=8):(lg z).1+(lg z).2≤8:=by
 obtain ⟨a,b,c,d,e,f,g,k,rfl⟩:=eight h;exact lg_fits8 ..
def g1(n:Nat):List UInt8:=(Hex.grp n).data.toList
def rowL:List Nat→List UInt8
 | []=>[]
 | [n]=>g1 n
 | n::m::r=>g1 n++58::rowL (m::r)
def zp(G:List Nat):List Bool:=G.map fun n=>n==0
def textL(G:List Nat):List UInt8:=if (lg (zp G)).2<2 then rowL G else rowL (G.take (lg (zp G)).1)++58::58::rowL (G.drop ((lg (zp G)).1+(lg (zp G)).2))
theorem zp_len(G:List Nat):(zp G).length=G.length:=by simp [zp]
theorem g1_len(n:Nat)(h:n<65536):1≤(g1 n).length∧(g1 n).length≤4:=by
 have:=Hex.grp_size n
 unfold g1
 rw [size_toList]
 exact ⟨this.1,this.2 3 (by simpa using h)⟩
theorem rowL_len:∀ (G:List Nat),(∀ n∈G,n<65536)→(rowL G).length≤5*G.length
 | [],_=>Nat.zero_le _
 | [n],h=>by
  have:=(g1_len n (h n (List.mem_cons_self ..))).2
  simp only [rowL,List.length_cons,List.length_nil];omega
 | n::m::r,h=>by
  have h1:=(g1_len n (h n (List.mem_cons_self ..))).2
  have h2:=rowL_len (m::r) fun k hk=>h k (List.mem_cons_of_mem _ hk)
  simp only [rowL,List.length_append,List.length_cons] at h2 ⊢;omega
theorem textL_len(G:List Nat)(h:∀ n∈G,n<65536)(h8:G.length=8):(textL G).length≤42:=by
 unfold textL
 split
 ·have:=rowL_len G h;omega
 ·have h1:=rowL_len (G.take (lg (zp G)).1) fun n hn=>h n (List.mem_of_mem_take hn)
  have h2:=rowL_len (G.drop ((lg (zp G)).1+(lg (zp G)).2)) fun n hn=>h n (List.mem_of_mem_drop hn)
  have hf:=lg_fits (z:=zp G) (by rw [zp_len,h8])
  simp only [List.length_append,List.length_cons,List.length_take,List.length_drop] at h1 h2 ⊢;omega
def q2(v:Vector Int 4):List Nat:=[256*(vget v 0).toNat+(vget v 1).toNat,256*(vget v 2).toNat+(vget v 3).toNat]
end Go.Proofs.YtahlbjmafceoeaaGreatDoor.Col
namespace Go.Proofs.YtahlbjmafceoeaaGreatDoor.Col
open E Go.RowKit
def ns(G:List Nat):List Int:=G.map fun n:Nat=>(n:Int)
theorem ns_len(G:List Nat):(ns G).length=G.length:=by simp [ns]
def gv(G:List Nat):Vector Int 8:=lvec 8 (ns (G++List.replicate (8-G.length) 0))
theorem gv_toList{G:List Nat}(h:G.length≤8):(gv G).toList=ns (G++List.replicate (8-G.length) 0):=by
 have hl:(ns (G++List.replicate (8-G.length) 0)).length=8:=by rw [ns_len];simp;omega
 unfold gv
 rw [lvec_toList 8 _ (by omega),List.take_of_length_le (by omega)]
theorem gv_set{G:List Nat}(h:G.length<8)(n:Nat):vset (gv G) (G.length:Int) (n:Int)=gv (G++[n]):=by
 apply Vector.toList_inj.1
 rw [vset_toList,gv_toList (by omega),gv_toList (by simp;omega),Int.toNat_natCast]
 unfold ns
 rw [←List.map_set,List.set_append_right _ _ (Nat.le_refl _),Nat.sub_self,show 8-G.length=(8-(G.length+1))+1 by omega,List.replicate_succ]
 simp
theorem gv_zero:(Vector.replicate 8 (0:Int):Vector Int 8)=gv []:=by
 apply Vector.toList_inj.1;rw [gv_toList (by simp)];rfl
theorem ns_get(G:List Nat)(i:Nat)(n:Nat)(h:G[i]? = some n):(ns G).getD i default=(n:Int):=by
 unfold ns;rw [List.getD_eq_getElem?_getD,List.getElem?_map,h];rfl
theorem gv_get{G:List Nat}(h8:G.length=8)(i:Nat)(n:Nat)(h:G[i]? = some n):vget (gv G) (i:Int)=(n:Int):=by
 unfold vget
 rw [gv_toList (by omega),h8,Int.toNat_natCast,show 8-8=0 from rfl,List.replicate_zero,List.append_nil]
 exact ns_get G i n h
theorem ns_take(G:List Nat)(k:Nat):(ns G).take k=ns (G.take k):=by unfold ns;rw [List.map_take]
theorem ns_drop(G:List Nat)(k:Nat):(ns G).drop k=ns (G.drop k):=by unfold ns;rw [List.map_drop]
def v16(m:List UInt8):Vector Int 16:=lvec 16 (ob m)
theorem v16_toList{m:List UInt8}(h:m.length=16):(v16 m).toList=ob m:=by
 unfold v16
 rw [lvec_toList 16 _ (by rw [ob_length];omega),List.take_of_length_le (by rw [ob_length];omega)]
theorem v16_get{m:List UInt8}(h:m.length=16)(i:Nat)(c:UInt8)(hc:m[i]? = some c):vget (v16 m) (i:Int)=(c.toNat:Int):=by
 unfold vget
 rw [v16_toList h,Int.toNat_natCast,List.getD_eq_getElem?_getD]
 unfold ob
 rw [List.getElem?_map,hc];rfl
end Go.Proofs.YtahlbjmafceoeaaGreatDoor.Col
namespace Go.Proofs.YtahlbjmafceoeaaGreatDoor.Col
open E Go.RowKit
theorem gr_get : ∀ (l : List UInt8) (i : Nat) (a b : UInt8), l[2 * i]? = some a → l[2 * i + 1]? = some b → (gr l)[i]? = some (256 * a.toNat + b.toNat)
  | x :: y :: r, 0, a, b, ha, hb => by simp at ha hb; subst ha hb; rfl
  | x :: y :: r, i + 1, a, b, ha, hb => by
    have e1 : 2 * (i + 1) = 2 * i + 1 + 1 := by omega
    have e2 : 2 * (i + 1) + 1 = 2 * i + 1 + 1 + 1 := by omega
    rw [e1] at ha
    rw [e2] at hb
    simp only [List.getElem?_cons_succ] at ha hb
    exact gr_get r i a b ha hb
  | [x], i, a, b, ha, hb => by
    cases i with
    | zero => simp at hb
    | succ i => have : 2 * (i + 1) = (2 * i + 1) + 1 := by omega
                rw [this] at ha; simp at ha
  | [], i, a, b, ha, hb => by simp at ha
theorem ofBig2(a b:UInt8):endian_OfBig (ob [a,b])=some (((256*a.toNat+b.toNat:Nat):Int),0):=by
 have ha:=a.toNat_lt
 have hb:=b.toNat_lt
 have e1:ior .u64 (ishl .u64 0 8) (wr .u64 (a.toNat:Int))=(a.toNat:Int):=by
  rw [wr_u64 (by omega) (by omega),show (8:Int)=((8:Nat):Int) from rfl,show (0:Int)=((0:Nat):Int) from rfl,ishl_nat .u64 rfl 0 8 (by decide),ior_nat .u64 rfl _ _ (by decide) (by show _<18446744073709551616;omega)]
  simp
 have e2:ior .u64 (ishl .u64 (a.toNat:Int) 8) (wr .u64 (b.toNat:Int))=((256*a.toNat+b.toNat:Nat):Int):=by
  rw [wr_u64 (by omega) (by omega),show (8:Int)=((8:Nat):Int) from rfl,ishl_nat .u64 rfl a.toNat 8 (by decide)]
  have e:(a.toNat*2 ^ 8)%2 ^ IntKind.u64.bits=a.toNat*256:=by show (a.toNat*256)%18446744073709551616=_;omega
  rw [e,ior_nat .u64 rfl _ _ (by show _<18446744073709551616;omega) (by show _<18446744073709551616;omega)]
  have h2:=Nat.two_pow_add_eq_or_of_lt (i:=8) (b:=b.toNat) (by simpa using hb) a.toNat
  have e3:2 ^ 8*a.toNat=a.toNat*256:=by omega
  rw [e3] at h2
  rw [←h2,Nat.mul_comm a.toNat 256]
 have l0:lget (ob [a,b]) 0=(a.toNat:Int):=rfl
 have l1:lget (ob [a,b]) 1=(b.toNat:Int):=rfl
 have hl:((ob [a,b]).length:Int)=2:=rfl
 unfold endian_OfBig endian_sized
 rw [hl,if_pos (by decide),bindM_some]
 show (if (!true)=true then _ else _)=_
 rw [if_neg (by decide),endian_OfBig.l0.eq_def,hl,if_pos (by decide),if_pos (by decide),l0,e1,show wr .i64 (0+1)=1 from rfl,endian_OfBig.l0.eq_def,hl,if_pos (by decide),if_pos (by decide),l1,e2,show wr .i64 (1+1)=2 from rfl,endian_OfBig.l0.eq_def,hl,if_neg (by decide),bindM_some]
theorem groups_loop{m:List UInt8}(hm:m.length=16):∀ (k i:Nat),i+k=8→colon_groups.l0 (v16 m) (i:Int) (gv ((gr m).take i))=some (gv (gr m)):=by
 have hg:(gr m).length=8:=by rw [gr_len,hm]
 intro k
 induction k with
 | zero =>
  intro i hi
  obtain rfl:i=8:=by omega
  rw [colon_groups.l0.eq_def,if_neg (by decide),List.take_of_length_le (by omega)]
 | succ k ih =>
  intro i hi
  have w1:wr .i64 (2*(i:Int))=((2*i:Nat):Int):=by rw [wr_i64 (by omega) (by omega)];omega
  have w2:wr .i64 (((2*i:Nat):Int)+2)=((2*i+2:Nat):Int):=by rw [wr_i64 (by omega) (by omega)];omega
  have w3:wr .i64 ((i:Int)+1)=((i+1:Nat):Int):=by rw [wr_i64 (by omega) (by omega)];omega
  obtain ⟨a,ha⟩:∃ a,m[2*i]? = some a:=⟨_,List.getElem?_eq_getElem (by omega)⟩
  obtain ⟨b,hb⟩:∃ b,m[2*i+1]? = some b:=⟨_,List.getElem?_eq_getElem (by omega)⟩
  have hn:=gr_get m i a b ha hb
  have la:=a.toNat_lt
  have lb:=b.toNat_lt
  have hs:lsub (Vector.toList (v16 m)) ((2*i:Nat):Int) ((2*i+2:Nat):Int)=ob [a,b]:=by
   unfold lsub
   rw [v16_toList hm,Int.toNat_natCast,Int.toNat_natCast]
   unfold ob
   rw [←List.map_take,←List.map_drop]
   congr 1
   rw [List.take_add_one,List.take_add_one,ha,hb]
   have hl:(m.take (2*i)).length=2*i:=by rw [List.length_take];omega
   simp only [Option.toList]
   rw [List.append_assoc,List.drop_left' hl];rfl
  have hi8:((gr m).take i).length=i:=by rw [List.length_take];omega
  rw [colon_groups.l0.eq_def,if_pos (decide_eq_true (by omega)),w1,w2,if_pos (by omega),hs,ofBig2,bindM_some,if_pos (by omega),w3]
  show colon_groups.l0 (v16 m) _ (vset (gv ((gr m).take i)) (i:Int) (wr .u16 ((256*a.toNat+b.toNat:Nat):Int)))=_
  rw [wr_u16 (by omega) (by omega)]
  have h2:=gv_set (G:=(gr m).take i) (by omega) (256*a.toNat+b.toNat)
  rw [hi8] at h2
  have h3:=ih (i+1) (by omega)
  rw [List.take_add_one,hn] at h3
  rw [h2];exact h3
theorem groups_ok{m:List UInt8}(hm:m.length=16):colon_groups (v16 m)=some (gv (gr m)):=by
 unfold colon_groups
 have:=groups_loop hm 8 0 rfl
 rw [List.take_zero,←gv_zero,show ((0:Nat):Int)=0 from rfl] at this
 rw [this,bindM_some]
theorem zp_get{G:List Nat}{i n:Nat}(h:G[i]? = some n):(zp G)[i]? = some (n==0):=by unfold zp;rw [List.getElem?_map,h];rfl
def ii(q:Nat×Nat):Int×Int:=((q.1:Int),(q.2:Int))
theorem int_zero(n:Nat):((n:Int) != 0)=!(n==0):=by
 by_cases h:n=0
 ·subst h;rfl
 ·have h2:(n==0)=false:=by simp [h]
  rw [h2]
  have:((n:Int) != 0)=true:=by rw [bne_iff_ne];omega
  rw [this];rfl
theorem longest_loop{G:List Nat}(h8:G.length=8):∀ (k i p z now:Nat),i+k=8→p≤8→z≤8→now≤i→colon_longest.l0 (gv G) (p:Int) (z:Int) (now:Int) (i:Int)=some (ii (lgC ((zp G).drop i) i p z now)):=by
 intro k
 induction k with
 | zero =>
  intro i p z now hi hp hz hn
  obtain rfl:i=8:=by omega
  rw [colon_longest.l0.eq_def,if_neg (by decide),List.drop_eq_nil_of_le (by rw [zp_len];omega)];rfl
 | succ k ih =>
  intro i p z now hi hp hz hn
  obtain ⟨n,hn'⟩:∃ n,G[i]? = some n:=⟨_,List.getElem?_eq_getElem (by omega)⟩
  obtain ⟨c,hc,hd⟩:=drop_get (zp G) i (by rw [zp_len];omega)
  rw [zp_get hn'] at hc
  cases hc
  have w1:wr .i64 ((i:Int)+1)=((i+1:Nat):Int):=by rw [wr_i64 (by omega) (by omega)];omega
  have w2:wr .i64 ((now:Int)+1)=((now+1:Nat):Int):=by rw [wr_i64 (by omega) (by omega)];omega
  have w3:wr .i64 (((i+1:Nat):Int)-((now+1:Nat):Int))=((i+1-(now+1):Nat):Int):=by rw [wr_i64 (by omega) (by omega)];omega
  rw [colon_longest.l0.eq_def,if_pos (decide_eq_true (by omega)),if_pos (by omega),gv_get h8 i n hn',int_zero,w1,w2,w3,hd,lgC]
  cases hb:(n==0) with
  | false =>
   rw [if_pos (show (!false)=true from rfl),if_pos (show false=false from rfl)]
   exact ih (i+1) p z 0 (by omega) hp hz (by omega)
  | true =>
   rw [if_neg (show ¬ (!true)=true by decide),if_neg (show ¬ true=false by decide)]
   by_cases hg:now+1>z
   ·rw [if_pos (decide_eq_true (by omega)),if_pos hg]
    exact ih (i+1) _ _ _ (by omega) (by omega) (by omega) (by omega)
   ·rw [if_neg (by rw [decide_eq_true_eq];omega),if_neg hg]
    exact ih (i+1) _ _ _ (by omega) hp hz (by omega)
theorem longest_ok{G:List Nat}(h8:G.length=8):colon_longest (gv G)=some (ii (lg (zp G))):=by
 unfold colon_longest
 have:=longest_loop h8 8 0 0 0 0 rfl (by omega) (by omega) (by omega)
 rw [List.drop_zero,lg_code (by rw [zp_len,h8])] at this
 rw [show (0:Int)=((0:Nat):Int) from rfl,this,bindM_some]
theorem row_loop(A:List Nat)(hA:∀ n∈A,n<65536)(hl:A.length≤8):∀ (k i:Nat),A.length-i=k→i≤A.length→colon_row.l0 (ns A) ((A.take i).map Hex.grp) (i:Int)=some (A.map Hex.grp):=by
 intro k
 induction k with
 | zero =>
  intro i hk hi
  rw [colon_row.l0.eq_def,ns_len,if_neg (by rw [decide_eq_true_eq];omega),List.take_of_length_le (by omega)]
 | succ k ih =>
  intro i hk hi
  obtain ⟨n,hn⟩:∃ n,A[i]? = some n:=⟨_,List.getElem?_eq_getElem (by omega)⟩
  have w:wr .i64 ((i:Int)+1)=((i+1:Nat):Int):=by rw [wr_i64 (by omega) (by omega)];omega
  have hv:lget (ns A) (i:Int)=(n:Int):=by unfold lget;rw [Int.toNat_natCast];exact ns_get A i n hn
  have h2:=ih (i+1) (by omega) (by omega)
  rw [List.take_add_one,hn,List.map_append] at h2
  rw [colon_row.l0.eq_def,ns_len,if_pos (decide_eq_true (by omega)),if_pos (by omega),hv,Hex.group_eq n (hA n (List.mem_of_getElem? hn)),bindM_some,if_pos (by rw [List.length_map,List.length_take];omega),w]
  exact h2
theorem row_join:∀ (A:List Nat),[58].intercalate (A.map g1)=rowL A
 | []=>rfl
 | [n]=>by simp [List.intercalate,rowL]
 | n::m::r=>by
  have:=row_join (m::r)
  simp only [List.intercalate,List.map_cons,List.intersperse,List.flatten_cons,rowL] at this ⊢
  rw [this];rfl
theorem bjoin_row(A:List Nat):bjoin (A.map Hex.grp) (⟨#[58]⟩:ByteArray)=bs (rowL A):=by
 apply mk_inj
 rw [bs_list,←row_join]
 unfold bjoin Lib.join
 simp only [List.map_map]
 rfl
theorem row_ok(A:List Nat)(hA:∀ n∈A,n<65536)(hl:A.length≤8):colon_row (ns A)=some (bs (rowL A)):=by
 unfold colon_row
 have h:=row_loop A hA hl A.length 0 (by omega) (by omega)
 rw [List.take_zero,List.map_nil,show ((0:Nat):Int)=0 from rfl] at h
 have hs:=rowL_len A hA
 rw [h,bindM_some,if_pos (by rw [List.length_map];omega),bjoin_row,if_pos (by rw [bs_size];omega)]
theorem bs_app(l k:List UInt8):bs l++bs k=bs (l++k):=by apply mk_inj;rw [append_list,bs_list,bs_list,bs_list]
theorem text_ok{m:List UInt8}(hm:m.length=16):colon_Text (v16 m)=some (bs (textL (gr m))):=by
 have hg:(gr m).length=8:=by rw [gr_len,hm]
 have hlt:=gr_lt m
 have hf:=lg_fits (z:=zp (gr m)) (by rw [zp_len,hg])
 have hgl:(gv (gr m)).toList=ns (gr m):=by rw [gv_toList (by omega),hg];simp
 unfold colon_Text
 rw [groups_ok hm,bindM_some,longest_ok hg,bindM_some,hgl]
 unfold textL
 generalize lg (zp (gr m))=q at hf
 obtain ⟨p,z⟩:=q
 simp only at hf
 show (if decide ((z:Int)<2)=true then _ else (if (0:Int)≤0∧(0:Int)≤(p:Int)∧(p:Int)≤8 then colon_row (lsub (ns (gr m)) 0 (p:Int))>>=fun t8=>if t8.size+(⟨#[58,58]⟩:ByteArray).size≤140737488355328 then if (0:Int)≤wr .i64 ((p:Int)+(z:Int))∧wr .i64 ((p:Int)+(z:Int))≤8∧(8:Int)≤8 then colon_row (lsub (ns (gr m)) (wr .i64 ((p:Int)+(z:Int))) 8)>>=fun t11=>if (t8++(⟨#[58,58]⟩:ByteArray)).size+t11.size≤140737488355328 then some ((t8++(⟨#[58,58]⟩:ByteArray))++t11) else none else none else none else none))=some (bs (if z<2 then rowL (gr m) else rowL ((gr m).take p)++58::58::rowL ((gr m).drop (p+z))))
 by_cases h2:z<2
 ·rw [if_pos (decide_eq_true (by omega)),if_pos h2,row_ok _ hlt (by omega)];rfl
 ·have w:wr .i64 ((p:Int)+(z:Int))=((p+z:Nat):Int):=by rw [wr_i64 (by omega) (by omega)];omega
  have s1:lsub (ns (gr m)) 0 (p:Int)=ns ((gr m).take p):=by unfold lsub;rw [Int.toNat_natCast,ns_take];rfl
  have s2:lsub (ns (gr m)) ((p+z:Nat):Int) 8=ns ((gr m).drop (p+z)):=by
   unfold lsub;rw [Int.toNat_natCast,show Int.toNat 8=8 from rfl,List.take_of_length_le (by rw [ns_len];omega),ns_drop]
  have hA:∀ n∈(gr m).take p,n<65536:=fun n hn=>hlt n (List.mem_of_mem_take hn)
  have hB:∀ n∈(gr m).drop (p+z),n<65536:=fun n hn=>hlt n (List.mem_of_mem_drop hn)
  have lA:=rowL_len _ hA
  have lB:=rowL_len _ hB
  rw [List.length_take] at lA
  rw [List.length_drop] at lB
  have h58:(⟨#[58,58]⟩:ByteArray)=bs [58,58]:=rfl
  rw [if_neg (by rw [decide_eq_true_eq];omega),if_pos (by omega),s1,row_ok _ hA (by rw [List.length_take];omega),bindM_some,h58,if_pos (by rw [bs_size,bs_size];simp only [List.length_cons,List.length_nil];omega),w,if_pos (by omega),s2,row_ok _ hB (by rw [List.length_drop];omega),bindM_some,bs_app,if_pos (by rw [bs_size,bs_size];simp only [List.length_append,List.length_cons,List.length_nil];omega),bs_app,if_neg h2]
  rw [List.append_assoc];rfl
end Go.Proofs.YtahlbjmafceoeaaGreatDoor.Col
namespace Go.Proofs.YtahlbjmafceoeaaGreatDoor.Col
open E Go.RowKit
theorem refGroups_loop{m:List UInt8}(hm:m.length=16):∀ (k i:Nat),i+k=8→crawlwayref09_groups.l0 (v16 m) (i:Int) (gv ((gr m).take i))=some (gv (gr m)):=by
 have hg:(gr m).length=8:=by rw [gr_len,hm]
 intro k
 induction k with
 | zero =>
  intro i hi
  obtain rfl:i=8:=by omega
  rw [crawlwayref09_groups.l0.eq_def,if_neg (by decide),List.take_of_length_le (by omega)]
 | succ k ih =>
  intro i hi
  have w1:wr .i64 (2*(i:Int))=((2*i:Nat):Int):=by rw [wr_i64 (by omega) (by omega)];omega
  have w2:wr .i64 (((2*i:Nat):Int)+1)=((2*i+1:Nat):Int):=by rw [wr_i64 (by omega) (by omega)];omega
  have w3:wr .i64 ((i:Int)+1)=((i+1:Nat):Int):=by rw [wr_i64 (by omega) (by omega)];omega
  obtain ⟨a,ha⟩:∃ a,m[2*i]? = some a:=⟨_,List.getElem?_eq_getElem (by omega)⟩
  obtain ⟨b,hb⟩:∃ b,m[2*i+1]? = some b:=⟨_,List.getElem?_eq_getElem (by omega)⟩
  have hn:=gr_get m i a b ha hb
  have la:=a.toNat_lt
  have lb:=b.toNat_lt
  have va:=v16_get hm (2*i) a ha
  have vb:=v16_get hm (2*i+1) b hb
  have hi8:((gr m).take i).length=i:=by rw [List.length_take];omega
  have e:wr .i64 (wr .i64 (256*wr .i64 (a.toNat:Int))+wr .i64 (b.toNat:Int))=((256*a.toNat+b.toNat:Nat):Int):=by
   rw [wr_i64 (x:=(a.toNat:Int)) (by omega) (by omega),wr_i64 (x:=(b.toNat:Int)) (by omega) (by omega),wr_i64 (x:=256*(a.toNat:Int)) (by omega) (by omega),wr_i64 (by omega) (by omega)];omega
  have h2:=gv_set (G:=(gr m).take i) (by omega) (256*a.toNat+b.toNat)
  rw [hi8] at h2
  have h3:=ih (i+1) (by omega)
  rw [List.take_add_one,hn] at h3
  rw [crawlwayref09_groups.l0.eq_def,if_pos (decide_eq_true (by omega)),w1,w2,if_pos (by omega),if_pos (by omega),if_pos (by omega),w3,va,vb,e,h2]
  exact h3
theorem refGroups_ok{m:List UInt8}(hm:m.length=16):crawlwayref09_groups (v16 m)=some (gv (gr m)):=by
 unfold crawlwayref09_groups
 have:=refGroups_loop hm 8 0 rfl
 rw [List.take_zero,←gv_zero,show ((0:Nat):Int)=0 from rfl] at this
 rw [this,bindM_some]
theorem run_loop{G:List Nat}(h8:G.length=8)(f:Nat)(hf:f≤8):∀ (k i:Nat),f+i+k=8→crawlwayref09_run.l0 (gv G) (f:Int) (i:Int)=some ((i+runz ((zp G).drop (f+i)):Nat):Int):=by
 intro k
 induction k with
 | zero =>
  intro i hi
  have w:wr .i64 ((f:Int)+(i:Int))=((f+i:Nat):Int):=by rw [wr_i64 (by omega) (by omega)];omega
  rw [crawlwayref09_run.l0.eq_def,w,if_neg (by rw [decide_eq_true_eq];omega),List.drop_eq_nil_of_le (by rw [zp_len];omega)];rfl
 | succ k ih =>
  intro i hi
  have w:wr .i64 ((f:Int)+(i:Int))=((f+i:Nat):Int):=by rw [wr_i64 (by omega) (by omega)];omega
  have w1:wr .i64 ((i:Int)+1)=((i+1:Nat):Int):=by rw [wr_i64 (by omega) (by omega)];omega
  obtain ⟨n,hn'⟩:∃ n,G[f+i]? = some n:=⟨_,List.getElem?_eq_getElem (by omega)⟩
  obtain ⟨c,hc,hd⟩:=drop_get (zp G) (f+i) (by rw [zp_len];omega)
  rw [zp_get hn'] at hc
  cases hc
  have ez:((n:Int)==0)=(n==0):=by
   by_cases h:n=0
   ·subst h;rfl
   ·have h2:(n==0)=false:=by simp [h]
    rw [h2,beq_eq_false_iff_ne];omega
  rw [crawlwayref09_run.l0.eq_def,w,if_pos (decide_eq_true (by omega)),if_pos (by omega),gv_get h8 (f+i) n hn',ez,w1,hd]
  cases hb:(n==0) with
  | false=>rw [if_neg Bool.false_ne_true];rfl
  | true =>
   rw [if_pos rfl,ih (i+1) (by omega)]
   simp only [runz]
   rw [show f+(i+1)=f+i+1 by omega]
   congr 2;omega
theorem run_ok{G:List Nat}(h8:G.length=8)(f:Nat)(hf:f≤8):crawlwayref09_run (gv G) (f:Int)=some ((runz ((zp G).drop f):Nat):Int):=by
 unfold crawlwayref09_run
 have:=run_loop h8 f hf (8-f) 0 (by omega)
 rw [show ((0:Nat):Int)=0 from rfl,Nat.zero_add,Nat.add_zero] at this
 rw [this,bindM_some]
theorem refText_loop{G:List Nat}(h8:G.length=8):∀ (k i p z:Nat),i+k=8→crawlwayref09_Text.l0 (gv G) (p:Int) (z:Int) (i:Int)=some (ii (lgR ((zp G).drop i) i p z)):=by
 intro k
 induction k with
 | zero =>
  intro i p z hi
  obtain rfl:i=8:=by omega
  rw [crawlwayref09_Text.l0.eq_def,if_neg (by decide),List.drop_eq_nil_of_le (by rw [zp_len];omega)];rfl
 | succ k ih =>
  intro i p z hi
  have w1:wr .i64 ((i:Int)+1)=((i+1:Nat):Int):=by rw [wr_i64 (by omega) (by omega)];omega
  obtain ⟨c,hc,hd⟩:=drop_get (zp G) i (by rw [zp_len];omega)
  rw [crawlwayref09_Text.l0.eq_def,if_pos (decide_eq_true (by omega)),run_ok h8 i (by omega),bindM_some,bindM_some,w1,hd,lgR]
  by_cases hg:runz (c::(zp G).drop (i+1))>z
  ·rw [if_pos (decide_eq_true (by omega)),if_pos hg]
   exact ih (i+1) _ _ (by omega)
  ·rw [if_neg (by rw [decide_eq_true_eq];omega),if_neg hg]
   exact ih (i+1) _ _ (by omega)
theorem rowL_snoc:∀ (A:List Nat) (n:Nat),rowL (A++[n])=if A=[] then g1 n else rowL A++58::g1 n
 | [],n=>rfl
 | [a],n=>by rw [if_neg (by simp)];rfl
 | a::b::r,n=>by
  have:=rowL_snoc (b::r) n
  rw [if_neg (by simp)] at this ⊢
  show g1 a++58::rowL ((b::r)++[n])=_
  rw [this,rowL]
  simp
theorem bs_grp(n:Nat):Hex.grp n=bs (g1 n):=eq_bs _
theorem refRow_loop{G:List Nat}(h8:G.length=8)(hlt:∀ n∈G,n<65536)(f t:Nat)(ht:t≤8):∀ (k i:Nat),i+k=t→f≤i→crawlwayref09_row.l0 (gv G) (f:Int) (t:Int) (bs (rowL ((G.take i).drop f))) (i:Int)=some (bs (rowL ((G.take t).drop f))):=by
 intro k
 induction k with
 | zero =>
  intro i hi hf
  obtain rfl:i=t:=by omega
  rw [crawlwayref09_row.l0.eq_def,if_neg (by rw [decide_eq_true_eq];omega)]
 | succ k ih =>
  intro i hi hf
  obtain ⟨n,hn⟩:∃ n,G[i]? = some n:=⟨_,List.getElem?_eq_getElem (by omega)⟩
  have hn6:=hlt n (List.mem_of_getElem? hn)
  have hgl:=g1_len n hn6
  have w1:wr .i64 ((i:Int)+1)=((i+1:Nat):Int):=by rw [wr_i64 (by omega) (by omega)];omega
  have h3:=ih (i+1) (by omega) (by omega)
  rw [List.take_add_one,hn,List.drop_append_of_le_length (by rw [List.length_take];omega)] at h3
  have h3':=h3
  rw [show (some n).toList=[n] from rfl,rowL_snoc] at h3
  have hsz:=rowL_len ((G.take i).drop f) fun x hx=>hlt x (List.mem_of_mem_take (List.mem_of_mem_drop hx))
  have hll:((G.take i).drop f).length=i-f:=by rw [List.length_drop,List.length_take];omega
  rw [hll] at hsz
  have h58:(⟨#[58]⟩:ByteArray)=bs [58]:=rfl
  rw [crawlwayref09_row.l0.eq_def,if_pos (decide_eq_true (by omega)),gv_get h8 i n hn,Hex.refGroup_eq n hn6,bs_grp,w1,h58]
  by_cases hfi:f<i
  ·have hne:¬ (G.take i).drop f=[]:=fun e=>by have:=congrArg List.length e;rw [hll] at this;simp at this;omega
   rw [if_neg hne] at h3
   rw [if_pos (decide_eq_true (by omega)),if_pos (by rw [bs_size,bs_size];simp only [List.length_cons,List.length_nil];omega),if_pos (by omega),bindM_some,bs_app,if_pos (by rw [bs_size,bs_size,List.length_append];simp only [List.length_cons,List.length_nil];omega),bs_app,List.append_assoc]
   exact h3
  ·have he:(G.take i).drop f=[]:=List.eq_nil_of_length_eq_zero (by rw [hll];omega)
   rw [if_pos he] at h3
   rw [if_neg (by rw [decide_eq_true_eq];omega),if_pos (by omega),bindM_some,if_pos (by rw [bs_size,bs_size];omega),bs_app,he]
   exact h3
theorem refRow_ok{G:List Nat}(h8:G.length=8)(hlt:∀ n∈G,n<65536)(f t:Nat)(hf:f≤t)(ht:t≤8):crawlwayref09_row (gv G) (f:Int) (t:Int)=some (bs (rowL ((G.take t).drop f))):=by
 unfold crawlwayref09_row
 have h:=refRow_loop h8 hlt f t ht (t-f) f (by omega) (Nat.le_refl _)
 have he:(G.take f).drop f=[]:=List.drop_eq_nil_of_le (by rw [List.length_take];omega)
 rw [he] at h
 show (crawlwayref09_row.l0 (gv G) (f:Int) (t:Int) (bs (rowL [])) (f:Int)>>=fun q2=>_)=_
 rw [h,bindM_some]
theorem refText_ok{m:List UInt8}(hm:m.length=16):crawlwayref09_Text (v16 m)=some (bs (textL (gr m))):=by
 have hg:(gr m).length=8:=by rw [gr_len,hm]
 have hlt:=gr_lt m
 have hf:=lg_fits (z:=zp (gr m)) (by rw [zp_len,hg])
 have hl:=refText_loop hg 8 0 0 0 rfl
 rw [List.drop_zero,show ((0:Nat):Int)=0 from rfl] at hl
 unfold crawlwayref09_Text
 rw [refGroups_ok hm,bindM_some,hl,bindM_some]
 unfold textL
 show (if decide (((lg (zp (gr m))).2:Int)<2)=true then _ else crawlwayref09_row (gv (gr m)) 0 ((lg (zp (gr m))).1:Int)>>=fun t14=>if t14.size+(⟨#[58,58]⟩:ByteArray).size≤140737488355328 then crawlwayref09_row (gv (gr m)) (wr .i64 (((lg (zp (gr m))).1:Int)+((lg (zp (gr m))).2:Int))) 8>>=fun t16=>if (t14++(⟨#[58,58]⟩:ByteArray)).size+t16.size≤140737488355328 then some ((t14++(⟨#[58,58]⟩:ByteArray))++t16) else none else none)=_
 generalize lg (zp (gr m))=q at hf
 obtain ⟨p,z⟩:=q
 simp only at hf ⊢
 by_cases h2:z<2
 ·have hr:=refRow_ok hg hlt 0 8 (by omega) (by omega)
  rw [show ((0:Nat):Int)=0 from rfl,show ((8:Nat):Int)=8 from rfl,List.take_of_length_le (by omega),List.drop_zero] at hr
  rw [if_pos (decide_eq_true (by omega)),if_pos h2,hr];rfl
 ·have w:wr .i64 ((p:Int)+(z:Int))=((p+z:Nat):Int):=by rw [wr_i64 (by omega) (by omega)];omega
  have hA:=rowL_len ((gr m).take p) fun n hn=>hlt n (List.mem_of_mem_take hn)
  have hB:=rowL_len ((gr m).drop (p+z)) fun n hn=>hlt n (List.mem_of_mem_drop hn)
  rw [List.length_take] at hA
  rw [List.length_drop] at hB
  have r1:=refRow_ok hg hlt 0 p (by omega) (by omega)
  rw [show ((0:Nat):Int)=0 from rfl,List.drop_zero] at r1
  have r2:=refRow_ok hg hlt (p+z) 8 (by omega) (by omega)
  rw [show ((8:Nat):Int)=8 from rfl,List.take_of_length_le (by omega)] at r2
  have h58:(⟨#[58,58]⟩:ByteArray)=bs [58,58]:=rfl
  rw [if_neg (by rw [decide_eq_true_eq];omega),r1,bindM_some,h58,if_pos (by rw [bs_size,bs_size];simp only [List.length_cons,List.length_nil];omega),w,r2,bindM_some,bs_app,if_pos (by rw [bs_size,bs_size];simp only [List.length_append,List.length_cons,List.length_nil];omega),bs_app,if_neg h2]
  rw [List.append_assoc];rfl
end Go.Proofs.YtahlbjmafceoeaaGreatDoor.Col
namespace Go.Proofs.YtahlbjmafceoeaaGreatDoor.AdrT
open E Go.RowKit
open Adr
def adrT(V:Int)(l:List UInt8):List UInt8:=if rightL V l=true then (if V=4 then qText (l.take 4) else Col.textL (Col.gr l)) else []
theorem addr_text{V:Int}{l:List UInt8}(hl:l.length=16):addr_Text (mkA V l)=some (bs (adrT V l)):=by
 unfold addr_Text adrT
 rw [right_code hl,bindM_some]
 cases hr:rightL V l with
 | false=>rfl
 | true =>
  have h4l:(l.take 4).length=4:=by rw [List.length_take];omega
  rw [if_neg (by decide),if_pos rfl]
  by_cases h4:V=4
  ·have e:((mkA V l).f_V==4)=true:=by show (V==4)=true;rw [h4];rfl
   rw [e,if_pos rfl,if_pos h4]
   show (if 4≤(lsub (vb l).toList 0 4).length then (quad_Text (lvec 4 (lsub (vb l).toList 0 4))>>=fun t9=>some t9) else none)=_
   have hv:lvec 4 (lsub (vb l).toList 0 4)=v4 (l.take 4):=v4_of (take4 hl)
   rw [if_pos (take4_len hl),hv,quad_text h4l];rfl
  ·have e:((mkA V l).f_V==4)=false:=by rw [beq_eq_false_iff_ne];exact h4
   rw [e,if_neg Bool.false_ne_true,if_neg h4]
   show (colon_Text (Col.v16 l)>>=fun t10=>some t10)=_
   rw [Col.text_ok hl];rfl
theorem four_vget{l:List UInt8}(hl:l.length=16):vset (vset (vset (vset (Vector.replicate 4 (0:Int):(Vector Int 4)) 0 (vget (vb l) 0)) 1 (vget (vb l) 1)) 2 (vget (vb l) 2)) 3 (vget (vb l) 3)=v4 (l.take 4):=by
 have g0:=vget_vb hl 0 (by omega)
 have g1:=vget_vb hl 1 (by omega)
 have g2:=vget_vb hl 2 (by omega)
 have g3:=vget_vb hl 3 (by omega)
 rw [show ((0:Nat):Int)=0 from rfl] at g0
 rw [show ((1:Nat):Int)=1 from rfl] at g1
 rw [show ((2:Nat):Int)=2 from rfl] at g2
 rw [show ((3:Nat):Int)=3 from rfl] at g3
 apply v4_of
 rw [g0,g1,g2,g3]
 obtain ⟨a,b,c,d,r,rfl⟩:∃ a b c d r,l=a::b::c::d::r:=by
  obtain ⟨a,l1,rfl⟩:=List.exists_cons_of_length_pos (show 0<l.length by omega)
  rw [List.length_cons] at hl
  obtain ⟨b,l2,rfl⟩:=List.exists_cons_of_length_pos (show 0<l1.length by omega)
  rw [List.length_cons] at hl
  obtain ⟨c,l3,rfl⟩:=List.exists_cons_of_length_pos (show 0<l2.length by omega)
  rw [List.length_cons] at hl
  obtain ⟨d,l4,rfl⟩:=List.exists_cons_of_length_pos (show 0<l3.length by omega)
  exact ⟨a,b,c,d,l4,rfl⟩
 have e0:bg (a::b::c::d::r) 0=a.toNat:=rfl
 have e1:bg (a::b::c::d::r) 1=b.toNat:=rfl
 have e2:bg (a::b::c::d::r) 2=c.toNat:=rfl
 have e3:bg (a::b::c::d::r) 3=d.toNat:=rfl
 have et:(a::b::c::d::r).take 4=[a,b,c,d]:=rfl
 rw [e0,e1,e2,e3,et]
 simp only [vset_toList]
 rfl
theorem ref_text10{V:Int}{l:List UInt8}(hl:l.length=16):crawlwayref10_Text (mkA V l)=some (bs (adrT V l)):=by
 unfold crawlwayref10_Text adrT
 rw [right_ref hl,bindM_some]
 cases hr:rightL V l with
 | false=>rfl
 | true =>
  have h4l:(l.take 4).length=4:=by rw [List.length_take];omega
  rw [if_neg (by decide),if_pos rfl]
  rcases right_cases hr with h6 | ⟨h4,_⟩
  ·subst h6
   rw [if_pos (show ((mkA 6 l).f_V==6)=true from rfl),if_neg (by decide)]
   show (crawlwayref09_Text (Col.v16 l)>>=fun t5=>some t5)=_
   rw [Col.refText_ok hl];rfl
  ·subst h4
   have e46:((mkA 4 l).f_V==6)=false:=beq_eq_false_iff_ne.2 (by show (4:Int)≠6;decide)
   rw [e46,if_neg Bool.false_ne_true,if_pos rfl]
   show (crawlwayref08_Text (vset (vset (vset (vset (Vector.replicate 4 (0:Int):(Vector Int 4)) 0 (vget (vb l) 0)) 1 (vget (vb l) 1)) 2 (vget (vb l) 2)) 3 (vget (vb l) 3))>>=fun t6=>some t6)=_
   rw [four_vget hl,refQuad_loop h4l];rfl
theorem adrT_len{V:Int}{l:List UInt8}(hl:l.length=16):(adrT V l).length≤42:=by
 unfold adrT
 split
 ·split
  ·have:=qText_len (m:=l.take 4) (by rw [List.length_take];omega);omega
  ·exact Col.textL_len _ (Col.gr_lt l) (by rw [Col.gr_len,hl])
 ·simp
end Go.Proofs.YtahlbjmafceoeaaGreatDoor.AdrT
namespace Go.Proofs.YtahlbjmafceoeaaGreatDoor.Cid
open E Go.RowKit
open Adr AdrT
theorem bs_app(l k:List UInt8):bs l++bs k=bs (l++k):=by apply mk_inj;rw [append_list,bs_list,bs_list,bs_list]
theorem fmtU_bs(k:Nat):fmtU (k:Int)=bs (Lib.decDigits k):=by apply mk_inj;rw [fmtU_list,bs_list]
def cidT(V:Int)(l:List UInt8)(b:Nat):List UInt8:=adrT V l++47::Lib.decDigits b
theorem cidT_len{V:Int}{l:List UInt8}(hl:l.length=16)(b:Nat)(hb:b≤128):(cidT V l b).length≤70:=by
 have h1:=adrT_len (V:=V) hl
 have h2:=decDigits_len b (by omega)
 unfold cidT
 simp only [List.length_append,List.length_cons];omega
theorem ctext_code{V b:Int}{l:List UInt8}(hl:l.length=16):cidr_Text (mkP (mkA V l) b)=some (bs (if rightP V l b=true then cidT V l b.toNat else [])):=by
 unfold cidr_Text
 rw [cright_code hl,bindM_some]
 cases hr:rightP V l b with
 | false=>rw [if_pos (show (!false)=true from rfl)];rfl
 | true =>
  obtain ⟨⟨hrl,h0,h1⟩,_⟩:=rightP_iff.1 hr
  have hw:=width_le (V:=V) (l:=l)
  obtain ⟨k,rfl⟩:=Int.eq_ofNat_of_zero_le h0
  have ht:=adrT_len (V:=V) hl
  have hd:=decDigits_len k (by omega)
  have b47:(⟨#[47]⟩:ByteArray)=bs [47]:=rfl
  rw [if_neg (show ¬ (!true)=true by decide),if_pos rfl,Int.toNat_natCast]
  show (addr_Text (mkA V l)>>=fun t4=>if t4.size+(⟨#[47]⟩:ByteArray).size≤140737488355328 then decimal_Text (wr .u64 (k:Int))>>=fun t6=>if (t4++(⟨#[47]⟩:ByteArray)).size+t6.size≤140737488355328 then some ((t4++(⟨#[47]⟩:ByteArray))++t6) else none else none)=_
  rw [addr_text hl,bindM_some,b47,if_pos (by rw [bs_size,bs_size];simp only [List.length_cons,List.length_nil];omega),wr_u64 (by omega) (by omega),text_code k (by omega),bindM_some,fmtU_bs,bs_app,if_pos (by rw [bs_size,bs_size,List.length_append];simp only [List.length_cons,List.length_nil];omega),bs_app]
  unfold cidT
  rw [List.append_assoc];rfl
theorem ctext_ref{V b:Int}{l:List UInt8}(hl:l.length=16):crawlwayref11_Text (mkP (mkA V l) b)=some (bs (if rightP V l b=true then cidT V l b.toNat else [])):=by
 unfold crawlwayref11_Text
 rw [cright_ref hl,bindM_some]
 cases hr:rightP V l b with
 | false=>rw [if_pos (show (!false)=true from rfl)];rfl
 | true =>
  obtain ⟨⟨hrl,h0,h1⟩,_⟩:=rightP_iff.1 hr
  have hw:=width_le (V:=V) (l:=l)
  obtain ⟨k,rfl⟩:=Int.eq_ofNat_of_zero_le h0
  have ht:=adrT_len (V:=V) hl
  have hd:=decDigits_len k (by omega)
  have b47:(⟨#[47]⟩:ByteArray)=bs [47]:=rfl
  rw [if_neg (show ¬ (!true)=true by decide),if_pos rfl,Int.toNat_natCast]
  show (crawlwayref10_Text (mkA V l)>>=fun t4=>if t4.size+(⟨#[47]⟩:ByteArray).size≤140737488355328 then crawlwayref03_Text (wr .u64 (k:Int))>>=fun t6=>if (t4++(⟨#[47]⟩:ByteArray)).size+t6.size≤140737488355328 then some ((t4++(⟨#[47]⟩:ByteArray))++t6) else none else none)=_
  rw [ref_text10 hl,bindM_some,b47,if_pos (by rw [bs_size,bs_size];simp only [List.length_cons,List.length_nil];omega),wr_u64 (by omega) (by omega),text_ref k (by omega),bindM_some,fmtU_bs,bs_app,if_pos (by rw [bs_size,bs_size,List.length_append];simp only [List.length_cons,List.length_nil];omega),bs_app]
  unfold cidT
  rw [List.append_assoc];rfl
end Go.Proofs.YtahlbjmafceoeaaGreatDoor.Cid
namespace Go.Proofs.YtahlbjmafceoeaaGreatDoor.Host
open E Go.RowKit
open Adr AdrT
def six(l:List UInt8):Bool:=l.head? == some 91
end Go.Proofs.YtahlbjmafceoeaaGreatDoor.Host
namespace Go.Proofs.YtahlbjmafceoeaaGreatDoor.Six
open E Go.RowKit
open Hex (str str_size str_append)
def sgn:List UInt8:=[65,66,67,68,69,70,71,72,73,74,75,76,77,78,79,80,81,82,83,84,85,86,87,88,89,90,97,98,99,100,101,102,103,104,105,106,107,108,109,110,111,112,113,114,115,116,117,118,119,120,121,122,48,49,50,51,52,53,54,55,56,57,43,47]
def sg(n:Nat):UInt8:=sgn.getD n 0
abbrev tab:ByteArray:=(⟨#[65,66,67,68,69,70,71,72,73,74,75,76,77,78,79,80,81,82,83,84,85,86,87,88,89,90,97,98,99,100,101,102,103,104,105,106,107,108,109,110,111,112,113,114,115,116,117,118,119,120,121,122,48,49,50,51,52,53,54,55,56,57,43,47]⟩:ByteArray)
theorem tab_size:tab.size=64:=rfl
theorem tab_bt(n:Nat)(h:n<64):bt tab n=(sg n).toNat:=by
 have:∀ n:Fin 64,bt tab (n.1:Int)=(sg n.1).toNat:=by decide +kernel
 exact this ⟨n,h⟩
theorem tab_ext(n:Nat)(h:n<64):tab.extract n (n+1)=str [sg n]:=by
 have:∀ n:Fin 64,tab.extract n.1 (n.1+1)=str [sg n.1]:=by decide +kernel
 exact this ⟨n,h⟩
def gX(l:List UInt8):Nat:=(l.getD 0 0).toNat*65536+(l.getD 1 0).toNat*256+(l.getD 2 0).toNat
def sx(X i:Nat):UInt8:=sg (X/2 ^ (18-6*i)%64)
theorem gX_lt(l:List UInt8):gX l<2 ^ 24:=by
 have h0:=(l.getD 0 0).toNat_lt
 have h1:=(l.getD 1 0).toNat_lt
 have h2:=(l.getD 2 0).toNat_lt
 unfold gX;omega
def sgs(X:Nat):Nat→Nat→List UInt8
 | _,0=>[]
 | i,k+1=>sx X i::sgs X (i+1) k
def grpS(l:List UInt8):List UInt8:=sgs (gX l) 0 (min l.length 3+1)
def enc(l:List UInt8):List UInt8:=if h:l=[] then [] else grpS l++enc (l.drop 3)
termination_by l.length
decreasing_by
 have:0<l.length:=List.length_pos_iff.2 h
 simp;omega
def encP(l:List UInt8):List UInt8:=if h:l=[] then [] else (grpS l++List.replicate (3-min l.length 3) 61)++encP (l.drop 3)
termination_by l.length
decreasing_by
 have:0<l.length:=List.length_pos_iff.2 h
 simp;omega
theorem sgs_length(X:Nat):∀ i k,(sgs X i k).length=k
 | _,0=>rfl
 | i,k+1=>by simp [sgs,sgs_length X (i+1) k]
theorem or_add(x b k:Nat)(hb:b<2 ^ k):x*2 ^ k ||| b=x*2 ^ k+b:=by
 rw [show x*2 ^ k=x <<< k by rw [Nat.shiftLeft_eq],←Nat.shiftLeft_add_eq_or_of_lt hb]
theorem lget_ob'(l:List UInt8)(i:Nat)(h:i<l.length):lget (ob l) i=(l.getD i 0).toNat:=by
 have:l[i]? = some l[i]:=List.getElem?_eq_getElem h
 rw [lget_ob l i _ this,List.getD_eq_getElem?_getD,this];rfl
theorem min_eq(l:List UInt8):(if 3<((ob l).length:Int) then (3:Int) else ((ob l).length:Int))=((min l.length 3:Nat):Int):=by
 rw [ob_length]
 split<;>omega
theorem l1_step(l:List UInt8)(o:ByteArray)(x i:Nat)(hi:i<3)(hx:x<2 ^ (8*i)) :
  sixtyfour_Encode.l1 (ob l) o x i=sixtyfour_Encode.l1 (ob l) o ((x*256+(l.getD i 0).toNat:Nat):Int) ((i+1:Nat):Int):=by
 have hx':x<2 ^ 16:=Nat.lt_of_lt_of_le hx (Nat.pow_le_pow_right (by decide) (by omega))
 have e1:wr .i64 ((i:Int)+1)=((i+1:Nat):Int):=by rw [wr_i64 (by omega) (by omega)];omega
 have e2:ishl .u32 (x:Int) 8=((x*256:Nat):Int):=by
  rw [show (8:Int)=((8:Nat):Int) from rfl,ishl_nat .u32 rfl x 8 (by decide),Nat.mod_eq_of_lt (by show x*2 ^ 8<2 ^ 32;omega)]
 have c1:decide ((i:Int)<3)=true:=by simp;omega
 rw [sixtyfour_Encode.l1.eq_def,min_eq,e1,e2]
 by_cases h:i<l.length
 ·have c2:decide ((i:Int)<((min l.length 3:Nat):Int))=true:=by simp;omega
  have c3:(0:Int)≤(i:Int)∧(i:Int)<((ob l).length:Int):=by rw [ob_length];omega
  have hb:=(l.getD i 0).toNat_lt
  have e3:wr .u32 (lget (ob l) i)=(((l.getD i 0).toNat:Nat):Int):=by rw [lget_ob' l i h,wr_u32 (by omega) (by omega)]
  have e4:ior .u32 ((x*256:Nat):Int) (((l.getD i 0).toNat:Nat):Int)=((x*256+(l.getD i 0).toNat:Nat):Int):=by
   rw [ior_nat .u32 rfl _ _ (by show x*256<2 ^ 32;omega) (by show (l.getD i 0).toNat<2 ^ 32;omega)]
   rw [or_add x _ 8 hb]
  simp only [c1,c2,c3,e3,e4,↓reduceIte,and_self]
 ·have c2:decide ((i:Int)<((min l.length 3:Nat):Int))=false:=by simp;omega
  have h0:l.getD i 0=0:=by rw [List.getD_eq_getElem?_getD,List.getElem?_eq_none (by omega)];rfl
  simp only [c1,c2,h0,↓reduceIte,Bool.false_eq_true,UInt8.toNat_zero,Nat.add_zero]
theorem l1_eq(l:List UInt8)(o:ByteArray):sixtyfour_Encode.l1 (ob l) o 0 0=some ((gX l:Int),o):=by
 have h0:=(l.getD 0 0).toNat_lt
 have h1:=(l.getD 1 0).toNat_lt
 have s0:=l1_step l o 0 0 (by omega) (by decide)
 have s1:=l1_step l o (0*256+(l.getD 0 0).toNat) 1 (by omega) (by omega)
 have s2:=l1_step l o ((0*256+(l.getD 0 0).toNat)*256+(l.getD 1 0).toNat) 2 (by omega) (by omega)
 have s3:sixtyfour_Encode.l1 (ob l) o ((((0*256+(l.getD 0 0).toNat)*256+(l.getD 1 0).toNat)*256+(l.getD 2 0).toNat:Nat):Int) ((2+1:Nat):Int)=some ((gX l:Int),o):=by
  rw [sixtyfour_Encode.l1.eq_def,if_neg (by decide)]
  have:((0*256+(l.getD 0 0).toNat)*256+(l.getD 1 0).toNat)*256+(l.getD 2 0).toNat=gX l:=by unfold gX;omega
  rw [this]
 exact s0.trans (s1.trans (s2.trans s3))
theorem sh18(i:Nat)(h:i≤3):wr .u64 (wr .i64 (18-(wr .i64 (6*(i:Int)))))=((18-6*i:Nat):Int):=by
 have:∀ i:Fin 4,wr .u64 (wr .i64 (18-(wr .i64 (6*(i.1:Int)))))=((18-6*i.1:Nat):Int):=by decide +kernel
 exact this ⟨i,by omega⟩
theorem and63(X i:Nat)(hX:X<2 ^ 24):iand .u32 (ishr .u32 (X:Int) ((18-6*i:Nat):Int)) 63=((X/2 ^ (18-6*i)%64:Nat):Int):=by
 rw [ishr_nat .u32 X (18-6*i) (by show 18-6*i≤32;omega),show (63:Int)=((63:Nat):Int) from rfl]
 have:X/2 ^ (18-6*i)≤X:=Nat.div_le_self _ _
 rw [iand_nat .u32 rfl _ 63 (by show X/2 ^ (18-6*i)<2 ^ 32;omega) (by decide),Nat.and_two_pow_sub_one_eq_mod _ 6]
theorem l2_eq(l:List UInt8)(q:ByteArray)(k:Nat):∀ (i:Nat) (o:ByteArray),i+k=min l.length 3+1→o.size+k≤1000000 →
  sixtyfour_Encode.l2 (ob l) ((gX l:Int),q) i o=some (o++str (sgs (gX l) i k)):=by
 induction k with
 | zero =>
  intro i o hi ho
  have c0:wr .i64 (((min l.length 3:Nat):Int)+1)=((min l.length 3+1:Nat):Int):=by rw [wr_i64 (by omega) (by omega)];omega
  have c1:decide ((i:Int)<((min l.length 3+1:Nat):Int))=false:=by simp;omega
  rw [sixtyfour_Encode.l2.eq_def,min_eq,c0]
  simp only [c1,Bool.false_eq_true,↓reduceIte,sgs]
  congr 1;apply ByteArray.ext;simp [str]
 | succ k ih =>
  intro i o hi ho
  have c0:wr .i64 (((min l.length 3:Nat):Int)+1)=((min l.length 3+1:Nat):Int):=by rw [wr_i64 (by omega) (by omega)];omega
  have c1:decide ((i:Int)<((min l.length 3+1:Nat):Int))=true:=by simp;omega
  have e0:wr .i64 ((i:Int)+1)=((i+1:Nat):Int):=by rw [wr_i64 (by omega) (by omega)];omega
  have hm:gX l/2 ^ (18-6*i)%64<64:=Nat.mod_lt _ (by decide)
  have hl:=(sg (gX l/2 ^ (18-6*i)%64)).toNat_lt
  rw [sixtyfour_Encode.l2.eq_def,min_eq,c0]
  simp only [c1,e0,↓reduceIte,sh18 i (by omega),and63 _ _ (gX_lt l),tab_bt _ hm,tab_size]
  rw [if_pos (by omega),if_pos (by omega),if_pos (by omega),if_pos (by omega),Int.toNat_natCast,UInt8.ofNat_toNat,ih (i+1) _ (by omega) (by rw [ByteArray.size_push];omega)]
  congr 1
  apply ByteArray.ext
  simp [sgs,str,sx,ByteArray.data_append]
theorem pad_eq(n:Nat)(h:n≤3):brep (⟨#[61]⟩:ByteArray) (wr .i64 (3-(n:Int)))=str (List.replicate (3-n) 61):=by
 have:∀ n:Fin 4,brep (⟨#[61]⟩:ByteArray) (wr .i64 (3-(n.1:Int)))=str (List.replicate (3-n.1) 61):=by decide +kernel
 exact this ⟨n,by omega⟩
theorem lsub_ob(l:List UInt8)(n:Nat):lsub (ob l) (n:Int) (((ob l).length:Nat):Int)=ob (l.drop n):=by
 unfold lsub
 rw [Int.toNat_natCast,Int.toNat_natCast,List.take_length]
 simp [ob]
theorem l0_eq(l:List UInt8):∀ o:ByteArray,o.size+4*l.length≤100000→sixtyfour_Encode.l0 (ob l) o=some (o++str (encP l)):=by
 generalize hn:l.length=n
 induction n using Nat.strongRecOn generalizing l with
 | _ n ih =>
  intro o ho
  rw [sixtyfour_Encode.l0.eq_def,encP]
  by_cases h:l=[]
  ·subst h
   have c1:decide (((ob []).length:Int)>0)=false:=rfl
   simp only [c1,↓reduceIte,Bool.false_eq_true,dif_pos]
   congr 1;apply ByteArray.ext;simp [str]
  ·have hl:0<l.length:=List.length_pos_iff.2 h
   have c1:decide (((ob l).length:Int)>0)=true:=by rw [ob_length];simp;omega
   have e3:wr .i64 (3-((min l.length 3:Nat):Int))=((3-min l.length 3:Nat):Int):=by rw [wr_i64 (by omega) (by omega)];omega
   have hp:=pad_eq (min l.length 3) (by omega)
   rw [e3] at hp
   have hz:((⟨#[61]⟩:ByteArray).size:Int)=1:=rfl
   have hlen:((ob l).length:Int)=(l.length:Int):=by rw [ob_length]
   simp only [min_eq,l1_eq,bindM_some,↓reduceIte,dif_neg h]
   rw [if_pos c1]
   rw [show (0:Int)=((0:Nat):Int) from rfl,l2_eq l o (min l.length 3+1) 0 o (by omega) (by omega)]
   simp only [bindM_some,e3,hp,hz]
   have hsz:(str (sgs (gX l) 0 (min l.length 3+1))).size=min l.length 3+1:=by rw [str_size,sgs_length]
   have hsp:(str (List.replicate (3-min l.length 3) 61)).size=3-min l.length 3:=by rw [str_size,List.length_replicate]
   rw [if_pos (by omega),if_pos (by rw [ByteArray.size_append,hsz,hsp];omega),if_pos (by rw [ob_length];omega)]
   rw [lsub_ob]
   have hd:l.drop (min l.length 3)=l.drop 3:=by
    by_cases h3:l.length≤3
    ·rw [Nat.min_eq_left h3,List.drop_eq_nil_of_le (Nat.le_refl _),List.drop_eq_nil_of_le h3]
    ·rw [Nat.min_eq_right (by omega)]
   rw [hd,ih (l.drop 3).length (by simp;omega) _ rfl _ (by rw [ByteArray.size_append,ByteArray.size_append,hsz,hsp];simp;omega)]
   congr 1
   rw [str_append,str_append]
   simp only [ByteArray.append_assoc,grpS]
theorem encode_eq(l:List UInt8)(h:l.length≤20000):sixtyfour_Encode (ob l)=some (str (encP l)):=by
 unfold sixtyfour_Encode
 rw [l0_eq l ByteArray.empty (by show 0+_≤_;omega),bindM_some,ByteArray.empty_append]
theorem encP_enc(l:List UInt8):encP l=enc l++List.replicate ((3-l.length%3)%3) 61:=by
 generalize hn:l.length=n
 induction n using Nat.strongRecOn generalizing l with
 | _ n ih =>
  rw [encP,enc]
  by_cases h:l=[]
  ·subst h;simp at hn;subst hn;simp
  ·have hl:0<l.length:=List.length_pos_iff.2 h
   simp only [dif_neg h]
   rw [ih (l.drop 3).length (by simp;omega) _ rfl]
   by_cases h3:l.length≤3
   ·rw [List.drop_eq_nil_of_le h3,enc]
    simp only [dif_pos,List.length_nil,List.append_nil,List.append_assoc,Nat.min_eq_left h3,Nat.zero_mod,Nat.sub_zero,Nat.mod_self,List.replicate_zero]
    congr 2
    omega
   ·rw [Nat.min_eq_right (by omega)]
    simp only [Nat.sub_self,List.replicate_zero,List.append_nil,List.append_assoc,List.length_drop]
    congr 3
    omega
theorem enc_length(l:List UInt8):(enc l).length=(4*l.length+2)/3:=by
 generalize hn:l.length=n
 induction n using Nat.strongRecOn generalizing l with
 | _ n ih =>
  rw [enc]
  by_cases h:l=[]
  ·subst h;simp at hn;subst hn;simp
  ·have hl:0<l.length:=List.length_pos_iff.2 h
   simp only [dif_neg h,List.length_append,grpS,sgs_length]
   rw [ih (l.drop 3).length (by simp;omega) _ rfl,List.length_drop]
   omega
theorem encP_length(l:List UInt8):(encP l).length=(l.length+2)/3*4:=by
 rw [encP_enc,List.length_append,enc_length,List.length_replicate];omega
end Go.Proofs.YtahlbjmafceoeaaGreatDoor.Six
namespace Go.Proofs.YtahlbjmafceoeaaGreatDoor.Six
open E Go.RowKit
open Hex (str str_size str_append)
def bitN(l:List UInt8)(k:Nat):Nat:=(l.getD (k/8) 0).toNat/2 ^ (7-k%8)%2
theorem tdiv2(x:Nat)(h:x<2 ^ 60):wr .i64 (Int.tdiv (x:Int) 2)=((x/2:Nat):Int):=by
 rw [Int.tdiv_eq_ediv_of_nonneg (by omega),wr_i64 (by omega) (by omega)];omega
theorem bit_l0(k:Nat)(f:Nat):∀ (v j:Nat),k%8+f=j→j≤7→v<256→crawlwayref01_Bit.l0 (k:Int) (v:Int) (j:Int)=some ((v/2 ^ f:Nat):Int):=by
 have e0:Int.tmod (k:Int) 8=((k%8:Nat):Int):=by rw [Int.tmod_eq_emod_of_nonneg (by omega)];omega
 induction f with
 | zero =>
  intro v j hj h7 hv
  have c1:decide ((j:Int)>((k%8:Nat):Int))=false:=by simp;omega
  rw [crawlwayref01_Bit.l0.eq_def,e0]
  simp only [c1,Bool.false_eq_true,↓reduceIte,Nat.pow_zero,Nat.div_one]
 | succ f ih =>
  intro v j hj h7 hv
  have c1:decide ((j:Int)>((k%8:Nat):Int))=true:=by simp;omega
  have e1:wr .i64 ((j:Int)-1)=((j-1:Nat):Int):=by rw [wr_i64 (by omega) (by omega)];omega
  rw [crawlwayref01_Bit.l0.eq_def,e0]
  simp only [c1,↓reduceIte,tdiv2 v (by omega),e1]
  rw [ih (v/2) (j-1) (by omega) (by omega) (by omega),Nat.div_div_eq_div_mul,←Nat.pow_succ']
theorem bit_eq(l:List UInt8)(k:Nat)(h:k<8*l.length)(hl:l.length<100000):crawlwayref01_Bit (ob l) (k:Int)=some ((bitN l k:Nat):Int):=by
 unfold crawlwayref01_Bit
 have e1:wr .i64 (Int.tdiv (k:Int) 8)=((k/8:Nat):Int):=by
  rw [Int.tdiv_eq_ediv_of_nonneg (by omega),wr_i64 (by omega) (by omega)];omega
 have hb:=(l.getD (k/8) 0).toNat_lt
 rw [e1,if_pos (by rw [ob_length];omega),lget_ob' l (k/8) (by omega),wr_i64 (by omega) (by omega)]
 rw [show (7:Int)=((7:Nat):Int) from rfl,bit_l0 k (7-k%8) _ 7 (by omega) (by omega) hb,bindM_some,Int.tmod_eq_emod_of_nonneg (Int.natCast_nonneg _)]
 rfl
def bitP(l:List UInt8)(k:Nat):Nat:=if k<8*l.length then bitN l k else 0
theorem bitP_lt(l:List UInt8)(k:Nat):bitP l k<2:=by
 unfold bitP bitN;split<;>omega
theorem e8(l:List UInt8)(hl:l.length<100000):wr .i64 (8*((ob l).length:Int))=((8*l.length:Nat):Int):=by
 rw [ob_length,wr_i64 (by omega) (by omega)];omega
theorem e6(i:Nat)(h:i<1000000):wr .i64 ((i:Int)+6)=((i+6:Nat):Int):=by
 rw [wr_i64 (by omega) (by omega)];omega
theorem rl1_step(l:List UInt8)(hl:l.length<100000)(i n k:Nat)(hk:k<i+6)(hi:i<1000000)(hn:n<1000) :
  crawlwayref04_Encode.l1 (ob l) i n k=crawlwayref04_Encode.l1 (ob l) i ((2*n+bitP l k:Nat):Int) ((k+1:Nat):Int):=by
 have c1:decide ((k:Int)<((i+6:Nat):Int))=true:=by simp;omega
 have e1:wr .i64 ((k:Int)+1)=((k+1:Nat):Int):=by rw [wr_i64 (by omega) (by omega)];omega
 have e2:wr .i64 (2*(n:Int))=((2*n:Nat):Int):=by rw [wr_i64 (by omega) (by omega)];omega
 rw [crawlwayref04_Encode.l1.eq_def,e6 i hi,e8 l hl,e1,e2]
 unfold bitP
 by_cases h:k<8*l.length
 ·have c2:decide ((k:Int)<((8*l.length:Nat):Int))=true:=by simp;omega
  have hb:bitN l k<2:=by unfold bitN;omega
  have e3:wr .i64 (((2*n:Nat):Int)+((bitN l k:Nat):Int))=((2*n+bitN l k:Nat):Int):=by rw [wr_i64 (by omega) (by omega)];omega
  simp only [c1,c2,↓reduceIte,bit_eq l k h hl,bindM_some,e3,if_pos h]
 ·have c2:decide ((k:Int)<((8*l.length:Nat):Int))=false:=by simp;omega
  simp only [c1,c2,↓reduceIte,Bool.false_eq_true,if_neg h,Nat.add_zero]
def six(l:List UInt8)(i:Nat):Nat:=32*bitP l i+16*bitP l (i+1)+8*bitP l (i+2)+4*bitP l (i+3)+2*bitP l (i+4)+bitP l (i+5)
theorem six_lt(l:List UInt8)(i:Nat):six l i<64:=by
 have h0:=bitP_lt l i
 have h1:=bitP_lt l (i+1)
 have h2:=bitP_lt l (i+2)
 have h3:=bitP_lt l (i+3)
 have h4:=bitP_lt l (i+4)
 have h5:=bitP_lt l (i+5)
 unfold six;omega
theorem rl1_eq(l:List UInt8)(hl:l.length<100000)(i:Nat)(hi:i<1000000):crawlwayref04_Encode.l1 (ob l) i 0 i=some ((six l i:Nat):Int):=by
 have h0:=bitP_lt l i
 have h1:=bitP_lt l (i+1)
 have h2:=bitP_lt l (i+2)
 have h3:=bitP_lt l (i+3)
 have h4:=bitP_lt l (i+4)
 have s0:=rl1_step l hl i 0 i (by omega) hi (by omega)
 have s1:=rl1_step l hl i (2*0+bitP l i) (i+1) (by omega) hi (by omega)
 have s2:=rl1_step l hl i (2*(2*0+bitP l i)+bitP l (i+1)) (i+2) (by omega) hi (by omega)
 have s3:=rl1_step l hl i (2*(2*(2*0+bitP l i)+bitP l (i+1))+bitP l (i+2)) (i+3) (by omega) hi (by omega)
 have s4:=rl1_step l hl i (2*(2*(2*(2*0+bitP l i)+bitP l (i+1))+bitP l (i+2))+bitP l (i+3)) (i+4) (by omega) hi (by omega)
 have s5:=rl1_step l hl i (2*(2*(2*(2*(2*0+bitP l i)+bitP l (i+1))+bitP l (i+2))+bitP l (i+3))+bitP l (i+4)) (i+5) (by omega) hi (by omega)
 refine s0.trans (s1.trans (s2.trans (s3.trans (s4.trans (s5.trans ?_)))))
 have c1:decide (((i+5+1:Nat):Int)<((i+6:Nat):Int))=false:=decide_eq_false (by omega)
 rw [crawlwayref04_Encode.l1.eq_def,e6 i hi]
 simp only [c1,Bool.false_eq_true,↓reduceIte]
 congr 2
 unfold six;omega
def refE(l:List UInt8):Nat→Nat→List UInt8
 | 0,_=>[]
 | f+1,t=>if 6*t<8*l.length then sg (six l (6*t))::refE l f (t+1) else []
theorem rl0_eq(l:List UInt8)(hl:l.length<10000)(f:Nat):∀ (t:Nat) (o:ByteArray),8*l.length≤6*(t+f)→6*t≤8*l.length+6→o.size+f≤100000 →
  crawlwayref04_Encode.l0 (ob l) o ((6*t:Nat):Int)=some (o++str (refE l f t)):=by
 have nil:∀ o:ByteArray,o=o++str []:=fun o=>by apply ByteArray.ext;simp [str]
 induction f with
 | zero =>
  intro t o h1 h3 h2
  have c1:decide (((6*t:Nat):Int)<((8*l.length:Nat):Int))=false:=by simp;omega
  rw [crawlwayref04_Encode.l0.eq_def,e8 l (by omega)]
  simp only [c1,Bool.false_eq_true,↓reduceIte,refE,←nil]
 | succ f ih =>
  intro t o h1 h3 h2
  rw [crawlwayref04_Encode.l0.eq_def,e8 l (by omega)]
  by_cases h:6*t<8*l.length
  ·have c1:decide (((6*t:Nat):Int)<((8*l.length:Nat):Int))=true:=by simp;omega
   have hs:=six_lt l (6*t)
   have e1:wr .i64 (((six l (6*t):Nat):Int)+1)=((six l (6*t)+1:Nat):Int):=by rw [wr_i64 (by omega) (by omega)];omega
   have hS:crawlwayref04_Signs=some tab:=rfl
   simp only [c1,↓reduceIte,rl1_eq l (by omega) (6*t) (by omega),bindM_some,hS,e1,e6 (6*t) (by omega)]
   have ht:(tab.size:Int)=64:=rfl
   rw [if_pos (by rw [ht];omega),Int.toNat_natCast,Int.toNat_natCast,tab_ext _ hs,if_pos (by rw [str_size];simp;omega)]
   rw [show 6*t+6=6*(t+1) by omega,ih (t+1) _ (by omega) (by omega) (by rw [ByteArray.size_append,str_size];simp;omega)]
   rw [refE,if_pos h,ByteArray.append_assoc,←str_append];rfl
  ·have c1:decide (((6*t:Nat):Int)<((8*l.length:Nat):Int))=false:=by simp;omega
   simp only [c1,Bool.false_eq_true,↓reduceIte,refE,if_neg h,←nil]
theorem bitP_drop(l:List UInt8)(k:Nat):bitP l (24+k)=bitP (l.drop 3) k:=by
 unfold bitP bitN
 rw [List.length_drop]
 rw [show (24+k)/8=3+k/8 by omega,show (24+k)%8=k%8 by omega]
 have:(l.drop 3).getD (k/8) 0=l.getD (3+k/8) 0:=by simp [List.getD_eq_getElem?_getD]
 rw [this]
 by_cases h:24+k<8*l.length
 ·rw [if_pos h,if_pos (by omega)]
 ·rw [if_neg h,if_neg (by omega)]
theorem six_drop(l:List UInt8)(k:Nat):six l (24+k)=six (l.drop 3) k:=by
 unfold six
 simp only [Nat.add_assoc,bitP_drop]
theorem refE_drop(l:List UInt8)(f:Nat):∀ t,refE l f (4+t)=refE (l.drop 3) f t:=by
 induction f with
 | zero=>intro t;rfl
 | succ f ih =>
  intro t
  rw [refE,refE,List.length_drop]
  rw [show 4+t+1=4+(t+1) by omega,ih,show 6*(4+t)=24+6*t by omega,six_drop]
  by_cases h:24+6*t<8*l.length
  ·rw [if_pos h,if_pos (by omega)]
  ·rw [if_neg h,if_neg (by omega)]
theorem bitP_val(l:List UInt8)(k:Nat):bitP l k=(l.getD (k/8) 0).toNat/2 ^ (7-k%8)%2:=by
 unfold bitP bitN
 split
 ·rfl
 ·rw [List.getD_eq_getElem?_getD,List.getElem?_eq_none (by omega)];simp
theorem six_gX(l:List UInt8):∀ t,t<4→sg (six l (6*t))=sx (gX l) t:=by
 have ha:=(l.getD 0 0).toNat_lt
 have hb:=(l.getD 1 0).toNat_lt
 have hc:=(l.getD 2 0).toNat_lt
 intro t ht
 unfold sx
 congr 1
 have h:t=0∨t=1∨t=2∨t=3:=by omega
 unfold six gX
 rcases h with rfl | rfl | rfl | rfl<;>simp only [bitP_val,Nat.reduceMul,Nat.reduceAdd,Nat.reduceDiv,Nat.reduceMod,Nat.reduceSub,Nat.reducePow]<;>omega
theorem refE_enc(l:List UInt8):∀ f,(4*l.length+2)/3≤f→refE l f 0=enc l:=by
 generalize hn:l.length=n
 induction n using Nat.strongRecOn generalizing l with
 | _ n ih =>
  intro f hf
  rw [enc]
  by_cases h:l=[]
  ·subst h
   simp only [dif_pos]
   cases f with
   | zero=>rfl
   | succ f=>rw [refE,if_neg (by simp)]
  ·have hl:0<l.length:=List.length_pos_iff.2 h
   have g:=six_gX l
   have g0:=g 0 (by omega)
   have g1:=g 1 (by omega)
   have g2:=g 2 (by omega)
   have g3:=g 3 (by omega)
   simp only [Nat.mul_zero,Nat.mul_one,Nat.reduceMul] at g0 g1 g2 g3
   simp only [dif_neg h,grpS]
   by_cases h1:l.length=1
   ·obtain ⟨f,rfl⟩:∃ k,f=k+2:=⟨f-2,by omega⟩
    rw [h1,List.drop_eq_nil_of_le (by omega),enc,refE,if_pos (by omega),refE,if_pos (by omega)]
    have:refE l f 2=[]:=by
     cases f with
     | zero=>rfl
     | succ f=>rw [refE,if_neg (by omega)]
    simp only [Nat.zero_add,Nat.reduceAdd,Nat.mul_zero,Nat.mul_one,this,g0,g1,dif_pos,List.append_nil]
    rfl
   ·by_cases h2:l.length=2
    ·obtain ⟨f,rfl⟩:∃ k,f=k+3:=⟨f-3,by omega⟩
     rw [h2,List.drop_eq_nil_of_le (by omega),enc,refE,if_pos (by omega),refE,if_pos (by omega),refE,if_pos (by omega)]
     have:refE l f 3=[]:=by
      cases f with
      | zero=>rfl
      | succ f=>rw [refE,if_neg (by omega)]
     simp only [Nat.zero_add,Nat.reduceAdd,Nat.mul_zero,Nat.mul_one,Nat.reduceMul,this,g0,g1,g2,dif_pos,List.append_nil]
     rfl
    ·obtain ⟨f,rfl⟩:∃ k,f=k+4:=⟨f-4,by omega⟩
     rw [Nat.min_eq_right (by omega),refE,if_pos (by omega),refE,if_pos (by omega),refE,if_pos (by omega),refE,if_pos (by omega)]
     have:=refE_drop l f 0
     simp only [Nat.zero_add,Nat.reduceAdd,Nat.mul_zero,Nat.mul_one,Nat.reduceMul,g0,g1,g2,g3,Nat.add_zero] at this ⊢
     rw [this,ih (l.drop 3).length (by simp;omega) _ rfl f (by simp;omega)]
     rfl
theorem rl2_eq(k:Nat):∀ s:List UInt8,s.length+k≤1000000→(s.length+k)%4=0→k<4→crawlwayref04_Encode.l2 (str s)=some (str (s++List.replicate k 61)):=by
 have tm:∀ n:Nat,(Int.tmod (n:Int) 4 != 0)=decide (n%4≠0):=fun n=>by
  rw [Int.tmod_eq_emod_of_nonneg (by omega)]
  by_cases h:n%4=0
  ·have:((n:Int)%4)=0:=by omega
   simp [h,this]
  ·have:¬ ((n:Int)%4)=0:=by omega
   simp [h,this]
 induction k with
 | zero =>
  intro s h1 h2 h3
  rw [crawlwayref04_Encode.l2.eq_def,str_size,tm,if_neg (by simp;omega)]
  simp
 | succ k ih =>
  intro s h1 h2 h3
  rw [crawlwayref04_Encode.l2.eq_def,str_size,tm,if_pos (by simp;omega)]
  have hz:(⟨#[61]⟩:ByteArray).size=1:=rfl
  have hp:str s++(⟨#[61]⟩:ByteArray)=str (s++[61]):=by rw [str_append];rfl
  rw [hz,if_pos (by omega),hp,ih _ (by simp;omega) (by simp;omega) (by omega),List.append_assoc]
  rfl
theorem refEncode_eq(l:List UInt8)(h:l.length<5000):crawlwayref04_Encode (ob l)=some (str (encP l)):=by
 unfold crawlwayref04_Encode
 have h0:=rl0_eq l (by omega) ((4*l.length+2)/3) 0 (⟨#[]⟩) (by omega) (by omega) (by show 0+_≤_;omega)
 rw [show ((6*0:Nat):Int)=0 from rfl,refE_enc l _ (Nat.le_refl _)] at h0
 have e0:(⟨#[]⟩:ByteArray)++str (enc l)=str (enc l):=by apply ByteArray.ext;simp [str]
 have hm:(enc l).length+(3-l.length%3)%3=(l.length+2)/3*4:=by
  have:=encP_length l
  rw [encP_enc,List.length_append,List.length_replicate] at this
  exact this
 rw [h0,bindM_some,e0,rl2_eq ((3-l.length%3)%3) (enc l) (by omega) (by rw [hm];omega) (by omega),bindM_some,encP_enc]
end Go.Proofs.YtahlbjmafceoeaaGreatDoor.Six
namespace Go.Proofs.YtahlbjmafceoeaaGreatDoor.Key
open E Go.RowKit
open Hex (str str_size str_append)
theorem vget_nat{m:Nat}(v:Vector Int m)(i:Nat)(h:i<m):vget v (i:Int)=v[i]:=by
 unfold vget;rw [Int.toNat_natCast];simp [List.getD_eq_getElem?_getD,h]
def IsB{m:Nat}(v:Vector Int m):Prop:=∀ n∈v.toList,(Lit.int .u8 n).wf=true
theorem IsB.ob{m:Nat}{v:Vector Int m}(h:IsB v):∃ l:List UInt8,v.toList=ob l∧l.length=m:=by
 obtain ⟨l,hl⟩:=exists_ob v.toList h
 refine ⟨l,hl,?_⟩
 have:=congrArg List.length hl
 rw [ob_length,Vector.length_toList] at this
 exact this.symm
end Go.Proofs.YtahlbjmafceoeaaGreatDoor.Key
namespace Go.Proofs.YtahlbjmafceoeaaGreatDoor.Key
open E Go.RowKit
open Hex (str str_size str_append)
theorem bytes_l0(v:Vector Int 32)(f:Nat):∀ i:Nat,i+f=32→crawlwayref07_Bytes.l0 v (v.toList.take i) i=some v.toList:=by
 induction f with
 | zero =>
  intro i hi
  obtain rfl:i=32:=by omega
  rw [crawlwayref07_Bytes.l0.eq_def,if_neg (by decide),List.take_of_length_le (by simp)]
 | succ f ih =>
  intro i hi
  have e1:wr .i64 ((i:Int)+1)=((i+1:Nat):Int):=by rw [wr_i64 (by omega) (by omega)];omega
  have e2:v.toList.take i++[vget v (i:Int)]=v.toList.take (i+1):=by
   rw [vget_nat v i (by omega),List.take_add_one]
   simp [show i<32 by omega]
  rw [crawlwayref07_Bytes.l0.eq_def,if_pos (decide_eq_true (by omega)),if_pos (by omega),if_pos (by simp;omega),e1,e2,ih (i+1) (by omega)]
theorem bytes_eq(v:Vector Int 32):crawlwayref07_Bytes v=some v.toList:=by
 unfold crawlwayref07_Bytes
 have:=bytes_l0 v 32 0 rfl
 rw [show ((0:Nat):Int)=0 from rfl,List.take_zero] at this
 rw [this,bindM_some]
end Go.Proofs.YtahlbjmafceoeaaGreatDoor.Key
namespace Go.Proofs.YtahlbjmafceoeaaGreatDoor.Host
open E Go.RowKit
open Adr AdrT
end Go.Proofs.YtahlbjmafceoeaaGreatDoor.Host
namespace Go.Proofs.YtahlbjmafceoeaaGreatDoor
open E Go.RowKit _root_.Go.Proofs.Tryz
theorem infoA238_is:(Tryz.prog.info? 38).isSome=true:=by kernel_rfl
noncomputable def infoA238_v:TypeInfo:=(Tryz.prog.info? 38).get infoA238_is
theorem infoA238:Tryz.prog.info? 38=some infoA238_v:=(Option.some_get _).symm
def aggregate_Right(x0:S_aggregate_Range):Option (Bool) :=
 addr_Right x0.f_From>>=fun t2=>if t2=true then (addr_Right x0.f_To>>=fun t4=>if t4=true then (if (x0.f_From.f_V==x0.f_To.f_V)=true then (addr_Less x0.f_To x0.f_From>>=fun t7=>some (!t7)) else (some false)) else (some false)) else (some false)
theorem aggregate_Right_ok(x0:S_aggregate_Range)(r:Bool)(hF:aggregate_Right x0=some r)(w:World) :
    Calls Tryz.prog 106 #[.agg (Cd.cs c_aggregate_Range x0).toArray] w (fun e w'=>e=.returned (.bool r)∧Below w.heap.size w w'):=by
 unfold aggregate_Right at hF
 refine ce (l:=[.agg (Cd.cs c_aggregate_Range x0).toArray]) func106 rfl rfl ?_
 refine at_start ?_
 refine sr ?_
 refine at_box (cs:=Cd.cs c_aggregate_Range x0) rfl rfl rfl ?_
 intro b1
 refine aa (nwx [1] ?_)
 refine fa 0 underlying112 rfl sizeOf36 ?_
 refine aw (r_load_aggc (c:=c_api_Addr) (z:=x0.f_From) isAgg36 sizeOf36 rfl (lens_cell .z (Lens.comp lw (fun z=>{ x0 with f_From:=z }) (c_aggregate_Range_f_From x0)))) ?_
 obtain ⟨t2,ht2,hF⟩:=bM hF
 refine cB func71 rfl (fun w hw=>addr_Right_ok _ _ ht2 w) ?_
 refine am ?_
 obtain ⟨h3,hF⟩|⟨h3,hF⟩:=oi hF
 ·refine fx 6 h3 ?_
  refine gy ?_
  refine fa 17 underlying112 rfl sizeOf36 ?_
  refine gy ?_
  refine aw (r_load_aggc (c:=c_api_Addr) (z:=x0.f_To) isAgg36 sizeOf36 rfl (lens_cell .z (Lens.comp lw (fun z=>{ x0 with f_To:=z }) (c_aggregate_Range_f_To x0)))) ?_
  refine gy ?_
  obtain ⟨t4,ht4,hF⟩:=bM hF
  refine cB func71 rfl (fun w hw=>addr_Right_ok _ _ ht4 w) ?_
  refine aw xp (am ?_)
  obtain ⟨h5,hF⟩|⟨h5,hF⟩:=oi hF
  ·refine fx 11 h5 ?_
   refine gy ?_
   refine fa 0 underlying112 rfl sizeOf36 ?_
   refine gy ?_
   refine fa 0 underlying36 rfl sizeOf3 ?_
   refine gy ?_
   refine aw (r_load_cell isAgg3 rfl (lens_cell0 (c:=(cInt .i64)) (y:=x0.f_From.f_V) .z (Lens.comp (Lens.comp lw (fun z=>{ x0 with f_From:=z }) (c_aggregate_Range_f_From x0)) (fun z=>{ x0.f_From with f_V:=z }) (c_api_Addr_f_V x0.f_From)) rfl)) ?_
   refine gy ?_
   refine fa 17 underlying112 rfl sizeOf36 ?_
   refine gy ?_
   refine fa 0 underlying36 rfl sizeOf3 ?_
   refine gy ?_
   refine aw (r_load_cell isAgg3 rfl (lens_cell0 (c:=(cInt .i64)) (y:=x0.f_To.f_V) .z (Lens.comp (Lens.comp lw (fun z=>{ x0 with f_To:=z }) (c_aggregate_Range_f_To x0)) (fun z=>{ x0.f_To with f_V:=z }) (c_api_Addr_f_V x0.f_To)) rfl)) ?_
   refine gy ?_
   refine aw xq (aw xp (am ?_))
   obtain ⟨h6,hF⟩|⟨h6,hF⟩:=oi hF
   ·refine fx 20 h6 ?_
    refine gy ?_
    refine fa 17 underlying112 rfl sizeOf36 ?_
    refine gy ?_
    refine aw (r_load_aggc (c:=c_api_Addr) (z:=x0.f_To) isAgg36 sizeOf36 rfl (lens_cell .z (Lens.comp lw (fun z=>{ x0 with f_To:=z }) (c_aggregate_Range_f_To x0)))) ?_
    refine gy ?_
    refine fa 0 underlying112 rfl sizeOf36 ?_
    refine gy ?_
    refine aw (r_load_aggc (c:=c_api_Addr) (z:=x0.f_From) isAgg36 sizeOf36 rfl (lens_cell .z (Lens.comp lw (fun z=>{ x0 with f_From:=z }) (c_aggregate_Range_f_From x0)))) ?_
    refine gy ?_
    obtain ⟨t7,ht7,hF⟩:=bM hF
    refine cB func92 rfl (fun w hw=>addr_Less_ok _ _ _ ht7 w) ?_
    refine gy ?_
    refine aw (r_not rfl) ?_
    refine aw xp (aa (qn (dz (wq [2] ?_))))
    refine tn (qt ?_)
    have K:=os hF
    subst K
    exact r1 wb
   refine fx 20 h6 ?_
   refine gn ?_
   refine gn ?_
   refine gn ?_
   refine gn ?_
   refine gn ?_
   refine gn ?_
   refine aw xp (aa (qn (dz (wq [2] ?_))))
   refine tn (qt ?_)
   have K:=os hF
   subst K
   exact r1 wb
  refine fx 11 h5 ?_
  refine gn ?_
  refine gn ?_
  refine gn ?_
  refine gn ?_
  refine gn ?_
  refine gn ?_
  refine gn ?_
  refine aw xp (am ?_)
  refine gn ?_
  refine gn ?_
  refine gn ?_
  refine gn ?_
  refine gn ?_
  refine gn ?_
  refine aw xp (aa (qn (dz (wq [2] ?_))))
  refine tn (qt ?_)
  have K:=os hF
  subst K
  exact r1 wb
 refine fx 6 h3 ?_
 refine gn ?_
 refine gn ?_
 refine gn ?_
 refine aw xp (am ?_)
 refine gn ?_
 refine gn ?_
 refine gn ?_
 refine gn ?_
 refine gn ?_
 refine gn ?_
 refine gn ?_
 refine aw xp (am ?_)
 refine gn ?_
 refine gn ?_
 refine gn ?_
 refine gn ?_
 refine gn ?_
 refine gn ?_
 refine aw xp (aa (qn (dz (wq [2] ?_))))
 refine tn (qt ?_)
 have K:=os hF
 subst K
 exact r1 wb
def aggregate_Next.l0(i5:Int)(i6:S_api_Addr):Option (Ctl (S_api_Addr×Bool) (Unit)) :=
 if (decide (i5≥0))=true then (if (0:Int)≤i5∧i5<16 then if (0:Int)≤i5∧i5<16 then if (0:Int)≤i5∧i5<16 then if (vget (({ i6 with f_B:=vset i6.f_B i5 (wr .u8 ((vget i6.f_B i5)+1)) }).f_B) i5 != (0:Int))=true then (some (.ret ({ i6 with f_B:=vset i6.f_B i5 (wr .u8 ((vget i6.f_B i5)+1)) },true))) else (aggregate_Next.l0 (wr .i64 (i5-1)) ({ i6 with f_B:=vset i6.f_B i5 (wr .u8 ((vget i6.f_B i5)+1)) })) else none else none else none) else (some (.nx ()))
 partial_fixpoint
def aggregate_Next(x0:S_api_Addr):Option (S_api_Addr×Bool) :=
 addr_Width x0>>=fun t3=>aggregate_Next.l0 (wr .i64 ((ishr .i64 t3 3)-1)) x0>>=fun q4=>match q4 with | .ret r'=>some r' | .nx sq4=>(some (({ f_V:=(0:Int),f_B:=(Vector.replicate 16 (0:Int):(Vector Int 16)) }:S_api_Addr),false))
theorem aggregate_Next_ok(x0:S_api_Addr)(r:S_api_Addr×Bool)(hF:aggregate_Next x0=some r)(w:World) :
    Calls Tryz.prog 108 #[.agg (Cd.cs c_api_Addr x0).toArray] w (fun e w'=>e=.returned (.tuple #[.agg (Cd.cs c_api_Addr r.1).toArray,.bool r.2])∧Below w.heap.size w w'):=by
 unfold aggregate_Next at hF
 refine ce (l:=[.agg (Cd.cs c_api_Addr x0).toArray]) func108 rfl rfl ?_
 refine at_start ?_
 refine sr ?_
 refine at_box (cs:=Cd.cs c_api_Addr x0) rfl rfl rfl ?_
 intro b1
 refine al (cs:=Cd.cs c_api_Addr zv1) zeroValue36 ?_
 intro b2
 refine aa (nt (qs (sr ?_)))
 refine aw (r_load_aggc (c:=c_api_Addr) (z:=x0) isAgg36 sizeOf36 rfl (lens_cell (.s .z) lw)) ?_
 obtain ⟨t3,ht3,hF⟩:=bM hF
 refine cB func118 rfl (fun w hw=>addr_Width_ok _ _ ht3 w) ?_
 refine aw (r_ishr rfl rfl (by decide)) ?_
 refine aw (r_isub rfl rfl) ?_
 refine aa (nwq [4,2,1] ?_)
 refine qb ?_
 obtain ⟨q4,hq4,hF⟩:=bM hF
 refine wq [4,2,1] ?_
 refine at_loop_r (B:=0) (r:=r) (q:=q4) (A:=fun (_:Unit) Y=>At 27 [(2,.pointer (some ⟨b2,0,none⟩))] (Wd w [cellsE b2 (Cd.cs c_api_Addr zv1) 36]) Y) ?_ ?_
 ·intro K
  refine aggregate_Next.l0.partial_correctness  (motive:=fun i5 i6 x=>KR (fun (_:Unit) Y=>At 27 [(2,.pointer (some ⟨b2,0,none⟩))] (Wd w [cellsE b2 (Cd.cs c_api_Addr zv1) 36]) Y) _ 0 r x→Round (fun Y=>At 27 [(1,.pointer (some ⟨b1,0,none⟩)),(2,.pointer (some ⟨b2,0,none⟩)),(4,.int .i64 i5)] (Wd w [cellsE b2 (Cd.cs c_api_Addr zv1) 36,cellsE b1 (Cd.cs c_api_Addr i6) 36]) Y) _ _ _) ?_ _ _ _ hq4 K
  ·clear K hF
   intro g ih i5 i6 x hF K
   refine at_round ?_
   refine qs (sr (am ?_))
   refine aw (r_igeq rfl rfl) ?_
   refine nwq [10,4,2,1] ?_
   obtain ⟨h7,hF⟩|⟨h7,hF⟩:=oi hF
   ·refine ct h7 ?_
    refine sn (qs ?_)
    refine qb ?_
    refine sr (am (fa 1 underlying36 rfl sizeOf34 ?_))
    obtain ⟨h8,hF⟩:=gd hF
    refine aw (r_idxArr underlying34 sizeOf5 rfl rfl h8) ?_
    refine aw (r_load_cell isAgg5 rfl (lens_cell0 (c:=(cInt .u8)) (y:=vget i6.f_B i5) (.s .z) (Lens.comp (Lens.comp lw (fun z=>{ i6 with f_B:=z }) (c_api_Addr_f_B i6)) (fun z=>vset i6.f_B i5 z) (Lens.vec (cInt .u8) (by decide) i6.f_B i5 h8)) rfl)) ?_
    refine aw xa (fa 1 underlying36 rfl sizeOf34 ?_)
    obtain ⟨h9,hF⟩:=gd hF
    refine aw (r_idxArr underlying34 sizeOf5 rfl rfl h9) ?_
    refine at_store (c:=(cInt .u8)) (z:=wr .u8 ((vget i6.f_B i5)+1)) (.s .z) (Lens.comp (Lens.comp lw (fun z=>{ i6 with f_B:=z }) (c_api_Addr_f_B i6)) (fun z=>vset i6.f_B i5 z) (Lens.vec (cInt .u8) (by decide) i6.f_B i5 h9)) sizeOf5 rfl rfl rfl ?_
    refine ns (am (fa 1 underlying36 rfl sizeOf34 ?_))
    obtain ⟨h10,hF⟩:=gd hF
    refine aw (r_idxArr underlying34 sizeOf5 rfl rfl h10) ?_
    refine aw (r_load_cell isAgg5 rfl (lens_cell0 (c:=(cInt .u8)) (y:=vget (({ i6 with f_B:=vset i6.f_B i5 (wr .u8 ((vget i6.f_B i5)+1)) }).f_B) i5) (.s .z) (Lens.comp (Lens.comp lw (fun z=>{ { i6 with f_B:=vset i6.f_B i5 (wr .u8 ((vget i6.f_B i5)+1)) } with f_B:=z }) (c_api_Addr_f_B ({ i6 with f_B:=vset i6.f_B i5 (wr .u8 ((vget i6.f_B i5)+1)) }))) (fun z=>vset (({ i6 with f_B:=vset i6.f_B i5 (wr .u8 ((vget i6.f_B i5)+1)) }).f_B) i5 z) (Lens.vec (cInt .u8) (by decide) (({ i6 with f_B:=vset i6.f_B i5 (wr .u8 ((vget i6.f_B i5)+1)) }).f_B) i5 h10)) rfl)) ?_
    refine aw xn (nwq [24,4,2,1] ?_)
    obtain ⟨h11,hF⟩|⟨h11,hF⟩:=oi hF
    ·refine ct h11 ?_
     refine sr ?_
     refine aw (r_load_aggc (c:=c_api_Addr) (z:={ i6 with f_B:=vset i6.f_B i5 (wr .u8 ((vget i6.f_B i5)+1)) }) isAgg36 sizeOf36 rfl (lens_cell (.s .z) lw)) ?_
     refine at_store (c:=c_api_Addr) (z:={ i6 with f_B:=vset i6.f_B i5 (wr .u8 ((vget i6.f_B i5)+1)) }) .z lw sizeOf36 rfl rfl rfl ?_
     refine aa (qn ?_)
     refine at_drop (H:=_) (.s .z) ?_
     refine wq [3,2] ?_
     refine tn (qt ?_)
     refine br (tr (tr (br (tr ?_))))
     obtain rfl:=os hF
     subst K
     exact at_res2 rfl (res_cell (c:=c_api_Addr) (y:={ i6 with f_B:=vset i6.f_B i5 (wr .u8 ((vget i6.f_B i5)+1)) }) rfl .z lw isAgg36 sizeOf36 (.inl rfl)) (res_tmp rfl) wb
    refine cf h11 ?_
    refine at_skip ?_
    refine bm ?_
    refine qr (am ?_)
    refine aw (r_isub rfl rfl) ?_
    refine aa (nwq [4,2,1] ?_)
    exact at_weak_k (ih _ _ _ hF K) ⟨rfl,rfl,rfl,trivial⟩
   refine cf h7 ?_
   refine at_exit ?_
   refine te (te ?_)
   refine at_drop (H:=_) (.s .z) ?_
   obtain rfl:=os hF
   exact at_weak_k K ⟨rfl,trivial⟩
 cases q4 with
 | ret r'=>exact os hF
 | nx sq4 =>
  skip
  refine at_blk_same ?_
  refine tn (sr ?_)
  refine aw (r_build_struct (zs:=Cd.cs c_api_Addr zv1) (cs:=Cd.cs c_api_Addr zv1) underlying36 zeroValue36 rfl (places_api_Addr_36) rfl rfl) ?_
  refine at_store (c:=c_api_Addr) (z:=zv1) .z lw sizeOf36 rfl rfl rfl ?_
  refine aa (nwq [3,2] ?_)
  refine qt ?_
  have K:=os hF
  subst K
  exact at_res2 rfl (res_cell (c:=c_api_Addr) (y:=zv1) rfl .z lw isAgg36 sizeOf36 (.inl rfl)) (res_tmp rfl) wb
def aggregate_last.l0(x0:S_api_Prefix)(t4:Int)(i6:Int)(i7:S_api_Addr):Option (S_api_Addr) :=
 if (decide (i6<ishr .i64 t4 3))=true then (if (0:Int)≤i6∧i6<16 then if (0:Int)≤wr .u64 (if 8<(if wr .i64 (x0.f_Bits-(wr .i64 (8*i6)))<0 then 0 else wr .i64 (x0.f_Bits-(wr .i64 (8*i6)))) then 8 else (if wr .i64 (x0.f_Bits-(wr .i64 (8*i6)))<0 then 0 else wr .i64 (x0.f_Bits-(wr .i64 (8*i6))))) then if (0:Int)≤i6∧i6<16 then aggregate_last.l0 x0 t4 (wr .i64 (i6+1)) ({ i7 with f_B:=vset i7.f_B i6 (ior .u8 (vget i7.f_B i6) (ishr .u8 255 (wr .u64 (if 8<(if wr .i64 (x0.f_Bits-(wr .i64 (8*i6)))<0 then 0 else wr .i64 (x0.f_Bits-(wr .i64 (8*i6)))) then 8 else (if wr .i64 (x0.f_Bits-(wr .i64 (8*i6)))<0 then 0 else wr .i64 (x0.f_Bits-(wr .i64 (8*i6)))))))) }) else none else none else none) else (some i7)
 partial_fixpoint
def aggregate_last(x0:S_api_Prefix):Option (S_api_Addr) :=
 addr_Width x0.f_A>>=fun t4=>aggregate_last.l0 x0 t4 0 x0.f_A>>=fun q5=>some q5
theorem aggregate_last_ok(x0:S_api_Prefix)(r:S_api_Addr)(hF:aggregate_last x0=some r)(w:World) :
    Calls Tryz.prog 105 #[.agg (Cd.cs c_api_Prefix x0).toArray] w (fun e w'=>e=.returned (.agg (Cd.cs c_api_Addr r).toArray)∧Below w.heap.size w w'):=by
 unfold aggregate_last at hF
 refine ce (l:=[.agg (Cd.cs c_api_Prefix x0).toArray]) func105 rfl rfl ?_
 refine at_start ?_
 refine sr ?_
 refine at_box (cs:=Cd.cs c_api_Prefix x0) rfl rfl rfl ?_
 intro b1
 refine al (cs:=Cd.cs c_api_Addr zv1) zeroValue36 ?_
 intro b2
 refine ns (fa 0 underlying38 rfl sizeOf36 ?_)
 refine aw (r_load_aggc (c:=c_api_Addr) (z:=x0.f_A) isAgg36 sizeOf36 rfl (lens_cell (.s .z) (Lens.comp lw (fun z=>{ x0 with f_A:=z }) (c_api_Prefix_f_A x0)))) ?_
 refine al (cs:=Cd.cs c_api_Addr zv1) zeroValue36 ?_
 intro b3
 refine at_store (c:=c_api_Addr) (z:=x0.f_A) .z lw sizeOf36 rfl rfl rfl ?_
 refine nt (qs (sr ?_))
 refine aw (r_load_aggc (c:=c_api_Addr) (z:=x0.f_A) isAgg36 sizeOf36 rfl (lens_cell .z lw)) ?_
 obtain ⟨t4,ht4,hF⟩:=bM hF
 refine cB func118 rfl (fun w hw=>addr_Width_ok _ _ ht4 w) ?_
 refine aw (r_ishr rfl rfl (by decide)) ?_
 refine am (nwq [11,10,3,2,1] ?_)
 refine qb ?_
 obtain ⟨q5,hq5,hF⟩:=bM hF
 refine wq [11,10,3,2,1] ?_
 refine at_loop_n (B:=0) (A:=fun Y=>At 33 [(2,.pointer (some ⟨b2,0,none⟩)),(3,.pointer (some ⟨b3,0,none⟩))] (Wd w [cellsE b3 (Cd.cs c_api_Addr q5) 36,cellsE b2 (Cd.cs c_api_Addr zv1) 36]) Y) ?_ ?_
 ·intro K
  refine aggregate_last.l0.partial_correctness x0 t4 (motive:=fun i6 i7 x=>KN (fun Y=>At 33 [(2,.pointer (some ⟨b2,0,none⟩)),(3,.pointer (some ⟨b3,0,none⟩))] (Wd w [cellsE b3 (Cd.cs c_api_Addr x) 36,cellsE b2 (Cd.cs c_api_Addr zv1) 36]) Y) _ 0→Round (fun Y=>At 33 [(1,.pointer (some ⟨b1,0,none⟩)),(2,.pointer (some ⟨b2,0,none⟩)),(3,.pointer (some ⟨b3,0,none⟩)),(10,.int .i64 (ishr .i64 t4 3)),(11,.int .i64 i6)] (Wd w [cellsE b3 (Cd.cs c_api_Addr i7) 36,cellsE b2 (Cd.cs c_api_Addr zv1) 36,cellsE b1 (Cd.cs c_api_Prefix x0) 38]) Y) _ _ _) ?_ _ _ _ hq5 K
  ·clear K hF
   intro g ih i6 i7 x hF K
   refine at_round ?_
   refine sr (aw xl (nwq [12,11,10,3,2,1] ?_))
   refine qs ?_
   obtain ⟨h8,hF⟩|⟨h8,hF⟩:=oi hF
   ·refine ct h8 ?_
    refine sn (qs ?_)
    refine qb ?_
    refine sr (am (aa (ns (fa 17 underlying38 rfl sizeOf3 ?_))))
    refine aw (r_load_cell isAgg3 rfl (lens_cell0 (c:=(cInt .i64)) (y:=x0.f_Bits) (.s (.s .z)) (Lens.comp lw (fun z=>{ x0 with f_Bits:=z }) (c_api_Prefix_f_Bits x0)) rfl)) ?_
    refine am ?_
    refine aw (r_imul rfl rfl) ?_
    refine aw (r_isub rfl rfl) ?_
    refine aw (r_max rfl rfl) ?_
    refine aw (r_min rfl rfl) ?_
    refine aa (nt (qr (am (fa 1 underlying36 rfl sizeOf34 ?_))))
    obtain ⟨h9,hF⟩:=gd hF
    refine aw (r_idxArr underlying34 sizeOf5 rfl rfl h9) ?_
    refine aw (r_load_cell isAgg5 rfl (lens_cell0 (c:=(cInt .u8)) (y:=vget i7.f_B i6) .z (Lens.comp (Lens.comp lw (fun z=>{ i7 with f_B:=z }) (c_api_Addr_f_B i7)) (fun z=>vset i7.f_B i6 z) (Lens.vec (cInt .u8) (by decide) i7.f_B i6 h9)) rfl)) ?_
    refine am ?_
    refine aw (r_conv underlying3 underlying119 rfl) ?_
    obtain ⟨h10,hF⟩:=gd hF
    refine aw (r_ishr rfl rfl h10) ?_
    refine aw (r_ior rfl rfl) ?_
    refine fa 1 underlying36 rfl sizeOf34 ?_
    obtain ⟨h11,hF⟩:=gd hF
    refine aw (r_idxArr underlying34 sizeOf5 rfl rfl h11) ?_
    refine at_store (c:=(cInt .u8)) (z:=ior .u8 (vget i7.f_B i6) (ishr .u8 255 (wr .u64 (if 8<(if wr .i64 (x0.f_Bits-(wr .i64 (8*i6)))<0 then 0 else wr .i64 (x0.f_Bits-(wr .i64 (8*i6)))) then 8 else (if wr .i64 (x0.f_Bits-(wr .i64 (8*i6)))<0 then 0 else wr .i64 (x0.f_Bits-(wr .i64 (8*i6)))))))) .z (Lens.comp (Lens.comp lw (fun z=>{ i7 with f_B:=z }) (c_api_Addr_f_B i7)) (fun z=>vset i7.f_B i6 z) (Lens.vec (cInt .u8) (by decide) i7.f_B i6 h11)) sizeOf5 rfl rfl rfl ?_
    refine qn (wq [11,10,3,2,1] ?_)
    refine bm ?_
    refine qr (aw xa (am (nwq [11,10,3,2,1] ?_)))
    exact at_weak_k (ih _ _ _ hF K) ⟨rfl,rfl,rfl,rfl,rfl,trivial⟩
   refine cf h8 ?_
   refine at_exit ?_
   refine te (te ?_)
   refine at_drop (H:=_) (.s (.s .z)) ?_
   obtain rfl:=os hF
   exact at_weak_k K ⟨rfl,rfl,trivial⟩
 skip
 skip
 refine at_blk_same ?_
 refine tn (sr ?_)
 refine aw (r_load_aggc (c:=c_api_Addr) (z:=q5) isAgg36 sizeOf36 rfl (lens_cell .z lw)) ?_
 refine at_store (c:=c_api_Addr) (z:=q5) (.s .z) lw sizeOf36 rfl rfl rfl ?_
 refine qn (dz (wq [2] ?_))
 refine tn (qt ?_)
 have K:=os hF
 subst K
 exact at_res1 rfl (res_cell (c:=c_api_Addr) (y:=q5) rfl .z lw isAgg36 sizeOf36 (.inl rfl)) wb
def aggregate_low.l0(x0:S_api_Addr)(i4:Int)(i5:Int):Option (Int) :=
 if (decide (i5≥0))=true then (addr_Bit x0 i5>>=fun t7=>if (t7==0)=true then (aggregate_low.l0 x0 (wr .i64 (i4+1)) (wr .i64 (i5-1))) else (some i4)) else (some i4)
 partial_fixpoint
def aggregate_low(x0:S_api_Addr):Option (Int) :=
 addr_Width x0>>=fun t2=>aggregate_low.l0 x0 0 (wr .i64 (t2-1))>>=fun q3=>some q3
theorem aggregate_low_ok(x0:S_api_Addr)(r:Int)(hF:aggregate_low x0=some r)(w:World) :
    Calls Tryz.prog 130 #[.agg (Cd.cs c_api_Addr x0).toArray] w (fun e w'=>e=.returned (.int .i64 r)∧Below w.heap.size w w'):=by
 unfold aggregate_low at hF
 refine ce (l:=[.agg (Cd.cs c_api_Addr x0).toArray]) func130 rfl rfl ?_
 refine at_start ?_
 refine sr ?_
 refine at_box (cs:=Cd.cs c_api_Addr x0) rfl rfl rfl ?_
 intro b1
 refine aa (ns (aa (nt (qs (sr ?_)))))
 refine aw (r_load_aggc (c:=c_api_Addr) (z:=x0) isAgg36 sizeOf36 rfl (lens_cell .z lw)) ?_
 obtain ⟨t2,ht2,hF⟩:=bM hF
 refine cB func118 rfl (fun w hw=>addr_Width_ok _ _ ht2 w) ?_
 refine aw (r_isub rfl rfl) ?_
 refine aa (nwq [4,3,1] ?_)
 refine qb ?_
 obtain ⟨q3,hq3,hF⟩:=bM hF
 refine wq [4,3,1] ?_
 refine at_loop_n (B:=0) (A:=fun Y=>At 21 [(3,.int .i64 q3)] (Wd w []) Y) ?_ ?_
 ·intro K
  refine aggregate_low.l0.partial_correctness x0 (motive:=fun i4 i5 x=>KN (fun Y=>At 21 [(3,.int .i64 x)] (Wd w []) Y) _ 0→Round (fun Y=>At 21 [(1,.pointer (some ⟨b1,0,none⟩)),(3,.int .i64 i4),(4,.int .i64 i5)] (Wd w [cellsE b1 (Cd.cs c_api_Addr x0) 36]) Y) _ _ _) ?_ _ _ _ hq3 K
  ·clear K hF
   intro g ih i4 i5 x hF K
   refine at_round ?_
   refine qs (sr (am ?_))
   refine aw (r_igeq rfl rfl) ?_
   refine am ?_
   obtain ⟨h6,hF⟩|⟨h6,hF⟩:=oi hF
   ·refine fx 10 h6 ?_
    refine gy ?_
    refine aw (r_load_aggc (c:=c_api_Addr) (z:=x0) isAgg36 sizeOf36 rfl (lens_cell .z lw)) ?_
    refine gy ?_
    refine am ?_
    refine gy ?_
    obtain ⟨t7,ht7,hF⟩:=bM hF
    refine cB func164 rfl (fun w hw=>addr_Bit_ok _ _ _ ht7 w) ?_
    refine gy ?_
    refine aw xq (aw xp (nwq [15,4,3,1] ?_))
    obtain ⟨h8,hF⟩|⟨h8,hF⟩:=oi hF
    ·refine ct h8 ?_
     refine sn (qs ?_)
     refine qb ?_
     refine qr (am (aw xa (aa (qn (wq [4,3,1] ?_)))))
     refine bm ?_
     refine qr (am ?_)
     refine aw (r_isub rfl rfl) ?_
     refine aa (nwq [4,3,1] ?_)
     exact at_weak_k (ih _ _ _ hF K) ⟨rfl,rfl,rfl,trivial⟩
    refine cf h8 ?_
    refine at_exit ?_
    refine te (te ?_)
    refine dz ?_
    obtain rfl:=os hF
    exact at_weak_k K ⟨rfl,trivial⟩
   refine fx 10 h6 ?_
   refine gn ?_
   refine gn ?_
   refine gn ?_
   refine gn ?_
   refine aw xp (nwq [15,4,3,1] ?_)
   refine cf rfl ?_
   refine at_exit ?_
   refine te (te ?_)
   refine dz ?_
   obtain rfl:=os hF
   exact at_weak_k K ⟨rfl,trivial⟩
 skip
 skip
 refine at_blk_same ?_
 refine tn (sr (am (aa (nwq [2] ?_))))
 refine qt ?_
 have K:=os hF
 subst K
 exact r1 wb
def aggregate_greatest.l0(x0:S_api_Addr)(x1:S_api_Addr)(i9:Int)(i10:S_api_Prefix):Option (S_api_Prefix) :=
 aggregate_last i10>>=fun t11=>addr_Less x1 t11>>=fun t12=>if t12=true then (cidr_Of x0 (wr .i64 (i9+1))>>=fun t14=>aggregate_greatest.l0 x0 x1 (wr .i64 (i9+1)) t14.1) else (some i10)
 partial_fixpoint
def aggregate_greatest(x0:S_api_Addr)(x1:S_api_Addr):Option (S_api_Prefix) :=
 addr_Width x0>>=fun t4=>aggregate_low x0>>=fun t5=>cidr_Of x0 (wr .i64 (t4-t5))>>=fun t6=>aggregate_greatest.l0 x0 x1 (wr .i64 (t4-t5)) t6.1>>=fun q8=>some q8
theorem aggregate_greatest_ok(x0:S_api_Addr)(x1:S_api_Addr)(r:S_api_Prefix)(hF:aggregate_greatest x0 x1=some r)(w:World) :
    Calls Tryz.prog 107 #[.agg (Cd.cs c_api_Addr x0).toArray,.agg (Cd.cs c_api_Addr x1).toArray] w (fun e w'=>e=.returned (.agg (Cd.cs c_api_Prefix r).toArray)∧Below w.heap.size w w'):=by
 unfold aggregate_greatest at hF
 refine ce (l:=[.agg (Cd.cs c_api_Addr x0).toArray,.agg (Cd.cs c_api_Addr x1).toArray]) func107 rfl rfl ?_
 refine at_start ?_
 refine sr ?_
 refine at_box (cs:=Cd.cs c_api_Addr x0) rfl rfl rfl ?_
 intro b1
 refine at_box (cs:=Cd.cs c_api_Addr x1) rfl rfl rfl ?_
 intro b2
 refine al (cs:=Cd.cs c_api_Prefix zv9) zeroValue38 ?_
 intro b3
 refine ns ?_
 refine aw (r_load_aggc (c:=c_api_Addr) (z:=x0) isAgg36 sizeOf36 rfl (lens_cell (.s (.s .z)) lw)) ?_
 obtain ⟨t4,ht4,hF⟩:=bM hF
 refine cB func118 rfl (fun w hw=>addr_Width_ok _ _ ht4 w) ?_
 refine aa (ns (am ?_))
 refine aw (r_load_aggc (c:=c_api_Addr) (z:=x0) isAgg36 sizeOf36 rfl (lens_cell (.s (.s .z)) lw)) ?_
 obtain ⟨t5,ht5,hF⟩:=bM hF
 refine cB func130 rfl (fun w hw=>aggregate_low_ok _ _ ht5 w) ?_
 refine aw (r_isub rfl rfl) ?_
 refine aa (ns ?_)
 refine aw (r_load_aggc (c:=c_api_Addr) (z:=x0) isAgg36 sizeOf36 rfl (lens_cell (.s (.s .z)) lw)) ?_
 refine am ?_
 obtain ⟨t6,ht6,hF⟩:=bM hF
 refine cB func86 rfl (fun w hw=>cidr_Of_ok _ _ _ ht6 w) ?_
 refine am ?_
 refine aw xe (aw xe ?_)
 refine al (cs:=Cd.cs c_api_Prefix zv9) zeroValue38 ?_
 intro b7
 refine at_store (c:=c_api_Prefix) (z:=t6.1) .z lw sizeOf38 rfl rfl rfl ?_
 refine aa (nwq [7,6,4,3,2] ?_)
 refine qs ?_
 refine qb ?_
 obtain ⟨q8,hq8,hF⟩:=bM hF
 refine wq [7,6,4,3,2] ?_
 refine at_loop_n (B:=0) (A:=fun Y=>At 34 [(4,.pointer (some ⟨b3,0,none⟩)),(7,.pointer (some ⟨b7,0,none⟩))] (Wd w [cellsE b7 (Cd.cs c_api_Prefix q8) 38,cellsE b3 (Cd.cs c_api_Prefix zv9) 38]) Y) ?_ ?_
 ·intro K
  refine aggregate_greatest.l0.partial_correctness x0 x1 (motive:=fun i9 i10 x=>KN (fun Y=>At 34 [(4,.pointer (some ⟨b3,0,none⟩)),(7,.pointer (some ⟨b7,0,none⟩))] (Wd w [cellsE b7 (Cd.cs c_api_Prefix x) 38,cellsE b3 (Cd.cs c_api_Prefix zv9) 38]) Y) _ 0→Round (fun Y=>At 34 [(2,.pointer (some ⟨b1,0,none⟩)),(3,.pointer (some ⟨b2,0,none⟩)),(4,.pointer (some ⟨b3,0,none⟩)),(6,.int .i64 i9),(7,.pointer (some ⟨b7,0,none⟩))] (Wd w [cellsE b7 (Cd.cs c_api_Prefix i10) 38,cellsE b3 (Cd.cs c_api_Prefix zv9) 38,cellsE b2 (Cd.cs c_api_Addr x1) 36,cellsE b1 (Cd.cs c_api_Addr x0) 36]) Y) _ _ _) ?_ _ _ _ hq8 K
  ·clear K hF
   intro g ih i9 i10 x hF K
   refine at_round ?_
   refine qs (qs ?_)
   refine at_draw (by kernel_rfl) (by kernel_rfl) (fun _ h=>h.drew) ?_
   refine atq_val rfl rfl rfl (r_load_aggc (c:=c_api_Addr) (z:=x1) isAgg36 sizeOf36 rfl (lens_cell (.s (.s .z)) lw)) ?_
   refine atq_val rfl rfl rfl (r_load_aggc (c:=c_api_Prefix) (z:=i10) isAgg38 sizeOf38 rfl (lens_cell .z lw)) ?_
   obtain ⟨t11,ht11,hF⟩:=bM hF
   refine atq_call func105 rfl (by kernel_rfl) rfl rfl (fun w hw=>(aggregate_last_ok _ _ ht11 w).mono fun _ _ h=>⟨h.1,hw.call h.2⟩) ?_
   obtain ⟨t12,ht12,hF⟩:=bM hF
   refine atq_call func92 rfl (by kernel_rfl) rfl rfl (fun w hw=>(addr_Less_ok _ _ _ ht12 w).mono fun _ _ h=>⟨h.1,hw.call h.2⟩) ?_
   refine atq_nil ?_
   refine wq [24,7,6,4,3,2] ?_
   refine tn ?_
   obtain ⟨h13,hF⟩|⟨h13,hF⟩:=oi hF
   ·refine ct h13 ?_
    refine sn ?_
    refine qb ?_
    refine sr (am (aw xa (aa (nt (qr ?_)))))
    refine aw (r_load_aggc (c:=c_api_Addr) (z:=x0) isAgg36 sizeOf36 rfl (lens_cell (.s (.s (.s .z))) lw)) ?_
    refine am ?_
    obtain ⟨t14,ht14,hF⟩:=bM hF
    refine cB func86 rfl (fun w hw=>cidr_Of_ok _ _ _ ht14 w) ?_
    refine am ?_
    refine aw xe (aw xe ?_)
    refine at_store (c:=c_api_Prefix) (z:=t14.1) .z lw sizeOf38 rfl rfl rfl ?_
    refine qn (wq [7,6,4,3,2] ?_)
    refine bm ?_
    exact at_weak_k (ih _ _ _ hF K) ⟨rfl,rfl,rfl,rfl,rfl,trivial⟩
   refine cf h13 ?_
   refine at_exit ?_
   refine te (te ?_)
   refine at_drop (H:=_) (.s (.s .z)) ?_
   refine at_drop (H:=_) (.s (.s .z)) ?_
   obtain rfl:=os hF
   exact at_weak_k K ⟨rfl,rfl,trivial⟩
 skip
 skip
 refine at_blk_same ?_
 refine tn (sr ?_)
 refine aw (r_load_aggc (c:=c_api_Prefix) (z:=q8) isAgg38 sizeOf38 rfl (lens_cell .z lw)) ?_
 refine at_store (c:=c_api_Prefix) (z:=q8) (.s .z) lw sizeOf38 rfl rfl rfl ?_
 refine qn (dz (wq [4] ?_))
 refine tn (qt ?_)
 have K:=os hF
 subst K
 exact at_res1 rfl (res_cell (c:=c_api_Prefix) (y:=q8) rfl .z lw isAgg38 sizeOf38 (.inl rfl)) wb
def aggregate_Prefixes.l0(x0:S_aggregate_Range)(i9:List S_api_Prefix)(i10:S_api_Addr):Option (List S_api_Prefix) :=
 aggregate_greatest i10 x0.f_To>>=fun t13=>if (i9.length+1)*32≤140737488355328 then aggregate_last t13>>=fun t19=>aggregate_Next t19>>=fun t20=>if (!t20.2)=true then (some (i9++[t13])) else (addr_Less x0.f_To t20.1>>=fun t23=>if t23=true then (some (i9++[t13])) else (aggregate_Prefixes.l0 x0 (i9++[t13]) t20.1)) else none
 partial_fixpoint
def aggregate_Prefixes(x0:S_aggregate_Range):Option (List S_api_Prefix) :=
 aggregate_Right x0>>=fun t2=>if (!t2)=true then (some ([])) else (aggregate_Prefixes.l0 x0 ([]:List S_api_Prefix) x0.f_From>>=fun q7=>some q7)
theorem aggregate_Prefixes_ok(x0:S_aggregate_Range)(r:List S_api_Prefix)(hF:aggregate_Prefixes x0=some r)(w:World) :
    Calls Tryz.prog 76 #[.agg (Cd.cs c_aggregate_Range x0).toArray] w (fun e w'=>∃ p cap,e=.returned (.slice p r.length cap)∧Own c_api_Prefix 38 w.heap.size w' p cap r∧Below w.heap.size w w'):=by
 unfold aggregate_Prefixes at hF
 refine ce (l:=[.agg (Cd.cs c_aggregate_Range x0).toArray]) func76 rfl rfl ?_
 refine at_start ?_
 refine sr ?_
 refine at_box (cs:=Cd.cs c_aggregate_Range x0) rfl rfl rfl ?_
 intro b1
 refine aa (nt (qs (sr ?_)))
 refine aw (r_load_aggc (c:=c_aggregate_Range) (z:=x0) isAgg112 sizeOf112 rfl (lens_cell .z lw)) ?_
 obtain ⟨t2,ht2,hF⟩:=bM hF
 refine cB func106 rfl (fun w hw=>aggregate_Right_ok _ _ ht2 w) ?_
 refine aw (r_not rfl) ?_
 refine nwq [10,1] ?_
 obtain ⟨h3,hF⟩|⟨h3,hF⟩:=oi hF
 ·refine ct h3 ?_
  refine sr (aa (qn (dz (wq [2] ?_))))
  refine tn (rt ?_)
  have K:=os hF
  subst K
  exact r1 (fun w1 hw=>⟨none,0,rfl,Own.nil _ _ _ _,hw.below⟩)
 refine cf h3 ?_
 refine sns (aa (ns (fa 0 underlying112 rfl sizeOf36 ?_)))
 refine aw (r_load_aggc (c:=c_api_Addr) (z:=x0.f_From) isAgg36 sizeOf36 rfl (lens_cell .z (Lens.comp lw (fun z=>{ x0 with f_From:=z }) (c_aggregate_Range_f_From x0)))) ?_
 refine al (cs:=Cd.cs c_api_Addr zv1) zeroValue36 ?_
 intro b4
 refine at_store (c:=c_api_Addr) (z:=x0.f_From) .z lw sizeOf36 rfl rfl rfl ?_
 refine nwq [4,3,1] ?_
 refine qb ?_
 refine at_own_nil c_api_Prefix 38 ?_
 obtain ⟨q7,hq7,hF⟩:=bM hF
 refine wq [4,3,1] ?_
 refine at_loop_only (r:=r) (q:=q7) ?_ ?_
 ·intro K
  refine aggregate_Prefixes.l0.partial_correctness x0 (motive:=fun i9 i10 x=>x=r→Round (fun Y=>∀ (p11:Option Addr) (c12:Nat),At 37 [(1,.pointer (some ⟨b1,0,none⟩)),(3,.slice p11 i9.length c12),(4,.pointer (some ⟨b4,0,none⟩))] (Wd w [rowE c_api_Prefix 38 p11 c12 i9,cellsE b4 (Cd.cs c_api_Addr i10) 36,cellsE b1 (Cd.cs c_aggregate_Range x0) 112]) Y) _ _ _) ?_ _ _ _ hq7 K none 0
  ·clear K hF
   intro g ih i9 i10 x hF K p11 c12
   refine at_round ?_
   refine qb ?_
   refine sr ?_
   refine aw (r_load_aggc (c:=c_api_Addr) (z:=i10) isAgg36 sizeOf36 rfl (lens_cell (.s .z) lw)) ?_
   refine fa 17 underlying112 rfl sizeOf36 ?_
   refine aw (r_load_aggc (c:=c_api_Addr) (z:=x0.f_To) isAgg36 sizeOf36 rfl (lens_cell (.s (.s .z)) (Lens.comp lw (fun z=>{ x0 with f_To:=z }) (c_aggregate_Range_f_To x0)))) ?_
   obtain ⟨t13,ht13,hF⟩:=bM hF
   refine cB func107 rfl (fun w hw=>aggregate_greatest_ok _ _ _ ht13 w) ?_
   refine al (cs:=Cd.cs c_api_Prefix zv9) zeroValue38 ?_
   intro b14
   refine at_store (c:=c_api_Prefix) (z:=t13) .z lw sizeOf38 rfl rfl rfl ?_
   refine ns (am ?_)
   refine aw (r_load_aggc (c:=c_api_Prefix) (z:=t13) isAgg38 sizeOf38 rfl (lens_cell .z lw)) ?_
   refine at_litL (c:=c_api_Prefix) ([zv9]:List S_api_Prefix) ([t13]:List S_api_Prefix) underlying58 sizeOf38 zeroValue38 rfl rfl rfl (by kernel_rfl) (fill_step (c:=c_api_Prefix) (z:=t13) rfl (Lens.all c_api_Prefix ([zv9]:List S_api_Prefix) 0 (by first | decide | exact Nat.le_of_ble_eq_true rfl)) rfl rfl) rfl ?_
   intro b15
   obtain ⟨h16,hF⟩:=gd hF
   refine at_append (z:=.agg (Cd.cs c_api_Prefix zv9).toArray) (c:=c_api_Prefix) (ys:=([t13]:List S_api_Prefix)) (.s (.s .z)) underlying58 infoA238 (by kernel_rfl) (by kernel_rfl) rfl rfl rfl rfl (fun _ hw=>cells_src (hw.ok (Upd.mem .z))) (by kernel_rfl) h16 (app_small h16) rfl ?_
   intro p17 c18
   refine aa (qn (dz (tn (sr ?_))))
   refine aw (r_load_aggc (c:=c_api_Prefix) (z:=t13) isAgg38 sizeOf38 rfl (lens_cell .z lw)) ?_
   obtain ⟨t19,ht19,hF⟩:=bM hF
   refine cB func105 rfl (fun w hw=>aggregate_last_ok _ _ ht19 w) ?_
   obtain ⟨t20,ht20,hF⟩:=bM hF
   refine cB func108 rfl (fun w hw=>aggregate_Next_ok _ _ ht20 w) ?_
   refine am ?_
   refine aw xe (aw xe ?_)
   refine al (cs:=Cd.cs c_api_Addr zv1) zeroValue36 ?_
   intro b21
   refine at_store (c:=c_api_Addr) (z:=t20.1) .z lw sizeOf36 rfl rfl rfl ?_
   refine aa (qn ?_)
   refine at_drop (H:=_) (.s .z) ?_
   refine wq [7,6,4,3,1] ?_
   refine tn (qs (sr (am ?_)))
   refine aw (r_not rfl) ?_
   refine am ?_
   obtain ⟨h22,hF⟩|⟨h22,hF⟩:=oi hF
   ·refine fx 29 h22 ?_
    refine gn ?_
    refine gn ?_
    refine gn ?_
    refine gn ?_
    refine aw xp (nwq [34,6,4,3,1] ?_)
    refine ct rfl ?_
    refine sr (am (aa (qn (dz ?_))))
    refine at_drop (H:=_) (.s .z) ?_
    refine at_drop (H:=_) (.s .z) ?_
    refine wq [2] ?_
    refine tn (qt ?_)
    refine tr (br (tr (br ?_)))
    obtain rfl:=os hF
    subst K
    exact r1 (fun w1 hw=>⟨p17,c18,rfl,hw.own .z,hw.below⟩)
   refine fx 29 h22 ?_
   refine gy ?_
   refine fa 17 underlying112 rfl sizeOf36 ?_
   refine gy ?_
   refine aw (r_load_aggc (c:=c_api_Addr) (z:=x0.f_To) isAgg36 sizeOf36 rfl (lens_cell (.s (.s (.s .z))) (Lens.comp lw (fun z=>{ x0 with f_To:=z }) (c_aggregate_Range_f_To x0)))) ?_
   refine gy ?_
   refine aw (r_load_aggc (c:=c_api_Addr) (z:=t20.1) isAgg36 sizeOf36 rfl (lens_cell .z lw)) ?_
   refine gy ?_
   obtain ⟨t23,ht23,hF⟩:=bM hF
   refine cB func92 rfl (fun w hw=>addr_Less_ok _ _ _ ht23 w) ?_
   refine aw xp (nwq [34,6,4,3,1] ?_)
   obtain ⟨h24,hF⟩|⟨h24,hF⟩:=oi hF
   ·refine ct h24 ?_
    refine sr (am (aa (qn (dz ?_))))
    refine at_drop (H:=_) (.s .z) ?_
    refine at_drop (H:=_) (.s .z) ?_
    refine wq [2] ?_
    refine tn (qt ?_)
    refine tr (br (tr (br ?_)))
    obtain rfl:=os hF
    subst K
    exact r1 (fun w1 hw=>⟨p17,c18,rfl,hw.own .z,hw.below⟩)
   refine cf h24 ?_
   refine sn (qr ?_)
   refine aw (r_load_aggc (c:=c_api_Addr) (z:=t20.1) isAgg36 sizeOf36 rfl (lens_cell .z lw)) ?_
   refine at_store (c:=c_api_Addr) (z:=t20.1) (.s (.s .z)) lw sizeOf36 rfl rfl rfl ?_
   refine qn (dz (wq [4,3,1] ?_))
   refine bm ?_
   exact at_weak_k (ih _ _ _ hF K p17 c18) ⟨rfl,rfl,rfl,trivial⟩
 exact os hF
def aggregate_order(x0:S_api_Prefix)(x1:S_api_Prefix):Option (Int) :=
 cidr_Less x0 x1>>=fun t3=>if t3=true then (some (-1)) else (cidr_Less x1 x0>>=fun t5=>if t5=true then (some 1) else (some 0))
theorem aggregate_order_ok(x0:S_api_Prefix)(x1:S_api_Prefix)(r:Int)(hF:aggregate_order x0 x1=some r)(w:World) :
    Calls Tryz.prog 103 #[.agg (Cd.cs c_api_Prefix x0).toArray,.agg (Cd.cs c_api_Prefix x1).toArray] w (fun e w'=>e=.returned (.int .i64 r)∧Below w.heap.size w w'):=by
 unfold aggregate_order at hF
 refine ce (l:=[.agg (Cd.cs c_api_Prefix x0).toArray,.agg (Cd.cs c_api_Prefix x1).toArray]) func103 rfl rfl ?_
 refine at_start ?_
 refine sr ?_
 refine at_box (cs:=Cd.cs c_api_Prefix x0) rfl rfl rfl ?_
 intro b1
 refine at_box (cs:=Cd.cs c_api_Prefix x1) rfl rfl rfl ?_
 intro b2
 refine aa (nwq [3,2] ?_)
 refine qs ?_
 refine qb ?_
 refine sr ?_
 refine aw (r_load_aggc (c:=c_api_Prefix) (z:=x0) isAgg38 sizeOf38 rfl (lens_cell (.s .z) lw)) ?_
 refine aw (r_load_aggc (c:=c_api_Prefix) (z:=x1) isAgg38 sizeOf38 rfl (lens_cell .z lw)) ?_
 obtain ⟨t3,ht3,hF⟩:=bM hF
 refine cB func70 rfl (fun w hw=>cidr_Less_ok _ _ _ ht3 w) ?_
 refine aa (nwq [5,3,2] ?_)
 obtain ⟨h4,hF⟩|⟨h4,hF⟩:=oi hF
 ·refine ct h4 ?_
  refine sr (aa (qn (dz (dz (wq [4] ?_)))))
  refine tn (qt ?_)
  refine br (tr ?_)
  have K:=os hF
  subst K
  exact r1 wb
 refine cf h4 ?_
 refine sr ?_
 refine aw (r_load_aggc (c:=c_api_Prefix) (z:=x1) isAgg38 sizeOf38 rfl (lens_cell .z lw)) ?_
 refine aw (r_load_aggc (c:=c_api_Prefix) (z:=x0) isAgg38 sizeOf38 rfl (lens_cell (.s .z) lw)) ?_
 obtain ⟨t5,ht5,hF⟩:=bM hF
 refine cB func70 rfl (fun w hw=>cidr_Less_ok _ _ _ ht5 w) ?_
 refine aa (qn (dz (dz (wq [9] ?_))))
 refine tn ?_
 obtain ⟨h6,hF⟩|⟨h6,hF⟩:=oi hF
 ·refine ct h6 ?_
  refine sr (aa (nwq [4] ?_))
  refine qt ?_
  refine br (tr ?_)
  have K:=os hF
  subst K
  exact r1 wb
 refine cf h6 ?_
 refine at_skip ?_
 refine bm ?_
 refine sr (aa (nwq [4] ?_))
 refine qt ?_
 have K:=os hF
 subst K
 exact r1 wb
def aggregate_joins(x0:S_aggregate_Range)(x1:S_api_Prefix):Option (Bool) :=
 if (x0.f_From.f_V != x1.f_A.f_V)=true then (some false) else (aggregate_Next x0.f_To>>=fun t4=>if (!t4.2)=true then (some true) else (addr_Less t4.1 x1.f_A>>=fun t7=>some (!t7)))
theorem aggregate_joins_ok(x0:S_aggregate_Range)(x1:S_api_Prefix)(r:Bool)(hF:aggregate_joins x0 x1=some r)(w:World) :
    Calls Tryz.prog 104 #[.agg (Cd.cs c_aggregate_Range x0).toArray,.agg (Cd.cs c_api_Prefix x1).toArray] w (fun e w'=>e=.returned (.bool r)∧Below w.heap.size w w'):=by
 unfold aggregate_joins at hF
 refine ce (l:=[.agg (Cd.cs c_aggregate_Range x0).toArray,.agg (Cd.cs c_api_Prefix x1).toArray]) func104 rfl rfl ?_
 refine at_start ?_
 refine sr ?_
 refine at_box (cs:=Cd.cs c_aggregate_Range x0) rfl rfl rfl ?_
 intro b1
 refine at_box (cs:=Cd.cs c_api_Prefix x1) rfl rfl rfl ?_
 intro b2
 refine aa (nt (qs (sr (fa 0 underlying112 rfl sizeOf36 (fa 0 underlying36 rfl sizeOf3 ?_)))))
 refine aw (r_load_cell isAgg3 rfl (lens_cell0 (c:=(cInt .i64)) (y:=x0.f_From.f_V) (.s .z) (Lens.comp (Lens.comp lw (fun z=>{ x0 with f_From:=z }) (c_aggregate_Range_f_From x0)) (fun z=>{ x0.f_From with f_V:=z }) (c_api_Addr_f_V x0.f_From)) rfl)) ?_
 refine fa 0 underlying38 rfl sizeOf36 (fa 0 underlying36 rfl sizeOf3 ?_)
 refine aw (r_load_cell isAgg3 rfl (lens_cell0 (c:=(cInt .i64)) (y:=x1.f_A.f_V) .z (Lens.comp (Lens.comp lw (fun z=>{ x1 with f_A:=z }) (c_api_Prefix_f_A x1)) (fun z=>{ x1.f_A with f_V:=z }) (c_api_Addr_f_V x1.f_A)) rfl)) ?_
 refine aw xn (nwq [13,3,2] ?_)
 obtain ⟨h3,hF⟩|⟨h3,hF⟩:=oi hF
 ·refine ct h3 ?_
  refine sr (aa (qn (dz (dz (wq [4] ?_)))))
  refine tn (rt ?_)
  have K:=os hF
  subst K
  exact r1 wb
 refine cf h3 ?_
 refine sns (fa 17 underlying112 rfl sizeOf36 ?_)
 refine aw (r_load_aggc (c:=c_api_Addr) (z:=x0.f_To) isAgg36 sizeOf36 rfl (lens_cell (.s .z) (Lens.comp lw (fun z=>{ x0 with f_To:=z }) (c_aggregate_Range_f_To x0)))) ?_
 obtain ⟨t4,ht4,hF⟩:=bM hF
 refine cB func108 rfl (fun w hw=>aggregate_Next_ok _ _ ht4 w) ?_
 refine am ?_
 refine aw xe (aw xe ?_)
 refine al (cs:=Cd.cs c_api_Addr zv1) zeroValue36 ?_
 intro b5
 refine at_store (c:=c_api_Addr) (z:=t4.1) .z lw sizeOf36 rfl rfl rfl ?_
 refine aa (qn ?_)
 refine at_drop (H:=_) (.s (.s .z)) ?_
 refine wq [6,5,3] ?_
 refine tn (sr (am ?_))
 refine aw (r_not rfl) ?_
 refine am ?_
 obtain ⟨h6,hF⟩|⟨h6,hF⟩:=oi hF
 ·refine fx 22 h6 ?_
  refine gn ?_
  refine gn ?_
  refine gn ?_
  refine gn ?_
  refine gn ?_
  refine aw xp (aa (qn (dz (dz (wq [4] ?_)))))
  refine tn (qt ?_)
  have K:=os hF
  subst K
  exact r1 wb
 refine fx 22 h6 ?_
 refine gy ?_
 refine aw (r_load_aggc (c:=c_api_Addr) (z:=t4.1) isAgg36 sizeOf36 rfl (lens_cell .z lw)) ?_
 refine gy ?_
 refine fa 0 underlying38 rfl sizeOf36 ?_
 refine gy ?_
 refine aw (r_load_aggc (c:=c_api_Addr) (z:=x1.f_A) isAgg36 sizeOf36 rfl (lens_cell (.s .z) (Lens.comp lw (fun z=>{ x1 with f_A:=z }) (c_api_Prefix_f_A x1)))) ?_
 refine gy ?_
 obtain ⟨t7,ht7,hF⟩:=bM hF
 refine cB func92 rfl (fun w hw=>addr_Less_ok _ _ _ ht7 w) ?_
 refine gy ?_
 refine aw (r_not rfl) ?_
 refine aw xp (aa (qn (dz (dz (wq [4] ?_)))))
 refine tn (qt ?_)
 have K:=os hF
 subst K
 exact r1 wb
end Go.Proofs.YtahlbjmafceoeaaGreatDoor
namespace Go.Proofs.YtahlbjmafceoeaaGreatDoor
open E Go.RowKit _root_.Go.Proofs.Tryz
theorem infoA338_is:(Tryz.prog.info? 38).isSome=true:=by kernel_rfl
noncomputable def infoA338_v:TypeInfo:=(Tryz.prog.info? 38).get infoA338_is
theorem infoA338:Tryz.prog.info? 38=some infoA338_v:=(Option.some_get _).symm
def aggregate_Ranges_1(x0:S_api_Prefix):Option (Bool) :=
 cidr_Right x0>>=fun t2=>some (!t2)
theorem aggregate_Ranges_1_ok(x0:S_api_Prefix)(r:Bool)(hF:aggregate_Ranges_1 x0=some r)(w:World) :
    Calls Tryz.prog 101 #[.agg (Cd.cs c_api_Prefix x0).toArray] w (fun e w'=>e=.returned (.bool r)∧Below w.heap.size w w'):=by
 unfold aggregate_Ranges_1 at hF
 refine ce (l:=[.agg (Cd.cs c_api_Prefix x0).toArray]) func101 rfl rfl ?_
 refine at_start ?_
 refine sr ?_
 refine at_box (cs:=Cd.cs c_api_Prefix x0) rfl rfl rfl ?_
 intro b1
 refine aa (ns ?_)
 refine aw (r_load_aggc (c:=c_api_Prefix) (z:=x0) isAgg38 sizeOf38 rfl (lens_cell .z lw)) ?_
 obtain ⟨t2,ht2,hF⟩:=bM hF
 refine cB func61 rfl (fun w hw=>cidr_Right_ok _ _ ht2 w) ?_
 refine aw (r_not rfl) ?_
 refine aa (qn (dz (wq [2] ?_)))
 refine tn (qt ?_)
 have K:=os hF
 subst K
 exact r1 wb
def slices_IndexFunc_api_Prefix__aggregate_Ranges_1.l0(x0:List S_api_Prefix)(i2:Int):Option (Ctl (Int) (Unit)) :=
 if (decide (i2<(x0.length:Int)))=true then (if (0:Int)≤i2∧i2<(x0.length:Int) then aggregate_Ranges_1 (lget x0 i2)>>=fun t8=>if t8=true then (some (.ret i2)) else (slices_IndexFunc_api_Prefix__aggregate_Ranges_1.l0 x0 (wr .i64 (i2+1))) else none) else (some (.nx ()))
 partial_fixpoint
def slices_IndexFunc_api_Prefix__aggregate_Ranges_1(x0:List S_api_Prefix):Option (Int) :=
 slices_IndexFunc_api_Prefix__aggregate_Ranges_1.l0 x0 0>>=fun q1=>match q1 with | .ret r'=>some r' | .nx sq1=>(some (-1))
theorem slices_IndexFunc_api_Prefix__aggregate_Ranges_1_ok(x0:List S_api_Prefix)(p0_:Option Addr)(c0_:Nat)(r:Int)(hF:slices_IndexFunc_api_Prefix__aggregate_Ranges_1 x0=some r)(w:World)(hr0:Row c_api_Prefix w p0_ c0_ x0) :
    Calls Tryz.prog 128 #[.slice p0_ x0.length c0_,.func (.func 101) #[] #[]] w (fun e w'=>e=.returned (.int .i64 r)∧Below w.heap.size w w'):=by
 unfold slices_IndexFunc_api_Prefix__aggregate_Ranges_1 at hF
 refine ce (l:=[.slice p0_ x0.length c0_,.func (.func 101) #[] #[]]) func128 rfl rfl ?_
 refine at_start ?_
 refine sr (aa (nt (qs (sr (am ?_)))))
 refine aw (r_len_sl underlying58 rfl) ?_
 refine am (nwq [8,7,1,0] ?_)
 refine qb ?_
 obtain ⟨q1,hq1,hF⟩:=bM hF
 refine wq [8,7,1,0] ?_
 refine at_loop_r (B:=0) (r:=r) (q:=q1) (A:=fun (_:Unit) Y=>At 19 [] (Wd w []) Y) ?_ ?_
 ·intro K
  refine slices_IndexFunc_api_Prefix__aggregate_Ranges_1.l0.partial_correctness x0 (motive:=fun i2 x=>KR (fun (_:Unit) Y=>At 19 [] (Wd w []) Y) _ 0 r x→Round (fun Y=>At 19 [(0,.slice p0_ x0.length c0_),(1,.func (.func 101) #[] #[]),(7,.int .i64 (x0.length:Int)),(8,.int .i64 i2)] (Wd w []) Y) _ _ _) ?_ _ _ hq1 K
  ·clear K hF
   intro g ih i2 x hF K
   refine at_round ?_
   refine sr (aw xl (nwq [9,8,7,1,0] ?_))
   refine qs ?_
   obtain ⟨h3,hF⟩|⟨h3,hF⟩:=oi hF
   ·refine ct h3 ?_
    refine sn (qs ?_)
    refine qb ?_
    refine sr (am (aa (nwx [8,7,5,1,0] ?_)))
    refine am (am (am ?_))
    obtain ⟨h4,hF⟩:=gd hF
    obtain ⟨b6,o7,hp5⟩:=row_ptr hr0 h4
    refine aw (r_idx underlying58 sizeOf38 rfl rfl h4 hp5) ?_
    refine aw (r_load_aggc (c:=c_api_Prefix) (z:=lget x0 i2) isAgg38 sizeOf38 rfl (row_cell (fun _ h=>h.below) hr0 h4 hp5)) ?_
    refine at_callee rfl ?_
    obtain ⟨t8,ht8,hF⟩:=bM hF
    refine cB func101 rfl (fun w hw=>aggregate_Ranges_1_ok _ _ ht8 w) ?_
    refine nwq [16,8,7,5,1,0] ?_
    obtain ⟨h9,hF⟩|⟨h9,hF⟩:=oi hF
    ·refine ct h9 ?_
     refine sr (am (aa (nwq [4] ?_)))
     refine qt ?_
     refine br (tr (tr (br (tr ?_))))
     obtain rfl:=os hF
     subst K
     exact r1 wb
    refine cf h9 ?_
    refine at_skip ?_
    refine bm ?_
    refine qr (aw xa (am (nwq [8,7,1,0] ?_)))
    exact at_weak_k (ih _ _ hF K) ⟨rfl,rfl,rfl,rfl,trivial⟩
   refine cf h3 ?_
   refine at_exit ?_
   refine te (te ?_)
   obtain rfl:=os hF
   exact at_weak_k K trivial
 cases q1 with
 | ret r'=>exact os hF
 | nx sq1 =>
  skip
  refine at_blk_same ?_
  refine tn (sr (aa (nwq [4] ?_)))
  refine qt ?_
  have K:=os hF
  subst K
  exact r1 wb
def slices_Clone_api_Prefix(x0:List S_api_Prefix):Option (List S_api_Prefix):=if (0+x0.length)*32≤140737488355328 then some x0 else none
theorem slices_Clone_api_Prefix_ok(x0:List S_api_Prefix)(p:Option Addr)(cap:Nat)(r:List S_api_Prefix)(hF:slices_Clone_api_Prefix x0=some r)(w:World)(hr:Row c_api_Prefix w p cap x0) :
    Calls Tryz.prog 100 #[.slice p x0.length cap] w (fun e w'=>∃ p' cap',e=.returned (.slice p' r.length cap')∧Own c_api_Prefix 38 w.heap.size w' p' cap' r∧Below w.heap.size w w'):=by
 unfold slices_Clone_api_Prefix at hF
 obtain ⟨h,hF⟩:=gd hF
 obtain rfl:=os hF
 have heq:∀ w1,(binOp .eql 58 (.slice p x0.length cap) (.slice none 0 0)).run Tryz.prog w1=.ok (.bool p.isNone) w1:=fun w1=>Lib.run_eql_slice_nil w1 _ _ p x0.length cap 0 0 underlying58
 refine ce (l:=[.slice p x0.length cap]) func100 rfl rfl ?_
 refine at_start ?_
 refine sr (aa (qn (tn (qs (sr (am ?_))))))
 refine at_val (v:=.bool p.isNone) rfl rfl rfl (fun a w1 h _=>?_) ?_
 ·have hx:a.eval (.tmp 3)=.slice p x0.length cap:=h.eval rfl
  have hy:a.eval (.const (.slice none 0 0))=.slice none 0 0:=rfl
  have hg:∀ (t:TypeId) (x y:Operand),(eqGuard .eql t x y (.slice p x0.length cap) (.slice none 0 0)).run Tryz.prog w1=.ok () w1:=fun t x y=>rfl
  simp only [execOp,hx,hy,Sem.run_bind,hg,Result.andThen_ok,heq]
  rfl
 refine qn (tn ?_)
 rcases hp:p with _ | a0
 ·have hxs:x0=[]:=by
   rcases hr.2 with h0 | ⟨b,o,hb,_⟩
   ·exact h0
   ·rw [hp] at hb;cases hb
  subst hxs
  refine ct rfl ?_
  refine sr (aa (qn (tn (rt ?_))))
  exact r1 (fun w1 hw=>⟨none,0,rfl,Own.nil _ _ _ _,hw.below⟩)
 refine cf rfl ?_
 refine sns ?_
 refine at_lit0 c_api_Prefix underlying58 sizeOf38 rfl ?_
 intro b
 refine am ?_
 refine at_append_row (z:=.agg (Cd.cs c_api_Prefix zv9).toArray) (c:=c_api_Prefix) (ys:=x0) .z underlying58 infoA338 (by kernel_rfl) (by kernel_rfl) rfl rfl rfl (fun w1 hw=>hp▸hr.below hw.below) (by kernel_rfl) h (app_small h) rfl ?_
 intro p' cap'
 refine aa (qn (tn (qt ?_)))
 exact r1 (fun w1 hw=>⟨p',cap',rfl,hw.own .z,hw.below⟩)
def slices_DeleteFunc_api_Prefix__aggregate_Ranges_1.l0(i6:List S_api_Prefix)(i7:Int)(i9:Int):Option (List S_api_Prefix×Int) :=
 if (decide (i9<(i6.length:Int)))=true then (if (0:Int)≤i9∧i9<(i6.length:Int) then aggregate_Ranges_1 (lget i6 i9)>>=fun t20=>if (!t20)=true then (if (0:Int)≤i7∧i7<(i6.length:Int) then slices_DeleteFunc_api_Prefix__aggregate_Ranges_1.l0 (lset i6 i7 (lget i6 i9)) (wr .i64 (i7+1)) (wr .i64 (i9+1)) else none) else (slices_DeleteFunc_api_Prefix__aggregate_Ranges_1.l0 i6 i7 (wr .i64 (i9+1))) else none) else (some (i6,i7))
 partial_fixpoint
def slices_DeleteFunc_api_Prefix__aggregate_Ranges_1(x0:List S_api_Prefix):Option (List S_api_Prefix) :=
 slices_IndexFunc_api_Prefix__aggregate_Ranges_1 x0>>=fun t1=>if (t1==(-1))=true then (some x0) else (slices_DeleteFunc_api_Prefix__aggregate_Ranges_1.l0 x0 t1 (wr .i64 (t1+1))>>=fun q5=>if (0:Int)≤q5.2∧q5.2≤(q5.1.length:Int)∧(q5.1.length:Int)≤(q5.1.length:Int) then if (0:Int)≤q5.2∧q5.2≤((List.take (Int.toNat q5.2) q5.1++List.replicate (List.length q5.1-Int.toNat q5.2) ({ f_A:=({ f_V:=(0:Int),f_B:=(Vector.replicate 16 (0:Int):(Vector Int 16)) }:S_api_Addr),f_Bits:=(0:Int) }:S_api_Prefix)).length:Int) then some (List.take (Int.toNat q5.2) (List.take (Int.toNat q5.2) q5.1++List.replicate (List.length q5.1-Int.toNat q5.2) ({ f_A:=({ f_V:=(0:Int),f_B:=(Vector.replicate 16 (0:Int):(Vector Int 16)) }:S_api_Addr),f_Bits:=(0:Int) }:S_api_Prefix))) else none else none)
theorem slices_DeleteFunc_api_Prefix__aggregate_Ranges_1_ok{x0:List S_api_Prefix}{r:List S_api_Prefix}(hF:slices_DeleteFunc_api_Prefix__aggregate_Ranges_1 x0=some r):∀ {w0 w:World} {G_:List Ent} {p0_:Option Addr} {c0_:Nat} (hw_:Wd w0 (rowE c_api_Prefix 38 p0_ c0_ x0::G_) w),
    Calls Tryz.prog 99 #[.slice p0_ x0.length c0_,.func (.func 101) #[] #[]] w (fun e w'=>∃ (p:Option Addr) (cap:Nat),e=.returned (.slice p r.length cap)∧Wd w0 (rowE c_api_Prefix 38 p cap r::G_) w'):=by
 intro w0 w G_ p0_ c0_ hw_
 unfold slices_DeleteFunc_api_Prefix__aggregate_Ranges_1 at hF
 refine ce (l:=[.slice p0_ x0.length c0_,.func (.func 101) #[] #[]]) func99 rfl rfl ?_
 refine at_enterF hw_ ?_
 refine sr (aa (ns (am (am ?_))))
 obtain ⟨t1,ht1,hF⟩:=bM hF
 refine cB func128 rfl (fun w hw=>slices_IndexFunc_api_Prefix__aggregate_Ranges_1_ok _ _ _ _ ht1 w (hw.own .z).row) ?_
 refine aa (nt (qs (sr (am (aw xq (nwq [12,5,1,0] ?_))))))
 obtain ⟨h2,hF⟩|⟨h2,hF⟩:=oi hF
 ·refine ct h2 ?_
  refine sr (am (aa (nwq [4] ?_)))
  refine rt ?_
  have K:=os hF
  subst K
  exact r1 (fun w1 hw=>⟨p0_,c0_,rfl,hw⟩)
 refine cf h2 ?_
 refine sn (qs (sr (am (aw xa (aa (nwq [6,5,1,0] ?_))))))
 refine qb ?_
 obtain ⟨q5,hq5,hF⟩:=bM hF
 refine wq [6,5,1,0] ?_
 refine at_loop_n (B:=0) (A:=fun Y=>∀ (p12:Option Addr) (c13:Nat),At 42 [(0,.slice p12 q5.1.length c13),(5,.int .i64 q5.2)] (Wd w0 (rowE c_api_Prefix 38 p12 c13 q5.1::G_)) Y) ?_ ?_
 ·intro K
  refine slices_DeleteFunc_api_Prefix__aggregate_Ranges_1.l0.partial_correctness  (motive:=fun i6 i7 i9 x=>KN (fun Y=>∀ (p12:Option Addr) (c13:Nat),At 42 [(0,.slice p12 x.1.length c13),(5,.int .i64 x.2)] (Wd w0 (rowE c_api_Prefix 38 p12 c13 x.1::G_)) Y) _ 0→Round (fun Y=>∀ (p10:Option Addr) (c11:Nat),At 42 [(0,.slice p10 i6.length c11),(1,.func (.func 101) #[] #[]),(5,.int .i64 i7),(6,.int .i64 i9)] (Wd w0 (rowE c_api_Prefix 38 p10 c11 i6::G_)) Y) _ _ _) ?_ _ _ _ _ hq5 K p0_ c0_
  ·clear K hF
   intro g ih i6 i7 i9 x hF K p10 c11
   refine at_round ?_
   refine qs (sr (am (am ?_)))
   refine aw (r_len_sl underlying58 rfl) ?_
   refine aw xl (nwq [19,6,5,1,0] ?_)
   obtain ⟨h14,hF⟩|⟨h14,hF⟩:=oi hF
   ·refine ct h14 ?_
    refine sn (qs ?_)
    refine qb ?_
    refine sr (am (am ?_))
    obtain ⟨h15,hF⟩:=gd hF
    refine at_pure (φ:=∃ b o,p10=some ⟨b,o,none⟩) (fun _ hw=>row_ptr (hw.own .z).row h15) ?_
    rintro ⟨b17,o18,hp16⟩
    refine aw (r_idx underlying58 sizeOf38 rfl rfl h15 hp16) ?_
    refine aw (r_load_aggc (c:=c_api_Prefix) (z:=lget i6 i9) isAgg38 sizeOf38 rfl (fun w1 hw=>row_cell (W:=fun w1=>w1=_) (fun w1 h=>by subst h;exact Below.refl _ _) (hw.own .z).row h15 hp16 _ rfl)) ?_
    refine al (cs:=Cd.cs c_api_Prefix zv9) zeroValue38 ?_
    intro b19
    refine at_store (c:=c_api_Prefix) (z:=lget i6 i9) .z lw sizeOf38 rfl rfl rfl ?_
    refine nwx [7,6,5,1,0] ?_
    refine am ?_
    refine aw (r_load_aggc (c:=c_api_Prefix) (z:=lget i6 i9) isAgg38 sizeOf38 rfl (lens_cell .z lw)) ?_
    refine at_callee rfl ?_
    obtain ⟨t20,ht20,hF⟩:=bM hF
    refine cB func101 rfl (fun w hw=>aggregate_Ranges_1_ok _ _ ht20 w) ?_
    refine aw (r_not rfl) ?_
    refine nwq [29,7,6,5,1,0] ?_
    obtain ⟨h21,hF⟩|⟨h21,hF⟩:=oi hF
    ·refine ct h21 ?_
     refine sr (am (am ?_))
     refine aw (r_load_aggc (c:=c_api_Prefix) (z:=lget i6 i9) isAgg38 sizeOf38 rfl (lens_cell .z lw)) ?_
     obtain ⟨h22,hF⟩:=gd hF
     refine at_pure (φ:=∃ b o,p10=some ⟨b,o,none⟩) (fun _ hw=>row_ptr (hw.own (.s .z)).row h22) ?_
     rintro ⟨b24,o25,hp23⟩
     refine aw (r_idx underlying58 sizeOf38 rfl rfl h22 hp23) ?_
     refine at_storeRow (c:=c_api_Prefix) (c':=c_api_Prefix) (i:=i7) (z:=lget i6 i9) (y:=lget i6 i9) (.s .z) h22 hp23 lw (by rfl) sizeOf38 rfl rfl rfl ?_
     refine at_ov (t:=0) rfl (show Value.slice p10 (List.length i6) c11=.slice p10 (List.length (lset i6 i7 (lget i6 i9))) c11 from congrArg (fun n_=>Value.slice p10 n_ c11) ((lset_length _ _ _).symm)) ?_
     refine at_ov (t:=30) rfl (show Value.slice p10 (List.length i6) c11=.slice p10 (List.length (lset i6 i7 (lget i6 i9))) c11 from congrArg (fun n_=>Value.slice p10 n_ c11) ((lset_length _ _ _).symm)) ?_
     refine qn (dz (tn (qr (am (aw xa (aa (qn (wq [6,5,1,0] ?_))))))))
     refine bm ?_
     refine qr (am (aw xa (aa (nwq [6,5,1,0] ?_))))
     exact at_weak_k (ih _ _ _ _ hF K p10 c11) ⟨rfl,rfl,rfl,rfl,trivial⟩
    refine cf h21 ?_
    refine at_skip ?_
    refine bm ?_
    refine qr (am (aw xa (aa (qn (dz (wq [6,5,1,0] ?_))))))
    refine tn ?_
    exact at_weak_k (ih _ _ _ _ hF K p10 c11) ⟨rfl,rfl,rfl,rfl,trivial⟩
   refine cf h14 ?_
   refine at_exit ?_
   refine te (te ?_)
   obtain rfl:=os hF
   exact at_weak_k (K p10 c11) ⟨rfl,rfl,trivial⟩
 skip
 intro p12 c13
 refine at_blk_same ?_
 refine tn (sr (am (am ?_)))
 obtain ⟨h26,hF⟩:=gd hF
 refine at_pure (fun w1 hw=>(hw.own .z).row.len) ?_
 intro hl27
 refine aw (r_reslice (c:=c_api_Prefix) underlying58 sizeOf38 rfl hl27 ⟨_,rfl⟩ rfl h26) ?_
 refine at_clearRow (c:=c_api_Prefix) (z:=zv9) (lo:=q5.2) .z underlying58 sizeOf38 zeroValue38 rfl h26 rfl ?_
 refine at_ov (t:=0) rfl (show Value.slice p12 (List.length q5.1) c13=.slice p12 (List.length (List.take (Int.toNat q5.2) q5.1++List.replicate (List.length q5.1-Int.toNat q5.2) zv9)) c13 from congrArg (fun n_=>Value.slice p12 n_ c13) ((clear_length h26).symm)) ?_
 refine at_ov (t:=36) rfl (show Value.slice p12 (List.length q5.1) c13=.slice p12 (List.length (List.take (Int.toNat q5.2) q5.1++List.replicate (List.length q5.1-Int.toNat q5.2) zv9)) c13 from congrArg (fun n_=>Value.slice p12 n_ c13) ((clear_length h26).symm)) ?_
 refine nwx [5,0] ?_
 refine am (am ?_)
 obtain ⟨h28,hF⟩:=gd hF
 refine at_cutOwn (c:=c_api_Prefix) .z underlying58 sizeOf38 rfl rfl h28 rfl ?_
 refine aa (nwq [4] ?_)
 refine qt ?_
 have K:=os hF
 subst K
 exact r1 (fun w1 hw=>⟨p12,c13,rfl,hw⟩)
end Go.Proofs.YtahlbjmafceoeaaGreatDoor
namespace Go.Proofs.YtahlbjmafceoeaaGreatDoor
def num(l:List UInt8):Nat:=l.foldl (fun a b=>a*256+b.toNat) 0
theorem num_from(l:List UInt8)(a:Nat):l.foldl (fun a b=>a*256+b.toNat) a=a*256 ^ l.length+num l:=by
 induction l generalizing a with
 | nil=>simp [num]
 | cons x r ih =>
  unfold num
  rw [List.foldl_cons,List.foldl_cons,ih,ih (0*256+x.toNat),List.length_cons,Nat.pow_succ]
  rw [Nat.add_mul,Nat.zero_mul,Nat.zero_add,Nat.mul_assoc,Nat.mul_comm 256,Nat.add_assoc]
theorem num_append(l k:List UInt8):num (l++k)=num l*256 ^ k.length+num k:=by
 unfold num;rw [List.foldl_append,num_from];rfl
theorem num_cons(x:UInt8)(r:List UInt8):num (x::r)=x.toNat*256 ^ r.length+num r:=by
 rw [show x::r=[x]++r from rfl,num_append];simp [num]
theorem num_lt:∀ l:List UInt8,num l<256 ^ l.length
 | []=>by simp [num]
 | x::r=>by
  rw [num_cons,List.length_cons,Nat.pow_succ]
  have h1:=num_lt r
  have h2:=x.toNat_lt
  have h3:(x.toNat+1)*256 ^ r.length≤256*256 ^ r.length:=Nat.mul_le_mul_right _ (by omega)
  rw [Nat.add_mul,Nat.one_mul] at h3
  rw [Nat.mul_comm (256 ^ r.length)]
  omega
theorem cmp_num:∀ (a b:List UInt8),a.length=b.length→(Lib.compareBytes a b<0↔num a<num b)
 | [],[],_=>by simp [Lib.compareBytes,num]
 | x::a,y::b,h=>by
  have hl:a.length=b.length:=by simpa using h
  have ha:=num_lt a
  have hb:=num_lt b
  rw [num_cons,num_cons,←hl]
  rw [←hl] at hb
  unfold Lib.compareBytes
  by_cases h1:x<y
  ·rw [if_pos h1]
   have h2:x.toNat+1≤y.toNat:=UInt8.lt_iff_toNat_lt.1 h1
   have h3:(x.toNat+1)*256 ^ a.length≤y.toNat*256 ^ a.length:=Nat.mul_le_mul_right _ h2
   rw [Nat.add_mul,Nat.one_mul] at h3
   constructor
   ·intro _;omega
   ·intro _;decide
  ·rw [if_neg h1]
   by_cases h2:y<x
   ·rw [if_pos h2]
    have h4:y.toNat+1≤x.toNat:=UInt8.lt_iff_toNat_lt.1 h2
    have h3:(y.toNat+1)*256 ^ a.length≤x.toNat*256 ^ a.length:=Nat.mul_le_mul_right _ h4
    rw [Nat.add_mul,Nat.one_mul] at h3
    constructor
    ·intro h;exact absurd h (by decide)
    ·intro _;omega
   ·rw [if_neg h2]
    have he:x.toNat=y.toNat:=by
     have e1:=mt UInt8.lt_iff_toNat_lt.2 h1
     have e2:=mt UInt8.lt_iff_toNat_lt.2 h2
     omega
    rw [cmp_num a b hl,he]
    omega
theorem num_inj:∀ {a b:List UInt8},a.length=b.length→num a=num b→a=b
 | [],[],_,_=>rfl
 | x::a,y::b,h,e=>by
  have hl:a.length=b.length:=by simpa using h
  rw [num_cons,num_cons,←hl] at e
  have ha:=num_lt a
  have hb:=num_lt b
  rw [←hl] at hb
  have hx:x.toNat=y.toNat:=by
   rcases Nat.lt_trichotomy x.toNat y.toNat with h | h | h
   ·have h3:(x.toNat+1)*256 ^ a.length≤y.toNat*256 ^ a.length:=Nat.mul_le_mul_right _ h
    rw [Nat.add_mul,Nat.one_mul] at h3;omega
   ·exact h
   ·have h3:(y.toNat+1)*256 ^ a.length≤x.toNat*256 ^ a.length:=Nat.mul_le_mul_right _ h
    rw [Nat.add_mul,Nat.one_mul] at h3;omega
  rw [hx] at e
  rw [UInt8.toNat_inj.1 hx,num_inj hl (by omega)]
end Go.Proofs.YtahlbjmafceoeaaGreatDoor
namespace Go.Proofs.YtahlbjmafceoeaaGreatDoor
open E Go.RowKit
def okb(v:Vector Int 16):Bool:=v.toList.all fun n=>decide (0≤n)&&decide (n<256)
theorem okb_mem{v:Vector Int 16}(h:okb v=true):∀ n∈v.toList,0≤n∧n<256:=fun n hn=>by
 have:=List.all_eq_true.1 h n hn
 simpa using this
def ordI(x y:S_api_Prefix):Int:=(aggregate_order x y).getD 0
theorem unb_inj:∀ {a b:List Int},(∀ n∈a,0≤n∧n<256)→(∀ n∈b,0≤n∧n<256)→unb a=unb b→a=b
 | [],[],_,_,_=>rfl
 | [],_::_,_,_,h=>by simp [unb] at h
 | _::_,[],_,_,h=>by simp [unb] at h
 | x::a,y::b,ha,hb,h=>by
  have h':UInt8.ofNat x.toNat::unb a=UInt8.ofNat y.toNat::unb b:=h
  injection h' with h1 h2
  have hx:=ha x (List.mem_cons_self ..)
  have hy:=hb y (List.mem_cons_self ..)
  have h3:x.toNat=y.toNat:=by
   have:=congrArg UInt8.toNat h1
   rw [UInt8.toNat_ofNat',UInt8.toNat_ofNat',Nat.mod_eq_of_lt (by omega),Nat.mod_eq_of_lt (by omega)] at this
   exact this
  rw [show x=y by omega,unb_inj (fun n hn=>ha n (List.mem_cons_of_mem _ hn)) (fun n hn=>hb n (List.mem_cons_of_mem _ hn)) h2]
theorem unb_len(l:List Int):(unb l).length=l.length:=by simp [unb]
theorem keyA_inj{a b:S_api_Addr}(ha:okb a.f_B=true)(hb:okb b.f_B=true)(h1:a.f_V=b.f_V)(h2:num (unb a.f_B.toList)=num (unb b.f_B.toList)):a=b:=by
 have e:=unb_inj (okb_mem ha) (okb_mem hb) (num_inj (by rw [unb_len,unb_len,Vector.length_toList,Vector.length_toList]) h2)
 obtain ⟨v,x⟩:=a
 obtain ⟨u,y⟩:=b
 simp only at h1 e
 subst h1
 rw [Vector.toList_inj.1 e]
def lessK(a b:S_api_Addr):Bool:=if a.f_V=b.f_V then decide (num (unb a.f_B.toList)<num (unb b.f_B.toList)) else decide (a.f_V<b.f_V)
theorem less_key(a b:S_api_Addr):addr_Less a b=some (lessK a b):=by
 unfold addr_Less lessK
 by_cases h:a.f_V=b.f_V
 ·have hne:(a.f_V != b.f_V)=false:=by simpa using h
  rw [hne,if_neg Bool.false_ne_true,if_pos h]
  unfold bytes_Compare
  show some (decide (Lib.compareBytes _ _<0))=_
  congr 1
  rw [decide_eq_decide]
  exact cmp_num _ _ (by rw [unb_len,unb_len,Vector.length_toList,Vector.length_toList])
 ·have hne:(a.f_V != b.f_V)=true:=by simpa using h
  rw [hne,if_pos rfl,if_neg h]
def lessP(x y:S_api_Prefix):Bool:=if x.f_A=y.f_A then decide (x.f_Bits<y.f_Bits) else lessK x.f_A y.f_A
theorem cless_key(x y:S_api_Prefix):cidr_Less x y=some (lessP x y):=by
 unfold cidr_Less lessP
 by_cases h:x.f_A=y.f_A
 ·rw [decide_eq_true h,if_pos rfl,if_pos h]
 ·rw [decide_eq_false h,if_neg Bool.false_ne_true,if_neg h,less_key];rfl
theorem order_key(x y:S_api_Prefix):aggregate_order x y=some (if lessP x y=true then -1 else if lessP y x=true then 1 else 0):=by
 unfold aggregate_order
 rw [cless_key,cless_key]
 show (if lessP x y=true then some (-1) else (if lessP y x=true then some 1 else some 0))=_
 split
 ·rfl
 ·split<;>rfl
theorem ltOf_ord:ltOf ordI=lessP:=by
 funext x y
 unfold ltOf ordI
 rw [order_key]
 show decide ((if lessP x y=true then (-1:Int) else if lessP y x=true then 1 else 0)<0)=_
 cases h:lessP x y
 ·rw [if_neg Bool.false_ne_true];split<;>rfl
 ·rfl
def okP(x:S_api_Prefix):Prop:=okb x.f_A.f_B=true
theorem lessP_iff{x y:S_api_Prefix}(hx:okP x)(hy:okP y):lessP x y=true↔x.f_A.f_V<y.f_A.f_V∨(x.f_A.f_V=y.f_A.f_V∧(num (unb x.f_A.f_B.toList)<num (unb y.f_A.f_B.toList)∨(num (unb x.f_A.f_B.toList)=num (unb y.f_A.f_B.toList)∧x.f_Bits<y.f_Bits))):=by
 unfold lessP lessK
 by_cases h:x.f_A=y.f_A
 ·rw [if_pos h,decide_eq_true_iff,h];omega
 ·rw [if_neg h]
  by_cases hV:x.f_A.f_V=y.f_A.f_V
  ·rw [if_pos hV,decide_eq_true_iff]
   have hn:num (unb x.f_A.f_B.toList)≠num (unb y.f_A.f_B.toList):=fun e=>h (keyA_inj hx hy hV e)
   omega
  ·rw [if_neg hV,decide_eq_true_iff];omega
theorem lessP_false{x y:S_api_Prefix}(hx:okP x)(hy:okP y):lessP x y=false↔¬ (x.f_A.f_V<y.f_A.f_V∨(x.f_A.f_V=y.f_A.f_V∧(num (unb x.f_A.f_B.toList)<num (unb y.f_A.f_B.toList)∨(num (unb x.f_A.f_B.toList)=num (unb y.f_A.f_B.toList)∧x.f_Bits<y.f_Bits)))):=by
 rw [←lessP_iff hx hy];simp
theorem lessP_swo:SWOn okP lessP where
 irrefl x hx:=by rw [lessP_false hx hx];omega
 trans x y z hx hy hz h1 h2:=by rw [lessP_iff hx hy] at h1;rw [lessP_iff hy hz] at h2;rw [lessP_iff hx hz];omega
 ntrans x y z hx hy hz h1 h2:=by rw [lessP_false hx hy] at h1;rw [lessP_false hy hz] at h2;rw [lessP_false hx hz];omega
theorem lessP_anti{x y:S_api_Prefix}(hx:okP x)(hy:okP y)(h1:lessP x y=false)(h2:lessP y x=false):x=y:=by
 rw [lessP_false hx hy] at h1
 rw [lessP_false hy hx] at h2
 have e1:=keyA_inj (a:=x.f_A) (b:=y.f_A) hx hy (by omega) (by omega)
 have e2:x.f_Bits=y.f_Bits:=by omega
 obtain ⟨a,b⟩:=x
 obtain ⟨c,d⟩:=y
 simp only at e1 e2
 rw [e1,e2]
def sort_Prefix(xs:List S_api_Prefix):Option (List S_api_Prefix):=if (xs.all fun x=>okb x.f_A.f_B)=true∧xs.length≤1000000 then some (isort lessP xs) else none
theorem sort_Prefix_len{xs r:List S_api_Prefix}(h:sort_Prefix xs=some r):r.length=xs.length:=by
 unfold sort_Prefix at h
 split at h
 ·cases h;exact isort_length _ _
 ·cases h
theorem sort_Prefix_ok{xs r:List S_api_Prefix}(h:sort_Prefix xs=some r){w0 w:World}{H G:List Ent}{f:Ent→List Ent}{p:Option Addr}{cap:Nat}(hu:Upd H (rowE c_api_Prefix 38 p cap xs) f G)(hw:Wd w0 H w) :
  Calls Tryz.prog 102 #[.slice p xs.length cap,.func (.func 103) #[] #[]] w fun en w'=>en=.returned (.tuple #[])∧Wd w0 (f (rowE c_api_Prefix 38 p cap r)) w':=by
 unfold sort_Prefix at h
 split at h
 ·next hh =>
  cases h
  have hK:∀ x∈xs,okP x:=fun x hx=>List.all_eq_true.1 hh.1 x hx
  have:=sort_calls Tryz.sortP c_api_Prefix okP Tryz.isAgg38 Tryz.sizeOf38 ordI (by rw [ltOf_ord];exact lessP_swo) 103 (enters_of Tryz.func103 (by kernel_rfl) rfl)
   (fun x y _ _ w=>aggregate_order_ok _ _ _ (by unfold ordI;rw [order_key];rfl) w) hK (by rw [ltOf_ord];exact fun x hx y hy h1 h2=>lessP_anti (hK x hx) (hK y hy) h1 h2) (by omega) hu hw
  rw [ltOf_ord] at this
  exact this
 ·cases h
end Go.Proofs.YtahlbjmafceoeaaGreatDoor
namespace Go.Proofs.YtahlbjmafceoeaaGreatDoor
open E Go.RowKit _root_.Go.Proofs.Tryz
theorem infoA438_is:(Tryz.prog.info? 38).isSome=true:=by kernel_rfl
noncomputable def infoA438_v:TypeInfo:=(Tryz.prog.info? 38).get infoA438_is
theorem infoA438:Tryz.prog.info? 38=some infoA438_v:=(Option.some_get _).symm
theorem infoA4112_is:(Tryz.prog.info? 112).isSome=true:=by kernel_rfl
noncomputable def infoA4112_v:TypeInfo:=(Tryz.prog.info? 112).get infoA4112_is
theorem infoA4112:Tryz.prog.info? 112=some infoA4112_v:=(Option.some_get _).symm
def aggregate_Ranges.l0(t7:List S_api_Prefix)(i11:List S_aggregate_Range)(i12:Int):Option (List S_aggregate_Range) :=
 if (decide (i12<(t7.length:Int)))=true then (if (0:Int)≤i12∧i12<(t7.length:Int) then if ((i11.length:Int)==0)=true then (aggregate_last (lget t7 i12)>>=fun t25=>if (i11.length+1)*48≤140737488355328 then aggregate_Ranges.l0 t7 (i11++[{ { ({ f_From:=({ f_V:=(0:Int),f_B:=(Vector.replicate 16 (0:Int):(Vector Int 16)) }:S_api_Addr),f_To:=({ f_V:=(0:Int),f_B:=(Vector.replicate 16 (0:Int):(Vector Int 16)) }:S_api_Addr) }:S_aggregate_Range) with f_From:=(lget t7 i12).f_A } with f_To:=t25 }]) (wr .i64 (i12+1)) else none) else (if (0:Int)≤wr .i64 ((i11.length:Int)-1)∧wr .i64 ((i11.length:Int)-1)<(i11.length:Int) then aggregate_joins (lget i11 (wr .i64 ((i11.length:Int)-1))) (lget t7 i12)>>=fun t35=>if (!t35)=true then (aggregate_last (lget t7 i12)>>=fun t38=>if (i11.length+1)*48≤140737488355328 then aggregate_Ranges.l0 t7 (i11++[{ { ({ f_From:=({ f_V:=(0:Int),f_B:=(Vector.replicate 16 (0:Int):(Vector Int 16)) }:S_api_Addr),f_To:=({ f_V:=(0:Int),f_B:=(Vector.replicate 16 (0:Int):(Vector Int 16)) }:S_api_Addr) }:S_aggregate_Range) with f_From:=(lget t7 i12).f_A } with f_To:=t38 }]) (wr .i64 (i12+1)) else none) else (aggregate_last (lget t7 i12)>>=fun t44=>if (0:Int)≤wr .i64 ((i11.length:Int)-1)∧wr .i64 ((i11.length:Int)-1)<(i11.length:Int) then addr_Less ((lget i11 (wr .i64 ((i11.length:Int)-1))).f_To) t44>>=fun t50=>if t50=true then (if (0:Int)≤wr .i64 ((i11.length:Int)-1)∧wr .i64 ((i11.length:Int)-1)<(i11.length:Int) then aggregate_Ranges.l0 t7 (lset i11 (wr .i64 ((i11.length:Int)-1)) ({ (lget i11 (wr .i64 ((i11.length:Int)-1))) with f_To:=t44 })) (wr .i64 (i12+1)) else none) else (aggregate_Ranges.l0 t7 i11 (wr .i64 (i12+1))) else none) else none) else none) else (some i11)
 partial_fixpoint
def aggregate_Ranges(x0:List S_api_Prefix):Option (List S_aggregate_Range) :=
 slices_Clone_api_Prefix x0>>=fun t1=>slices_DeleteFunc_api_Prefix__aggregate_Ranges_1 t1>>=fun t4=>sort_Prefix t4>>=fun t7=>aggregate_Ranges.l0 t7 ([]:List S_aggregate_Range) 0>>=fun q10=>some q10
set_option maxHeartbeats 3200000 in
theorem aggregate_Ranges_ok(x0:List S_api_Prefix)(p0_:Option Addr)(c0_:Nat)(r:List S_aggregate_Range)(hF:aggregate_Ranges x0=some r)(w:World)(hr0:Row c_api_Prefix w p0_ c0_ x0) :
    Calls Tryz.prog 75 #[.slice p0_ x0.length c0_] w (fun e w'=>∃ p cap,e=.returned (.slice p r.length cap)∧Own c_aggregate_Range 112 w.heap.size w' p cap r∧Below w.heap.size w w'):=by
 unfold aggregate_Ranges at hF
 refine ce (l:=[.slice p0_ x0.length c0_]) func75 rfl rfl ?_
 refine at_start ?_
 refine sr (aa (nwx [0] ?_))
 refine am ?_
 obtain ⟨t1,ht1,hF⟩:=bM hF
 refine at_callO (c:=c_api_Prefix) (e:=38) (ys:=t1) (V:=fun p cap=>.slice p t1.length cap) func100 rfl (by kernel_rfl) rfl rfl (fun w hw=>slices_Clone_api_Prefix_ok _ _ _ _ ht1 w (hr0.below hw.below)) ?_
 intro p2 c3
 obtain ⟨t4,ht4,hF⟩:=bM hF
 refine at_callG (V:=fun p cap=>.slice p t4.length cap) (T:=fun p cap=>[rowE c_api_Prefix 38 p cap t4]) func99 rfl (by kernel_rfl) rfl rfl (fun w hw=>slices_DeleteFunc_api_Prefix__aggregate_Ranges_1_ok ht4 hw) ?_
 intro p5 c6
 refine aa (nwx [3] ?_)
 refine am ?_
 obtain ⟨t7,ht7,hF⟩:=bM hF
 refine at_callN (v:=.tuple #[]) (T:=[rowE c_api_Prefix 38 p5 c6 t7]) func102 rfl (by kernel_rfl) rfl rfl (fun w hw=>sort_Prefix_ok ht7 .z hw) ?_
 refine at_ov (t:=3) rfl (show Value.slice p5 (List.length t4) c6=.slice p5 (List.length t7) c6 from congrArg (fun n_=>Value.slice p5 n_ c6) ((sort_Prefix_len ht7).symm)) ?_
 refine at_ov (t:=12) rfl (show Value.slice p5 (List.length t4) c6=.slice p5 (List.length t7) c6 from congrArg (fun n_=>Value.slice p5 n_ c6) ((sort_Prefix_len ht7).symm)) ?_
 refine ns (aa (nt (qs (sr (am ?_)))))
 refine aw (r_len_sl underlying58 rfl) ?_
 refine am (nwq [16,15,14,4] ?_)
 refine qb ?_
 refine at_own_nil c_aggregate_Range 112 ?_
 obtain ⟨q10,hq10,hF⟩:=bM hF
 refine wq [16,15,14,4] ?_
 refine at_loop_n (B:=0) (A:=fun Y=>∀ (p15:Option Addr) (c16:Nat),At 60 [(4,.slice p15 q10.length c16)] (Wd w [rowE c_aggregate_Range 112 p15 c16 q10]) Y) ?_ ?_
 ·intro K
  refine aggregate_Ranges.l0.partial_correctness t7 (motive:=fun i11 i12 x=>KN (fun Y=>∀ (p15:Option Addr) (c16:Nat),At 60 [(4,.slice p15 x.length c16)] (Wd w [rowE c_aggregate_Range 112 p15 c16 x]) Y) _ 0→Round (fun Y=>∀ (p13:Option Addr) (c14:Nat),At 60 [(4,.slice p13 i11.length c14),(14,.slice p5 t7.length c6),(15,.int .i64 (t7.length:Int)),(16,.int .i64 i12)] (Wd w [rowE c_aggregate_Range 112 p13 c14 i11,rowE c_api_Prefix 38 p5 c6 t7]) Y) _ _ _) ?_ _ _ _ hq10 K none 0
  ·clear K hF
   intro g ih i11 i12 x hF K p13 c14
   refine at_round ?_
   refine sr (aw xl (nwq [17,16,15,14,4] ?_))
   refine qs ?_
   obtain ⟨h17,hF⟩|⟨h17,hF⟩:=oi hF
   ·refine ct h17 ?_
    refine sn (qs ?_)
    refine qb ?_
    refine sr ?_
    obtain ⟨h18,hF⟩:=gd hF
    refine at_pure (φ:=∃ b o,p5=some ⟨b,o,none⟩) (fun _ hw=>row_ptr (hw.own (.s .z)).row h18) ?_
    rintro ⟨b20,o21,hp19⟩
    refine aw (r_idx underlying58 sizeOf38 rfl rfl h18 hp19) ?_
    refine aw (r_load_aggc (c:=c_api_Prefix) (z:=lget t7 i12) isAgg38 sizeOf38 rfl (fun w1 hw=>row_cell (W:=fun w1=>w1=_) (fun w1 h=>by subst h;exact Below.refl _ _) (hw.own (.s .z)).row h18 hp19 _ rfl)) ?_
    refine al (cs:=Cd.cs c_api_Prefix zv9) zeroValue38 ?_
    intro b22
    refine at_store (c:=c_api_Prefix) (z:=lget t7 i12) .z lw sizeOf38 rfl rfl rfl ?_
    refine ns (am ?_)
    refine aw (r_len_sl underlying109 rfl) ?_
    refine aa (nt (qs (qs (wq [16,15,14,7,6,4] ?_))))
    obtain ⟨h23,hF⟩|⟨h23,hF⟩:=oi hF
    ·skip
     refine at_inv [.q 22 (fun g24=>.int .i64 (i11.length:Int)) [] 0 0,.q 23 (fun g24=>.bool ((i11.length:Int)==0)) [0] 0 0,.q 24 (fun g24=>.bool true) [1] 0 0,.q 25 (fun g24=>undef) [2] 0 0,.q 26 (fun g24=>undef) [2] 0 0,.q 27 (fun g24=>undef) [2,4] 0 0,.q 28 (fun g24=>undef) [2,3,5] 0 0,.q 29 (fun g24=>undef) [2,6] 0 0,.q 30 (fun g24=>undef) [2] 0 0,.q 31 (fun g24=>undef) [2,7,8] 0 0,.q 32 (fun g24=>undef) [2,9] 0 0,.q 33 (fun g24=>.bool true) [2,10] 0 0] (fun g24 s=>match s with | _=>(Wd w [cellsE b22 (Cd.cs c_api_Prefix (lget t7 i12)) 38,rowE c_aggregate_Range 112 p13 c14 i11,rowE c_api_Prefix 38 p5 c6 t7])) 0 (by kernel_rfl) (by kernel_rfl) (by kernel_rfl) (by kernel_rfl) (by kernel_rfl) ⟨fun _ _ _=>rfl,fun _ _ _=>rfl,fun _ _ _=>rfl,fun _ _ _=>rfl,fun _ _ _=>rfl,fun _ _ _=>rfl,fun _ _ _=>rfl,fun _ _ _=>rfl,fun _ _ _=>rfl,fun _ _ _=>rfl,fun _ _ _=>rfl,fun _ _ _=>rfl,trivial⟩ (by kernel_rfl) (fun w_ h=>⟨fun _=>g3 0 none 0 none w_,h.drew⟩) ⟨?_,?_,?_,?_,?_,?_,?_,?_,?_,?_,?_,?_,trivial⟩ ?_
     ·intro Lx g24 s K hl hh k
      show At 60 ((4,_)::(6,_)::(7,_)::(14,_)::(15,_)::(16,_)::Lx) _ _
      refine am ?_
      exact at_nil k
     ·intro Lx g24 s K hl hh k
      show At 60 ((22,_)::(4,_)::(6,_)::(7,_)::(14,_)::(15,_)::(16,_)::Lx) _ _
      refine aw xq ?_
      exact at_nil k
     ·intro Lx g24 s K hl hh k
      show At 60 ((23,_)::(4,_)::(6,_)::(7,_)::(14,_)::(15,_)::(16,_)::Lx) _ _
      refine am ?_
      exact at_nil (at_cast h23 k)
     ·intro Lx g24 s K hl hh k
      show At 60 ((24,_)::(4,_)::(6,_)::(7,_)::(14,_)::(15,_)::(16,_)::Lx) _ _
      refine gn ?_
      exact at_nil k
     ·intro Lx g24 s K hl hh k
      show At 60 ((24,_)::(4,_)::(6,_)::(7,_)::(14,_)::(15,_)::(16,_)::Lx) _ _
      refine gn ?_
      exact at_nil k
     ·intro Lx g24 s K hl hh k
      show At 60 ((24,_)::(26,_)::(4,_)::(6,_)::(7,_)::(14,_)::(15,_)::(16,_)::Lx) _ _
      refine gn ?_
      exact at_nil k
     ·intro Lx g24 s K hl hh k
      show At 60 ((24,_)::(25,_)::(27,_)::(4,_)::(6,_)::(7,_)::(14,_)::(15,_)::(16,_)::Lx) _ _
      refine gn ?_
      exact at_nil k
     ·intro Lx g24 s K hl hh k
      show At 60 ((24,_)::(28,_)::(4,_)::(6,_)::(7,_)::(14,_)::(15,_)::(16,_)::Lx) _ _
      obtain rfl:s=0:=by omega
      refine gn ?_
      exact at_nil k
     ·intro Lx g24 s K hl hh k
      show At 60 ((24,_)::(4,_)::(6,_)::(7,_)::(14,_)::(15,_)::(16,_)::Lx) _ _
      obtain rfl:s=0:=by omega
      refine gn ?_
      exact at_nil k
     ·intro Lx g24 s K hl hh k
      show At 60 ((24,_)::(29,_)::(30,_)::(4,_)::(6,_)::(7,_)::(14,_)::(15,_)::(16,_)::Lx) _ _
      obtain rfl:s=0:=by omega
      refine gn ?_
      exact at_nil k
     ·intro Lx g24 s K hl hh k
      show At 60 ((24,_)::(31,_)::(4,_)::(6,_)::(7,_)::(14,_)::(15,_)::(16,_)::Lx) _ _
      refine gn ?_
      exact at_nil k
     ·intro Lx g24 s K hl hh k
      show At 60 ((24,_)::(32,_)::(4,_)::(6,_)::(7,_)::(14,_)::(15,_)::(16,_)::Lx) _ _
      refine aw xp ?_
      exact at_nil k
     intro g24
     show At 60 [(22,_),(23,_),(24,_),(25,_),(26,_),(27,_),(28,_),(29,_),(30,_),(31,_),(32,_),(33,_),(4,_),(6,_),(7,_),(14,_),(15,_),(16,_)] _ _
     refine wq [33,16,15,14,7,6,4] ?_
     refine tn ?_
     refine ct rfl ?_
     refine qs (wq [16,15,14,6,4] ?_)
     obtain ⟨t25,ht25,hF⟩:=bM hF
     refine at_invT [.q 34 (fun g27=>.slice p13 i11.length c14) [] 0 1,.q 35 (fun g27=>.pointer (some ⟨b22,0+0,none⟩)) [] 0 0,.q 36 (fun g27=>.agg (Cd.cs c_api_Addr ((lget t7 i12).f_A)).toArray) [1] 0 0,.q 37 (fun g27=>.agg (Cd.cs c_api_Prefix (lget t7 i12)).toArray) [] 0 0,.q 38 (fun g27=>.agg (Cd.cs c_api_Addr t25).toArray) [3] 0 0,.q 39 (fun g27=>.agg (Cd.cs c_aggregate_Range ({ { zv10 with f_From:=(lget t7 i12).f_A } with f_To:=t25 })).toArray) [2,4] 0 0,.al 0 40 (fun g27=>.slice (some ⟨((g27 0).1),0,none⟩) ([{ { zv10 with f_From:=(lget t7 i12).f_A } with f_To:=t25 }]:List S_aggregate_Range).length 1) [5]] (fun g27 s=>match s with | 0=>(Wd w [cellsE b22 (Cd.cs c_api_Prefix (lget t7 i12)) 38,rowE c_aggregate_Range 112 p13 c14 i11,rowE c_api_Prefix 38 p5 c6 t7]) | _=>(Wd w [cellsE ((g27 0).1) (c_aggregate_Range.all ([{ { zv10 with f_From:=(lget t7 i12).f_A } with f_To:=t25 }]:List S_aggregate_Range)) 112,cellsE b22 (Cd.cs c_api_Prefix (lget t7 i12)) 38,rowE c_aggregate_Range 112 p13 c14 i11,rowE c_api_Prefix 38 p5 c6 t7])) 1 7 (by kernel_rfl) (by kernel_rfl) (by kernel_rfl) (by kernel_rfl) (by kernel_rfl) (by kernel_rfl) ⟨fun _ _ _=>rfl,fun _ _ _=>rfl,fun _ _ _=>rfl,fun _ _ _=>rfl,fun _ _ _=>rfl,fun _ _ _=>rfl,fun g27 g2 h=>by show (.slice (some ⟨((g27 0).1),0,none⟩) ([{ { zv10 with f_From:=(lget t7 i12).f_A } with f_To:=t25 }]:List S_aggregate_Range).length 1:Value)=.slice (some ⟨((g2 0).1),0,none⟩) ([{ { zv10 with f_From:=(lget t7 i12).f_A } with f_To:=t25 }]:List S_aggregate_Range).length 1;rw [h 0 (show 0<1 by decide)],trivial⟩ (by kernel_rfl) (fun w_ h=>⟨fun _=>g3 0 none 0 none w_,h.drew⟩) ⟨?_,?_,?_,?_,?_,?_,?_,trivial⟩ ?_
     ·intro Lx g27 s K hl hh k
      show At 60 ((4,_)::(6,_)::(14,_)::(15,_)::(16,_)::Lx) _ _
      refine am ?_
      exact at_nil k
     ·intro Lx g27 s K hl hh k
      show At 60 ((4,_)::(6,_)::(14,_)::(15,_)::(16,_)::Lx) _ _
      refine fa 0 underlying38 rfl sizeOf36 ?_
      exact at_nil k
     ·intro Lx g27 s K hl hh k
      show At 60 ((35,_)::(4,_)::(6,_)::(14,_)::(15,_)::(16,_)::Lx) _ _
      obtain rfl:s=0:=by omega
      refine aw (r_load_aggc (c:=c_api_Addr) (z:=(lget t7 i12).f_A) isAgg36 sizeOf36 rfl (lens_cell .z (Lens.comp lw (fun z=>{ lget t7 i12 with f_A:=z }) (c_api_Prefix_f_A (lget t7 i12))))) ?_
      exact at_nil k
     ·intro Lx g27 s K hl hh k
      show At 60 ((4,_)::(6,_)::(14,_)::(15,_)::(16,_)::Lx) _ _
      obtain rfl:s=0:=by omega
      refine aw (r_load_aggc (c:=c_api_Prefix) (z:=lget t7 i12) isAgg38 sizeOf38 rfl (lens_cell .z lw)) ?_
      exact at_nil k
     ·intro Lx g27 s K hl hh k
      show At 60 ((37,_)::(4,_)::(6,_)::(14,_)::(15,_)::(16,_)::Lx) _ _
      obtain rfl:s=0:=by omega
      refine cB func105 rfl (fun w hw=>aggregate_last_ok _ _ ht25 w) ?_
      exact at_nil k
     ·intro Lx g27 s K hl hh k
      show At 60 ((36,_)::(38,_)::(4,_)::(6,_)::(14,_)::(15,_)::(16,_)::Lx) _ _
      obtain rfl:s=0:=by omega
      refine aw (r_build_struct (zs:=Cd.cs c_aggregate_Range zv10) (cs:=Cd.cs c_aggregate_Range ({ { zv10 with f_From:=(lget t7 i12).f_A } with f_To:=t25 })) underlying112 zeroValue112 rfl (places_aggregate_Range_112) rfl (fill_step (c:=c_api_Addr) (z:=(lget t7 i12).f_A) rfl (c_aggregate_Range_f_From zv10) rfl (fill_step (c:=c_api_Addr) (z:=t25) rfl (c_aggregate_Range_f_To ({ zv10 with f_From:=(lget t7 i12).f_A })) rfl rfl))) ?_
      exact at_nil k
     ·intro Lx g27 K k
      show At 60 ((39,_)::(4,_)::(6,_)::(14,_)::(15,_)::(16,_)::Lx) _ _
      refine at_litL (c:=c_aggregate_Range) ([zv10]:List S_aggregate_Range) ([{ { zv10 with f_From:=(lget t7 i12).f_A } with f_To:=t25 }]:List S_aggregate_Range) underlying109 sizeOf112 zeroValue112 rfl rfl rfl (by kernel_rfl) (fill_step (c:=c_aggregate_Range) (z:={ { zv10 with f_From:=(lget t7 i12).f_A } with f_To:=t25 }) rfl (Lens.all c_aggregate_Range ([zv10]:List S_aggregate_Range) 0 (by first | decide | exact Nat.le_of_ble_eq_true rfl)) rfl rfl) rfl ?_
      intro b26
      exact at_nil (k (g3 b26 none 0 none w))
     intro g27
     show At 60 [(34,_),(35,_),(36,_),(37,_),(38,_),(39,_),(40,_),(4,_),(6,_),(14,_),(15,_),(16,_)] _ _
     obtain ⟨h28,hF⟩:=gd hF
     refine at_append (z:=.agg (Cd.cs c_aggregate_Range zv10).toArray) (c:=c_aggregate_Range) (ys:=([{ { zv10 with f_From:=(lget t7 i12).f_A } with f_To:=t25 }]:List S_aggregate_Range)) (.s (.s .z)) underlying109 infoA4112 (by kernel_rfl) (by kernel_rfl) rfl rfl rfl rfl (fun _ hw=>cells_src (hw.ok (Upd.mem .z))) (by kernel_rfl) h28 (app_small h28) rfl ?_
     intro p29 c30
     refine aa (qn (dz (dz (wq [16,15,14,4] ?_))))
     refine tn ?_
     refine at_exit ?_
     refine te (at_blk_same (tn ?_))
     refine qr (aw xa (am (nwq [16,15,14,4] ?_)))
     exact at_weak_k (ih _ _ _ hF K p29 c30) ⟨rfl,rfl,rfl,rfl,trivial⟩
    skip
    obtain ⟨h31,hF⟩:=gd hF
    refine at_pure (φ:=∃ b o,p13=some ⟨b,o,none⟩) (fun _ hw=>row_ptr (hw.own (.s .z)).row h31) ?_
    rintro ⟨b33,o34,hp32⟩
    obtain ⟨t35,ht35,hF⟩:=bM hF
    refine at_inv [.q 22 (fun g36=>.int .i64 (i11.length:Int)) [] 0 0,.q 23 (fun g36=>.bool ((i11.length:Int)==0)) [0] 0 0,.q 24 (fun g36=>.bool false) [1] 0 0,.q 25 (fun g36=>.slice p13 i11.length c14) [2] 0 0,.q 26 (fun g36=>.int .i64 (i11.length:Int)) [2] 0 0,.q 27 (fun g36=>.int .i64 (wr .i64 ((i11.length:Int)-1))) [2,4] 0 0,.q 28 (fun g36=>.pointer (some ⟨b33,o34+Int.toNat (wr .i64 ((i11.length:Int)-1))*34,none⟩)) [2,3,5] 0 0,.q 29 (fun g36=>.agg (Cd.cs c_aggregate_Range (lget i11 (wr .i64 ((i11.length:Int)-1)))).toArray) [2,6] 0 0,.q 30 (fun g36=>.agg (Cd.cs c_api_Prefix (lget t7 i12)).toArray) [2] 0 0,.q 31 (fun g36=>.bool t35) [2,7,8] 0 0,.q 32 (fun g36=>.bool (!t35)) [2,9] 0 0,.q 33 (fun g36=>.bool (!t35)) [2,10] 0 0] (fun g36 s=>match s with | _=>(Wd w [cellsE b22 (Cd.cs c_api_Prefix (lget t7 i12)) 38,rowE c_aggregate_Range 112 p13 c14 i11,rowE c_api_Prefix 38 p5 c6 t7])) 0 (by kernel_rfl) (by kernel_rfl) (by kernel_rfl) (by kernel_rfl) (by kernel_rfl) ⟨fun _ _ _=>rfl,fun _ _ _=>rfl,fun _ _ _=>rfl,fun _ _ _=>rfl,fun _ _ _=>rfl,fun _ _ _=>rfl,fun _ _ _=>rfl,fun _ _ _=>rfl,fun _ _ _=>rfl,fun _ _ _=>rfl,fun _ _ _=>rfl,fun _ _ _=>rfl,trivial⟩ (by kernel_rfl) (fun w_ h=>⟨fun _=>g3 0 none 0 none w_,h.drew⟩) ⟨?_,?_,?_,?_,?_,?_,?_,?_,?_,?_,?_,?_,trivial⟩ ?_
    ·intro Lx g36 s K hl hh k
     show At 60 ((4,_)::(6,_)::(7,_)::(14,_)::(15,_)::(16,_)::Lx) _ _
     refine am ?_
     exact at_nil k
    ·intro Lx g36 s K hl hh k
     show At 60 ((22,_)::(4,_)::(6,_)::(7,_)::(14,_)::(15,_)::(16,_)::Lx) _ _
     refine aw xq ?_
     exact at_nil k
    ·intro Lx g36 s K hl hh k
     show At 60 ((23,_)::(4,_)::(6,_)::(7,_)::(14,_)::(15,_)::(16,_)::Lx) _ _
     refine am ?_
     exact at_nil (at_cast h23 k)
    ·intro Lx g36 s K hl hh k
     show At 60 ((24,_)::(4,_)::(6,_)::(7,_)::(14,_)::(15,_)::(16,_)::Lx) _ _
     refine gy ?_
     refine am ?_
     exact at_nil k
    ·intro Lx g36 s K hl hh k
     show At 60 ((24,_)::(4,_)::(6,_)::(7,_)::(14,_)::(15,_)::(16,_)::Lx) _ _
     refine gy ?_
     refine am ?_
     exact at_nil k
    ·intro Lx g36 s K hl hh k
     show At 60 ((24,_)::(26,_)::(4,_)::(6,_)::(7,_)::(14,_)::(15,_)::(16,_)::Lx) _ _
     refine gy ?_
     refine aw (r_isub rfl rfl) ?_
     exact at_nil k
    ·intro Lx g36 s K hl hh k
     show At 60 ((24,_)::(25,_)::(27,_)::(4,_)::(6,_)::(7,_)::(14,_)::(15,_)::(16,_)::Lx) _ _
     refine gy ?_
     refine aw (r_idx underlying109 sizeOf112 rfl rfl h31 hp32) ?_
     exact at_nil k
    ·intro Lx g36 s K hl hh k
     show At 60 ((24,_)::(28,_)::(4,_)::(6,_)::(7,_)::(14,_)::(15,_)::(16,_)::Lx) _ _
     refine gy ?_
     obtain rfl:s=0:=by omega
     refine aw (r_load_aggc (c:=c_aggregate_Range) (z:=lget i11 (wr .i64 ((i11.length:Int)-1))) isAgg112 sizeOf112 rfl (fun w1 hw=>row_cell (W:=fun w1=>w1=_) (fun w1 h=>by subst h;exact Below.refl _ _) (hw.own (.s .z)).row h31 hp32 _ rfl)) ?_
     exact at_nil k
    ·intro Lx g36 s K hl hh k
     show At 60 ((24,_)::(4,_)::(6,_)::(7,_)::(14,_)::(15,_)::(16,_)::Lx) _ _
     refine gy ?_
     obtain rfl:s=0:=by omega
     refine aw (r_load_aggc (c:=c_api_Prefix) (z:=lget t7 i12) isAgg38 sizeOf38 rfl (lens_cell .z lw)) ?_
     exact at_nil k
    ·intro Lx g36 s K hl hh k
     show At 60 ((24,_)::(29,_)::(30,_)::(4,_)::(6,_)::(7,_)::(14,_)::(15,_)::(16,_)::Lx) _ _
     refine gy ?_
     obtain rfl:s=0:=by omega
     refine cB func104 rfl (fun w hw=>aggregate_joins_ok _ _ _ ht35 w) ?_
     exact at_nil k
    ·intro Lx g36 s K hl hh k
     show At 60 ((24,_)::(31,_)::(4,_)::(6,_)::(7,_)::(14,_)::(15,_)::(16,_)::Lx) _ _
     refine gy ?_
     refine aw (r_not rfl) ?_
     exact at_nil k
    ·intro Lx g36 s K hl hh k
     show At 60 ((24,_)::(32,_)::(4,_)::(6,_)::(7,_)::(14,_)::(15,_)::(16,_)::Lx) _ _
     refine aw xp ?_
     exact at_nil k
    intro g36
    show At 60 [(22,_),(23,_),(24,_),(25,_),(26,_),(27,_),(28,_),(29,_),(30,_),(31,_),(32,_),(33,_),(4,_),(6,_),(7,_),(14,_),(15,_),(16,_)] _ _
    refine wq [33,16,15,14,7,6,4] ?_
    refine tn ?_
    obtain ⟨h37,hF⟩|⟨h37,hF⟩:=oi hF
    ·refine ct h37 ?_
     refine qs (wq [16,15,14,6,4] ?_)
     obtain ⟨t38,ht38,hF⟩:=bM hF
     refine at_invT [.q 34 (fun g40=>.slice p13 i11.length c14) [] 0 1,.q 35 (fun g40=>.pointer (some ⟨b22,0+0,none⟩)) [] 0 0,.q 36 (fun g40=>.agg (Cd.cs c_api_Addr ((lget t7 i12).f_A)).toArray) [1] 0 0,.q 37 (fun g40=>.agg (Cd.cs c_api_Prefix (lget t7 i12)).toArray) [] 0 0,.q 38 (fun g40=>.agg (Cd.cs c_api_Addr t38).toArray) [3] 0 0,.q 39 (fun g40=>.agg (Cd.cs c_aggregate_Range ({ { zv10 with f_From:=(lget t7 i12).f_A } with f_To:=t38 })).toArray) [2,4] 0 0,.al 0 40 (fun g40=>.slice (some ⟨((g40 0).1),0,none⟩) ([{ { zv10 with f_From:=(lget t7 i12).f_A } with f_To:=t38 }]:List S_aggregate_Range).length 1) [5]] (fun g40 s=>match s with | 0=>(Wd w [cellsE b22 (Cd.cs c_api_Prefix (lget t7 i12)) 38,rowE c_aggregate_Range 112 p13 c14 i11,rowE c_api_Prefix 38 p5 c6 t7]) | _=>(Wd w [cellsE ((g40 0).1) (c_aggregate_Range.all ([{ { zv10 with f_From:=(lget t7 i12).f_A } with f_To:=t38 }]:List S_aggregate_Range)) 112,cellsE b22 (Cd.cs c_api_Prefix (lget t7 i12)) 38,rowE c_aggregate_Range 112 p13 c14 i11,rowE c_api_Prefix 38 p5 c6 t7])) 1 7 (by kernel_rfl) (by kernel_rfl) (by kernel_rfl) (by kernel_rfl) (by kernel_rfl) (by kernel_rfl) ⟨fun _ _ _=>rfl,fun _ _ _=>rfl,fun _ _ _=>rfl,fun _ _ _=>rfl,fun _ _ _=>rfl,fun _ _ _=>rfl,fun g40 g2 h=>by show (.slice (some ⟨((g40 0).1),0,none⟩) ([{ { zv10 with f_From:=(lget t7 i12).f_A } with f_To:=t38 }]:List S_aggregate_Range).length 1:Value)=.slice (some ⟨((g2 0).1),0,none⟩) ([{ { zv10 with f_From:=(lget t7 i12).f_A } with f_To:=t38 }]:List S_aggregate_Range).length 1;rw [h 0 (show 0<1 by decide)],trivial⟩ (by kernel_rfl) (fun w_ h=>⟨fun _=>g3 0 none 0 none w_,h.drew⟩) ⟨?_,?_,?_,?_,?_,?_,?_,trivial⟩ ?_
     ·intro Lx g40 s K hl hh k
      show At 60 ((4,_)::(6,_)::(14,_)::(15,_)::(16,_)::Lx) _ _
      refine am ?_
      exact at_nil k
     ·intro Lx g40 s K hl hh k
      show At 60 ((4,_)::(6,_)::(14,_)::(15,_)::(16,_)::Lx) _ _
      refine fa 0 underlying38 rfl sizeOf36 ?_
      exact at_nil k
     ·intro Lx g40 s K hl hh k
      show At 60 ((35,_)::(4,_)::(6,_)::(14,_)::(15,_)::(16,_)::Lx) _ _
      obtain rfl:s=0:=by omega
      refine aw (r_load_aggc (c:=c_api_Addr) (z:=(lget t7 i12).f_A) isAgg36 sizeOf36 rfl (lens_cell .z (Lens.comp lw (fun z=>{ lget t7 i12 with f_A:=z }) (c_api_Prefix_f_A (lget t7 i12))))) ?_
      exact at_nil k
     ·intro Lx g40 s K hl hh k
      show At 60 ((4,_)::(6,_)::(14,_)::(15,_)::(16,_)::Lx) _ _
      obtain rfl:s=0:=by omega
      refine aw (r_load_aggc (c:=c_api_Prefix) (z:=lget t7 i12) isAgg38 sizeOf38 rfl (lens_cell .z lw)) ?_
      exact at_nil k
     ·intro Lx g40 s K hl hh k
      show At 60 ((37,_)::(4,_)::(6,_)::(14,_)::(15,_)::(16,_)::Lx) _ _
      obtain rfl:s=0:=by omega
      refine cB func105 rfl (fun w hw=>aggregate_last_ok _ _ ht38 w) ?_
      exact at_nil k
     ·intro Lx g40 s K hl hh k
      show At 60 ((36,_)::(38,_)::(4,_)::(6,_)::(14,_)::(15,_)::(16,_)::Lx) _ _
      obtain rfl:s=0:=by omega
      refine aw (r_build_struct (zs:=Cd.cs c_aggregate_Range zv10) (cs:=Cd.cs c_aggregate_Range ({ { zv10 with f_From:=(lget t7 i12).f_A } with f_To:=t38 })) underlying112 zeroValue112 rfl (places_aggregate_Range_112) rfl (fill_step (c:=c_api_Addr) (z:=(lget t7 i12).f_A) rfl (c_aggregate_Range_f_From zv10) rfl (fill_step (c:=c_api_Addr) (z:=t38) rfl (c_aggregate_Range_f_To ({ zv10 with f_From:=(lget t7 i12).f_A })) rfl rfl))) ?_
      exact at_nil k
     ·intro Lx g40 K k
      show At 60 ((39,_)::(4,_)::(6,_)::(14,_)::(15,_)::(16,_)::Lx) _ _
      refine at_litL (c:=c_aggregate_Range) ([zv10]:List S_aggregate_Range) ([{ { zv10 with f_From:=(lget t7 i12).f_A } with f_To:=t38 }]:List S_aggregate_Range) underlying109 sizeOf112 zeroValue112 rfl rfl rfl (by kernel_rfl) (fill_step (c:=c_aggregate_Range) (z:={ { zv10 with f_From:=(lget t7 i12).f_A } with f_To:=t38 }) rfl (Lens.all c_aggregate_Range ([zv10]:List S_aggregate_Range) 0 (by first | decide | exact Nat.le_of_ble_eq_true rfl)) rfl rfl) rfl ?_
      intro b39
      exact at_nil (k (g3 b39 none 0 none w))
     intro g40
     show At 60 [(34,_),(35,_),(36,_),(37,_),(38,_),(39,_),(40,_),(4,_),(6,_),(14,_),(15,_),(16,_)] _ _
     obtain ⟨h41,hF⟩:=gd hF
     refine at_append (z:=.agg (Cd.cs c_aggregate_Range zv10).toArray) (c:=c_aggregate_Range) (ys:=([{ { zv10 with f_From:=(lget t7 i12).f_A } with f_To:=t38 }]:List S_aggregate_Range)) (.s (.s .z)) underlying109 infoA4112 (by kernel_rfl) (by kernel_rfl) rfl rfl rfl rfl (fun _ hw=>cells_src (hw.ok (Upd.mem .z))) (by kernel_rfl) h41 (app_small h41) rfl ?_
     intro p42 c43
     refine aa (qn (dz (dz (wq [16,15,14,4] ?_))))
     refine tn ?_
     refine at_exit ?_
     refine te (at_blk_same (tn ?_))
     refine qr (aw xa (am (nwq [16,15,14,4] ?_)))
     exact at_weak_k (ih _ _ _ hF K p42 c43) ⟨rfl,rfl,rfl,rfl,trivial⟩
    refine cf h37 ?_
    refine sns ?_
    refine aw (r_load_aggc (c:=c_api_Prefix) (z:=lget t7 i12) isAgg38 sizeOf38 rfl (lens_cell .z lw)) ?_
    obtain ⟨t44,ht44,hF⟩:=bM hF
    refine cB func105 rfl (fun w hw=>aggregate_last_ok _ _ ht44 w) ?_
    refine al (cs:=Cd.cs c_api_Addr zv1) zeroValue36 ?_
    intro b45
    refine at_store (c:=c_api_Addr) (z:=t44) .z lw sizeOf36 rfl rfl rfl ?_
    refine qn ?_
    refine at_drop (H:=_) (.s .z) ?_
    refine tn (qs (wq [16,15,14,8,7,4] ?_))
    obtain ⟨h46,hF⟩:=gd hF
    refine at_pure (φ:=∃ b o,p13=some ⟨b,o,none⟩) (fun _ hw=>row_ptr (hw.own (.s .z)).row h46) ?_
    rintro ⟨b48,o49,hp47⟩
    obtain ⟨t50,ht50,hF⟩:=bM hF
    refine at_inv [.q 44 (fun g51=>.slice p13 i11.length c14) [] 0 0,.q 45 (fun g51=>.int .i64 (i11.length:Int)) [] 0 0,.q 46 (fun g51=>.int .i64 (wr .i64 ((i11.length:Int)-1))) [1] 0 0,.q 47 (fun g51=>.pointer (some ⟨b48,o49+Int.toNat (wr .i64 ((i11.length:Int)-1))*34,none⟩)) [0,2] 0 0,.q 48 (fun g51=>.pointer (some ⟨b48,o49+Int.toNat (wr .i64 ((i11.length:Int)-1))*34+17,none⟩)) [3] 0 0,.q 49 (fun g51=>.agg (Cd.cs c_api_Addr ((lget i11 (wr .i64 ((i11.length:Int)-1))).f_To)).toArray) [4] 0 0,.q 50 (fun g51=>.agg (Cd.cs c_api_Addr t44).toArray) [] 0 0,.q 51 (fun g51=>.bool t50) [5,6] 0 0] (fun g51 s=>match s with | _=>(Wd w [cellsE b45 (Cd.cs c_api_Addr t44) 36,rowE c_aggregate_Range 112 p13 c14 i11,rowE c_api_Prefix 38 p5 c6 t7])) 0 (by kernel_rfl) (by kernel_rfl) (by kernel_rfl) (by kernel_rfl) (by kernel_rfl) ⟨fun _ _ _=>rfl,fun _ _ _=>rfl,fun _ _ _=>rfl,fun _ _ _=>rfl,fun _ _ _=>rfl,fun _ _ _=>rfl,fun _ _ _=>rfl,fun _ _ _=>rfl,trivial⟩ (by kernel_rfl) (fun w_ h=>⟨fun _=>g3 0 none 0 none w_,h.drew⟩) ⟨?_,?_,?_,?_,?_,?_,?_,?_,trivial⟩ ?_
    ·intro Lx g51 s K hl hh k
     show At 60 ((4,_)::(7,_)::(8,_)::(14,_)::(15,_)::(16,_)::Lx) _ _
     refine am ?_
     exact at_nil k
    ·intro Lx g51 s K hl hh k
     show At 60 ((4,_)::(7,_)::(8,_)::(14,_)::(15,_)::(16,_)::Lx) _ _
     refine am ?_
     exact at_nil k
    ·intro Lx g51 s K hl hh k
     show At 60 ((45,_)::(4,_)::(7,_)::(8,_)::(14,_)::(15,_)::(16,_)::Lx) _ _
     refine aw (r_isub rfl rfl) ?_
     exact at_nil k
    ·intro Lx g51 s K hl hh k
     show At 60 ((44,_)::(46,_)::(4,_)::(7,_)::(8,_)::(14,_)::(15,_)::(16,_)::Lx) _ _
     refine aw (r_idx underlying109 sizeOf112 rfl rfl h46 hp47) ?_
     exact at_nil k
    ·intro Lx g51 s K hl hh k
     show At 60 ((47,_)::(4,_)::(7,_)::(8,_)::(14,_)::(15,_)::(16,_)::Lx) _ _
     refine fa 17 underlying112 rfl sizeOf36 ?_
     exact at_nil k
    ·intro Lx g51 s K hl hh k
     show At 60 ((48,_)::(4,_)::(7,_)::(8,_)::(14,_)::(15,_)::(16,_)::Lx) _ _
     obtain rfl:s=0:=by omega
     refine aw (r_load_aggc (c:=c_api_Addr) (z:=(lget i11 (wr .i64 ((i11.length:Int)-1))).f_To) isAgg36 sizeOf36 rfl (fun w1 hw=>row_lens (y:=(lget i11 (wr .i64 ((i11.length:Int)-1))).f_To) (W:=fun w1=>w1=_) (fun w1 h=>by subst h;exact Below.refl _ _) (hw.own (.s .z)).row h46 hp47 (Lens.comp lw (fun z=>{ (lget i11 (wr .i64 ((i11.length:Int)-1))) with f_To:=z }) (c_aggregate_Range_f_To (lget i11 (wr .i64 ((i11.length:Int)-1))))) _ rfl)) ?_
     exact at_nil k
    ·intro Lx g51 s K hl hh k
     show At 60 ((4,_)::(7,_)::(8,_)::(14,_)::(15,_)::(16,_)::Lx) _ _
     obtain rfl:s=0:=by omega
     refine aw (r_load_aggc (c:=c_api_Addr) (z:=t44) isAgg36 sizeOf36 rfl (lens_cell .z lw)) ?_
     exact at_nil k
    ·intro Lx g51 s K hl hh k
     show At 60 ((49,_)::(50,_)::(4,_)::(7,_)::(8,_)::(14,_)::(15,_)::(16,_)::Lx) _ _
     obtain rfl:s=0:=by omega
     refine cB func92 rfl (fun w hw=>addr_Less_ok _ _ _ ht50 w) ?_
     exact at_nil k
    intro g51
    show At 60 [(44,_),(45,_),(46,_),(47,_),(48,_),(49,_),(50,_),(51,_),(4,_),(7,_),(8,_),(14,_),(15,_),(16,_)] _ _
    refine wq [51,16,15,14,8,7,4] ?_
    refine tn ?_
    obtain ⟨h52,hF⟩|⟨h52,hF⟩:=oi hF
    ·refine ct h52 ?_
     refine qr (am (am ?_))
     refine aw (r_isub rfl rfl) ?_
     refine aw (r_load_aggc (c:=c_api_Addr) (z:=t44) isAgg36 sizeOf36 rfl (lens_cell .z lw)) ?_
     obtain ⟨h53,hF⟩:=gd hF
     refine at_pure (φ:=∃ b o,p13=some ⟨b,o,none⟩) (fun _ hw=>row_ptr (hw.own (.s .z)).row h53) ?_
     rintro ⟨b55,o56,hp54⟩
     refine aw (r_idx underlying109 sizeOf112 rfl rfl h53 hp54) ?_
     refine fa 17 underlying112 rfl sizeOf36 ?_
     refine at_storeRow (c:=c_aggregate_Range) (c':=c_api_Addr) (i:=wr .i64 ((i11.length:Int)-1)) (z:=t44) (y:={ (lget i11 (wr .i64 ((i11.length:Int)-1))) with f_To:=t44 }) (.s .z) h53 hp54 (Lens.comp lw (fun z=>{ (lget i11 (wr .i64 ((i11.length:Int)-1))) with f_To:=z }) (c_aggregate_Range_f_To (lget i11 (wr .i64 ((i11.length:Int)-1))))) (by rfl) sizeOf36 rfl rfl rfl ?_
     refine at_ov (t:=4) rfl (show Value.slice p13 (List.length i11) c14=.slice p13 (List.length (lset i11 (wr .i64 ((i11.length:Int)-1)) ({ (lget i11 (wr .i64 ((i11.length:Int)-1))) with f_To:=t44 }))) c14 from congrArg (fun n_=>Value.slice p13 n_ c14) ((lset_length _ _ _).symm)) ?_
     refine at_ov (t:=52) rfl (show Value.slice p13 (List.length i11) c14=.slice p13 (List.length (lset i11 (wr .i64 ((i11.length:Int)-1)) ({ (lget i11 (wr .i64 ((i11.length:Int)-1))) with f_To:=t44 }))) c14 from congrArg (fun n_=>Value.slice p13 n_ c14) ((lset_length _ _ _).symm)) ?_
     refine qn (dz (wq [16,15,14,4] ?_))
     refine bm ?_
     refine qr (aw xa (am (nwq [16,15,14,4] ?_)))
     exact at_weak_k (ih _ _ _ hF K p13 c14) ⟨rfl,rfl,rfl,rfl,trivial⟩
    refine cf h52 ?_
    refine at_skip ?_
    refine bm ?_
    refine qr (aw xa (am (qn (dz (wq [16,15,14,4] ?_)))))
    refine tn ?_
    exact at_weak_k (ih _ _ _ hF K p13 c14) ⟨rfl,rfl,rfl,rfl,trivial⟩
   refine cf h17 ?_
   refine at_exit ?_
   refine te (te ?_)
   refine at_drop (H:=_) (.s .z) ?_
   obtain rfl:=os hF
   exact at_weak_k (K p13 c14) ⟨rfl,trivial⟩
 skip
 intro p15 c16
 refine at_blk_same ?_
 refine tn (sr (am (aa (nwq [2] ?_))))
 refine qt ?_
 have K:=os hF
 subst K
 exact r1 (fun w1 hw=>⟨p15,c16,rfl,hw.own .z,hw.below⟩)
def aggregate_Cover.l0(t1:List S_aggregate_Range)(i7:List S_api_Prefix)(i9:Int):Option (List S_api_Prefix) :=
 if (decide (i9<(t1.length:Int)))=true then (if (0:Int)≤i9∧i9<(t1.length:Int) then aggregate_Prefixes (lget t1 i9)>>=fun t20=>if (i7.length+t20.length)*32≤140737488355328 then aggregate_Cover.l0 t1 (i7++t20) (wr .i64 (i9+1)) else none else none) else (some i7)
 partial_fixpoint
def aggregate_Cover(x0:List S_api_Prefix):Option (List S_api_Prefix) :=
 aggregate_Ranges x0>>=fun t1=>aggregate_Cover.l0 t1 ([]:List S_api_Prefix) 0>>=fun q6=>some q6
theorem aggregate_Cover_ok(x0:List S_api_Prefix)(p0_:Option Addr)(c0_:Nat)(r:List S_api_Prefix)(hF:aggregate_Cover x0=some r)(w:World)(hr0:Row c_api_Prefix w p0_ c0_ x0) :
    Calls Tryz.prog 50 #[.slice p0_ x0.length c0_] w (fun e w'=>∃ p cap,e=.returned (.slice p r.length cap)∧Own c_api_Prefix 38 w.heap.size w' p cap r∧Below w.heap.size w w'):=by
 unfold aggregate_Cover at hF
 refine ce (l:=[.slice p0_ x0.length c0_]) func50 rfl rfl ?_
 refine at_start ?_
 refine sr (aa (ns (aa (nt (qs (sr (am ?_)))))))
 obtain ⟨t1,ht1,hF⟩:=bM hF
 refine at_callO (c:=c_aggregate_Range) (e:=112) (ys:=t1) (V:=fun p cap=>.slice p t1.length cap) func75 rfl (by kernel_rfl) rfl rfl (fun w hw=>aggregate_Ranges_ok _ _ _ _ ht1 w (hr0.below hw.below)) ?_
 intro p2 c3
 refine aw (r_len_sl underlying109 rfl) ?_
 refine am (nwq [9,8,7,3] ?_)
 refine qb ?_
 refine at_own_nil c_api_Prefix 38 ?_
 obtain ⟨q6,hq6,hF⟩:=bM hF
 refine wq [9,8,7,3] ?_
 refine at_loop_n (B:=0) (A:=fun Y=>∀ (p12:Option Addr) (c13:Nat),At 19 [(3,.slice p12 q6.length c13)] (Wd w [rowE c_api_Prefix 38 p12 c13 q6]) Y) ?_ ?_
 ·intro K
  refine aggregate_Cover.l0.partial_correctness t1 (motive:=fun i7 i9 x=>KN (fun Y=>∀ (p12:Option Addr) (c13:Nat),At 19 [(3,.slice p12 x.length c13)] (Wd w [rowE c_api_Prefix 38 p12 c13 x]) Y) _ 0→Round (fun Y=>∀ (p10:Option Addr) (c11:Nat),At 19 [(3,.slice p10 i7.length c11),(7,.slice p2 t1.length c3),(8,.int .i64 (t1.length:Int)),(9,.int .i64 i9)] (Wd w [rowE c_api_Prefix 38 p10 c11 i7,rowE c_aggregate_Range 112 p2 c3 t1]) Y) _ _ _) ?_ _ _ _ hq6 K none 0
  ·clear K hF
   intro g ih i7 i9 x hF K p10 c11
   refine at_round ?_
   refine sr (aw xl (nwq [10,9,8,7,3] ?_))
   refine qs ?_
   obtain ⟨h14,hF⟩|⟨h14,hF⟩:=oi hF
   ·refine ct h14 ?_
    refine sn (qs ?_)
    refine qb ?_
    refine sr ?_
    obtain ⟨h15,hF⟩:=gd hF
    refine at_pure (φ:=∃ b o,p2=some ⟨b,o,none⟩) (fun _ hw=>row_ptr (hw.own (.s .z)).row h15) ?_
    rintro ⟨b17,o18,hp16⟩
    refine aw (r_idx underlying109 sizeOf112 rfl rfl h15 hp16) ?_
    refine aw (r_load_aggc (c:=c_aggregate_Range) (z:=lget t1 i9) isAgg112 sizeOf112 rfl (fun w1 hw=>row_cell (W:=fun w1=>w1=_) (fun w1 h=>by subst h;exact Below.refl _ _) (hw.own (.s .z)).row h15 hp16 _ rfl)) ?_
    refine al (cs:=Cd.cs c_aggregate_Range zv10) zeroValue112 ?_
    intro b19
    refine at_store (c:=c_aggregate_Range) (z:=lget t1 i9) .z lw sizeOf112 rfl rfl rfl ?_
    refine nt (qr (am ?_))
    refine aw (r_load_aggc (c:=c_aggregate_Range) (z:=lget t1 i9) isAgg112 sizeOf112 rfl (lens_cell .z lw)) ?_
    obtain ⟨t20,ht20,hF⟩:=bM hF
    refine at_callO (c:=c_api_Prefix) (e:=38) (ys:=t20) (V:=fun p cap=>.slice p t20.length cap) func76 rfl (by kernel_rfl) rfl rfl (fun w hw=>aggregate_Prefixes_ok _ _ ht20 w) ?_
    intro p21 c22
    obtain ⟨h23,hF⟩:=gd hF
    refine at_append_row (z:=.agg (Cd.cs c_api_Prefix zv9).toArray) (c:=c_api_Prefix) (ys:=t20) (.s (.s .z)) underlying58 infoA438 (by kernel_rfl) (by kernel_rfl) rfl rfl rfl (fun w1 hw=>(hw.own .z).row) (by kernel_rfl) h23 (app_small h23) rfl ?_
    intro p24 c25
    refine aa (qn (dz (dz (wq [9,8,7,3] ?_))))
    refine bm ?_
    refine qr (aw xa (am (nwq [9,8,7,3] ?_)))
    exact at_weak_k (ih _ _ _ hF K p24 c25) ⟨rfl,rfl,rfl,rfl,trivial⟩
   refine cf h14 ?_
   refine at_exit ?_
   refine te (te ?_)
   refine at_drop (H:=_) (.s .z) ?_
   obtain rfl:=os hF
   exact at_weak_k (K p10 c11) ⟨rfl,trivial⟩
 skip
 intro p12 c13
 refine at_blk_same ?_
 refine tn (sr (am (aa (nwq [2] ?_))))
 refine qt ?_
 have K:=os hF
 subst K
 exact r1 (fun w1 hw=>⟨p12,c13,rfl,hw.own .z,hw.below⟩)
end Go.Proofs.YtahlbjmafceoeaaGreatDoor
namespace Go.Proofs.YtahlbjmafceoeaaGreatDoor
open E Go.RowKit _root_.Go.Proofs.Tryz
def flat_above.l0(x0:List S_api_Entry)(x1:S_api_Entry)(i4:Bool)(i5:Int)(i6:S_api_Entry):Option (Bool×S_api_Entry) :=
 if (decide (i5<(x0.length:Int)))=true then (if (0:Int)≤i5∧i5<(x0.length:Int) then if (!decide ((lget x0 i5).f_P=x1.f_P))=true then (cidr_Covers ((lget x0 i5).f_P) x1.f_P>>=fun t14=>if t14=true then (if (!i4)=true then (flat_above.l0 x0 x1 true (wr .i64 (i5+1)) (lget x0 i5)) else (if (decide (((lget x0 i5).f_P).f_Bits>i6.f_P.f_Bits))=true then (flat_above.l0 x0 x1 true (wr .i64 (i5+1)) (lget x0 i5)) else (flat_above.l0 x0 x1 i4 (wr .i64 (i5+1)) i6))) else (flat_above.l0 x0 x1 i4 (wr .i64 (i5+1)) i6)) else (flat_above.l0 x0 x1 i4 (wr .i64 (i5+1)) i6) else none) else (some (i4,i6))
 partial_fixpoint
def flat_above(x0:List S_api_Entry)(x1:S_api_Entry):Option (S_api_Entry×Bool) :=
 flat_above.l0 x0 x1 false 0 ({ f_P:=({ f_A:=({ f_V:=(0:Int),f_B:=(Vector.replicate 16 (0:Int):(Vector Int 16)) }:S_api_Addr),f_Bits:=(0:Int) }:S_api_Prefix),f_Owner:=(0:Int) }:S_api_Entry)>>=fun q3=>some (q3.2,q3.1)
theorem flat_above_ok(x0:List S_api_Entry)(p0_:Option Addr)(c0_:Nat)(x1:S_api_Entry)(r:S_api_Entry×Bool)(hF:flat_above x0 x1=some r)(w:World)(hr0:Row c_api_Entry w p0_ c0_ x0) :
    Calls Tryz.prog 73 #[.slice p0_ x0.length c0_,.agg (Cd.cs c_api_Entry x1).toArray] w (fun e w'=>e=.returned (.tuple #[.agg (Cd.cs c_api_Entry r.1).toArray,.bool r.2])∧Below w.heap.size w w'):=by
 unfold flat_above at hF
 refine ce (l:=[.slice p0_ x0.length c0_,.agg (Cd.cs c_api_Entry x1).toArray]) func73 rfl rfl ?_
 refine at_start ?_
 refine sr ?_
 refine at_box (cs:=Cd.cs c_api_Entry x1) rfl rfl rfl ?_
 intro b1
 refine al (cs:=Cd.cs c_api_Entry zv13) zeroValue49 ?_
 intro b2
 refine aa (nt (qs (sr (am ?_))))
 refine aw (r_len_sl underlying46 rfl) ?_
 refine am (nwq [10,9,8,5,4,3] ?_)
 refine qb ?_
 obtain ⟨q3,hq3,hF⟩:=bM hF
 refine wq [10,9,8,5,4,3] ?_
 refine at_loop_n (B:=0) (A:=fun Y=>At 43 [(4,.pointer (some ⟨b2,0,none⟩)),(5,.bool q3.1)] (Wd w [cellsE b2 (Cd.cs c_api_Entry q3.2) 49]) Y) ?_ ?_
 ·intro K
  refine flat_above.l0.partial_correctness x0 x1 (motive:=fun i4 i5 i6 x=>KN (fun Y=>At 43 [(4,.pointer (some ⟨b2,0,none⟩)),(5,.bool x.1)] (Wd w [cellsE b2 (Cd.cs c_api_Entry x.2) 49]) Y) _ 0→Round (fun Y=>At 43 [(3,.pointer (some ⟨b1,0,none⟩)),(4,.pointer (some ⟨b2,0,none⟩)),(5,.bool i4),(8,.slice p0_ x0.length c0_),(9,.int .i64 (x0.length:Int)),(10,.int .i64 i5)] (Wd w [cellsE b2 (Cd.cs c_api_Entry i6) 49,cellsE b1 (Cd.cs c_api_Entry x1) 49]) Y) _ _ _) ?_ _ _ _ _ hq3 K
  ·clear K hF
   intro g ih i4 i5 i6 x hF K
   refine at_round ?_
   refine sr (aw xl (nwq [11,10,9,8,5,4,3] ?_))
   refine qs ?_
   obtain ⟨h7,hF⟩|⟨h7,hF⟩:=oi hF
   ·refine ct h7 ?_
    refine sn (qs ?_)
    refine qb ?_
    refine sr ?_
    obtain ⟨h8,hF⟩:=gd hF
    obtain ⟨b10,o11,hp9⟩:=row_ptr hr0 h8
    refine aw (r_idx underlying46 sizeOf49 rfl rfl h8 hp9) ?_
    refine aw (r_load_aggc (c:=c_api_Entry) (z:=lget x0 i5) isAgg49 sizeOf49 rfl (row_cell (fun _ h=>h.below) hr0 h8 hp9)) ?_
    refine al (cs:=Cd.cs c_api_Entry zv13) zeroValue49 ?_
    intro b12
    refine at_store (c:=c_api_Entry) (z:=lget x0 i5) .z lw sizeOf49 rfl rfl rfl ?_
    refine nwx [10,9,8,7,5,4,3] ?_
    refine fa 0 underlying49 rfl sizeOf38 ?_
    refine aw (r_load_aggc (c:=c_api_Prefix) (z:=(lget x0 i5).f_P) isAgg38 sizeOf38 rfl (lens_cell .z (Lens.comp lw (fun z=>{ lget x0 i5 with f_P:=z }) (c_api_Entry_f_P (lget x0 i5))))) ?_
    refine fa 0 underlying49 rfl sizeOf38 ?_
    refine aw (r_load_aggc (c:=c_api_Prefix) (z:=x1.f_P) isAgg38 sizeOf38 rfl (lens_cell (.s (.s .z)) (Lens.comp lw (fun z=>{ x1 with f_P:=z }) (c_api_Entry_f_P x1)))) ?_
    refine aw (r_eqagg (c:=c_api_Prefix) (a:=(lget x0 i5).f_P) (b:=x1.f_P) (eq_api_Prefix_38) rfl Tryz.eqGuardType38 rfl rfl (.inr rfl) rfl) ?_
    refine am ?_
    obtain ⟨h13,hF⟩|⟨h13,hF⟩:=oi hF
    ·refine fx 19 h13 ?_
     refine gy ?_
     refine fa 0 underlying49 rfl sizeOf38 ?_
     refine gy ?_
     refine aw (r_load_aggc (c:=c_api_Prefix) (z:=(lget x0 i5).f_P) isAgg38 sizeOf38 rfl (lens_cell .z (Lens.comp lw (fun z=>{ lget x0 i5 with f_P:=z }) (c_api_Entry_f_P (lget x0 i5))))) ?_
     refine gy ?_
     refine fa 0 underlying49 rfl sizeOf38 ?_
     refine gy ?_
     refine aw (r_load_aggc (c:=c_api_Prefix) (z:=x1.f_P) isAgg38 sizeOf38 rfl (lens_cell (.s (.s .z)) (Lens.comp lw (fun z=>{ x1 with f_P:=z }) (c_api_Entry_f_P x1)))) ?_
     refine gy ?_
     obtain ⟨t14,ht14,hF⟩:=bM hF
     refine cB func49 rfl (fun w hw=>cidr_Covers_ok _ _ _ ht14 w) ?_
     refine aw xp (am ?_)
     obtain ⟨h15,hF⟩|⟨h15,hF⟩:=oi hF
     ·refine fx 26 h15 ?_
      refine gy ?_
      refine am ?_
      refine gy ?_
      refine aw (r_not rfl) ?_
      refine gy ?_
      refine am ?_
      obtain ⟨h16,hF⟩|⟨h16,hF⟩:=oi hF
      ·refine fx 29 h16 ?_
       refine gn ?_
       refine gn ?_
       refine gn ?_
       refine gn ?_
       refine gn ?_
       refine gn ?_
       refine gn ?_
       refine gy ?_
       refine aw xp (aw xp (nwq [38,10,9,8,7,5,4,3] ?_))
       refine ct rfl ?_
       refine qr ?_
       refine aw (r_load_aggc (c:=c_api_Entry) (z:=lget x0 i5) isAgg49 sizeOf49 rfl (lens_cell .z lw)) ?_
       refine at_store (c:=c_api_Entry) (z:=lget x0 i5) (.s .z) lw sizeOf49 rfl rfl rfl ?_
       refine aa (qn (dz (wq [10,9,8,5,4,3] ?_)))
       refine bm ?_
       refine qr (aw xa (am (nwq [10,9,8,5,4,3] ?_)))
       exact at_weak_k (ih _ _ _ _ hF K) ⟨rfl,rfl,rfl,rfl,rfl,rfl,trivial⟩
      refine fx 29 h16 ?_
      refine gy ?_
      refine fa 0 underlying49 rfl sizeOf38 ?_
      refine gy ?_
      refine fa 17 underlying38 rfl sizeOf3 ?_
      refine gy ?_
      refine aw (r_load_cell isAgg3 rfl (lens_cell0 (c:=(cInt .i64)) (y:=((lget x0 i5).f_P).f_Bits) .z (Lens.comp (Lens.comp lw (fun z=>{ lget x0 i5 with f_P:=z }) (c_api_Entry_f_P (lget x0 i5))) (fun z=>{ (lget x0 i5).f_P with f_Bits:=z }) (c_api_Prefix_f_Bits ((lget x0 i5).f_P))) rfl)) ?_
      refine gy ?_
      refine fa 0 underlying49 rfl sizeOf38 ?_
      refine gy ?_
      refine fa 17 underlying38 rfl sizeOf3 ?_
      refine gy ?_
      refine aw (r_load_cell isAgg3 rfl (lens_cell0 (c:=(cInt .i64)) (y:=i6.f_P.f_Bits) (.s .z) (Lens.comp (Lens.comp lw (fun z=>{ i6 with f_P:=z }) (c_api_Entry_f_P i6)) (fun z=>{ i6.f_P with f_Bits:=z }) (c_api_Prefix_f_Bits i6.f_P)) rfl)) ?_
      refine gy ?_
      refine aw (r_igtr rfl rfl) ?_
      refine gy ?_
      refine aw xp (aw xp (nwq [38,10,9,8,7,5,4,3] ?_))
      obtain ⟨h17,hF⟩|⟨h17,hF⟩:=oi hF
      ·refine ct h17 ?_
       refine qr ?_
       refine aw (r_load_aggc (c:=c_api_Entry) (z:=lget x0 i5) isAgg49 sizeOf49 rfl (lens_cell .z lw)) ?_
       refine at_store (c:=c_api_Entry) (z:=lget x0 i5) (.s .z) lw sizeOf49 rfl rfl rfl ?_
       refine aa (qn (dz (wq [10,9,8,5,4,3] ?_)))
       refine bm ?_
       refine qr (aw xa (am (nwq [10,9,8,5,4,3] ?_)))
       exact at_weak_k (ih _ _ _ _ hF K) ⟨rfl,rfl,rfl,rfl,rfl,rfl,trivial⟩
      refine cf h17 ?_
      refine at_skip ?_
      refine bm ?_
      refine qr (aw xa (am (qn (dz (wq [10,9,8,5,4,3] ?_)))))
      refine tn ?_
      exact at_weak_k (ih _ _ _ _ hF K) ⟨rfl,rfl,rfl,rfl,rfl,rfl,trivial⟩
     refine fx 26 h15 ?_
     refine gn ?_
     refine gn ?_
     refine gn ?_
     refine at_guard_undef rfl rfl rfl rfl ?_
     refine at_guard_undef rfl rfl rfl rfl ?_
     refine at_guard_undef rfl rfl rfl rfl ?_
     refine at_guard_undef rfl rfl rfl rfl ?_
     refine at_guard_undef rfl rfl rfl rfl ?_
     refine at_guard_undef rfl rfl rfl rfl ?_
     refine at_guard_undef rfl rfl rfl rfl ?_
     refine gn ?_
     refine aw xp (nwq [38,10,9,8,7,5,4,3] ?_)
     refine cf rfl ?_
     refine at_skip ?_
     refine bm ?_
     refine qr (aw xa (am (qn (dz (wq [10,9,8,5,4,3] ?_)))))
     refine tn ?_
     exact at_weak_k (ih _ _ _ _ hF K) ⟨rfl,rfl,rfl,rfl,rfl,rfl,trivial⟩
    refine fx 19 h13 ?_
    refine gn ?_
    refine gn ?_
    refine gn ?_
    refine gn ?_
    refine gn ?_
    refine aw xp (am ?_)
    refine gn ?_
    refine gn ?_
    refine gn ?_
    refine at_guard_undef rfl rfl rfl rfl ?_
    refine at_guard_undef rfl rfl rfl rfl ?_
    refine at_guard_undef rfl rfl rfl rfl ?_
    refine at_guard_undef rfl rfl rfl rfl ?_
    refine at_guard_undef rfl rfl rfl rfl ?_
    refine at_guard_undef rfl rfl rfl rfl ?_
    refine at_guard_undef rfl rfl rfl rfl ?_
    refine gn ?_
    refine aw xp (nwq [38,10,9,8,7,5,4,3] ?_)
    refine cf rfl ?_
    refine at_skip ?_
    refine bm ?_
    refine qr (aw xa (am (qn (dz (wq [10,9,8,5,4,3] ?_)))))
    refine tn ?_
    exact at_weak_k (ih _ _ _ _ hF K) ⟨rfl,rfl,rfl,rfl,rfl,rfl,trivial⟩
   refine cf h7 ?_
   refine at_exit ?_
   refine te (te ?_)
   refine at_drop (H:=_) (.s .z) ?_
   obtain rfl:=os hF
   exact at_weak_k K ⟨rfl,rfl,trivial⟩
 skip
 skip
 refine at_blk_same ?_
 refine tn (sr ?_)
 refine aw (r_load_aggc (c:=c_api_Entry) (z:=q3.2) isAgg49 sizeOf49 rfl (lens_cell .z lw)) ?_
 refine am ?_
 refine at_store (c:=c_api_Entry) (z:=q3.2) .z lw sizeOf49 rfl rfl rfl ?_
 refine aa (nwq [5,4] ?_)
 refine qt ?_
 have K:=os hF
 subst K
 exact at_res2 rfl (res_cell (c:=c_api_Entry) (y:=q3.2) rfl .z lw isAgg49 sizeOf49 (.inl rfl)) (res_tmp rfl) wb
end Go.Proofs.YtahlbjmafceoeaaGreatDoor
namespace Go.Proofs.YtahlbjmafceoeaaGreatDoor
open E Go.RowKit _root_.Go.Proofs.Tryz
def flat_Own_2(x0:S_api_Entry)(x1:S_api_Entry):Option (Int) :=
 cidr_Less x0.f_P x1.f_P>>=fun t3=>if t3=true then (some (-1)) else (cidr_Less x1.f_P x0.f_P>>=fun t5=>if t5=true then (some 1) else (some 0))
theorem flat_Own_2_ok(x0:S_api_Entry)(x1:S_api_Entry)(r:Int)(hF:flat_Own_2 x0 x1=some r)(w:World) :
    Calls Tryz.prog 97 #[.agg (Cd.cs c_api_Entry x0).toArray,.agg (Cd.cs c_api_Entry x1).toArray] w (fun e w'=>e=.returned (.int .i64 r)∧Below w.heap.size w w'):=by
 unfold flat_Own_2 at hF
 refine ce (l:=[.agg (Cd.cs c_api_Entry x0).toArray,.agg (Cd.cs c_api_Entry x1).toArray]) func97 rfl rfl ?_
 refine at_start ?_
 refine sr ?_
 refine at_box (cs:=Cd.cs c_api_Entry x0) rfl rfl rfl ?_
 intro b1
 refine at_box (cs:=Cd.cs c_api_Entry x1) rfl rfl rfl ?_
 intro b2
 refine aa (nwq [3,2] ?_)
 refine qs ?_
 refine qb ?_
 refine sr (fa 0 underlying49 rfl sizeOf38 ?_)
 refine aw (r_load_aggc (c:=c_api_Prefix) (z:=x0.f_P) isAgg38 sizeOf38 rfl (lens_cell (.s .z) (Lens.comp lw (fun z=>{ x0 with f_P:=z }) (c_api_Entry_f_P x0)))) ?_
 refine fa 0 underlying49 rfl sizeOf38 ?_
 refine aw (r_load_aggc (c:=c_api_Prefix) (z:=x1.f_P) isAgg38 sizeOf38 rfl (lens_cell .z (Lens.comp lw (fun z=>{ x1 with f_P:=z }) (c_api_Entry_f_P x1)))) ?_
 obtain ⟨t3,ht3,hF⟩:=bM hF
 refine cB func70 rfl (fun w hw=>cidr_Less_ok _ _ _ ht3 w) ?_
 refine aa (nwq [5,3,2] ?_)
 obtain ⟨h4,hF⟩|⟨h4,hF⟩:=oi hF
 ·refine ct h4 ?_
  refine sr (aa (qn (dz (dz (wq [4] ?_)))))
  refine tn (qt ?_)
  refine br (tr ?_)
  have K:=os hF
  subst K
  exact r1 wb
 refine cf h4 ?_
 refine sr (fa 0 underlying49 rfl sizeOf38 ?_)
 refine aw (r_load_aggc (c:=c_api_Prefix) (z:=x1.f_P) isAgg38 sizeOf38 rfl (lens_cell .z (Lens.comp lw (fun z=>{ x1 with f_P:=z }) (c_api_Entry_f_P x1)))) ?_
 refine fa 0 underlying49 rfl sizeOf38 ?_
 refine aw (r_load_aggc (c:=c_api_Prefix) (z:=x0.f_P) isAgg38 sizeOf38 rfl (lens_cell (.s .z) (Lens.comp lw (fun z=>{ x0 with f_P:=z }) (c_api_Entry_f_P x0)))) ?_
 obtain ⟨t5,ht5,hF⟩:=bM hF
 refine cB func70 rfl (fun w hw=>cidr_Less_ok _ _ _ ht5 w) ?_
 refine aa (qn (dz (dz (wq [11] ?_))))
 refine tn ?_
 obtain ⟨h6,hF⟩|⟨h6,hF⟩:=oi hF
 ·refine ct h6 ?_
  refine sr (aa (nwq [4] ?_))
  refine qt ?_
  refine br (tr ?_)
  have K:=os hF
  subst K
  exact r1 wb
 refine cf h6 ?_
 refine at_skip ?_
 refine bm ?_
 refine sr (aa (nwq [4] ?_))
 refine qt ?_
 have K:=os hF
 subst K
 exact r1 wb
def flat_Own_1(x0:S_api_Entry)(x1:S_api_Entry):Option (Bool) :=
 some (decide (x0.f_P=x1.f_P))
theorem flat_Own_1_ok(x0:S_api_Entry)(b1_:Nat)(x1:S_api_Entry)(r:Bool)(hF:flat_Own_1 x0 x1=some r)(w:World)(hc1:Row c_api_Entry w (some ⟨b1_,0,none⟩) 1 [x1]) :
    Calls Tryz.prog 95 #[.agg (Cd.cs c_api_Entry x0).toArray,.pointer (some ⟨b1_,0,none⟩)] w (fun e w'=>e=.returned (.bool r)∧Below w.heap.size w w'):=by
 unfold flat_Own_1 at hF
 refine ce (l:=[.agg (Cd.cs c_api_Entry x0).toArray,.pointer (some ⟨b1_,0,none⟩)]) func95 rfl rfl ?_
 refine at_start ?_
 refine sr ?_
 refine at_box (cs:=Cd.cs c_api_Entry x0) rfl rfl rfl ?_
 intro b1
 refine aa (ns (fa 0 underlying49 rfl sizeOf38 ?_))
 refine aw (r_load_aggc (c:=c_api_Prefix) (z:=x0.f_P) isAgg38 sizeOf38 rfl (lens_cell .z (Lens.comp lw (fun z=>{ x0 with f_P:=z }) (c_api_Entry_f_P x0)))) ?_
 refine fa 0 underlying49 rfl sizeOf38 ?_
 refine aw (r_load_aggc (c:=c_api_Prefix) (z:=x1.f_P) isAgg38 sizeOf38 rfl (row_lens (y:=x1.f_P) (fun _ h=>h.below) hc1 one_in rfl (Lens.comp lw (fun z=>{ x1 with f_P:=z }) (c_api_Entry_f_P x1)))) ?_
 refine aw (r_eqagg (c:=c_api_Prefix) (a:=x0.f_P) (b:=x1.f_P) (eq_api_Prefix_38) rfl Tryz.eqGuardType38 rfl rfl (.inl rfl) rfl) ?_
 refine aa (qn (dz (wq [3] ?_)))
 refine tn (qt ?_)
 have K:=os hF
 subst K
 exact r1 wb
def slices_IndexFunc_api_Entry__flat_Own_1.l0(x0:List S_api_Entry)(x1_0:S_api_Entry)(i2:Int):Option (Ctl (Int) (Unit)) :=
 if (decide (i2<(x0.length:Int)))=true then (if (0:Int)≤i2∧i2<(x0.length:Int) then flat_Own_1 (lget x0 i2) x1_0>>=fun t8=>if t8=true then (some (.ret i2)) else (slices_IndexFunc_api_Entry__flat_Own_1.l0 x0 x1_0 (wr .i64 (i2+1))) else none) else (some (.nx ()))
 partial_fixpoint
def slices_IndexFunc_api_Entry__flat_Own_1(x0:List S_api_Entry)(x1_0:S_api_Entry):Option (Int) :=
 slices_IndexFunc_api_Entry__flat_Own_1.l0 x0 x1_0 0>>=fun q1=>match q1 with | .ret r'=>some r' | .nx sq1=>(some (-1))
theorem slices_IndexFunc_api_Entry__flat_Own_1_ok(x0:List S_api_Entry)(p0_:Option Addr)(c0_:Nat)(b1_0:Nat)(x1_0:S_api_Entry)(r:Int)(hF:slices_IndexFunc_api_Entry__flat_Own_1 x0 x1_0=some r)(w:World)(hr0:Row c_api_Entry w p0_ c0_ x0)(hc1_0:Row c_api_Entry w (some ⟨b1_0,0,none⟩) 1 [x1_0]) :
    Calls Tryz.prog 125 #[.slice p0_ x0.length c0_,.func (.func 95) #[] #[.pointer (some ⟨b1_0,0,none⟩)]] w (fun e w'=>e=.returned (.int .i64 r)∧Below w.heap.size w w'):=by
 unfold slices_IndexFunc_api_Entry__flat_Own_1 at hF
 refine ce (l:=[.slice p0_ x0.length c0_,.func (.func 95) #[] #[.pointer (some ⟨b1_0,0,none⟩)]]) func125 rfl rfl ?_
 refine at_start ?_
 refine sr (aa (nt (qs (sr (am ?_)))))
 refine aw (r_len_sl underlying46 rfl) ?_
 refine am (nwq [8,7,1,0] ?_)
 refine qb ?_
 obtain ⟨q1,hq1,hF⟩:=bM hF
 refine wq [8,7,1,0] ?_
 refine at_loop_r (B:=0) (r:=r) (q:=q1) (A:=fun (_:Unit) Y=>At 19 [] (Wd w []) Y) ?_ ?_
 ·intro K
  refine slices_IndexFunc_api_Entry__flat_Own_1.l0.partial_correctness x0 x1_0 (motive:=fun i2 x=>KR (fun (_:Unit) Y=>At 19 [] (Wd w []) Y) _ 0 r x→Round (fun Y=>At 19 [(0,.slice p0_ x0.length c0_),(1,.func (.func 95) #[] #[.pointer (some ⟨b1_0,0,none⟩)]),(7,.int .i64 (x0.length:Int)),(8,.int .i64 i2)] (Wd w []) Y) _ _ _) ?_ _ _ hq1 K
  ·clear K hF
   intro g ih i2 x hF K
   refine at_round ?_
   refine sr (aw xl (nwq [9,8,7,1,0] ?_))
   refine qs ?_
   obtain ⟨h3,hF⟩|⟨h3,hF⟩:=oi hF
   ·refine ct h3 ?_
    refine sn (qs ?_)
    refine qb ?_
    refine sr (am (aa (nwx [8,7,5,1,0] ?_)))
    refine am (am (am ?_))
    obtain ⟨h4,hF⟩:=gd hF
    obtain ⟨b6,o7,hp5⟩:=row_ptr hr0 h4
    refine aw (r_idx underlying46 sizeOf49 rfl rfl h4 hp5) ?_
    refine aw (r_load_aggc (c:=c_api_Entry) (z:=lget x0 i2) isAgg49 sizeOf49 rfl (row_cell (fun _ h=>h.below) hr0 h4 hp5)) ?_
    refine at_calleeC (caps:=[.pointer (some ⟨b1_0,0,none⟩)]) rfl ?_
    obtain ⟨t8,ht8,hF⟩:=bM hF
    refine cB func95 rfl (fun w hw=>flat_Own_1_ok _ _ _ _ ht8 w (hc1_0.below hw.below)) ?_
    refine nwq [16,8,7,5,1,0] ?_
    obtain ⟨h9,hF⟩|⟨h9,hF⟩:=oi hF
    ·refine ct h9 ?_
     refine sr (am (aa (nwq [4] ?_)))
     refine qt ?_
     refine br (tr (tr (br (tr ?_))))
     obtain rfl:=os hF
     subst K
     exact r1 wb
    refine cf h9 ?_
    refine at_skip ?_
    refine bm ?_
    refine qr (aw xa (am (nwq [8,7,1,0] ?_)))
    exact at_weak_k (ih _ _ hF K) ⟨rfl,rfl,rfl,rfl,trivial⟩
   refine cf h3 ?_
   refine at_exit ?_
   refine te (te ?_)
   obtain rfl:=os hF
   exact at_weak_k K trivial
 cases q1 with
 | ret r'=>exact os hF
 | nx sq1 =>
  skip
  refine at_blk_same ?_
  refine tn (sr (aa (nwq [4] ?_)))
  refine qt ?_
  have K:=os hF
  subst K
  exact r1 wb
def slices_ContainsFunc_api_Entry__flat_Own_1(x0:List S_api_Entry)(x1_0:S_api_Entry):Option (Bool) :=
 slices_IndexFunc_api_Entry__flat_Own_1 x0 x1_0>>=fun t1=>some (decide (t1≥0))
theorem slices_ContainsFunc_api_Entry__flat_Own_1_ok(x0:List S_api_Entry)(p0_:Option Addr)(c0_:Nat)(b1_0:Nat)(x1_0:S_api_Entry)(r:Bool)(hF:slices_ContainsFunc_api_Entry__flat_Own_1 x0 x1_0=some r)(w:World)(hr0:Row c_api_Entry w p0_ c0_ x0)(hc1_0:Row c_api_Entry w (some ⟨b1_0,0,none⟩) 1 [x1_0]) :
    Calls Tryz.prog 94 #[.slice p0_ x0.length c0_,.func (.func 95) #[] #[.pointer (some ⟨b1_0,0,none⟩)]] w (fun e w'=>e=.returned (.bool r)∧Below w.heap.size w w'):=by
 unfold slices_ContainsFunc_api_Entry__flat_Own_1 at hF
 refine ce (l:=[.slice p0_ x0.length c0_,.func (.func 95) #[] #[.pointer (some ⟨b1_0,0,none⟩)]]) func94 rfl rfl ?_
 refine at_start ?_
 refine sr (aa (ns (am (am ?_))))
 obtain ⟨t1,ht1,hF⟩:=bM hF
 refine cB func125 rfl (fun w hw=>slices_IndexFunc_api_Entry__flat_Own_1_ok _ _ _ _ _ _ ht1 w (hr0.below hw.below) (hc1_0.below hw.below)) ?_
 refine aw (r_igeq rfl rfl) ?_
 refine aa (nwq [4] ?_)
 refine qt ?_
 have K:=os hF
 subst K
 exact r1 wb
end Go.Proofs.YtahlbjmafceoeaaGreatDoor
namespace Go.Proofs.YtahlbjmafceoeaaGreatDoor
open E Go.RowKit
def ordE(x y:S_api_Entry):Int:=(flat_Own_2 x y).getD 0
def lessE(x y:S_api_Entry):Bool:=lessP x.f_P y.f_P
theorem ordE_key(x y:S_api_Entry):flat_Own_2 x y=some (if lessE x y=true then -1 else if lessE y x=true then 1 else 0):=by
 unfold flat_Own_2 lessE
 rw [cless_key,cless_key]
 show (if lessP x.f_P y.f_P=true then some (-1) else (if lessP y.f_P x.f_P=true then some 1 else some 0))=_
 split
 ·rfl
 ·split<;>rfl
theorem ltOf_ordE:ltOf ordE=lessE:=by
 funext x y
 unfold ltOf ordE
 rw [ordE_key]
 show decide ((if lessE x y=true then (-1:Int) else if lessE y x=true then 1 else 0)<0)=_
 cases h:lessE x y
 ·rw [if_neg Bool.false_ne_true];split<;>rfl
 ·rfl
def okE(x:S_api_Entry):Prop:=okP x.f_P
theorem lessE_swo:SWOn okE lessE where
 irrefl x hx:=lessP_swo.irrefl _ hx
 trans x y z hx hy hz h1 h2:=lessP_swo.trans _ _ _ hx hy hz h1 h2
 ntrans x y z hx hy hz h1 h2:=lessP_swo.ntrans _ _ _ hx hy hz h1 h2
theorem nodup_on{α β:Type}{f:α→β}:∀ {l:List α},(l.map f).Nodup→∀ x∈l,∀ y∈l,f x=f y→x=y
 | [],_,x,hx,_,_,_=>by cases hx
 | a::l,h,x,hx,y,hy,e=>by
  rw [List.map_cons] at h
  obtain ⟨h1,h2⟩:=List.nodup_cons.1 h
  rcases List.mem_cons.1 hx with ex | hx
  ·rcases List.mem_cons.1 hy with ey | hy
   ·rw [ex,ey]
   ·rw [ex] at e
    exact absurd (List.mem_map.2 ⟨y,hy,e.symm⟩) h1
  ·rcases List.mem_cons.1 hy with ey | hy
   ·rw [ey] at e
    exact absurd (List.mem_map.2 ⟨x,hx,e⟩) h1
   ·exact nodup_on h2 x hx y hy e
def sort_Entry(xs:List S_api_Entry):Option (List S_api_Entry):=if (xs.all fun x=>okb x.f_P.f_A.f_B)=true∧(xs.map S_api_Entry.f_P).Nodup∧xs.length≤1000000 then some (isort lessE xs) else none
theorem sort_Entry_len{xs r:List S_api_Entry}(h:sort_Entry xs=some r):r.length=xs.length:=by
 unfold sort_Entry at h
 split at h
 ·cases h;exact isort_length _ _
 ·cases h
theorem sort_Entry_ok{xs r:List S_api_Entry}(h:sort_Entry xs=some r){w0 w:World}{H G:List Ent}{f:Ent→List Ent}{p:Option Addr}{cap:Nat}(hu:Upd H (rowE c_api_Entry 49 p cap xs) f G)(hw:Wd w0 H w) :
  Calls Tryz.prog 96 #[.slice p xs.length cap,.func (.func 97) #[] #[]] w fun en w'=>en=.returned (.tuple #[])∧Wd w0 (f (rowE c_api_Entry 49 p cap r)) w':=by
 unfold sort_Entry at h
 split at h
 ·next hh =>
  cases h
  have hK:∀ x∈xs,okE x:=fun x hx=>List.all_eq_true.1 hh.1 x hx
  have:=sort_calls Tryz.sortE c_api_Entry okE Tryz.isAgg49 Tryz.sizeOf49 ordE (by rw [ltOf_ordE];exact lessE_swo) 97 (enters_of Tryz.func97 (by kernel_rfl) rfl)
   (fun x y _ _ w=>flat_Own_2_ok _ _ _ (by unfold ordE;rw [ordE_key];rfl) w) hK (by rw [ltOf_ordE];exact fun x hx y hy h1 h2=>nodup_on hh.2.1 x hx y hy (lessP_anti (hK x hx) (hK y hy) h1 h2)) (by omega) hu hw
  rw [ltOf_ordE] at this
  exact this
 ·cases h
end Go.Proofs.YtahlbjmafceoeaaGreatDoor
namespace Go.Proofs.YtahlbjmafceoeaaGreatDoor
open E Go.RowKit _root_.Go.Proofs.Tryz
theorem infoF549_is:(Tryz.prog.info? 49).isSome=true:=by kernel_rfl
noncomputable def infoF549_v:TypeInfo:=(Tryz.prog.info? 49).get infoF549_is
theorem infoF549:Tryz.prog.info? 49=some infoF549_v:=(Option.some_get _).symm
def flat_Own.l0(x0:List S_api_Entry)(i4:List S_api_Entry)(i5:Int):Option (List S_api_Entry) :=
 if (decide (i5<(x0.length:Int)))=true then (if (0:Int)≤i5∧i5<(x0.length:Int) then if (0:Int)≤wr .i64 (i5+1)∧wr .i64 (i5+1)≤(x0.length:Int)∧(x0.length:Int)≤(x0.length:Int) then slices_ContainsFunc_api_Entry__flat_Own_1 (lsub x0 (wr .i64 (i5+1)) (x0.length:Int)) (lget x0 i5)>>=fun t17=>cidr_Right ((lget x0 i5).f_P)>>=fun t18=>if t18=true then (if (!t17)=true then (if (i4.length+1)*40≤140737488355328 then flat_Own.l0 x0 (i4++[lget x0 i5]) (wr .i64 (i5+1)) else none) else (flat_Own.l0 x0 i4 (wr .i64 (i5+1)))) else (flat_Own.l0 x0 i4 (wr .i64 (i5+1))) else none else none) else (some i4)
 partial_fixpoint
def flat_Own(x0:List S_api_Entry):Option (List S_api_Entry) :=
 flat_Own.l0 x0 ([]:List S_api_Entry) 0>>=fun q3=>sort_Entry q3>>=fun t25=>some t25
theorem flat_Own_ok(x0:List S_api_Entry)(p0_:Option Addr)(c0_:Nat)(r:List S_api_Entry)(hF:flat_Own x0=some r)(w:World)(hr0:Row c_api_Entry w p0_ c0_ x0) :
    Calls Tryz.prog 72 #[.slice p0_ x0.length c0_] w (fun e w'=>∃ p cap,e=.returned (.slice p r.length cap)∧Own c_api_Entry 49 w.heap.size w' p cap r∧Below w.heap.size w w'):=by
 unfold flat_Own at hF
 refine ce (l:=[.slice p0_ x0.length c0_]) func72 rfl rfl ?_
 refine at_start ?_
 refine sr (aa (ns (aa (nt (qs (sr (am ?_)))))))
 refine aw (r_len_sl underlying46 rfl) ?_
 refine am (nwq [9,8,7,3,0] ?_)
 refine qb ?_
 refine at_own_nil c_api_Entry 49 ?_
 obtain ⟨q3,hq3,hF⟩:=bM hF
 refine wq [9,8,7,3,0] ?_
 refine at_loop_n (B:=0) (A:=fun Y=>∀ (p8:Option Addr) (c9:Nat),At 35 [(3,.slice p8 q3.length c9)] (Wd w [rowE c_api_Entry 49 p8 c9 q3]) Y) ?_ ?_
 ·intro K
  refine flat_Own.l0.partial_correctness x0 (motive:=fun i4 i5 x=>KN (fun Y=>∀ (p8:Option Addr) (c9:Nat),At 35 [(3,.slice p8 x.length c9)] (Wd w [rowE c_api_Entry 49 p8 c9 x]) Y) _ 0→Round (fun Y=>∀ (p6:Option Addr) (c7:Nat),At 35 [(0,.slice p0_ x0.length c0_),(3,.slice p6 i4.length c7),(7,.slice p0_ x0.length c0_),(8,.int .i64 (x0.length:Int)),(9,.int .i64 i5)] (Wd w [rowE c_api_Entry 49 p6 c7 i4]) Y) _ _ _) ?_ _ _ _ hq3 K none 0
  ·clear K hF
   intro g ih i4 i5 x hF K p6 c7
   refine at_round ?_
   refine sr (aw xl (nwq [10,9,8,7,3,0] ?_))
   refine qs ?_
   obtain ⟨h10,hF⟩|⟨h10,hF⟩:=oi hF
   ·refine ct h10 ?_
    refine sn (qs ?_)
    refine qb ?_
    refine sr (am ?_)
    obtain ⟨h11,hF⟩:=gd hF
    obtain ⟨b13,o14,hp12⟩:=row_ptr hr0 h11
    refine aw (r_idx underlying46 sizeOf49 rfl rfl h11 hp12) ?_
    refine aw (r_load_aggc (c:=c_api_Entry) (z:=lget x0 i5) isAgg49 sizeOf49 rfl (row_cell (fun _ h=>h.below) hr0 h11 hp12)) ?_
    refine al (cs:=Cd.cs c_api_Entry zv13) zeroValue49 ?_
    intro b15
    refine aa ?_
    refine at_store (c:=c_api_Entry) (z:=lget x0 i5) .z lw sizeOf49 rfl rfl rfl ?_
    refine ns (am (am (aw xa ?_)))
    obtain ⟨h16,hF⟩:=gd hF
    refine aw (r_reslice (c:=c_api_Entry) underlying46 sizeOf49 rfl (Row.len hr0) ⟨_,rfl⟩ rfl h16) ?_
    refine aw (r_makeFunc rfl) ?_
    obtain ⟨t17,ht17,hF⟩:=bM hF
    refine cB func94 rfl (fun w hw=>slices_ContainsFunc_api_Entry__flat_Own_1_ok _ _ _ _ _ _ ht17 w ((Row.sub hr0 h16).below hw.below) (cells_row1 (hw.ok (Upd.mem .z)))) ?_
    refine aa (nwx [9,8,7,6,5,3,0] ?_)
    refine fa 0 underlying49 rfl sizeOf38 ?_
    refine aw (r_load_aggc (c:=c_api_Prefix) (z:=(lget x0 i5).f_P) isAgg38 sizeOf38 rfl (lens_cell .z (Lens.comp lw (fun z=>{ lget x0 i5 with f_P:=z }) (c_api_Entry_f_P (lget x0 i5))))) ?_
    obtain ⟨t18,ht18,hF⟩:=bM hF
    refine cB func61 rfl (fun w hw=>cidr_Right_ok _ _ ht18 w) ?_
    refine am ?_
    obtain ⟨h19,hF⟩|⟨h19,hF⟩:=oi hF
    ·refine fx 23 h19 ?_
     refine gy ?_
     refine am ?_
     refine gy ?_
     refine aw (r_not rfl) ?_
     refine aw xp (nwq [26,9,8,7,5,3,0] ?_)
     obtain ⟨h20,hF⟩|⟨h20,hF⟩:=oi hF
     ·refine ct h20 ?_
      refine qr (am ?_)
      refine aw (r_load_aggc (c:=c_api_Entry) (z:=lget x0 i5) isAgg49 sizeOf49 rfl (lens_cell .z lw)) ?_
      refine at_litL (c:=c_api_Entry) ([zv13]:List S_api_Entry) ([lget x0 i5]:List S_api_Entry) underlying46 sizeOf49 zeroValue49 rfl rfl rfl (by kernel_rfl) (fill_step (c:=c_api_Entry) (z:=lget x0 i5) rfl (Lens.all c_api_Entry ([zv13]:List S_api_Entry) 0 (by first | decide | exact Nat.le_of_ble_eq_true rfl)) rfl rfl) rfl ?_
      intro b21
      obtain ⟨h22,hF⟩:=gd hF
      refine at_append (z:=.agg (Cd.cs c_api_Entry zv13).toArray) (c:=c_api_Entry) (ys:=([lget x0 i5]:List S_api_Entry)) (.s (.s .z)) underlying46 infoF549 (by kernel_rfl) (by kernel_rfl) rfl rfl rfl rfl (fun _ hw=>cells_src (hw.ok (Upd.mem .z))) (by kernel_rfl) h22 (app_small h22) rfl ?_
      intro p23 c24
      refine aa (qn (dz (dz (wq [9,8,7,3,0] ?_))))
      refine bm ?_
      refine qr (aw xa (am (nwq [9,8,7,3,0] ?_)))
      exact at_weak_k (ih _ _ _ hF K p23 c24) ⟨rfl,rfl,rfl,rfl,rfl,trivial⟩
     refine cf h20 ?_
     refine at_skip ?_
     refine bm ?_
     refine qr (aw xa (am (qn (dz (wq [9,8,7,3,0] ?_)))))
     refine tn ?_
     exact at_weak_k (ih _ _ _ hF K p6 c7) ⟨rfl,rfl,rfl,rfl,rfl,trivial⟩
    refine fx 23 h19 ?_
    refine gn ?_
    refine gn ?_
    refine aw xp (nwq [26,9,8,7,5,3,0] ?_)
    refine cf rfl ?_
    refine at_skip ?_
    refine bm ?_
    refine qr (aw xa (am (qn (dz (wq [9,8,7,3,0] ?_)))))
    refine tn ?_
    exact at_weak_k (ih _ _ _ hF K p6 c7) ⟨rfl,rfl,rfl,rfl,rfl,trivial⟩
   refine cf h10 ?_
   refine at_exit ?_
   refine te (te ?_)
   obtain rfl:=os hF
   exact at_weak_k (K p6 c7) ⟨rfl,trivial⟩
 skip
 intro p8 c9
 refine at_blk_same ?_
 refine tn (sr (am ?_))
 obtain ⟨t25,ht25,hF⟩:=bM hF
 refine at_callN (v:=.tuple #[]) (T:=[rowE c_api_Entry 49 p8 c9 t25]) func96 rfl (by kernel_rfl) rfl rfl (fun w hw=>sort_Entry_ok ht25 .z hw) ?_
 refine at_ov (t:=3) rfl (show Value.slice p8 (List.length q3) c9=.slice p8 (List.length t25) c9 from congrArg (fun n_=>Value.slice p8 n_ c9) ((sort_Entry_len ht25).symm)) ?_
 refine at_ov (t:=32) rfl (show Value.slice p8 (List.length q3) c9=.slice p8 (List.length t25) c9 from congrArg (fun n_=>Value.slice p8 n_ c9) ((sort_Entry_len ht25).symm)) ?_
 refine ns (am (aa (nwq [2] ?_)))
 refine qt ?_
 have K:=os hF
 subst K
 exact r1 (fun w1 hw=>⟨p8,c9,rfl,hw.own .z,hw.below⟩)
end Go.Proofs.YtahlbjmafceoeaaGreatDoor
namespace Go.Proofs.YtahlbjmafceoeaaGreatDoor
open E Go.RowKit _root_.Go.Proofs.Tryz
theorem infoF849_is:(Tryz.prog.info? 49).isSome=true:=by kernel_rfl
noncomputable def infoF849_v:TypeInfo:=(Tryz.prog.info? 49).get infoF849_is
theorem infoF849:Tryz.prog.info? 49=some infoF849_v:=(Option.some_get _).symm
def flat_Thin.l0(t1:List S_api_Entry)(i7:List S_api_Entry)(i9:Int):Option (List S_api_Entry) :=
 if (decide (i9<(t1.length:Int)))=true then (if (0:Int)≤i9∧i9<(t1.length:Int) then flat_above t1 (lget t1 i9)>>=fun t20=>if (!t20.2)=true then (if (i7.length+1)*40≤140737488355328 then flat_Thin.l0 t1 (i7++[lget t1 i9]) (wr .i64 (i9+1)) else none) else (if (t20.1.f_Owner != (lget t1 i9).f_Owner)=true then (if (i7.length+1)*40≤140737488355328 then flat_Thin.l0 t1 (i7++[lget t1 i9]) (wr .i64 (i9+1)) else none) else (flat_Thin.l0 t1 i7 (wr .i64 (i9+1)))) else none) else (some i7)
 partial_fixpoint
def flat_Thin(x0:List S_api_Entry):Option (List S_api_Entry) :=
 flat_Own x0>>=fun t1=>flat_Thin.l0 t1 ([]:List S_api_Entry) 0>>=fun q6=>some q6
theorem flat_Thin_ok(x0:List S_api_Entry)(p0_:Option Addr)(c0_:Nat)(r:List S_api_Entry)(hF:flat_Thin x0=some r)(w:World)(hr0:Row c_api_Entry w p0_ c0_ x0) :
    Calls Tryz.prog 47 #[.slice p0_ x0.length c0_] w (fun e w'=>∃ p cap,e=.returned (.slice p r.length cap)∧Own c_api_Entry 49 w.heap.size w' p cap r∧Below w.heap.size w w'):=by
 unfold flat_Thin at hF
 refine ce (l:=[.slice p0_ x0.length c0_]) func47 rfl rfl ?_
 refine at_start ?_
 refine sr (aa (ns (am ?_)))
 obtain ⟨t1,ht1,hF⟩:=bM hF
 refine at_callO (c:=c_api_Entry) (e:=49) (ys:=t1) (V:=fun p cap=>.slice p t1.length cap) func72 rfl (by kernel_rfl) rfl rfl (fun w hw=>flat_Own_ok _ _ _ _ ht1 w (hr0.below hw.below)) ?_
 intro p2 c3
 refine aa (ns (aa (nt (qs (sr (am ?_))))))
 refine aw (r_len_sl underlying46 rfl) ?_
 refine am (nwq [13,12,11,4,3] ?_)
 refine qb ?_
 refine at_own_nil c_api_Entry 49 ?_
 obtain ⟨q6,hq6,hF⟩:=bM hF
 refine wq [13,12,11,4,3] ?_
 refine at_loop_n (B:=0) (A:=fun Y=>∀ (p12:Option Addr) (c13:Nat),At 38 [(4,.slice p12 q6.length c13)] (Wd w [rowE c_api_Entry 49 p12 c13 q6]) Y) ?_ ?_
 ·intro K
  refine flat_Thin.l0.partial_correctness t1 (motive:=fun i7 i9 x=>KN (fun Y=>∀ (p12:Option Addr) (c13:Nat),At 38 [(4,.slice p12 x.length c13)] (Wd w [rowE c_api_Entry 49 p12 c13 x]) Y) _ 0→Round (fun Y=>∀ (p10:Option Addr) (c11:Nat),At 38 [(3,.slice p2 t1.length c3),(4,.slice p10 i7.length c11),(11,.slice p2 t1.length c3),(12,.int .i64 (t1.length:Int)),(13,.int .i64 i9)] (Wd w [rowE c_api_Entry 49 p10 c11 i7,rowE c_api_Entry 49 p2 c3 t1]) Y) _ _ _) ?_ _ _ _ hq6 K none 0
  ·clear K hF
   intro g ih i7 i9 x hF K p10 c11
   refine at_round ?_
   refine sr (aw xl (nwq [14,13,12,11,4,3] ?_))
   refine qs ?_
   obtain ⟨h14,hF⟩|⟨h14,hF⟩:=oi hF
   ·refine ct h14 ?_
    refine sn (qs ?_)
    refine qb ?_
    refine sr ?_
    obtain ⟨h15,hF⟩:=gd hF
    refine at_pure (φ:=∃ b o,p2=some ⟨b,o,none⟩) (fun _ hw=>row_ptr (hw.own (.s .z)).row h15) ?_
    rintro ⟨b17,o18,hp16⟩
    refine aw (r_idx underlying46 sizeOf49 rfl rfl h15 hp16) ?_
    refine aw (r_load_aggc (c:=c_api_Entry) (z:=lget t1 i9) isAgg49 sizeOf49 rfl (fun w1 hw=>row_cell (W:=fun w1=>w1=_) (fun w1 h=>by subst h;exact Below.refl _ _) (hw.own (.s .z)).row h15 hp16 _ rfl)) ?_
    refine al (cs:=Cd.cs c_api_Entry zv13) zeroValue49 ?_
    intro b19
    refine at_store (c:=c_api_Entry) (z:=lget t1 i9) .z lw sizeOf49 rfl rfl rfl ?_
    refine ns (am ?_)
    refine aw (r_load_aggc (c:=c_api_Entry) (z:=lget t1 i9) isAgg49 sizeOf49 rfl (lens_cell .z lw)) ?_
    obtain ⟨t20,ht20,hF⟩:=bM hF
    refine cB func73 rfl (fun w hw=>flat_above_ok _ _ _ _ _ ht20 w (hw.own (.s (.s .z))).row) ?_
    refine am ?_
    refine aw xe (aw xe ?_)
    refine al (cs:=Cd.cs c_api_Entry zv13) zeroValue49 ?_
    intro b21
    refine at_store (c:=c_api_Entry) (z:=t20.1) .z lw sizeOf49 rfl rfl rfl ?_
    refine aa (nwx [13,12,11,8,7,6,4,3] ?_)
    refine am ?_
    refine aw (r_not rfl) ?_
    refine am ?_
    obtain ⟨h22,hF⟩|⟨h22,hF⟩:=oi hF
    ·refine fx 25 h22 ?_
     refine gn ?_
     refine gn ?_
     refine gn ?_
     refine gn ?_
     refine gn ?_
     refine aw xp (qn (dz (wq [31,13,12,11,6,4,3] ?_)))
     refine tn ?_
     refine ct rfl ?_
     refine qr (am ?_)
     refine aw (r_load_aggc (c:=c_api_Entry) (z:=lget t1 i9) isAgg49 sizeOf49 rfl (lens_cell .z lw)) ?_
     refine at_litL (c:=c_api_Entry) ([zv13]:List S_api_Entry) ([lget t1 i9]:List S_api_Entry) underlying46 sizeOf49 zeroValue49 rfl rfl rfl (by kernel_rfl) (fill_step (c:=c_api_Entry) (z:=lget t1 i9) rfl (Lens.all c_api_Entry ([zv13]:List S_api_Entry) 0 (by first | decide | exact Nat.le_of_ble_eq_true rfl)) rfl rfl) rfl ?_
     intro b23
     obtain ⟨h24,hF⟩:=gd hF
     refine at_append (z:=.agg (Cd.cs c_api_Entry zv13).toArray) (c:=c_api_Entry) (ys:=([lget t1 i9]:List S_api_Entry)) (.s (.s .z)) underlying46 infoF849 (by kernel_rfl) (by kernel_rfl) rfl rfl rfl rfl (fun _ hw=>cells_src (hw.ok (Upd.mem .z))) (by kernel_rfl) h24 (app_small h24) rfl ?_
     intro p25 c26
     refine aa (qn (dz (dz (wq [13,12,11,4,3] ?_))))
     refine bm ?_
     refine qr (aw xa (am (nwq [13,12,11,4,3] ?_)))
     exact at_weak_k (ih _ _ _ hF K p25 c26) ⟨rfl,rfl,rfl,rfl,rfl,trivial⟩
    refine fx 25 h22 ?_
    refine gy ?_
    refine fa 18 underlying49 rfl sizeOf3 ?_
    refine gy ?_
    refine aw (r_load_cell isAgg3 rfl (lens_cell0 (c:=(cInt .i64)) (y:=t20.1.f_Owner) .z (Lens.comp lw (fun z=>{ t20.1 with f_Owner:=z }) (c_api_Entry_f_Owner t20.1)) rfl)) ?_
    refine gy ?_
    refine fa 18 underlying49 rfl sizeOf3 ?_
    refine gy ?_
    refine aw (r_load_cell isAgg3 rfl (lens_cell0 (c:=(cInt .i64)) (y:=(lget t1 i9).f_Owner) (.s .z) (Lens.comp lw (fun z=>{ lget t1 i9 with f_Owner:=z }) (c_api_Entry_f_Owner (lget t1 i9))) rfl)) ?_
    refine gy ?_
    refine aw xn (aw xp (qn (dz (wq [31,13,12,11,6,4,3] ?_))))
    refine tn ?_
    obtain ⟨h27,hF⟩|⟨h27,hF⟩:=oi hF
    ·refine ct h27 ?_
     refine qr (am ?_)
     refine aw (r_load_aggc (c:=c_api_Entry) (z:=lget t1 i9) isAgg49 sizeOf49 rfl (lens_cell .z lw)) ?_
     refine at_litL (c:=c_api_Entry) ([zv13]:List S_api_Entry) ([lget t1 i9]:List S_api_Entry) underlying46 sizeOf49 zeroValue49 rfl rfl rfl (by kernel_rfl) (fill_step (c:=c_api_Entry) (z:=lget t1 i9) rfl (Lens.all c_api_Entry ([zv13]:List S_api_Entry) 0 (by first | decide | exact Nat.le_of_ble_eq_true rfl)) rfl rfl) rfl ?_
     intro b28
     obtain ⟨h29,hF⟩:=gd hF
     refine at_append (z:=.agg (Cd.cs c_api_Entry zv13).toArray) (c:=c_api_Entry) (ys:=([lget t1 i9]:List S_api_Entry)) (.s (.s .z)) underlying46 infoF849 (by kernel_rfl) (by kernel_rfl) rfl rfl rfl rfl (fun _ hw=>cells_src (hw.ok (Upd.mem .z))) (by kernel_rfl) h29 (app_small h29) rfl ?_
     intro p30 c31
     refine aa (qn (dz (dz (wq [13,12,11,4,3] ?_))))
     refine bm ?_
     refine qr (aw xa (am (nwq [13,12,11,4,3] ?_)))
     exact at_weak_k (ih _ _ _ hF K p30 c31) ⟨rfl,rfl,rfl,rfl,rfl,trivial⟩
    refine cf h27 ?_
    refine at_skip ?_
    refine bm ?_
    refine qr (aw xa (am (qn (dz (wq [13,12,11,4,3] ?_)))))
    refine tn ?_
    exact at_weak_k (ih _ _ _ hF K p10 c11) ⟨rfl,rfl,rfl,rfl,rfl,trivial⟩
   refine cf h14 ?_
   refine at_exit ?_
   refine te (te ?_)
   refine at_drop (H:=_) (.s .z) ?_
   obtain rfl:=os hF
   exact at_weak_k (K p10 c11) ⟨rfl,trivial⟩
 skip
 intro p12 c13
 refine at_blk_same ?_
 refine tn (sr (am (aa (nwq [2] ?_))))
 refine qt ?_
 have K:=os hF
 subst K
 exact r1 (fun w1 hw=>⟨p12,c13,rfl,hw.own .z,hw.below⟩)
end Go.Proofs.YtahlbjmafceoeaaGreatDoor
namespace Go.Proofs.YtahlbjmafceoeaaGreatDoor
open E Go.RowKit _root_.Go.Proofs.Tryz
def crawlwayref34_Large.l0(x0:S_api_Conf)(i4:Int):Option (Ctl (Bool) (Unit)) :=
 if (decide (i4<(x0.f_Peers.length:Int)))=true then (if (0:Int)≤i4∧i4<(x0.f_Peers.length:Int) then if (decide ((((lget x0.f_Peers i4).f_Allowed).length:Int)>80))=true then (some (.ret true)) else (crawlwayref34_Large.l0 x0 (wr .i64 (i4+1))) else none) else (some (.nx ()))
 partial_fixpoint
def crawlwayref34_Large(x0:S_api_Conf):Option (Bool) :=
 if (decide ((x0.f_Peers.length:Int)>20))=true then (some true) else (crawlwayref34_Large.l0 x0 0>>=fun q3=>match q3 with | .ret r'=>some r' | .nx sq3=>(some false))
theorem crawlwayref34_Large_ok(g0_:G_api_Conf)(x0:S_api_Conf)(r:Bool)(hF:crawlwayref34_Large x0=some r)(w:World)(hn0:N_api_Conf w (g0_,x0)) :
    Calls Tryz.prog 6 #[.agg (Cd.cs c_api_Conf (g0_,x0)).toArray] w (fun e w'=>e=.returned (.bool r)∧Below w.heap.size w w'):=by
 unfold crawlwayref34_Large at hF
 refine ce (l:=[.agg (Cd.cs c_api_Conf (g0_,x0)).toArray]) func6 rfl rfl ?_
 refine at_start ?_
 refine sr ?_
 refine at_box (cs:=Cd.cs c_api_Conf (g0_,x0)) rfl rfl rfl ?_
 intro b1
 refine aa (nt (qs (sr (fa 34 underlying27 rfl sizeOf25 ?_))))
 refine aw (r_load_cell isAgg25 rfl (lens_cell0 (c:=cHd) (y:=⟨g0_.1,List.length x0.f_Peers,g0_.2⟩) .z (c_api_Conf_f_Peers g0_ x0) rfl)) ?_
 refine aw (r_len_sl underlying25 rfl) ?_
 refine aw (r_igtr rfl rfl) ?_
 refine nwq [7,1] ?_
 obtain ⟨h2,hF⟩|⟨h2,hF⟩:=oi hF
 ·refine ct h2 ?_
  refine sr (aa (qn (dz (wq [2] ?_))))
  refine tn (rt ?_)
  have K:=os hF
  subst K
  exact r1 wb
 refine cf h2 ?_
 refine sn (qs (sr (aa (nwq [3,1] ?_))))
 refine qb ?_
 obtain ⟨q3,hq3,hF⟩:=bM hF
 refine wq [3,1] ?_
 refine at_loop_r (B:=0) (r:=r) (q:=q3) (A:=fun (_:Unit) Y=>At 23 [] (Wd w []) Y) ?_ ?_
 ·intro K
  refine crawlwayref34_Large.l0.partial_correctness x0 (motive:=fun i4 x=>KR (fun (_:Unit) Y=>At 23 [] (Wd w []) Y) _ 0 r x→Round (fun Y=>At 23 [(1,.pointer (some ⟨b1,0,none⟩)),(3,.int .i64 i4)] (Wd w [cellsE b1 (Cd.cs c_api_Conf (g0_,x0)) 27]) Y) _ _ _) ?_ _ _ hq3 K
  ·clear K hF
   intro g ih i4 x hF K
   refine at_round ?_
   refine qs (sr (am (fa 34 underlying27 rfl sizeOf25 ?_)))
   refine aw (r_load_cell isAgg25 rfl (lens_cell0 (c:=cHd) (y:=⟨g0_.1,List.length x0.f_Peers,g0_.2⟩) .z (c_api_Conf_f_Peers g0_ x0) rfl)) ?_
   refine aw (r_len_sl underlying25 rfl) ?_
   refine aw xl (nwq [12,3,1] ?_)
   obtain ⟨h5,hF⟩|⟨h5,hF⟩:=oi hF
   ·refine ct h5 ?_
    refine sn (qs ?_)
    refine qb ?_
    refine sr (fa 34 underlying27 rfl sizeOf25 ?_)
    refine aw (r_load_cell isAgg25 rfl (lens_cell0 (c:=cHd) (y:=⟨g0_.1,List.length x0.f_Peers,g0_.2⟩) .z (c_api_Conf_f_Peers g0_ x0) rfl)) ?_
    refine am ?_
    obtain ⟨h6,hF⟩:=gd hF
    obtain ⟨zs10,hz11,hr12,hn13⟩:=id hn0
    obtain ⟨b8,o9,hp7⟩:=row_ptr hr12 (zidx hz11 h6)
    obtain ⟨g14,hg15⟩:=zget hz11 i4
    refine aw (r_idx underlying25 sizeOf60 rfl rfl h6 hp7) ?_
    refine fa 85 underlying60 rfl sizeOf58 ?_
    refine aw (r_load_cell isAgg58 rfl (nlens0 (c':=cHd) (y:=⟨g14.1,List.length ((lget x0.f_Peers i4).f_Allowed),g14.2⟩) (fun _ h=>h.below) hr12 (zidx hz11 h6) hp7 hg15 (c_api_Peer_f_Allowed g14 (lget x0.f_Peers i4)) rfl)) ?_
    refine aw (r_len_sl underlying58 rfl) ?_
    refine aw (r_igtr rfl rfl) ?_
    refine nwq [22,3,1] ?_
    obtain ⟨h16,hF⟩|⟨h16,hF⟩:=oi hF
    ·refine ct h16 ?_
     refine sr (aa (qn (dz (wq [2] ?_))))
     refine tn (qt ?_)
     refine br (tr (tr (br (tr ?_))))
     obtain rfl:=os hF
     subst K
     exact r1 wb
    refine cf h16 ?_
    refine at_skip ?_
    refine bm ?_
    refine qr (am (aw xa (aa (nwq [3,1] ?_))))
    exact at_weak_k (ih _ _ hF K) ⟨rfl,rfl,trivial⟩
   refine cf h5 ?_
   refine at_exit ?_
   refine te (te ?_)
   refine dz ?_
   obtain rfl:=os hF
   exact at_weak_k K trivial
 cases q3 with
 | ret r'=>exact os hF
 | nx sq3 =>
  skip
  refine at_blk_same ?_
  refine tn (sr (aa (nwq [2] ?_)))
  refine qt ?_
  have K:=os hF
  subst K
  exact r1 wb
def view_short(x0:Int):Option (Bool) :=
 if (decide (x0≥0))=true then (some (decide (x0≤65535))) else (some false)
theorem view_short_ok(x0:Int)(r:Bool)(hF:view_short x0=some r)(w:World) :
    Calls Tryz.prog 43 #[.int .i64 x0] w (fun e w'=>e=.returned (.bool r)∧w'=w):=by
 unfold view_short at hF
 refine ce (l:=[.int .i64 x0]) func43 rfl rfl ?_
 refine sr (aa (nwx [0] ?_))
 refine am ?_
 refine aw (r_igeq rfl rfl) ?_
 refine am ?_
 obtain ⟨h1,hF⟩|⟨h1,hF⟩:=oi hF
 ·refine fx 5 h1 ?_
  refine gy ?_
  refine am ?_
  refine gy ?_
  refine aw (r_ileq rfl rfl) ?_
  refine aw xp (aa (nwq [2] ?_))
  refine qt ?_
  have K:=os hF
  subst K
  exact r1 (fun w1 hw=>⟨rfl,hw⟩)
 refine fx 5 h1 ?_
 refine gn ?_
 refine gn ?_
 refine aw xp (aa (nwq [2] ?_))
 refine qt ?_
 have K:=os hF
 subst K
 exact r1 (fun w1 hw=>⟨rfl,hw⟩)
def view_rising.l0(x0:List S_api_Prefix)(i2:Int):Option (Ctl (Bool) (Unit)) :=
 if (decide (i2<(x0.length:Int)))=true then (if (0:Int)≤i2∧i2<(x0.length:Int) then cidr_Right (lget x0 i2)>>=fun t9=>if (!t9)=true then (some (.ret false)) else (if (decide (i2>0))=true then (if (0:Int)≤wr .i64 (i2-1)∧wr .i64 (i2-1)<(x0.length:Int) then cidr_Less (lget x0 (wr .i64 (i2-1))) (lget x0 i2)>>=fun t16=>if (!t16)=true then (some (.ret false)) else (view_rising.l0 x0 (wr .i64 (i2+1))) else none) else (view_rising.l0 x0 (wr .i64 (i2+1)))) else none) else (some (.nx ()))
 partial_fixpoint
def view_rising(x0:List S_api_Prefix):Option (Bool) :=
 view_rising.l0 x0 0>>=fun q1=>match q1 with | .ret r'=>some r' | .nx sq1=>(some true)
theorem view_rising_ok(x0:List S_api_Prefix)(p0_:Option Addr)(c0_:Nat)(r:Bool)(hF:view_rising x0=some r)(w:World)(hr0:Row c_api_Prefix w p0_ c0_ x0) :
    Calls Tryz.prog 44 #[.slice p0_ x0.length c0_] w (fun e w'=>e=.returned (.bool r)∧Below w.heap.size w w'):=by
 unfold view_rising at hF
 refine ce (l:=[.slice p0_ x0.length c0_]) func44 rfl rfl ?_
 refine at_start ?_
 refine sr (aa (nt (qs (sr (am ?_)))))
 refine aw (r_len_sl underlying58 rfl) ?_
 refine am (nwq [7,6,5,0] ?_)
 refine qb ?_
 obtain ⟨q1,hq1,hF⟩:=bM hF
 refine wq [7,6,5,0] ?_
 refine at_loop_r (B:=0) (r:=r) (q:=q1) (A:=fun (_:Unit) Y=>At 30 [] (Wd w []) Y) ?_ ?_
 ·intro K
  refine view_rising.l0.partial_correctness x0 (motive:=fun i2 x=>KR (fun (_:Unit) Y=>At 30 [] (Wd w []) Y) _ 0 r x→Round (fun Y=>At 30 [(0,.slice p0_ x0.length c0_),(5,.slice p0_ x0.length c0_),(6,.int .i64 (x0.length:Int)),(7,.int .i64 i2)] (Wd w []) Y) _ _ _) ?_ _ _ hq1 K
  ·clear K hF
   intro g ih i2 x hF K
   refine at_round ?_
   refine sr (aw xl (nwq [8,7,6,5,0] ?_))
   refine qs ?_
   obtain ⟨h3,hF⟩|⟨h3,hF⟩:=oi hF
   ·refine ct h3 ?_
    refine sn (qs ?_)
    refine qb ?_
    refine sr (am ?_)
    obtain ⟨h4,hF⟩:=gd hF
    obtain ⟨b6,o7,hp5⟩:=row_ptr hr0 h4
    refine aw (r_idx underlying58 sizeOf38 rfl rfl h4 hp5) ?_
    refine aw (r_load_aggc (c:=c_api_Prefix) (z:=lget x0 i2) isAgg38 sizeOf38 rfl (row_cell (fun _ h=>h.below) hr0 h4 hp5)) ?_
    refine al (cs:=Cd.cs c_api_Prefix zv9) zeroValue38 ?_
    intro b8
    refine aa ?_
    refine at_store (c:=c_api_Prefix) (z:=lget x0 i2) .z lw sizeOf38 rfl rfl rfl ?_
    refine nwq [7,6,5,4,3,0] ?_
    refine qs ?_
    refine at_draw (by kernel_rfl) (by kernel_rfl) (fun _ h=>h.drew) ?_
    refine atq_val rfl rfl rfl (r_load_aggc (c:=c_api_Prefix) (z:=lget x0 i2) isAgg38 sizeOf38 rfl (lens_cell .z lw)) ?_
    obtain ⟨t9,ht9,hF⟩:=bM hF
    refine atq_call func61 rfl (by kernel_rfl) rfl rfl (fun w hw=>(cidr_Right_ok _ _ ht9 w).mono fun _ _ h=>⟨h.1,hw.call h.2⟩) ?_
    refine atq_val rfl rfl rfl (r_not rfl) ?_
    refine atq_val rfl rfl rfl (r_move rfl) ?_
    obtain ⟨h10,hF⟩|⟨h10,hF⟩:=oi hF
    ·refine atq_fix (g:=15) rfl h10 ?_
     refine atq_guard_no rfl rfl rfl rfl rfl ?_
     refine atq_guard_no rfl rfl rfl rfl rfl ?_
     refine atq_guard_no rfl rfl rfl rfl rfl ?_
     refine atq_guard_undef rfl rfl rfl rfl ?_
     refine atq_guard_undef rfl rfl rfl rfl ?_
     refine atq_guard_undef rfl rfl rfl rfl ?_
     refine atq_guard_undef rfl rfl rfl rfl ?_
     refine atq_guard_undef rfl rfl rfl rfl ?_
     refine atq_guard_undef rfl rfl rfl rfl ?_
     refine atq_guard_undef rfl rfl rfl rfl ?_
     refine atq_guard_undef rfl rfl rfl rfl ?_
     refine atq_guard_no rfl rfl rfl rfl rfl ?_
     refine atq_val rfl rfl rfl (r_pick rfl rfl rfl) ?_
     refine atq_nil ?_
     refine dz (wq [28,7,6,5,0] ?_)
     refine tn ?_
     refine ct rfl ?_
     refine sr (aa (nwq [2] ?_))
     refine qt ?_
     refine br (tr (tr (br (tr ?_))))
     obtain rfl:=os hF
     subst K
     exact r1 wb
    refine atq_fix (g:=15) rfl h10 ?_
    refine atq_guard_yes rfl rfl rfl ?_
    refine atq_val rfl rfl rfl (r_move rfl) ?_
    refine atq_guard_yes rfl rfl rfl ?_
    refine atq_val rfl rfl rfl (r_igtr rfl rfl) ?_
    refine atq_guard_yes rfl rfl rfl ?_
    refine atq_val rfl rfl rfl (r_move rfl) ?_
    obtain ⟨h11,hF⟩|⟨h11,hF⟩:=oi hF
    ·refine atq_fix (g:=18) rfl h11 ?_
     refine atq_guard_yes rfl rfl rfl ?_
     refine atq_val rfl rfl rfl (r_move rfl) ?_
     refine atq_guard_yes rfl rfl rfl ?_
     refine atq_val rfl rfl rfl (r_move rfl) ?_
     refine atq_guard_yes rfl rfl rfl ?_
     refine atq_val rfl rfl rfl (r_isub rfl rfl) ?_
     refine atq_guard_yes rfl rfl rfl ?_
     obtain ⟨h12,hF⟩:=gd hF
     obtain ⟨b14,o15,hp13⟩:=row_ptr hr0 h12
     refine atq_val rfl rfl rfl (r_idx underlying58 sizeOf38 rfl rfl h12 hp13) ?_
     refine atq_guard_yes rfl rfl rfl ?_
     refine atq_val rfl rfl rfl (r_load_aggc (c:=c_api_Prefix) (z:=lget x0 (wr .i64 (i2-1))) isAgg38 sizeOf38 rfl (row_cell (fun _ h=>h.below) hr0 h12 hp13)) ?_
     refine atq_guard_yes rfl rfl rfl ?_
     refine atq_val rfl rfl rfl (r_load_aggc (c:=c_api_Prefix) (z:=lget x0 i2) isAgg38 sizeOf38 rfl (lens_cell .z lw)) ?_
     refine atq_guard_yes rfl rfl rfl ?_
     obtain ⟨t16,ht16,hF⟩:=bM hF
     refine atq_call func70 rfl (by kernel_rfl) rfl rfl (fun w hw=>(cidr_Less_ok _ _ _ ht16 w).mono fun _ _ h=>⟨h.1,hw.call h.2⟩) ?_
     refine atq_guard_yes rfl rfl rfl ?_
     refine atq_val rfl rfl rfl (r_not rfl) ?_
     refine atq_guard_yes rfl rfl rfl ?_
     refine atq_val rfl rfl rfl (r_pick rfl rfl rfl) ?_
     refine atq_val rfl rfl rfl (r_pick rfl rfl rfl) ?_
     refine atq_nil ?_
     refine dz (wq [28,7,6,5,0] ?_)
     refine tn ?_
     obtain ⟨h17,hF⟩|⟨h17,hF⟩:=oi hF
     ·refine ct h17 ?_
      refine sr (aa (nwq [2] ?_))
      refine qt ?_
      refine br (tr (tr (br (tr ?_))))
      obtain rfl:=os hF
      subst K
      exact r1 wb
     refine cf h17 ?_
     refine at_skip ?_
     refine bm ?_
     refine qr (aw xa (am (nwq [7,6,5,0] ?_)))
     exact at_weak_k (ih _ _ hF K) ⟨rfl,rfl,rfl,rfl,trivial⟩
    refine atq_fix (g:=18) rfl h11 ?_
    refine atq_guard_no rfl rfl rfl rfl rfl ?_
    refine atq_guard_no rfl rfl rfl rfl rfl ?_
    refine atq_guard_no rfl rfl rfl rfl rfl ?_
    refine atq_guard_no rfl rfl rfl rfl rfl ?_
    refine atq_guard_no rfl rfl rfl rfl rfl ?_
    refine atq_guard_no rfl rfl rfl rfl rfl ?_
    refine atq_guard_no rfl rfl rfl rfl rfl ?_
    refine atq_guard_no rfl rfl rfl rfl rfl ?_
    refine atq_guard_yes rfl rfl rfl ?_
    refine atq_val rfl rfl rfl (r_pick rfl rfl rfl) ?_
    refine atq_val rfl rfl rfl (r_pick rfl rfl rfl) ?_
    refine atq_nil ?_
    refine dz (wq [28,7,6,5,0] ?_)
    refine tn ?_
    refine cf rfl ?_
    refine at_skip ?_
    refine bm ?_
    refine qr (aw xa (am (nwq [7,6,5,0] ?_)))
    exact at_weak_k (ih _ _ hF K) ⟨rfl,rfl,rfl,rfl,trivial⟩
   refine cf h3 ?_
   refine at_exit ?_
   refine te (te ?_)
   obtain rfl:=os hF
   exact at_weak_k K trivial
 cases q1 with
 | ret r'=>exact os hF
 | nx sq1 =>
  skip
  refine at_blk_same ?_
  refine tn (sr (aa (nwq [2] ?_)))
  refine qt ?_
  have K:=os hF
  subst K
  exact r1 wb
def view_Right.l1(x0:S_api_Conf)(i9:Int)(i34:Int)(i35:List (S_api_Prefix×Bool)):Option (Ctl (Bool) (List (S_api_Prefix×Bool))) :=
 if (decide (i34<(((lget x0.f_Peers i9).f_Allowed).length:Int)))=true then (if (0:Int)≤i34∧i34<(((lget x0.f_Peers i9).f_Allowed).length:Int) then if (mget i35 (lget ((lget x0.f_Peers i9).f_Allowed) i34) false)=true then (some (.ret false)) else (view_Right.l1 x0 i9 (wr .i64 (i34+1)) (mput i35 (lget ((lget x0.f_Peers i9).f_Allowed) i34) true)) else none) else (some (.nx i35))
 partial_fixpoint
def view_Right.l2(x0:S_api_Conf)(i9:Int)(i44:Int)(i45:List (S_api_Prefix×Bool)):Option (Ctl (Bool) (List (S_api_Prefix×Bool))) :=
 if (decide (i44<(((lget x0.f_Peers i9).f_Allowed).length:Int)))=true then (if (0:Int)≤i44∧i44<(((lget x0.f_Peers i9).f_Allowed).length:Int) then if (mget i45 (lget ((lget x0.f_Peers i9).f_Allowed) i44) false)=true then (some (.ret false)) else (view_Right.l2 x0 i9 (wr .i64 (i44+1)) (mput i45 (lget ((lget x0.f_Peers i9).f_Allowed) i44) true)) else none) else (some (.nx i45))
 partial_fixpoint
def view_Right.l0(x0:S_api_Conf)(i9:Int)(i10:List (S_api_Prefix×Bool))(i11:List ((Vector Int 32)×Bool)):Option (Ctl (Bool) (List (S_api_Prefix×Bool))) :=
 if (decide (i9<(x0.f_Peers.length:Int)))=true then (if (0:Int)≤i9∧i9<(x0.f_Peers.length:Int) then if (mget i11 ((lget x0.f_Peers i9).f_Key) false)=true then (some (.ret false)) else (view_short ((lget x0.f_Peers i9).f_Keep)>>=fun t25=>if (!t25)=true then (some (.ret false)) else (view_rising ((lget x0.f_Peers i9).f_Allowed)>>=fun t27=>if (!t27)=true then (some (.ret false)) else (hostport_None ((lget x0.f_Peers i9).f_End)>>=fun t29=>if (!t29)=true then (hostport_Right ((lget x0.f_Peers i9).f_End)>>=fun t31=>if (!t31)=true then (some (.ret false)) else (view_Right.l1 x0 i9 0 i10>>=fun q33=>match q33 with | .ret r'=>some (.ret r') | .nx sq33=>(view_Right.l0 x0 (wr .i64 (i9+1)) sq33 (mput i11 ((lget x0.f_Peers i9).f_Key) true)))) else (view_Right.l2 x0 i9 0 i10>>=fun q43=>match q43 with | .ret r'=>some (.ret r') | .nx sq43=>(view_Right.l0 x0 (wr .i64 (i9+1)) sq43 (mput i11 ((lget x0.f_Peers i9).f_Key) true)))))) else none) else (some (.nx i10))
 partial_fixpoint
def view_Right(x0:S_api_Conf):Option (Bool) :=
 view_short x0.f_Port>>=fun t2=>if (!t2)=true then (some false) else (if (decide ((x0.f_Peers.length:Int)>16))=true then (some false) else (view_Right.l0 x0 0 ([]:List (S_api_Prefix×Bool)) (mput ([]:List ((Vector Int 32)×Bool)) (Vector.replicate 32 (0:Int):(Vector Int 32)) true)>>=fun q7=>match q7 with | .ret r'=>some r' | .nx sq7=>(some (decide ((List.length sq7:Int)≤64)))))
theorem view_Right_ok(g0_:G_api_Conf)(x0:S_api_Conf)(r:Bool)(hF:view_Right x0=some r)(w:World)(hn0:N_api_Conf w (g0_,x0)) :
    Calls Tryz.prog 18 #[.agg (Cd.cs c_api_Conf (g0_,x0)).toArray] w (fun e w'=>e=.returned (.bool r)∧Below w.heap.size w w'):=by
 unfold view_Right at hF
 refine ce (l:=[.agg (Cd.cs c_api_Conf (g0_,x0)).toArray]) func18 rfl rfl ?_
 refine at_start ?_
 refine sr ?_
 refine at_box (cs:=Cd.cs c_api_Conf (g0_,x0)) rfl rfl rfl ?_
 intro b1
 refine aa (nwq [1] ?_)
 refine qs (sr (fa 32 underlying27 rfl sizeOf3 ?_))
 refine aw (r_load_cell isAgg3 rfl (lens_cell0 (c:=(cInt .i64)) (y:=x0.f_Port) .z (c_api_Conf_f_Port g0_ x0) rfl)) ?_
 obtain ⟨t2,ht2,hF⟩:=bM hF
 refine at_call0 func43 rfl (by kernel_rfl) rfl rfl (fun w=>view_short_ok _ _ ht2 w) ?_
 refine aw (r_not rfl) ?_
 refine am ?_
 obtain ⟨h3,hF⟩|⟨h3,hF⟩:=oi hF
 ·refine fx 13 h3 ?_
  refine gn ?_
  refine gn ?_
  refine gn ?_
  refine gn ?_
  refine aw xp (nwq [18,1] ?_)
  refine ct rfl ?_
  refine sr (aa (qn (dz (wq [2] ?_))))
  refine tn (rt ?_)
  have K:=os hF
  subst K
  exact r1 wb
 refine fx 13 h3 ?_
 refine gy ?_
 refine fa 34 underlying27 rfl sizeOf25 ?_
 refine gy ?_
 refine aw (r_load_cell isAgg25 rfl (lens_cell0 (c:=cHd) (y:=⟨g0_.1,List.length x0.f_Peers,g0_.2⟩) .z (c_api_Conf_f_Peers g0_ x0) rfl)) ?_
 refine gy ?_
 refine aw (r_len_sl underlying25 rfl) ?_
 refine gy ?_
 refine aw (r_igtr rfl rfl) ?_
 refine aw xp (nwq [18,1] ?_)
 obtain ⟨h4,hF⟩|⟨h4,hF⟩:=oi hF
 ·refine ct h4 ?_
  refine sr (aa (qn (dz (wq [2] ?_))))
  refine tn (rt ?_)
  have K:=os hF
  subst K
  exact r1 wb
 refine cf h4 ?_
 refine sns ?_
 refine at_makeMap (cVec (cInt .u8) 32 (by decide)) cBool false rfl ?_
 intro b5
 refine aw (r_build_array (zs:=Cd.cs (cVec (cInt .u8) 32 (by decide)) zv3) (cs:=Cd.cs (cVec (cInt .u8) 32 (by decide)) zv3) underlying23 zeroValue23 rfl sizeOf5 rfl rfl) ?_
 refine at_insert (k:=zv3) (v:=true) .z underlying84 (keylaw_vec underlying23 underlying5 sizeOf5 isAgg5 (eqs_vec underlying23 infoT5 sizeOf5 isAgg5 (.inr rfl) (eqs_int underlying5)) (by decide)) rfl rfl rfl rfl ?_
 refine am ?_
 refine at_makeMap c_api_Prefix cBool false rfl ?_
 intro b6
 refine aa (aa (nt (qs (sr (fa 34 underlying27 rfl sizeOf25 ?_)))))
 refine aw (r_load_cell isAgg25 rfl (lens_cell0 (c:=cHd) (y:=⟨g0_.1,List.length x0.f_Peers,g0_.2⟩) (.s (.s .z)) (c_api_Conf_f_Peers g0_ x0) rfl)) ?_
 refine aw (r_len_sl underlying25 rfl) ?_
 refine am (qn ?_)
 refine at_drop (H:=_) (.s (.s .z)) ?_
 refine wq [26,25,24,4,3] ?_
 refine tn ?_
 refine qb ?_
 obtain ⟨q7,hq7,hF⟩:=bM hF
 refine wq [26,25,24,4,3] ?_
 refine at_loop_r (B:=0) (r:=r) (q:=q7) (A:=fun sq7 Y=>At 76 [(4,.map (some b6))] (Wd w [mapE b6 c_api_Prefix cBool false sq7]) Y) ?_ ?_
 ·intro K
  refine view_Right.l0.partial_correctness x0 (motive:=fun i9 i10 i11 x=>KR (fun sq7 Y=>At 76 [(4,.map (some b6))] (Wd w [mapE b6 c_api_Prefix cBool false sq7]) Y) _ 0 r x→Round (fun Y=>At 76 [(3,.map (some b5)),(4,.map (some b6)),(24,.slice g0_.1 x0.f_Peers.length g0_.2),(25,.int .i64 (x0.f_Peers.length:Int)),(26,.int .i64 i9)] (Wd w [mapE b6 c_api_Prefix cBool false i10,mapE b5 (cVec (cInt .u8) 32 (by decide)) cBool false i11]) Y) _ _ _) ?_ _ _ _ _ hq7 K
  ·clear K hF
   intro g ih i9 i10 i11 x hF K
   refine at_round ?_
   refine sr (aw xl (nwq [27,26,25,24,4,3] ?_))
   refine qs ?_
   obtain ⟨h12,hF⟩|⟨h12,hF⟩:=oi hF
   ·refine ct h12 ?_
    refine sn (qs ?_)
    refine qb ?_
    refine sr ?_
    obtain ⟨h13,hF⟩:=gd hF
    obtain ⟨zs17,hz18,hr19,hn20⟩:=id hn0
    obtain ⟨b15,o16,hp14⟩:=row_ptr hr19 (zidx hz18 h13)
    obtain ⟨g21,hg22⟩:=zget hz18 i9
    refine aw (r_idx underlying25 sizeOf60 rfl rfl h13 hp14) ?_
    refine aw (r_load_aggc (c:=c_api_Peer) (z:=(g21,lget x0.f_Peers i9)) isAgg60 sizeOf60 rfl (ncell (fun _ h=>h.below) hr19 (zidx hz18 h13) hp14 hg22)) ?_
    refine al (cs:=Cd.cs c_api_Peer zv14) zeroValue60 ?_
    intro b23
    refine at_store (c:=c_api_Peer) (z:=(g21,lget x0.f_Peers i9)) .z lw sizeOf60 rfl rfl rfl ?_
    refine nwq [26,25,24,6,4,3] ?_
    refine qs (sr (am (fa 0 underlying60 rfl sizeOf23 ?_)))
    refine aw (r_load_aggc (c:=(cVec (cInt .u8) 32 (by decide))) (z:=(lget x0.f_Peers i9).f_Key) isAgg23 sizeOf23 rfl (lens_cell .z (c_api_Peer_f_Key g21 (lget x0.f_Peers i9)))) ?_
    refine aw (r_lookup (d:=cBool) (va:=false) (k:=(lget x0.f_Peers i9).f_Key) (zv:=false) underlying84 (keylaw_vec underlying23 underlying5 sizeOf5 isAgg5 (eqs_vec underlying23 infoT5 sizeOf5 isAgg5 (.inr rfl) (eqs_int underlying5)) (by decide)) zeroValue4 rfl rfl (fun w1 hw=>hw.ok (Upd.mem (.s (.s .z))))) ?_
    refine am ?_
    obtain ⟨h24,hF⟩|⟨h24,hF⟩:=oi hF
    ·refine fx 34 h24 ?_
     refine gn ?_
     refine gn ?_
     refine gn ?_
     refine gn ?_
     refine aw xp (am ?_)
     refine gn ?_
     refine gn ?_
     refine gn ?_
     refine gn ?_
     refine aw xp (nwq [45,26,25,24,6,4,3] ?_)
     refine ct rfl ?_
     refine sr (aa (qn (dz (dz (dz (wq [2] ?_))))))
     refine tn (qt ?_)
     refine tr (br (tr (tr (br (tr ?_)))))
     obtain rfl:=os hF
     subst K
     exact r1 wb
    refine fx 34 h24 ?_
    refine gy ?_
    refine fa 82 underlying60 rfl sizeOf3 ?_
    refine gy ?_
    refine aw (r_load_cell isAgg3 rfl (lens_cell0 (c:=(cInt .i64)) (y:=(lget x0.f_Peers i9).f_Keep) .z (c_api_Peer_f_Keep g21 (lget x0.f_Peers i9)) rfl)) ?_
    refine gy ?_
    obtain ⟨t25,ht25,hF⟩:=bM hF
    refine at_call0 func43 rfl (by kernel_rfl) rfl rfl (fun w=>view_short_ok _ _ ht25 w) ?_
    refine gy ?_
    refine aw (r_not rfl) ?_
    refine aw xp (am ?_)
    obtain ⟨h26,hF⟩|⟨h26,hF⟩:=oi hF
    ·refine fx 40 h26 ?_
     refine gn ?_
     refine gn ?_
     refine gn ?_
     refine gn ?_
     refine aw xp (nwq [45,26,25,24,6,4,3] ?_)
     refine ct rfl ?_
     refine sr (aa (qn (dz (dz (dz (wq [2] ?_))))))
     refine tn (qt ?_)
     refine tr (br (tr (tr (br (tr ?_)))))
     obtain rfl:=os hF
     subst K
     exact r1 wb
    refine fx 40 h26 ?_
    refine gy ?_
    refine fa 85 underlying60 rfl sizeOf58 ?_
    refine gy ?_
    refine aw (r_load_cell isAgg58 rfl (lens_cell0 (c:=cHd) (y:=⟨g21.1,List.length ((lget x0.f_Peers i9).f_Allowed),g21.2⟩) .z (c_api_Peer_f_Allowed g21 (lget x0.f_Peers i9)) rfl)) ?_
    refine gy ?_
    obtain ⟨t27,ht27,hF⟩:=bM hF
    refine cB func44 rfl (fun w hw=>view_rising_ok _ _ _ _ ht27 w ((nz hg22 hn20 (zidx hz18 h13)).below hw.below)) ?_
    refine gy ?_
    refine aw (r_not rfl) ?_
    refine aw xp (nwq [45,26,25,24,6,4,3] ?_)
    obtain ⟨h28,hF⟩|⟨h28,hF⟩:=oi hF
    ·refine ct h28 ?_
     refine sr (aa (qn (dz (dz (dz (wq [2] ?_))))))
     refine tn (qt ?_)
     refine tr (br (tr (tr (br (tr ?_)))))
     obtain rfl:=os hF
     subst K
     exact r1 wb
    refine cf h28 ?_
    refine sn (qs (sr (fa 64 underlying60 rfl sizeOf56 ?_)))
    refine aw (r_load_aggc (c:=c_api_Endpoint) (z:=(lget x0.f_Peers i9).f_End) isAgg56 sizeOf56 rfl (lens_cell .z (c_api_Peer_f_End g21 (lget x0.f_Peers i9)))) ?_
    obtain ⟨t29,ht29,hF⟩:=bM hF
    refine cB func45 rfl (fun w hw=>hostport_None_ok _ _ ht29 w) ?_
    refine aw (r_not rfl) ?_
    refine am ?_
    obtain ⟨h30,hF⟩|⟨h30,hF⟩:=oi hF
    ·refine fx 50 h30 ?_
     refine gy ?_
     refine fa 64 underlying60 rfl sizeOf56 ?_
     refine gy ?_
     refine aw (r_load_aggc (c:=c_api_Endpoint) (z:=(lget x0.f_Peers i9).f_End) isAgg56 sizeOf56 rfl (lens_cell .z (c_api_Peer_f_End g21 (lget x0.f_Peers i9)))) ?_
     refine gy ?_
     obtain ⟨t31,ht31,hF⟩:=bM hF
     refine cB func46 rfl (fun w hw=>hostport_Right_ok _ _ ht31 w) ?_
     refine gy ?_
     refine aw (r_not rfl) ?_
     refine aw xp (nwq [55,26,25,24,6,4,3] ?_)
     obtain ⟨h32,hF⟩|⟨h32,hF⟩:=oi hF
     ·refine ct h32 ?_
      refine sr (aa (qn (dz (dz (dz (wq [2] ?_))))))
      refine tn (qt ?_)
      refine tr (br (tr (tr (br (tr ?_)))))
      obtain rfl:=os hF
      subst K
      exact r1 wb
     refine cf h32 ?_
     refine sns (am (fa 0 underlying60 rfl sizeOf23 ?_))
     refine aw (r_load_aggc (c:=(cVec (cInt .u8) 32 (by decide))) (z:=(lget x0.f_Peers i9).f_Key) isAgg23 sizeOf23 rfl (lens_cell .z (c_api_Peer_f_Key g21 (lget x0.f_Peers i9)))) ?_
     refine at_mapUpdate (k:=(lget x0.f_Peers i9).f_Key) (v:=true) (.s (.s .z)) underlying84 (keylaw_vec underlying23 underlying5 sizeOf5 isAgg5 (eqs_vec underlying23 infoT5 sizeOf5 isAgg5 (.inr rfl) (eqs_int underlying5)) (by decide)) rfl rfl rfl rfl ?_
     refine ns (fa 85 underlying60 rfl sizeOf58 ?_)
     refine aw (r_load_cell isAgg58 rfl (lens_cell0 (c:=cHd) (y:=⟨g21.1,List.length ((lget x0.f_Peers i9).f_Allowed),g21.2⟩) .z (c_api_Peer_f_Allowed g21 (lget x0.f_Peers i9)) rfl)) ?_
     refine aw (r_len_sl underlying58 rfl) ?_
     refine am (qn (dz (wq [62,61,60,26,25,24,4,3] ?_)))
     refine tn ?_
     refine qb ?_
     obtain ⟨q33,hq33,hF⟩:=bM hF
     refine wq [62,61,60,26,25,24,4,3] ?_
     refine at_loop_r (B:=2) (r:=r) (q:=q33) (A:=fun sq33 Y=>At 76 [(3,.map (some b5)),(4,.map (some b6)),(24,.slice g0_.1 x0.f_Peers.length g0_.2),(25,.int .i64 (x0.f_Peers.length:Int)),(26,.int .i64 i9)] (Wd w [mapE b6 c_api_Prefix cBool false sq33,mapE b5 (cVec (cInt .u8) 32 (by decide)) cBool false (mput i11 ((lget x0.f_Peers i9).f_Key) true)]) Y) ?_ ?_
     ·intro K
      refine view_Right.l1.partial_correctness x0 i9 (motive:=fun i34 i35 x=>KR (fun sq33 Y=>At 76 [(3,.map (some b5)),(4,.map (some b6)),(24,.slice g0_.1 x0.f_Peers.length g0_.2),(25,.int .i64 (x0.f_Peers.length:Int)),(26,.int .i64 i9)] (Wd w [mapE b6 c_api_Prefix cBool false sq33,mapE b5 (cVec (cInt .u8) 32 (by decide)) cBool false (mput i11 ((lget x0.f_Peers i9).f_Key) true)]) Y) _ 2 r x→Round (fun Y=>At 76 [(3,.map (some b5)),(4,.map (some b6)),(24,.slice g0_.1 x0.f_Peers.length g0_.2),(25,.int .i64 (x0.f_Peers.length:Int)),(26,.int .i64 i9),(60,.slice g21.1 ((lget x0.f_Peers i9).f_Allowed).length g21.2),(61,.int .i64 (((lget x0.f_Peers i9).f_Allowed).length:Int)),(62,.int .i64 i34)] (Wd w [mapE b6 c_api_Prefix cBool false i35,mapE b5 (cVec (cInt .u8) 32 (by decide)) cBool false (mput i11 ((lget x0.f_Peers i9).f_Key) true)]) Y) _ _ _) ?_ _ _ _ hq33 K
      ·clear K hF
       intro g ih i34 i35 x hF K
       refine at_round ?_
       refine sr (aw xl (nwq [63,62,61,60,26,25,24,4,3] ?_))
       refine qs ?_
       obtain ⟨h36,hF⟩|⟨h36,hF⟩:=oi hF
       ·refine ct h36 ?_
        refine sn (qs ?_)
        refine qb ?_
        refine sr ?_
        obtain ⟨h37,hF⟩:=gd hF
        obtain ⟨b39,o40,hp38⟩:=row_ptr (nz hg22 hn20 (zidx hz18 h13)) h37
        refine aw (r_idx underlying58 sizeOf38 rfl rfl h37 hp38) ?_
        refine aw (r_load_aggc (c:=c_api_Prefix) (z:=lget ((lget x0.f_Peers i9).f_Allowed) i34) isAgg38 sizeOf38 rfl (row_cell (fun _ h=>h.below) (nz hg22 hn20 (zidx hz18 h13)) h37 hp38)) ?_
        refine al (cs:=Cd.cs c_api_Prefix zv9) zeroValue38 ?_
        intro b41
        refine at_store (c:=c_api_Prefix) (z:=lget ((lget x0.f_Peers i9).f_Allowed) i34) .z lw sizeOf38 rfl rfl rfl ?_
        refine nt (qs (sr (am ?_)))
        refine aw (r_load_aggc (c:=c_api_Prefix) (z:=lget ((lget x0.f_Peers i9).f_Allowed) i34) isAgg38 sizeOf38 rfl (lens_cell .z lw)) ?_
        refine aw (r_lookup (d:=cBool) (va:=false) (k:=lget ((lget x0.f_Peers i9).f_Allowed) i34) (zv:=false) underlying85 (keylaw_of underlying38 (chk_struct (k:=2) underlying38 (fun n x hn=>(chkf_cons (c_api_Prefix_f_A x) rfl rfl isAgg36 sizeOf36 (.inl rfl) (chk_struct (k:=1) underlying36 (fun n x hn=>(chkf_cons (c_api_Addr_f_V x) rfl rfl isAgg3 sizeOf3 (.inr rfl) (chk_int underlying3) (by omega) (chkf_cons (c_api_Addr_f_B x) rfl rfl isAgg34 sizeOf34 (.inl rfl) (chk_vec underlying34 sizeOf5 isAgg5 (.inr rfl) (chk_int underlying5)) (by omega) chkf_nil)))) (by omega) (chkf_cons (c_api_Prefix_f_Bits x) rfl rfl isAgg3 sizeOf3 (.inr rfl) (chk_int underlying3) (by omega) chkf_nil)))) (by decide) (eq_api_Prefix_38) (by decide) plain_api_Prefix) zeroValue4 rfl rfl (fun w1 hw=>hw.ok (Upd.mem (.s .z)))) ?_
        refine nwq [68,62,61,60,26,25,24,8,4,3] ?_
        obtain ⟨h42,hF⟩|⟨h42,hF⟩:=oi hF
        ·refine ct h42 ?_
         refine sr (aa (qn (dz (dz (dz (wq [2] ?_))))))
         refine tn (qt ?_)
         refine tr (br (tr (tr (br (br (tr (tr (br (tr ?_)))))))))
         obtain rfl:=os hF
         subst K
         exact r1 wb
        refine cf h42 ?_
        refine sn (qr (am ?_))
        refine aw (r_load_aggc (c:=c_api_Prefix) (z:=lget ((lget x0.f_Peers i9).f_Allowed) i34) isAgg38 sizeOf38 rfl (lens_cell .z lw)) ?_
        refine at_mapUpdate (k:=lget ((lget x0.f_Peers i9).f_Allowed) i34) (v:=true) (.s .z) underlying85 (keylaw_of underlying38 (chk_struct (k:=2) underlying38 (fun n x hn=>(chkf_cons (c_api_Prefix_f_A x) rfl rfl isAgg36 sizeOf36 (.inl rfl) (chk_struct (k:=1) underlying36 (fun n x hn=>(chkf_cons (c_api_Addr_f_V x) rfl rfl isAgg3 sizeOf3 (.inr rfl) (chk_int underlying3) (by omega) (chkf_cons (c_api_Addr_f_B x) rfl rfl isAgg34 sizeOf34 (.inl rfl) (chk_vec underlying34 sizeOf5 isAgg5 (.inr rfl) (chk_int underlying5)) (by omega) chkf_nil)))) (by omega) (chkf_cons (c_api_Prefix_f_Bits x) rfl rfl isAgg3 sizeOf3 (.inr rfl) (chk_int underlying3) (by omega) chkf_nil)))) (by decide) (eq_api_Prefix_38) (by decide) plain_api_Prefix) rfl rfl rfl rfl ?_
        refine qn (dz (wq [62,61,60,26,25,24,4,3] ?_))
        refine bm ?_
        refine qr (aw xa (am (nwq [62,61,60,26,25,24,4,3] ?_)))
        exact at_weak_k (ih _ _ _ hF K) ⟨rfl,rfl,rfl,rfl,rfl,rfl,rfl,rfl,trivial⟩
       refine cf h36 ?_
       refine at_exit ?_
       refine te (te ?_)
       obtain rfl:=os hF
       exact at_weak_k K ⟨rfl,rfl,rfl,rfl,rfl,trivial⟩
     cases q33 with
     | ret r'=>obtain rfl:=os hF;exact K
     | nx sq33 =>
      skip
      refine at_blk_same ?_
      refine bm ?_
      refine qr (aw xa (am (nwq [26,25,24,4,3] ?_)))
      exact at_weak_k (ih _ _ _ _ hF K) ⟨rfl,rfl,rfl,rfl,rfl,trivial⟩
    refine fx 50 h30 ?_
    refine gn ?_
    refine gn ?_
    refine gn ?_
    refine gn ?_
    refine aw xp (nwq [55,26,25,24,6,4,3] ?_)
    refine cf rfl ?_
    refine sns (am (fa 0 underlying60 rfl sizeOf23 ?_))
    refine aw (r_load_aggc (c:=(cVec (cInt .u8) 32 (by decide))) (z:=(lget x0.f_Peers i9).f_Key) isAgg23 sizeOf23 rfl (lens_cell .z (c_api_Peer_f_Key g21 (lget x0.f_Peers i9)))) ?_
    refine at_mapUpdate (k:=(lget x0.f_Peers i9).f_Key) (v:=true) (.s (.s .z)) underlying84 (keylaw_vec underlying23 underlying5 sizeOf5 isAgg5 (eqs_vec underlying23 infoT5 sizeOf5 isAgg5 (.inr rfl) (eqs_int underlying5)) (by decide)) rfl rfl rfl rfl ?_
    refine ns (fa 85 underlying60 rfl sizeOf58 ?_)
    refine aw (r_load_cell isAgg58 rfl (lens_cell0 (c:=cHd) (y:=⟨g21.1,List.length ((lget x0.f_Peers i9).f_Allowed),g21.2⟩) .z (c_api_Peer_f_Allowed g21 (lget x0.f_Peers i9)) rfl)) ?_
    refine aw (r_len_sl underlying58 rfl) ?_
    refine am (qn (dz (wq [62,61,60,26,25,24,4,3] ?_)))
    refine tn ?_
    refine qb ?_
    obtain ⟨q43,hq43,hF⟩:=bM hF
    refine wq [62,61,60,26,25,24,4,3] ?_
    refine at_loop_r (B:=2) (r:=r) (q:=q43) (A:=fun sq43 Y=>At 76 [(3,.map (some b5)),(4,.map (some b6)),(24,.slice g0_.1 x0.f_Peers.length g0_.2),(25,.int .i64 (x0.f_Peers.length:Int)),(26,.int .i64 i9)] (Wd w [mapE b6 c_api_Prefix cBool false sq43,mapE b5 (cVec (cInt .u8) 32 (by decide)) cBool false (mput i11 ((lget x0.f_Peers i9).f_Key) true)]) Y) ?_ ?_
    ·intro K
     refine view_Right.l2.partial_correctness x0 i9 (motive:=fun i44 i45 x=>KR (fun sq43 Y=>At 76 [(3,.map (some b5)),(4,.map (some b6)),(24,.slice g0_.1 x0.f_Peers.length g0_.2),(25,.int .i64 (x0.f_Peers.length:Int)),(26,.int .i64 i9)] (Wd w [mapE b6 c_api_Prefix cBool false sq43,mapE b5 (cVec (cInt .u8) 32 (by decide)) cBool false (mput i11 ((lget x0.f_Peers i9).f_Key) true)]) Y) _ 2 r x→Round (fun Y=>At 76 [(3,.map (some b5)),(4,.map (some b6)),(24,.slice g0_.1 x0.f_Peers.length g0_.2),(25,.int .i64 (x0.f_Peers.length:Int)),(26,.int .i64 i9),(60,.slice g21.1 ((lget x0.f_Peers i9).f_Allowed).length g21.2),(61,.int .i64 (((lget x0.f_Peers i9).f_Allowed).length:Int)),(62,.int .i64 i44)] (Wd w [mapE b6 c_api_Prefix cBool false i45,mapE b5 (cVec (cInt .u8) 32 (by decide)) cBool false (mput i11 ((lget x0.f_Peers i9).f_Key) true)]) Y) _ _ _) ?_ _ _ _ hq43 K
     ·clear K hF
      intro g ih i44 i45 x hF K
      refine at_round ?_
      refine sr (aw xl (nwq [63,62,61,60,26,25,24,4,3] ?_))
      refine qs ?_
      obtain ⟨h46,hF⟩|⟨h46,hF⟩:=oi hF
      ·refine ct h46 ?_
       refine sn (qs ?_)
       refine qb ?_
       refine sr ?_
       obtain ⟨h47,hF⟩:=gd hF
       obtain ⟨b49,o50,hp48⟩:=row_ptr (nz hg22 hn20 (zidx hz18 h13)) h47
       refine aw (r_idx underlying58 sizeOf38 rfl rfl h47 hp48) ?_
       refine aw (r_load_aggc (c:=c_api_Prefix) (z:=lget ((lget x0.f_Peers i9).f_Allowed) i44) isAgg38 sizeOf38 rfl (row_cell (fun _ h=>h.below) (nz hg22 hn20 (zidx hz18 h13)) h47 hp48)) ?_
       refine al (cs:=Cd.cs c_api_Prefix zv9) zeroValue38 ?_
       intro b51
       refine at_store (c:=c_api_Prefix) (z:=lget ((lget x0.f_Peers i9).f_Allowed) i44) .z lw sizeOf38 rfl rfl rfl ?_
       refine nt (qs (sr (am ?_)))
       refine aw (r_load_aggc (c:=c_api_Prefix) (z:=lget ((lget x0.f_Peers i9).f_Allowed) i44) isAgg38 sizeOf38 rfl (lens_cell .z lw)) ?_
       refine aw (r_lookup (d:=cBool) (va:=false) (k:=lget ((lget x0.f_Peers i9).f_Allowed) i44) (zv:=false) underlying85 (keylaw_of underlying38 (chk_struct (k:=2) underlying38 (fun n x hn=>(chkf_cons (c_api_Prefix_f_A x) rfl rfl isAgg36 sizeOf36 (.inl rfl) (chk_struct (k:=1) underlying36 (fun n x hn=>(chkf_cons (c_api_Addr_f_V x) rfl rfl isAgg3 sizeOf3 (.inr rfl) (chk_int underlying3) (by omega) (chkf_cons (c_api_Addr_f_B x) rfl rfl isAgg34 sizeOf34 (.inl rfl) (chk_vec underlying34 sizeOf5 isAgg5 (.inr rfl) (chk_int underlying5)) (by omega) chkf_nil)))) (by omega) (chkf_cons (c_api_Prefix_f_Bits x) rfl rfl isAgg3 sizeOf3 (.inr rfl) (chk_int underlying3) (by omega) chkf_nil)))) (by decide) (eq_api_Prefix_38) (by decide) plain_api_Prefix) zeroValue4 rfl rfl (fun w1 hw=>hw.ok (Upd.mem (.s .z)))) ?_
       refine nwq [68,62,61,60,26,25,24,8,4,3] ?_
       obtain ⟨h52,hF⟩|⟨h52,hF⟩:=oi hF
       ·refine ct h52 ?_
        refine sr (aa (qn (dz (dz (dz (wq [2] ?_))))))
        refine tn (qt ?_)
        refine tr (br (tr (tr (br (br (tr (tr (br (tr ?_)))))))))
        obtain rfl:=os hF
        subst K
        exact r1 wb
       refine cf h52 ?_
       refine sn (qr (am ?_))
       refine aw (r_load_aggc (c:=c_api_Prefix) (z:=lget ((lget x0.f_Peers i9).f_Allowed) i44) isAgg38 sizeOf38 rfl (lens_cell .z lw)) ?_
       refine at_mapUpdate (k:=lget ((lget x0.f_Peers i9).f_Allowed) i44) (v:=true) (.s .z) underlying85 (keylaw_of underlying38 (chk_struct (k:=2) underlying38 (fun n x hn=>(chkf_cons (c_api_Prefix_f_A x) rfl rfl isAgg36 sizeOf36 (.inl rfl) (chk_struct (k:=1) underlying36 (fun n x hn=>(chkf_cons (c_api_Addr_f_V x) rfl rfl isAgg3 sizeOf3 (.inr rfl) (chk_int underlying3) (by omega) (chkf_cons (c_api_Addr_f_B x) rfl rfl isAgg34 sizeOf34 (.inl rfl) (chk_vec underlying34 sizeOf5 isAgg5 (.inr rfl) (chk_int underlying5)) (by omega) chkf_nil)))) (by omega) (chkf_cons (c_api_Prefix_f_Bits x) rfl rfl isAgg3 sizeOf3 (.inr rfl) (chk_int underlying3) (by omega) chkf_nil)))) (by decide) (eq_api_Prefix_38) (by decide) plain_api_Prefix) rfl rfl rfl rfl ?_
       refine qn (dz (wq [62,61,60,26,25,24,4,3] ?_))
       refine bm ?_
       refine qr (aw xa (am (nwq [62,61,60,26,25,24,4,3] ?_)))
       exact at_weak_k (ih _ _ _ hF K) ⟨rfl,rfl,rfl,rfl,rfl,rfl,rfl,rfl,trivial⟩
      refine cf h46 ?_
      refine at_exit ?_
      refine te (te ?_)
      obtain rfl:=os hF
      exact at_weak_k K ⟨rfl,rfl,rfl,rfl,rfl,trivial⟩
    cases q43 with
    | ret r'=>obtain rfl:=os hF;exact K
    | nx sq43 =>
     skip
     refine at_blk_same ?_
     refine bm ?_
     refine qr (aw xa (am (nwq [26,25,24,4,3] ?_)))
     exact at_weak_k (ih _ _ _ _ hF K) ⟨rfl,rfl,rfl,rfl,rfl,trivial⟩
   refine cf h12 ?_
   refine at_exit ?_
   refine te (te ?_)
   refine at_drop (H:=_) (.s .z) ?_
   obtain rfl:=os hF
   exact at_weak_k K ⟨rfl,trivial⟩
 cases q7 with
 | ret r'=>exact os hF
 | nx sq7 =>
  skip
  refine at_blk_same ?_
  refine tn (sr (am ?_))
  refine aw (r_len_map underlying85 rfl (fun w1 hw=>hw.ok (Upd.mem .z))) ?_
  refine aw (r_ileq rfl rfl) ?_
  refine aa (qn (dz (wq [2] ?_)))
  refine tn (qt ?_)
  have K:=os hF
  subst K
  exact r1 wb
end Go.Proofs.YtahlbjmafceoeaaGreatDoor
