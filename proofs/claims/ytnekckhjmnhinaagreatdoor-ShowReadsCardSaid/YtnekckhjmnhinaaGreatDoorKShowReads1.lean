/- Texts of this claim, those in one that belong together; printed by a program of this project. -/
import Derived.Lib.Walk
import Derived.Lib.ItoaWalk
import Derived.Lib.ItoaMem
import Derived.Lib.AppendIntMem
import Derived.Lib.Hide
import Derived.WalkKit
import Derived.BigCall
import Derived.BigGuard
import Derived.CellFam
import Derived.Lib.SliceRun
import Derived.HandedShaped
import Derived.Handed
import Derived.Deep.Draws
import Derived.Test.YtnekckhjmnhinaaGreatDoorProg
import Derived.Test.YtnekckhjmnhinaaGreatDoorKShowReads0
set_option linter.unusedVariables false
set_option linter.unusedSimpArgs false
set_option maxRecDepth 20000
namespace Go.Proofs.YtnekckhjmnhinaaGreatDoor
open E Go.RowKit Go.Sort
set_option maxHeartbeats 6400000 in
set_option maxRecDepth 100000 in
theorem QhI(u:Nat)(hu:u<100)(w:World) :
  Calls Tryz.prog 68 #[.int .u64 u,.int .i64 10] w fun e w'=>e=.returned (.string ⟨(Lib.decDigits u).toArray⟩)∧w'=w:=by
 have hw:IntKind.i64.wrap (u:Int)=(u:Int):=by rw [IntKind.wrap_i64];omega
 have iu:(u:Int)<100:=by omega
 go_enter Tryz.func68,Tryz.ntmps68
 go_wp2_with (go_at_call 99;refine (Tryz.internal_strconv_small u hu _).mono ?_;rintro e w' ⟨rfl,rfl⟩)
 go_ret
 exact ⟨rfl,rfl⟩
set_option maxHeartbeats 12800000 in
set_option maxRecDepth 100000 in
theorem QiK(u : Nat)(hu : 100 ≤ u)(hu64 : u < 18446744073709551616)(w : World)(htab : Lib.TabIs Tryz.prog w "internal/strconv.uint64pow10" .u64 Lib.pow10Tab) :
  Calls Tryz.prog 68 #[.int .u64 u,.int .i64 10] w fun e w'=>e=.returned (.string ⟨(Lib.decDigits u).toArray⟩)∧Below w.heap.size w w':=by
 have hu1:1≤u:=by omega
 have hnd20:Lib.nDigits u≤20:=by have:=Lib.numDigits_eq u hu1 hu64;split at this<;>omega
 have hal:Tryz.prog.arrayLen 134=24:=by simp [Program.arrayLen,Tryz.underlying134]
 have hsl:∀ W,(Instr.sliceAt 134 (.pointer (some ⟨w.heap.size,0,none⟩)) none (some (.int .i64 (Lib.nDigits u:Int))) none).run Tryz.prog W=.ok (.slice (some ⟨w.heap.size,0,none⟩) (Lib.nDigits u) 24) W:=fun W=>by
  rw [run_sliceAt_array_h W 134 ⟨w.heap.size,0,none⟩ (by simp [Program.arrayLen,Program.elem,Tryz.underlying134]) .i64 (Lib.nDigits u:Int) (by omega) (by rw [hal];omega)]
  go_simp
 have hH0:=Lib.holds_zero0 w 134 (Lib.nDigits u) (by omega)
 have hfmt:=Tryz.internal_strconv_formatBase10 w.heap.size 0 24 u (Array.replicate (Lib.nDigits u) 0) (w.alloc (.cells Lib.zeros24 134)) hH0 (by rw [Array.size_replicate];exact Lib.lt_pow_nDigits u) hu64 (by rw [Array.size_replicate];omega)
 rw [Array.size_replicate] at hfmt
 have HH0:=Lib.hid hH0
 have iu:(100:Int)≤(u:Int):=by omega
 clear hH0 hal
 go_enter Tryz.func68,Tryz.ntmps68
 go_wp2_with (first
  | (go_at_call 100;refine (Tryz.internal_strconv_numDigits u hu1 hu64 _ (Lib.tabIs_alloc htab _)).mono ?_;rintro e w' ⟨rfl,rfl⟩))
 go_at_call 101
 refine hfmt.mono ?_
 rintro e w' ⟨rfl,k,v',dk,rfl,hF⟩
 have hcv:(convert 85 9 (.slice (some ⟨w.heap.size,0,none⟩) (Lib.nDigits u) 24)).run Tryz.prog ((putRow (fun (b:UInt8)=>Value.int .u8 (b.toNat:Int)) (w.alloc (.cells Lib.zeros24 134)) w.heap.size 0 dk).drewN k)=.ok (.string ⟨(Lib.decDigits u).toArray⟩) ((putRow (fun (b:UInt8)=>Value.int .u8 (b.toNat:Int)) (w.alloc (.cells Lib.zeros24 134)) w.heap.size 0 dk).drewN k):=by
  have h:=run_convert_bytes_back (P:=Tryz.prog) ((putRow (fun (b:UInt8)=>Value.int .u8 (b.toNat:Int)) (w.alloc (.cells Lib.zeros24 134)) w.heap.size 0 dk).drewN k) 85 9 5 ⟨w.heap.size,0,none⟩ 24 (Lib.decDigits u) Tryz.underlying85 Tryz.underlying5 Tryz.underlying9 (fun j hj=>by
   rw [Lib.row_is_numeral hF j hj,Lib.add_plain,World.cell?_drewN]
   exact cell?_putRow (fun (b:UInt8)=>Value.int .u8 (b.toNat:Int)) _ w.heap.size 0 _ dk HH0.out (by rw [hF.size,Array.size_replicate]) j (by rw [hF.size];rw [Lib.decDigits_length] at hj;exact hj))
  rw [Lib.decDigits_length] at h
  exact h
 go_wp2
 go_ret
 obtain ⟨os,eo⟩:=Lib.fin_at w (.cells Lib.zeros24 134) dk k 0
 refine ⟨rfl,?_⟩
 rw [eo]
 exact Lib.below_grow w.heap.size w (Nat.le_refl _) k os
theorem QlM(n:Int)(h:0≤n∧n<18446744073709551616)(w:World)(hg:GV_strconv_uint64pow10 w) :
  Calls Tryz.prog 32 #[.int .u64 n,.int .i64 10] w fun e w'=>e=.returned (.string (Qga n))∧Below w.heap.size w w':=by
 obtain ⟨u,rfl⟩:=Int.eq_ofNat_of_zero_le h.1
 have hu64:u<18446744073709551616:=by omega
 have hin:Calls Tryz.prog 68 #[.int .u64 u,.int .i64 10] w fun e w'=>e=.returned (.string (Qga u))∧Below w.heap.size w w':=by
  by_cases hs:u<100
  ·exact (QhI u hs w).mono fun e w' ⟨he,hw⟩=>⟨he,hw▸Below.refl _ _⟩
  ·exact QiK u (by omega) hu64 w hg
 refine Qkg (l:=[.int .u64 u,.int .i64 10]) Tryz.func32 rfl rfl rfl ?_
 refine Qk3 ?_
 refine Qik ?_
 refine Qk2 rfl rfl rfl (Qcf rfl) ?_
 refine Qs ?_
 refine Qdc ?_
 refine Qk3 ?_
 refine Qik ?_
 refine Qk2 rfl rfl rfl (Qbz rfl) ?_
 refine Qk2 rfl rfl rfl (Qbz rfl) ?_
 refine QeZ (W':=fun v w'=>v=.string (Qga u)∧Below w.heap.size w w') Tryz.func68 rfl (by kernel_rfl) rfl rfl (fun w1 hw1=>?_) ?_
 ·obtain rfl:w1=w:=hw1
  exact hin.mono fun e w' ⟨he,hw⟩=>⟨_,he,rfl,hw⟩
 ·intro v
  refine Qae (φ:=v=.string (Qga u)) (fun _ h=>h.1) ?_
  rintro rfl
  refine Qk2 rfl rfl rfl (Qcf rfl) ?_
  refine Qs ?_
  refine Qdc ?_
  refine QrT ?_
  exact Qk4 rfl rfl (fun w1 hw=>⟨rfl,hw.2⟩)
theorem QiX(s:ByteArray)(h:s.size≤281474976710656)(w:World)(hgR:GV_strconv_ErrRange w)(hgS:GV_strconv_ErrSyntax w) :
  Calls Tryz.prog 114 #[.string s,.int .i64 10,.int .i64 64] w fun e w'=>∃ u,e=.returned (.tuple #[.int .u64 (Qol s).1,u])∧QtG u (Qol s).2∧Below w.heap.size w w':=by
 obtain ⟨tr,pr,hr⟩:=hgR
 obtain ⟨ts,ps,hs⟩:=hgS
 unfold Qol
 cases hp:Lib.parseUintB 64 s.data.toList
 ·refine (Tryz.strconv_ParseUint_10_at64_ok s (by omega) _ hp w).mono fun e w' ⟨he,hw⟩=>⟨_,he,.inl ⟨rfl,rfl⟩,?_⟩
  rcases hw with rfl | rfl
  ·exact Below.refl _ _
  ·exact Lib.bytesWorld_below _ _ _
 ·exact (Any.strconv_ParseUint_10_at64_syntax_var Tryz.laysPu14 s h hp ts ps w hs).mono fun e w' ⟨N,he,_,_,hw⟩=>⟨_,he,.inr ⟨rfl,_,_,rfl⟩,hw⟩
 ·exact (Tryz.strconv_ParseUint_10_at64_range_var s h hp tr pr w hr).mono fun e w' ⟨N,he,_,_,hw⟩=>⟨_,he,.inr ⟨rfl,_,_,rfl⟩,hw⟩
end Go.Proofs.YtnekckhjmnhinaaGreatDoor
namespace Go.Proofs.YtnekckhjmnhinaaGreatDoor
open E Go.RowKit
def Qdp(xs:List ByteArray)(sep:ByteArray):ByteArray:=⟨(Lib.join (xs.map (·.data.toList)) sep.data.toList).toArray⟩
theorem Qj4(xs:List ByteArray)(sep:ByteArray)(h:xs.length≤140737488355328)(hs:(Qdp xs sep).size≤140737488355328)(p:Option Addr)(cap:Nat)(w:World)(hr:Row QbA w p cap xs) :
  Calls Tryz.prog 25 #[.slice p xs.length cap,.string sep] w fun e w'=>e=.returned (.string (Qdp xs sep))∧Below w.heap.size w w':=by
 rcases hr.2 with h0 | ⟨b,o,hp,hc⟩
 ·subst h0
  exact (Tryz.strings_Join_none p cap sep w).mono fun e w' ⟨he,hw⟩=>⟨he,hw▸Below.refl _ _⟩
 ·cases xs with
  | nil=>exact (Tryz.strings_Join_none p cap sep w).mono fun e w' ⟨he,hw⟩=>⟨he,hw▸Below.refl _ _⟩
  | cons x r =>
   subst hp
   have Qup:∀ (j:Nat) y,(x::r)[j]? = some y→w.cell? ⟨b,o+j,none⟩=some (.string y):=fun j y hj=>by
    have:=Cd.all_get QbA (x::r) j 0 y hj (by decide)
    refine hc j _ ?_
    have e:j*QbA.sz+0=j:=by show j*1+0=j;omega
    rw [e] at this
    rw [this];rfl
   have hb:b<w.heap.size:=World.block_lt_of_cell? w _ (Qup 0 x rfl)
   have hlen:(Lib.join ((x::r).map (·.data.toList)) sep.data.toList).length≤140737488355328:=by
    have:(Qdp (x::r) sep).size=(Lib.join ((x::r).map (·.data.toList)) sep.data.toList).length:=by
     show (Qdp (x::r) sep).data.size=_
     simp [Qdp]
    omega
   exact Tryz.strings_Join b o cap (x::r) sep w Qup hb h hr.1 hlen
end Go.Proofs.YtnekckhjmnhinaaGreatDoor
namespace Go.Proofs.YtnekckhjmnhinaaGreatDoor
open E Go.RowKit
def GV_bytealg_MaxLen(w:World):Prop:=∃ m,w.cell? ⟨Tryz.laysM145_ren.g 1,0,none⟩=some (.int .i64 m)
theorem GV_bytealg_MaxLen.on{w w':World}(h:GV_bytealg_MaxLen w)(hb:Below w.heap.size w w'):GV_bytealg_MaxLen w':=by
 obtain ⟨m,hm⟩:=h
 refine ⟨m,?_⟩
 have hlt:Tryz.laysM145_ren.g 1<w.heap.size:=by
  rcases Nat.lt_or_ge (Tryz.laysM145_ren.g 1) w.heap.size with h' | h'
  ·exact h'
  ·unfold World.cell? at hm
   simp only [Array.getElem?_eq_none h'] at hm
   simp at hm
 have e:=hb.block _ hlt
 unfold World.cell? at hm ⊢
 simp only [e]
 exact hm
theorem GV_bytealg_MaxLen.of_shaped{w:World}(h:w.ShapedOpen Tryz.prog):GV_bytealg_MaxLen w:=Tryz.laysM145.s1_3 w h
def Qmb(s sep:ByteArray):ByteArray×ByteArray×Bool:=(⟨(Lib.cut s.data.toList sep.data.toList).1.toArray⟩,⟨(Lib.cut s.data.toList sep.data.toList).2.1.toArray⟩,(Lib.cut s.data.toList sep.data.toList).2.2)
theorem QuD(s sep:ByteArray)(hs:s.size<4294967281)(w:World)(hg:GV_bytealg_MaxLen w) :
  Calls Tryz.prog 151 #[.string s,.string sep] w fun e w'=>e=.returned (.tuple #[.string (Qmb s sep).1,.string (Qmb s sep).2.1,.bool (Qmb s sep).2.2])∧Below w.heap.size w w':=by
 obtain ⟨m,hm⟩:=hg
 refine (Tryz.strings_Cut s sep m w hs hm).mono fun e w' h=>?_
 obtain ⟨he,n,hn⟩:=h
 subst hn
 exact ⟨he,Below.drawn w _⟩
theorem handed_shaped{H:Type}{enc:TypeId×Value→H}{a:Assume}{C:Checked}{os:Os}{f:FuncId}{fn:Func}{s:ChangeSpec}{conds:List PathCond}{apart fresh handsOn again:Bool}{X:World→Array Value→Prop}
  (hX:∀ (w w':World) (args:Array Value),w.heap=w'.heap→X w args→X w' args)
  (own:ownKnob C.prog.godebug=none) (started:os.Started) (noInit:C.prog.inits.idxOf? f=none) (hfn:C.prog.funcs[f]? = some fn)
  (witness:∃ (w:World) (tape:Tape) (i:Input),w.os=os∧(w.forCall tape i).Shaped C.prog∧i.vars=[]∧Input.okWide C.prog (w.forCall tape i) .any w.heap.size f i ∧
   ((s.pre enc C.prog fn conds apart (w.forCall tape i).memory i.args∧X (w.forCall tape i).memory i.args)∧sizedMet enc C.prog fn (OpenSpec.ofChange s) apart (w.forCall tape i).memory i.args)∧a.holds C.prog (lone (Frame.enter C.prog f i.args .normal) [] (w.forCall tape i)))
  (contract:∀ (W:World) (base:Nat) (args:Array Value) (ds gs:List (DataW H)) (before:List MemPlace),
   (∀ (j:Nat) t v,fn.params[j]? = some t→args[j]? = some v→Value.okWide C.prog W .any base t v) →
   DataW.Whole enc C.prog fn.params.toList s.vars apart W args.toList ds gs before →
   conds.all (PathCond.test C.prog ⟨fn.params.toList,ds,s.plain.varTypes C.prog,gs⟩)=true →
   (DataW.weightsEach C.prog (fn.params.toList++s.plain.varTypes C.prog) (ds++gs)).all (·≤reachBytes)=true→W.ShapedOpen C.prog→X W args →
   a.holds C.prog (lone (Frame.enter C.prog f args .normal) [] W) →
   Calls C.prog f args W fun e W'=>∃ v,e=.returned v∧s.post enc C.prog fn apart fresh handsOn again W args v W') :
  ReturnsInHanded a C os f .any (fun w args=>(s.pre enc C.prog fn conds apart w args∧X w args)∧sizedMet enc C.prog fn (OpenSpec.ofChange s) apart w args) (s.post enc C.prog fn apart fresh handsOn again):=by
 refine returnsInHanded_of_calls own started noInit witness ?_
 intro w tape i _ hsh _ hok hpre hholds
 obtain ⟨_,_,_,fn2,hf2,_,_,_,_,hval⟩:=hok
 cases Option.some.inj (hf2.symm.trans hfn)
 obtain ⟨⟨⟨ds,gs,before,hw,hc⟩,hx⟩,hz⟩:=hpre
 refine (contract (w.forCall tape i) w.heap.size i.args ds gs before hval (DataW.Whole.of_heap (by rfl) hw) hc (hz.weights hw) hsh (hX _ _ _ (by rfl) hx) hholds).mono fun e W' h=>?_
 obtain ⟨v,he,hp⟩:=h
 cases he
 exact ChangeSpec.post_blind hp
end Go.Proofs.YtnekckhjmnhinaaGreatDoor
namespace Go.Proofs.YtnekckhjmnhinaaGreatDoor.E
open Go.RowKit
variable {n : Nat} {L : List (Nat × Value)} {P : Program} {ops : Array Oper} {Q : Exit → Act → World → Prop} {rest : List Oper} {w0 : World} {H : List Ent}
theorem QhP{α:Type}{d:Nat}{ty:TypeId}{pos:String}{aft:Array Edge}{t e:TypeId}{m sz:Nat}{QM:List (Nat×Operand)}{vs:List (Nat×Value)}{z:Value}{c:Cd α}(zs xs:List α)(ht:P.underlying t=some (.slice e))(hz:∀ w,(sizeOf e).run P w=.ok sz w)(hzv:∀ w,(zeroValue e).run P w=.ok z w)(hx:evp L QM=some vs)(hm:Nat.ble (m*sz) 16777216=true)(h0:Nat.beq (m*sz) 0=false)
  (hi:((Array.range (m*sz)).map (z.cells[·%z.cells.size]!))=(c.all zs).toArray)
  (hf:Instr.fill (fun i=>some (i*sz,sz)) (c.all zs).toArray vs=some (c.all xs).toArray) (hdn:Nat.blt d n=true)
  (k:∀ b,At n ((d,.slice (some ⟨b,0,none⟩) m m)::L) (Wd w0 (Qi b (c.all xs) e::H)) (wpList P ops Q rest)) :
  At n L (Wd w0 H) (wpList P ops Q (⟨some d,.buildSlice t m QM.toArray,ty,pos,aft,none⟩::rest)) :=
 QuI ht hz hzv hx hm h0 (by rw [hi];exact hf) hdn k
end Go.Proofs.YtnekckhjmnhinaaGreatDoor.E
namespace Go.Proofs.YtnekckhjmnhinaaGreatDoor.E
open Go.RowKit
variable {n : Nat} {L : List (Nat × Value)} {W : World → Prop} {P : Program} {ops : Array Oper} {Q : Exit → Act → World → Prop}
theorem Qp6{g:Gh}{k:Nat}{x:G3}:QkG g k x k=x:=by unfold QkG;simp
theorem Qlc{g:Gh}{k j:Nat}{x:G3}(h:j≠k):QkG g k x j=g j:=by
 unfold QkG
 have:Nat.beq j k=false:=by
  cases hb:Nat.beq j k
  ·rfl
  ·exact absurd (Nat.eq_of_beq_eq_true hb) h
 rw [this];rfl
def QpT(fl b:Nat)(cs:List Value)(t:TypeId):Ent:=if fl=1 then Qi b cs t else ⟨[],fun _=>True,fun _ _ _ _=>trivial⟩
theorem QqO{fl b:Nat}{cs:List Value}{t:TypeId}(h:fl=1):QpT fl b cs t=Qi b cs t:=if_pos h
theorem Qs9{X:Act→World→Prop}{w0:World}{H G:List Ent}{f:Ent→List Ent}{fl b:Nat}{cs:List Value}{t:TypeId}(hu:Upd H (QpT fl b cs t) f G)(h:fl=1)(k:At n L (Wd w0 (f (Qi b cs t))) X):At n L (Wd w0 H) X:=by
 rw [←QqO h,hu.same] at k;exact k
theorem Qlp{fl b:Nat}{cs:List Value}{t:TypeId}(h:fl≠1):QpT fl b cs t=⟨[],fun _=>True,fun _ _ _ _=>trivial⟩:=if_neg h
theorem QpN{X:Act→World→Prop}{w0:World}{H:List Ent}{b:Nat}{cs:List Value}{t:TypeId}(k:At n L (Wd w0 (QpT 0 b cs t::H)) X):At n L (Wd w0 H) X :=
 Qeo (fun w hw=>hw.push (E:=QpT 0 b cs t) (Below.refl _ _) (by rw [Qlp (by decide)];trivial) (by intro k hk;rw [Qlp (by decide)] at hk;simp at hk)) k
theorem Qil{X:Act→World→Prop}{w0:World}{H G:List Ent}{f:Ent→List Ent}{fl b0 b fl':Nat}{cs:List Value}{t:TypeId}(hu:Upd H (QpT fl b0 cs t) f G)(h:fl≠1)(h':fl'=1)(k:At n L (Wd w0 (f (QpT fl' b cs t))) X):At n L (Wd w0 (Qi b cs t::H)) X:=fun a w he hw=>by
 rw [Qlp h] at hu
 rw [QqO h'] at k
 have hb:=hw.sep.2.1 b (by simp [Qi])
 refine k a w he ⟨hw.below,hw.pop.sep.swap hu (hw.ok (List.mem_cons_self ..)) fun j hj=>?_⟩
 simp [Qi] at hj
 subst hj
 exact .inr ⟨hb.1,hb.2.1,hb.2.2⟩
def QoN(flL:List Bool)(dpL:List (List Nat))(tot:Nat):Nat→List Kd→Prop
 | _,[]=>True
 | i,kd::r=>(∀ g g':Gh,(∀ k,k<kd.bound→g k=g' k)→(∀ j∈dpL.getD i [],g (tot+j)=g' (tot+j))→(flL.getD i false=true→g (tot+i)=g' (tot+i))→kd.val g=kd.val g')∧QoN flL dpL tot (i+1) r
theorem QkX{flL:List Bool}{dpL:List (List Nat)}{tot:Nat}:∀ {kds:List Kd} {m:Nat},QoN flL dpL tot m kds→∀ {i:Nat} {kd:Kd},kds[i]? = some kd→∀ g g':Gh,(∀ k,k<kd.bound→g k=g' k)→(∀ j∈dpL.getD (m+i) [],g (tot+j)=g' (tot+j))→(flL.getD (m+i) false=true→g (tot+(m+i))=g' (tot+(m+i)))→kd.val g=kd.val g'
 | _::_,m,h,0,kd,hi=>by simp at hi;subst hi;exact h.1
 | _::_,m,h,i+1,kd,hi=>by
  have:=QkX h.2 (i:=i) (by simpa using hi)
  rw [show m+(i+1)=m+1+i by omega];exact this
 | [],_,_,_,_,hi=>by simp at hi
def QsZ(l:List Oper)(flL:List Bool)(dpL:List (List Nat)):Bool:=(List.range dpL.length).all fun i=>(dpL.getD i []).all fun j=>flL.getD j false&&QiB l 8 i j
theorem QkZ{l:List Oper}{flL:List Bool}{dpL:List (List Nat)}(h:QsZ l flL dpL=true){i j:Nat}(hj:j∈dpL.getD i []):flL.getD j false=true∧QiB l 8 i j=true:=by
 unfold QsZ at h
 have hi:i<dpL.length:=by
  rcases Nat.lt_or_ge i dpL.length with hh | hh
  ·exact hh
  ·rw [List.getD_eq_getElem?_getD,List.getElem?_eq_none hh] at hj;simp at hj
 have h1:=List.all_eq_true.1 (List.all_eq_true.1 h i (List.mem_range.2 hi)) j hj
 rw [Bool.and_eq_true] at h1
 exact h1
def ObF(n:Nat)(L:List (Nat×Value))(P:Program)(ops:Array Oper)(kds:List Kd)(Wm:Gh→Nat→World→Prop)(tot:Nat)(isf:Bool)(dp:List Nat)(i:Nat)(kd:Kd)(o:Oper):Prop :=
 match isf,kd with
 | true,.q d v need lo hi=>∀ (Lx:List (Nat×Value)) (b:Gh) (s:Nat) (K:Act→World→Prop),s≤hi→(b (tot+i)).2.2.1≠1→(∀ x:G3,x.2.2.1=1→At n ((d,v (QkG b (tot+i) x))::(QdF kds b need++(L++Lx))) (Wm (QkG b (tot+i) x) s) K)→At n (QdF kds b need++(L++Lx)) (Wm b s) (wpList P ops (QK K) [o])
 | true,_=>False
 | false,.q d v need lo hi=>∀ (Lx:List (Nat×Value)) (b:Gh) (s:Nat) (K:Act→World→Prop),(∀ j∈dp,(b (tot+j)).2.2.1=1)→lo≤s→s≤hi→At n ((d,v b)::(QdF kds b need++(L++Lx))) (Wm b s) K→At n (QdF kds b need++(L++Lx)) (Wm b s) (wpList P ops (QK K) [o])
 | false,.st k dv need=>∀ (Lx:List (Nat×Value)) (b:Gh) (K:Act→World→Prop),(∀ j∈dp,(b (tot+j)).2.2.1=1)→At n (Kd.add b (.st k dv need) (QdF kds b need++(L++Lx))) (Wm b (k+1)) K→At n (QdF kds b need++(L++Lx)) (Wm b k) (wpList P ops (QK K) [o])
 | false,.al k d v need=>∀ (Lx:List (Nat×Value)) (b:Gh) (K:Act→World→Prop),(∀ j∈dp,(b (tot+j)).2.2.1=1)→(∀ x,At n ((d,v (QkG b k x))::(QdF kds b need++(L++Lx))) (Wm (QkG b k x) (k+1)) K)→At n (QdF kds b need++(L++Lx)) (Wm b k) (wpList P ops (QK K) [o])
def Qwg(n:Nat)(L:List (Nat×Value))(P:Program)(ops:Array Oper)(kds:List Kd)(Wm:Gh→Nat→World→Prop)(tot:Nat)(flL:List Bool)(dpL:List (List Nat)):Nat→List Kd→List Oper→Prop
 | i,kd::r,o::l=>ObF n L P ops kds Wm tot (flL.getD i false) (dpL.getD i []) i kd o∧Qwg n L P ops kds Wm tot flL dpL (i+1) r l
 | _,[],[]=>True
 | _,_,_=>False
theorem Qop{kds0:List Kd}{Wm:Gh→Nat→World→Prop}{tot:Nat}{flL:List Bool}{dpL:List (List Nat)}:∀ {kds:List Kd} {l:List Oper} {m:Nat},Qwg n L P ops kds0 Wm tot flL dpL m kds l→∀ {i:Nat} {o:Oper},l[i]? = some o→∃ kd,kds[i]? = some kd∧ObF n L P ops kds0 Wm tot (flL.getD (m+i) false) (dpL.getD (m+i) []) (m+i) kd o
 | kd::r,o'::l,m,h,0,o,hi=>by
  simp at hi;subst hi
  exact ⟨kd,rfl,h.1⟩
 | kd::r,o'::l,m,h,i+1,o,hi=>by
  obtain ⟨kd',h1,h2⟩:=Qop h.2 (i:=i) (o:=o) (by simpa using hi)
  rw [show m+(i+1)=m+1+i by omega]
  exact ⟨kd',by simpa using h1,h2⟩
 | [],[],_,_,i,o,hi=>by simp at hi
 | [],_::_,_,h,_,_,_=>h.elim
 | _::_,[],_,h,_,_,_=>h.elim
def QvJ(n:Nat)(L:List (Nat×Value))(l:List Oper)(kds:List Kd)(Wm:Gh→Nat→World→Prop)(tot:Nat)(flL:List Bool)(S:Array Bool)(a:Act)(w:World):Prop :=
 ∃ b s,a.tmps.size=n∧a.defers=[]∧(∀ t v,lk L t=some v→a.tmps.getD t undef=v) ∧
  (∀ j kd d,S.getD j false=true→kds[j]? = some kd→kd.dst=some d→a.tmps.getD d undef=kd.val b) ∧
  (∀ j kd k,kds[j]? = some kd→kd.rank=some k→(S.getD j false=true↔k<s))∧s≤tot∧Wm b s w∧(∀ j o i,S.getD j false=true→l[j]? = some o→QpU o i=true→S.getD i false=true) ∧
  ∀ j,flL.getD j false=true→(S.getD j false=true↔(b (tot+j)).2.2.1=1)
theorem Qul{l:List Oper}{kds:List Kd}{Wm:Gh→Nat→World→Prop}{tot:Nat}{flL:List Bool}{dpL:List (List Nat)}(hb:QpM l=true)(ha:QoZ n kds kds l=true)(hap:Qi6 (L.map (·.1)) kds=true)(hr:Qhv kds tot=true)(hfx:QoN flL dpL tot 0 kds)(hdp:QsZ l flL dpL=true)(hbo:Qi3 kds l tot=true)
  (hO:Qwg n L P l.toArray kds Wm tot flL dpL 0 kds l) (fin:∀ b,(∀ j,j<l.length→flL.getD j false=true→(b (tot+j)).2.2.1=1)→At n (QdF kds b (List.range l.length)++L) (Wm b tot) (Q .normal)) :
  ∀ (fuel:Nat) (S:Array Bool) (a:Act) (w:World),S.size=l.length→QjY S l.length≤fuel→QvJ n L l kds Wm tot flL S a w→wpAny P .any l.toArray Q fuel S a w:=by
 have done:∀ (S:Array Bool) (a:Act) (w:World),(∀ j,j<l.length→S.getD j false=true)→QvJ n L l kds Wm tot flL S a w→Q .normal a w:=by
  intro S a w hall ⟨b,s,h1,h2,h3,h4,h5,h6,h7,_,h9⟩
  have hs:s=tot:=by
   rcases Nat.lt_or_ge s tot with hlt | hge
   ·obtain ⟨j,kd,hj,hk⟩:=QiU hr hlt
    have hjl:j<l.length:=by rw [←Qip ha];exact (List.getElem?_eq_some_iff.1 hj).1
    exact absurd ((h5 j kd s hj hk).1 (hall j hjl)) (Nat.lt_irrefl _)
   ·omega
  subst hs
  refine fin b (fun j hj hf=>(h9 j hf).1 (hall j hj)) a w ⟨h1,h2,fun t v hv=>?_⟩ h7
  rcases QfQ hv with hv | hv
  ·exact QfT h4 (fun j hj=>hall j (List.mem_range.1 hj)) t v hv
  ·exact h3 t v hv
 intro fuel
 induction fuel with
 | zero =>
  intro S a w hS ho hi
  have hall:=fun j (hj:j<l.length)=>QmC (Nat.le_zero.1 ho) hj
  refine ⟨?_,done S a w hall hi⟩
  cases hrd:Region.ready .any l.toArray S with
  | nil=>rfl
  | cons x r =>
   exfalso
   obtain ⟨hx1,o,hx2,_⟩:=mem_ready.1 (show x∈Region.ready .any l.toArray S by rw [hrd];exact List.mem_cons_self ..)
   have hxl:x<l.length:=by simpa using (Array.getElem?_eq_some_iff.1 hx2).1
   have hx3:=hall x hxl
   have hxs:x<S.size:=by omega
   rw [Array.getD_eq_getD_getElem?] at hx1 hx3
   simp [hxs] at hx1 hx3
   rw [hx1] at hx3;cases hx3
 | succ fuel ih =>
  intro S a w hS ho hi
  refine ⟨fun hrd=>done S a w (Qmq hS hb hrd) hi,fun i hir=>?_⟩
  obtain ⟨hx1,o,hx2,hx3⟩:=mem_ready.1 hir
  have hil:i<l.length:=by simpa using (Array.getElem?_eq_some_iff.1 hx2).1
  have his:i<S.size:=by omega
  have hx0:S.getD i false=false:=by
   rw [Array.getD_eq_getD_getElem?] at hx1 ⊢
   simpa [his] using hx1
  have hlo:l[i]? = some o:=by simpa using hx2
  obtain ⟨kd,hk,hob⟩:=Qop hO hlo
  rw [Nat.zero_add] at hob
  have hneed:=QmD (QlY ha hlo hk)
  obtain ⟨b,s,h1,h2,h3,h4,h5,h6,h7,h8,h9⟩:=hi
  have hdf:∀ j∈dpL.getD i [],(b (tot+j)).2.2.1=1:=fun j hj=>by
   obtain ⟨hfj,hre⟩:=QkZ hdp hj
   exact (h9 j hfj).1 (QeM h8 hlo hx3 hre)
  have flags:∀ b':Gh,flL.getD i false=false→(∀ j,b (tot+j)=b' (tot+j))→∀ j,flL.getD j false=true→((S.setIfInBounds i true).getD j false=true↔(b' (tot+j)).2.2.1=1):=fun b' hfi hbb j hfj=>by
   have hji:i≠j:=fun e=>by subst e;rw [hfi] at hfj;cases hfj
   rw [Qd0 hji,h9 j hfj,hbb j]
  have hcnt:QjY (S.setIfInBounds i true) l.length≤fuel:=by have:=Qoo hil his hx0;omega
  have hsz:(S.setIfInBounds i true).size=l.length:=by simpa using hS
  have env:Env n (QdF kds b kd.need++(L++Qf9 a)) a:=by
   refine ⟨h1,h2,fun t v hv=>?_⟩
   rcases QfQ hv with hv | hv
   ·exact QfT h4 (fun j hj=>QeB hx3 (hneed j hj)) t v hv
   ·rcases QfQ hv with hv | hv
    ·exact h3 t v hv
    ·exact Qj3 hv
  have out:∀ (a':Act),a'.tmps.size=n→∀ t,¬ t<a.tmps.size→a'.tmps.getD t undef=a.tmps.getD t undef:=by
   intro a' hz t hts
   have:¬ t<a'.tmps.size:=by rw [hz,←h1];exact hts
   rw [Array.getD_eq_getD_getElem?,Array.getD_eq_getD_getElem?]
   simp [hts,this]
  have kp:∀ (a':Act) (d:Nat) (v:Value),Env n ((d,v)::(QdF kds b kd.need++(L++Qf9 a))) a'→∀ t,t≠d→a'.tmps.getD t undef=a.tmps.getD t undef:=by
   intro a' d v he t htd
   by_cases hts:t<a.tmps.size
   ·obtain ⟨u,hu⟩:=Qe6 (A:=QdF kds b kd.need) (Qe6 (A:=L) ⟨_,Qly a t hts⟩)
    rw [env.vals t u hu]
    refine he.vals t _ ?_
    rw [QdT,if_neg (fun e=>htd e.symm)]
    exact hu
   ·exact out a' he.size t hts
  have kp0:∀ (a':Act),Env n (QdF kds b kd.need++(L++Qf9 a)) a'→∀ t,a'.tmps.getD t undef=a.tmps.getD t undef:=by
   intro a' he t
   by_cases hts:t<a.tmps.size
   ·obtain ⟨u,hu⟩:=Qe6 (A:=QdF kds b kd.need) (Qe6 (A:=L) ⟨_,Qly a t hts⟩)
    rw [env.vals t u hu]
    exact he.vals t _ hu
   ·exact out a' he.size t hts
  have other:∀ j,j≠i→(S.setIfInBounds i true).getD j false=S.getD j false:=fun j hj=>Qd0 (fun e=>hj e.symm)
  have closed:∀ j o' i',(S.setIfInBounds i true).getD j false=true→l[j]? = some o'→QpU o' i'=true→(S.setIfInBounds i true).getD i' false=true:=by
   intro j o' i' hj hjo he
   refine getD_set_true ?_
   by_cases hji:j=i
   ·subst hji
    rw [hlo] at hjo;cases hjo
    exact QeB hx3 he
   ·rw [other j hji] at hj
    exact h8 j o' i' hj hjo he
  have hsk:∀ k,kd.rank=some k→s=k:=by
   intro k hkk
   have hle:¬ k<s:=fun hlt=>by have:=(h5 i kd k hk hkk).2 hlt;rw [hx0] at this;cases this
   cases k with
   | zero=>omega
   | succ k =>
    obtain ⟨j,hje,hjr⟩:=Qki hbo hk hlo hkk
    obtain ⟨kd',hj1,hj2⟩:=QdY hjr
    have:=(h5 j kd' k hj1 hj2).1 (QeM h8 hlo hx3 hje)
    omega
  have ranks:∀ k,kd.rank=some k→∀ j kd' k',kds[j]? = some kd'→kd'.rank=some k'→((S.setIfInBounds i true).getD j false=true↔k'<k+1):=by
   intro k hkk j kd' k' hj hk'
   by_cases hji:j=i
   ·subst hji
    rw [hk] at hj;cases hj
    rw [hkk] at hk';cases hk'
    rw [Qe8 his];simp
   ·rw [other j hji,h5 j kd' k' hj hk']
    have hs:=hsk k hkk
    have hne:k'≠k:=fun e=>by subst e;exact hji (QkL hr hj hk' hk hkk)
    omega
  have ranks0:kd.rank=none→∀ j kd' k',kds[j]? = some kd'→kd'.rank=some k'→((S.setIfInBounds i true).getD j false=true↔k'<s):=by
   intro hkn j kd' k' hj hk'
   have hji:j≠i:=fun e=>by subst e;rw [hk] at hj;cases hj;rw [hkn] at hk';cases hk'
   rw [other j hji];exact h5 j kd' k' hj hk'
  have below:∀ j kd',S.getD j false=true→kds[j]? = some kd'→kd'.bound≤s:=by
   intro j kd' hj hj'
   have rk:∀ k,kd'.rank=some k→k+1≤s:=fun k hkk=>(h5 j kd' k hj' hkk).1 hj
   cases kd' with
   | st k dv need=>exact rk k rfl
   | al k d v need=>exact rk k rfl
   | q d v need lo hi =>
    have hjl:j<l.length:=by rw [←Qip ha];exact (List.getElem?_eq_some_iff.1 hj').1
    have hjo:l[j]? = some l[j]:=List.getElem?_eq_getElem hjl
    cases lo with
    | zero=>exact Nat.zero_le _
    | succ k =>
     obtain ⟨i',hie,hir'⟩:=(Qfs hbo hj' hjo).1 k rfl
     obtain ⟨kd2,hi1,hi2⟩:=QdY hir'
     exact (h5 i' kd2 k hi1 hi2).1 (Qdm h8 _ _ _ hie hj)
  have putL:∀ (b':Gh) (d:Nat) (v:Value) (a':Act),kd.dst=some d→kd.val b'=v→(∀ k,k<s→b k=b' k)→(∀ j,S.getD j false=true→b (tot+j)=b' (tot+j))→Env n ((d,v)::(QdF kds b kd.need++(L++Qf9 a))) a' →
    (∀ t u,lk L t=some u→a'.tmps.getD t undef=u)∧(∀ j kd' d',(S.setIfInBounds i true).getD j false=true→kds[j]? = some kd'→kd'.dst=some d'→a'.tmps.getD d' undef=kd'.val b'):=by
   intro b' d v a' hd hv hbb hbf he
   refine ⟨fun t u hu=>?_,fun j kd' d' hj hj' hd'=>?_⟩
   ·rw [kp a' d v he t (Qkl hap hk hd t (Qj2 hu))];exact h3 t u hu
   ·by_cases hji:j=i
    ·subst hji
     rw [hk] at hj';cases hj'
     rw [hd] at hd';cases hd'
     rw [hv]
     exact he.vals _ _ (by rw [QdT,if_pos rfl])
    ·rw [other j hji] at hj
     rw [kp a' d v he d' (Qk7 hap hj' hd' hk hd hji),h4 j kd' d' hj hj' hd']
     have hbd:=below j kd' hj hj'
     have hfg:=QkX hfx hj'
     rw [Nat.zero_add] at hfg
     exact hfg b b' (fun k hkl=>hbb k (by omega)) (fun j2 hj2=>hbf j2 (Qdm h8 _ _ _ (QkZ hdp hj2).2 hj)) fun _=>hbf j hj
  refine Qp1 hx2 ?_
  cases hff:flL.getD i false with
  | true =>
   rw [hff] at hob
   cases kd with
   | st k dv need=>exact hob.elim
   | al k d v need=>exact hob.elim
   | q d v need lo hi =>
   have hfl0:(b (tot+i)).2.2.1≠1:=fun e=>by have:=(h9 i hff).2 e;rw [hx0] at this;cases this
   obtain ⟨_,hhi1⟩:=Qfs hbo hk hlo
   have hsh:s≤hi:=by
    rcases hhi1 with h | ⟨j,hjr,hje⟩
    ·omega
    ·obtain ⟨kd',hj1,hj2⟩:=QdY hjr
     have:¬ hi<s:=fun hlt=>by
      have hc:=Qdm h8 _ _ _ hje ((h5 j kd' hi hj1 hj2).2 hlt)
      rw [hx0] at hc;cases hc
     omega
   refine hob (Qf9 a) b s _ hsh hfl0 (fun x hxf a' w' he hw'=>ih _ a' w' hsz hcnt ?_) a w env h7
   have hne:∀ j,S.getD j false=true→b (tot+j)=QkG b (tot+i) x (tot+j):=fun j hj=>(Qlc (fun e=>by
    have:j=i:=by omega
    subst this;rw [hx0] at hj;cases hj)).symm
   obtain ⟨p1,p2⟩:=putL (QkG b (tot+i) x) d _ a' rfl rfl (fun j hj=>(Qlc (by omega)).symm) hne he
   refine ⟨QkG b (tot+i) x,s,he.size,he.defs,p1,p2,ranks0 rfl,h6,hw',closed,fun j hfj=>?_⟩
   by_cases hji:j=i
   ·subst hji
    rw [Qe8 his,Qp6];simp [hxf]
   ·rw [Qd0 (fun e=>hji e.symm),h9 j hfj,Qlc (by omega)]
  | false =>
  rw [hff] at hob
  cases kd with
  | q d v need lo hi =>
   obtain ⟨hlo1,hhi1⟩:=Qfs hbo hk hlo
   have hls:lo≤s:=by
    cases lo with
    | zero=>exact Nat.zero_le _
    | succ k =>
     obtain ⟨j,hje,hjr⟩:=hlo1 k rfl
     obtain ⟨kd',hj1,hj2⟩:=QdY hjr
     exact (h5 j kd' k hj1 hj2).1 (QeM h8 hlo hx3 hje)
   have hsh:s≤hi:=by
    rcases hhi1 with h | ⟨j,hjr,hje⟩
    ·omega
    ·obtain ⟨kd',hj1,hj2⟩:=QdY hjr
     have:¬ hi<s:=fun hlt=>by
      have hc:=Qdm h8 _ _ _ hje ((h5 j kd' hi hj1 hj2).2 hlt)
      rw [hx0] at hc;cases hc
     omega
   refine hob (Qf9 a) b s _ hdf hls hsh (fun a' w' he hw'=>ih _ a' w' hsz hcnt ?_) a w env h7
   obtain ⟨p1,p2⟩:=putL b d _ a' rfl rfl (fun _ _=>rfl) (fun _ _=>rfl) he
   exact ⟨b,s,he.size,he.defs,p1,p2,ranks0 rfl,h6,hw',closed,flags b hff fun _=>rfl⟩
  | st k dv need =>
   have hs:=hsk k rfl
   subst hs
   refine hob (Qf9 a) b _ hdf (fun a' w' he hw'=>ih _ a' w' hsz hcnt ?_) a w env h7
   cases dv with
   | none=>exact ⟨b,_,he.size,he.defs,fun t u hu=>by rw [kp0 a' he];exact h3 t u hu,fun j kd' d' hj hj' hd'=>by
     have hji:j≠i:=fun e=>by subst e;rw [hk] at hj';cases hj';cases hd'
     rw [other j hji] at hj
     rw [kp0 a' he];exact h4 j kd' d' hj hj' hd',ranks _ rfl,Qfj hr hk rfl,hw',closed,flags b hff fun _=>rfl⟩
   | some x =>
    obtain ⟨d,v⟩:=x
    obtain ⟨p1,p2⟩:=putL b d _ a' rfl rfl (fun _ _=>rfl) (fun _ _=>rfl) he
    exact ⟨b,_,he.size,he.defs,p1,p2,ranks _ rfl,Qfj hr hk rfl,hw',closed,flags b hff fun _=>rfl⟩
  | al k d v need =>
   have hs:=hsk k rfl
   subst hs
   refine hob (Qf9 a) b _ hdf (fun x a' w' he hw'=>ih _ a' w' hsz hcnt ?_) a w env h7
   have hst:=Qfj hr hk rfl
   have hne:∀ j,b (tot+j)=QkG b s x (tot+j):=fun j=>(Qlc (by omega)).symm
   obtain ⟨p1,p2⟩:=putL (QkG b s x) d _ a' rfl rfl (fun j hj=>(Qp7 hj).symm) (fun j _=>hne j) he
   exact ⟨QkG b s x,_,he.size,he.defs,p1,p2,ranks _ rfl,Qfj hr hk rfl,hw',closed,flags _ hff hne⟩
theorem QuJ{id:Nat}{l:List Oper}(kds:List Kd)(Wm:Gh→Nat→World→Prop)(tot:Nat)(flL:List Bool)(dpL:List (List Nat))(hm:P.follows .mixedOrders=true)
  (hb:QpM l=true) (ha:QoZ n kds kds l=true) (hap:Qi6 (L.map (·.1)) kds=true) (hr:Qhv kds tot=true) (hfx:QoN flL dpL tot 0 kds) (hdp:QsZ l flL dpL=true) (hbo:Qi3 kds l tot=true)
  (hW:∀ w,W w→∃ b:Gh,(∀ j,(b (tot+j)).2.2.1≠1)∧Wm b 0 { w with drawn:=w.drawn+1 }) (hO:Qwg n L P l.toArray kds Wm tot flL dpL 0 kds l)
  (fin:∀ b,(∀ j,j<l.length→flL.getD j false=true→(b (tot+j)).2.2.1=1)→At n (QdF kds b (List.range l.length)++L) (Wm b tot) (Q .normal)):At n L W ((Code.region id l.toArray true).wp P Q):=fun a w h hw=>by
 obtain ⟨b,hfl,hw0⟩:=hW w hw
 have hrep:∀ j,(Array.replicate l.toArray.size false).getD j false=false:=fun j=>by
  rw [Array.getD_eq_getD_getElem?,Array.getElem?_replicate];split<;>rfl
 refine wp_region_any hm (Qul hb ha hap hr hfx hdp hbo hO fin _ _ a _ (by simp) ?_ ⟨b,0,h.size,h.defs,h.vals,fun j kd d hj=>?_,fun j kd k _ _=>?_,Nat.zero_le _,hw0,fun j o i hj=>?_,fun j _=>?_⟩)
 ·unfold QjY
  exact Nat.le_trans (List.length_filter_le ..) (by simp)
 ·rw [hrep] at hj;cases hj
 ·rw [hrep];simp
 ·rw [hrep] at hj;cases hj
 ·rw [hrep];simp [hfl j]
end Go.Proofs.YtnekckhjmnhinaaGreatDoor.E
namespace Go.Proofs.YtnekckhjmnhinaaGreatDoor.E
open Go.RowKit
section
variable {n d : Nat} {L : List (Nat × Value)} {P : Program} {ops : Array Oper} {Q : Exit → Act → World → Prop} {rest : List Oper} {w0 : World} {H : List Ent} {ty : TypeId} {pos : String} {aft : Array Edge} {α : Type} {t e : TypeId} {f : Ent → List Ent} {G : List Ent}
theorem Qqo{c:Cd α}{p:Option Addr}{cap:Nat}{xs:List α}{k:Nat}{w:World}(hk:k≤xs.length)(hp:p.isSome=true∨k=xs.length)(h:w.ownsRow 0 e c.sz (.slice p xs.length cap) xs.length (c.all xs)) :
  w.ownsRow 0 e c.sz (.slice p (xs.take k).length cap) (xs.take k).length (c.all (xs.take k)):=by
 have hl:(xs.take k).length=k:=by rw [List.length_take];omega
 rw [hl]
 refine ⟨by rw [c.all_len,hl],?_⟩
 rcases h.2 with ⟨h1,h0⟩ | ⟨g,cap',cur,hv,hg,hh,h1,h2,h3,h4⟩
 ·refine .inl ⟨?_,by omega⟩
  injection h1 with e1 e2 e3
  subst e1;subst e3
  rw [show k=0 by omega]
 ·injection hv with e1 e2 e3
  subst e1;subst e3
  refine .inr ⟨g,cap,cur,rfl,hg,hh,by omega,h2,h3,?_⟩
  have:=congrArg (List.take (k*c.sz)) h4
  rw [List.take_take,Nat.min_eq_left (Nat.mul_le_mul_right _ hk)] at this
  rw [this]
  have hs:c.all xs=c.all (xs.take k)++c.all (xs.drop k):=by rw [←c.all_append,List.take_append_drop]
  rw [hs,List.take_append_of_le_length (by rw [c.all_len,hl];exact Nat.le_refl _),List.take_of_length_le (by rw [c.all_len,hl];exact Nat.le_refl _)]
theorem QrV{c:Cd α}{x hi:Operand}{k:IntKind}{h:Int}{p:Option Addr}{cap:Nat}{xs:List α}(hu:Upd H (Qbm c e p cap xs) f G)(ht:P.underlying t=some (.slice e))(hz:∀ w,(sizeOf e).run P w=.ok c.sz w)(hx:ev L x=some (.slice p xs.length cap))(hy:ev L hi=some (.int k h))(hb:(0:Int)≤h∧h≤(xs.length:Int))(hdn:Nat.blt d n=true)
  (kk:At n ((d,.slice p (List.take h.toNat xs).length cap)::L) (Wd w0 (f (Qbm c e p cap (List.take h.toNat xs)))) (wpList P ops Q rest)) :
  At n L (Wd w0 H) (wpList P ops Q (⟨some d,.slice t x none (some hi) none,ty,pos,aft,none⟩::rest)):=by
 refine Qae (φ:=xs.length≤cap∧(p=none∧cap=0∨∃ g,p=some ⟨g,0,none⟩)) (fun w hw=>?_) fun hf=>?_
 ·rcases (hw.ok hu.mem).2 with ⟨h1,h0⟩ | ⟨g,cap',cur,hv,_,_,h1,_⟩
  ·injection h1 with e1 e2 e3
   exact ⟨by omega,.inl ⟨e1,e3⟩⟩
  ·injection hv with e1 e2 e3
   exact ⟨by omega,.inr ⟨g,e1⟩⟩
 ·have hr:=Qmv (n:=n) (d:=d) (W:=Wd w0 H) (ty:=ty) (pos:=pos) (aft:=aft) (lo:=none) (hi:=some hi) (l:=0) (h:=h) ht hz hx hf.1 rfl ⟨k,hy⟩ ⟨Int.le_refl _,hb.1,hb.2⟩
  have e1:rsp p cap 0 c.sz=p:=by
   rcases hf.2 with ⟨rfl,_⟩ | ⟨g,rfl⟩
   ·simp [rsp]
   ·simp [rsp,Addr.add_lit]
  have e2:QdS xs 0 h=List.take h.toNat xs:=by simp [QdS]
  rw [e1,e2,Int.toNat_zero,Nat.sub_zero] at hr
  refine Qk2 rfl rfl hdn hr (Qeo (fun w hw=>?_) kk)
  refine hw.swap hu (Qqo (by omega) ?_ (hw.ok hu.mem)) fun j hj=>.inl ?_
  ·rcases hf.2 with ⟨rfl,h0⟩ | ⟨g,rfl⟩
   ·right;omega
   ·left;rfl
  ·rcases hf.2 with ⟨rfl,_⟩ | ⟨g,rfl⟩
   ·simp [Qbm,Value.ownBlock] at hj
   ·simpa [Qbm,Value.ownBlock] using hj
end
end Go.Proofs.YtnekckhjmnhinaaGreatDoor.E
namespace Go.Proofs.YtnekckhjmnhinaaGreatDoor
open E Go.RowKit _root_.Go.Proofs.Tryz
abbrev zv0 := ({ f_Private := (Vector.replicate 32 (0 : Int) : (Vector Int 32)), f_Port := (0 : Int), f_Mark := (0 : Int), f_Peers := ([] : List Qq) } : Qx)
abbrev zv1 := ({ f_g := (Vector.replicate 8 (0 : Int) : (Vector Int 8)), f_n := (0 : Int), f_gap := (0 : Int) } : QF)
abbrev zv2 := ({ f_V := (0 : Int), f_B := (Vector.replicate 16 (0 : Int) : (Vector Int 16)) } : Qj)
abbrev zv3 := (Vector.replicate 16 (0 : Int) : (Vector Int 16))
abbrev zv4 := (Vector.replicate 32 (0 : Int) : (Vector Int 32))
abbrev zv5 := (Vector.replicate 4 (0 : Int) : (Vector Int 4))
abbrev zv6 := (Vector.replicate 8 (0 : Int) : (Vector Int 8))
abbrev zv7 := ({ f_e := (0 : Int) } : Q3)
abbrev zv8 := ((none : Option Addr), (0 : Nat))
abbrev zv9 := ({ f_A := zv2, f_Port := (0 : Int) } : Qr)
abbrev Qdl := ({ f_A := zv2, f_Bits := (0 : Int) } : Qo)
abbrev QfE := ({ f_Key := zv4, f_Psk := zv4, f_End := zv9, f_Keep := (0 : Int), f_Sent := (0 : Int), f_Got := (0 : Int), f_Allowed := ([] : List Qo) } : Qq)
abbrev QeF := (zv8, QfE)
abbrev Qc1 := (zv8, zv0)
section
variable {n d m : Nat} {L : List (Nat × Value)} {W : World → Prop} {P : Program} {ops : Array Oper} {Q : Exit → Act → World → Prop} {rest : List Oper} {w0 : World} {H : List Ent} {f : FuncId} {fn : Func} {xs : List Operand} {ats : Array TypeId} {ty : TypeId} {pos : String} {aft : Array Edge} {l : List Value}
theorem cB {v : Value} (hf : P.funcs[f]? = some fn) (hx : evs L xs = some l) (hc : ∀ w, Wd w0 H w → Calls P f l.toArray w fun e w' => e = .returned v ∧ Below w.heap.size w w') (kk : At n ((d, v) :: L) (Wd w0 H) (wpList P ops Q rest)) (hb : fn.body.isSome = true := by exact rfl) (hnm : (fn.name == "runtime.NumGoroutine") = false := by kernel_rfl) (hdn : Nat.blt d n = true := by exact rfl) : At n L (Wd w0 H) (wpList P ops Q (⟨some d, .call { callee := .value (.func f), args := xs.toArray, argTypes := ats }, ty, pos, aft, none⟩ :: rest)) := Qta hf hb hnm hx hdn hc kk
end
theorem wb {β : Type} {v : β} {w0 : World} {H : List Ent} : ∀ w1, Wd w0 H w1 → v = v ∧ Below w0.heap.size w0 w1 := fun _ h => ⟨rfl, h.below⟩
theorem lw {α : Type} {c : Cd α} {x : α} : Qaf (c.cs x) 0 c x c.cs := Qaf.whole c x
def okc (k : Nat) (cs : List Value) : Bool := Nat.beq cs.length k && cs.all Value.oneCell'
theorem Qvy {k : Nat} {cs : List Value} (h : okc k cs = true) : cs.length = k ∧ ∀ v ∈ cs, v.oneCell' = true := by
  unfold okc at h
  rw [Bool.and_eq_true] at h
  exact ⟨Nat.eq_of_beq_eq_true h.1, List.all_eq_true.1 h.2⟩
abbrev ck (k : Nat) (cs : List Value) (h : okc k cs = true) : {l : List Value // l.length = k ∧ ∀ v ∈ l, v.oneCell' = true} := ⟨cs, Qvy h⟩
theorem fa {n d : Nat} {L : List (Nat × Value)} {W : World → Prop} {P : Program} {ops : Array Oper} {Q : Exit → Act → World → Prop} {rest : List Oper} {s : TypeId} {x : Operand} {ty : TypeId} {pos : String} {aft : Array Edge} {fs : Array Field} {f : Field} {j b o m : Nat} (fo : Nat) (hs : P.underlying s = some (.struct fs)) (hf : fs[j]? = some f) (hz : ∀ w, (sizeOf f.type).run P w = .ok (m + 1) w) (k : At n ((d, .pointer (some ⟨b, o + fo, none⟩)) :: L) W (wpList P ops Q rest)) (hfo : f.offset = fo := by exact rfl) (hdn : Nat.blt d n = true := by exact rfl) (hx : ev L x = some (.pointer (some ⟨b, o, none⟩)) := by exact rfl) : At n L W (wpList P ops Q (⟨some d, .fieldAddr s x j, ty, pos, aft, none⟩ :: rest)) :=
  av hdn (Q4 hs hf hfo (fun w => ⟨m, hz w⟩) hx) k
def Qab(x0:Int):Option (ByteArray) :=
 if (decide (x0<10))=true then (some (⟨(unb ([wr .u8 (wr .u64 (48+(Int.tmod x0 10)))])).toArray⟩:ByteArray)) else (Qab (wr .u64 (Int.tdiv x0 10))>>=fun t3=>if t3.size+(⟨(unb ([wr .u8 (wr .u64 (48+(Int.tmod x0 10)))])).toArray⟩:ByteArray).size≤140737488355328 then some (t3++(⟨(unb ([wr .u8 (wr .u64 (48+(Int.tmod x0 10)))])).toArray⟩:ByteArray)) else none)
 partial_fixpoint
theorem Qa2(x0:Int)(r:ByteArray)(hF:Qab x0=some r)(w:World) :
    Calls Tryz.prog 45 #[.int .u64 x0] w (fun e w'=>e=.returned (.string r)∧Below w.heap.size w w'):=by
 refine Qab.partial_correctness (motive:=fun x0 r=>∀ (w:World),Calls Tryz.prog 45 #[.int .u64 x0] w (fun e w'=>e=.returned (.string r)∧Below w.heap.size w w')) ?_ _ _ hF w
 clear hF
 intro g ihf0 x0 r hF w
 have ihf:∀ (x0:Int) (r:ByteArray) (hF:g x0=some r) (w:World),Calls Tryz.prog 45 #[.int .u64 x0] w (fun e w'=>e=.returned (.string r)∧Below w.heap.size w w'):=fun x0 r hF w=>ihf0 x0 r hF w
 refine ce (l:=[.int .u64 x0]) func45 rfl rfl ?_
 refine QN ?_
 refine sr (aa (ns (am ?_)))
 refine aw (QfL rfl rfl (by decide)) ?_
 refine aw xa ?_
 refine aw (QaW underlying41 underlying5 rfl) ?_
 refine Qep (cs:=(Qv .u8).all ([wr .u8 (wr .u64 (48+(Int.tmod x0 10)))]:List Int)) underlying85 sizeOf5 zeroValue5 rfl rfl rfl (by kernel_rfl) rfl ?_
 intro b1
 refine aw (Qmw (xs:=([wr .u8 (wr .u64 (48+(Int.tmod x0 10)))]:List Int)) underlying85 underlying5 underlying9 rfl (fun w1 hw=>(QgZ (hw.ok (Upd.mem .z))))) ?_
 refine aa (qn (dz (tn (qs (sr (am (aw xl (nwq [11,3,0] ?_))))))))
 obtain ⟨h2,hF⟩|⟨h2,hF⟩:=oi hF
 ·refine ct h2 ?_
  refine sr (am (aa (nwq [2] ?_)))
  refine rt ?_
  have K:=os hF
  subst K
  exact r1 wb
 refine cf h2 ?_
 refine sns (am ?_)
 refine aw (Qfl rfl rfl (by decide)) ?_
 obtain ⟨t3,ht3,hF⟩:=bM hF
 refine cB func45 rfl (fun w hw=>ihf _ _ ht3 w) ?_
 refine am ?_
 obtain ⟨h4,hF⟩:=gd hF
 refine aw (Q2 rfl rfl h4) ?_
 refine aa (nwq [2] ?_)
 refine qt ?_
 have K:=os hF
 subst K
 exact r1 wb
def Qbi(x0:Int):Option (ByteArray) :=
 if (0:Int)≤x0∧x0<18446744073709551616 then some (Qga x0) else none
theorem Qb1(x0:Int)(r:ByteArray)(hF:Qbi x0=some r)(w:World)(hg_strconv_uint64pow10:GV_strconv_uint64pow10 w) :
    Calls Tryz.prog 28 #[.int .u64 x0] w (fun e w'=>e=.returned (.string r)∧Below w.heap.size w w'):=by
 unfold Qbi at hF
 refine ce (l:=[.int .u64 x0]) func28 rfl rfl ?_
 refine QN ?_
 refine sr (aa (ns (am ?_)))
 obtain ⟨h1,hF⟩:=gd hF
 refine cB func32 rfl (fun w1 hw=>QlM _ h1 w1 (hg_strconv_uint64pow10.on hw.below)) ?_
 refine aa (nwq [2] ?_)
 refine qt ?_
 have K:=os hF
 subst K
 exact r1 wb
def QaO.l0(x0:ByteArray)(i2:Int):Option (Int) :=
 if (decide (i2<(x0.size:Int)))=true then (if (0:Int)≤i2∧i2<(x0.size:Int) then if (decide (bt x0 i2≥48))=true then (if (0:Int)≤i2∧i2<(x0.size:Int) then if (decide (bt x0 i2≤57))=true then (QaO.l0 x0 (wr .i64 (i2+1))) else (some i2) else none) else (some i2) else none) else (some i2)
 partial_fixpoint
def QaO(x0:ByteArray):Option (Int) :=
 QaO.l0 x0 0>>=fun q1=>some q1
theorem Qgg(x0:ByteArray)(r:Int)(hF:QaO x0=some r)(w:World) :
    Calls Tryz.prog 54 #[.string x0] w (fun e w'=>e=.returned (.int .i64 r)∧w'=w):=by
 unfold QaO at hF
 refine ce (l:=[.string x0]) func54 rfl rfl ?_
 refine sr (aa (ns (aa (nwq [3,0] ?_))))
 refine qs (qb ?_)
 obtain ⟨q1,hq1,hF⟩:=bM hF
 refine wq [3,0] ?_
 refine Qal (B:=0) (A:=fun Y=>At 23 [(3,.int .i64 q1)] (fun w'=>w'=w) Y) ?_ ?_
 ·intro K
  refine QaO.l0.partial_correctness x0 (motive:=fun i2 x=>KN (fun Y=>At 23 [(3,.int .i64 x)] (fun w'=>w'=w) Y) _ 0→QbB (fun Y=>At 23 [(0,.string x0),(3,.int .i64 i2)] (fun w'=>w'=w) Y) _ _ _) ?_ _ _ hq1 K
  ·clear K hF
   intro g ih i2 x hF K
   refine QW ?_
   refine qs (sr (am (am ?_)))
   refine aw (QaR underlying9 rfl) ?_
   refine aw xl (am ?_)
   obtain ⟨h3,hF⟩|⟨h3,hF⟩:=oi hF
   ·refine fx 8 h3 ?_
    refine gy (am (gy (am (gy ?_))))
    obtain ⟨h4,hF⟩:=gd hF
    refine aw (QaZ underlying9 rfl rfl h4) ?_
    refine gy ?_
    refine aw (QfM rfl rfl) ?_
    refine aw xp (am ?_)
    obtain ⟨h5,hF⟩|⟨h5,hF⟩:=oi hF
    ·refine fx 14 h5 ?_
     refine gy (am (gy (am (gy ?_))))
     obtain ⟨h6,hF⟩:=gd hF
     refine aw (QaZ underlying9 rfl rfl h6) ?_
     refine gy ?_
     refine aw (Qhw rfl rfl) ?_
     refine aw xp (nwq [19,3,0] ?_)
     obtain ⟨h7,hF⟩|⟨h7,hF⟩:=oi hF
     ·refine ct h7 ?_
      refine sn (qb (qr (am (aw xa (aa (qn (wq [3,0] ?_)))))))
      refine bm ?_
      exact Qk (ih _ _ hF K) ⟨rfl,rfl,trivial⟩
     refine cf h7 ?_
     refine Q7 ?_
     refine te (te ?_)
     obtain rfl:=os hF
     exact Qk K ⟨rfl,trivial⟩
    refine fx 14 h5 ?_
    refine gn ?_
    refine gn ?_
    refine gn ?_
    refine gn ?_
    refine aw xp (nwq [19,3,0] ?_)
    refine cf rfl ?_
    refine Q7 ?_
    refine te (te ?_)
    obtain rfl:=os hF
    exact Qk K ⟨rfl,trivial⟩
   refine fx 8 h3 ?_
   refine gn ?_
   refine gn ?_
   refine gn ?_
   refine gn ?_
   refine aw xp (am ?_)
   refine gn ?_
   refine gn ?_
   refine gn ?_
   refine gn ?_
   refine aw xp (nwq [19,3,0] ?_)
   refine cf rfl ?_
   refine Q7 ?_
   refine te (te ?_)
   obtain rfl:=os hF
   exact Qk K ⟨rfl,trivial⟩
 skip
 skip
 refine QD ?_
 refine tn (sr (am (aa (nwq [2] ?_))))
 refine qt ?_
 have K:=os hF
 subst K
 exact r1 (fun w1 hw=>⟨rfl,hw⟩)
def QbS.l0(x0:ByteArray)(i3:Nat):Option (Ctl (Int) (Unit)) :=
 if decide (i3<x0.size)=true then (if (decide (Qjf x0 i3<48))=true then (some (.ret (i3:Int))) else (if (decide (Qjf x0 i3>57))=true then (some (.ret (i3:Int))) else (QbS.l0 x0 (QrE x0 i3)))) else (some (.nx ()))
 partial_fixpoint
def QbS(x0:ByteArray):Option (Int) :=
 QbS.l0 x0 0>>=fun q2=>match q2 with | .ret r'=>some r' | .nx sq2=>(some (x0.size:Int))
theorem QiM(x0:ByteArray)(r:Int)(hF:QbS x0=some r)(w:World) :
    Calls Tryz.prog 113 #[.string x0] w (fun e w'=>e=.returned (.int .i64 r)∧Below w.heap.size w w'):=by
 unfold QbS at hF
 refine ce (l:=[.string x0]) func113 rfl rfl ?_
 refine QN ?_
 refine sr (aa (nwq [0] ?_))
 refine qs (sr (am ?_))
 refine Qs8 (s:=x0) underlying9 rfl rfl ?_
 intro b1
 refine nwq [6,0] ?_
 refine qb ?_
 obtain ⟨q2,hq2,hF⟩:=bM hF
 refine wq [6,0] ?_
 refine Qbn (B:=0) (r:=r) (q:=q2) (A:=fun (_:Unit) Y=>At 20 [(0,.string x0)] (Wd w []) Y) ?_ ?_
 ·intro K
  refine QbS.l0.partial_correctness x0 (motive:=fun i3 x=>KR (fun (_:Unit) Y=>At 20 [(0,.string x0)] (Wd w []) Y) _ 0 r x→QbB (fun Y=>At 20 [(0,.string x0),(6,.pointer (some ⟨b1,0,none⟩))] (Wd w [QlE b1 x0 i3]) Y) _ _ _) ?_ _ _ hq2 K
  ·clear K hF
   intro g ih i3 x hF K
   refine QW ?_
   refine sr ?_
   obtain ⟨h4,hF⟩|⟨h4,hF⟩:=oi hF
   ·refine QuH (s:=x0) (p:=i3) .z rfl rfl h4 ?_
    refine aw xe (nwq [8,7,6,0] ?_)
    refine qs ?_
    refine ct rfl ?_
    refine sn (qb (sr ?_))
    refine aw xe (aw xe (aa (aa (nwx [6,4,3,0] ?_))))
    refine am (aw xl (am ?_))
    obtain ⟨h5,hF⟩|⟨h5,hF⟩:=oi hF
    ·refine fx 13 h5 ?_
     refine gn ?_
     refine gn ?_
     refine aw xp (nwq [16,6,3,0] ?_)
     refine ct rfl ?_
     refine sr (am (aa (qn (dz (wq [2] ?_)))))
     refine tn (qt ?_)
     refine br (tr (br (tr ?_)))
     obtain rfl:=os hF
     subst K
     exact r1 wb
    refine fx 13 h5 ?_
    refine gy (am (gy ?_))
    refine aw (QbI rfl rfl) ?_
    refine aw xp (nwq [16,6,3,0] ?_)
    obtain ⟨h6,hF⟩|⟨h6,hF⟩:=oi hF
    ·refine ct h6 ?_
     refine sr (am (aa (qn (dz (wq [2] ?_)))))
     refine tn (qt ?_)
     refine br (tr (br (tr ?_)))
     obtain rfl:=os hF
     subst K
     exact r1 wb
    refine cf h6 ?_
    refine QbQ ?_
    refine bm ?_
    exact Qk (ih _ _ hF K) ⟨rfl,rfl,trivial⟩
   refine QuG (s:=x0) (p:=i3) .z rfl rfl h4 ?_
   refine aw xe (nwq [8,7,6,0] ?_)
   refine qs ?_
   refine cf rfl ?_
   refine Q7 ?_
   refine te (te ?_)
   refine dz ?_
   obtain rfl:=os hF
   exact Qk K ⟨rfl,trivial⟩
 cases q2 with
 | ret r'=>exact os hF
 | nx sq2 =>
  skip
  refine QD ?_
  refine tn (sr (am ?_))
  refine aw (QaR underlying9 rfl) ?_
  refine aa (nwq [2] ?_)
  refine qt ?_
  have K:=os hF
  subst K
  exact r1 wb
def QcP(x0:ByteArray)(x1:Int):Option (Int×Int) :=
 if (seq x0 (⟨#[]⟩:ByteArray))=true then (some (0,5)) else (QbS x0>>=fun t2=>if (decide (t2<(x0.size:Int)))=true then (some (0,5)) else (if (decide ((x0.size:Int)>1))=true then (if (0:Int)≤0∧0<(x0.size:Int) then if (bt x0 0==48)=true then (some (0,5)) else (if x0.size≤281474976710656 then if (!!((Qol x0).2))=true then (some (0,6)) else (if (decide ((Qol x0).1>x1))=true then (some (0,6)) else (some ((Qol x0).1,0))) else none) else none) else (if x0.size≤281474976710656 then if (!!((Qol x0).2))=true then (some (0,6)) else (if (decide ((Qol x0).1>x1))=true then (some (0,6)) else (some ((Qol x0).1,0))) else none)))
theorem Qem(x0:ByteArray)(x1:Int)(r:Int×Int)(hF:QcP x0 x1=some r)(w:World)(hg_strconv_ErrRange:GV_strconv_ErrRange w)(hg_strconv_ErrSyntax:GV_strconv_ErrSyntax w) :
    Calls Tryz.prog 82 #[.string x0,.int .u64 x1] w (fun e w'=>e=.returned (.tuple #[.int .u64 r.1,.int .i64 r.2])∧Below w.heap.size w w'):=by
 unfold QcP at hF
 refine ce (l:=[.string x0,.int .u64 x1]) func82 rfl rfl ?_
 refine QN ?_
 refine sr (aa (aa (nwq [1,0] ?_)))
 refine qs (sr (am ?_))
 refine aw (QfK rfl rfl) ?_
 refine am ?_
 obtain ⟨h1,hF⟩|⟨h1,hF⟩:=oi hF
 ·refine fx 10 h1 ?_
  refine gn ?_
  refine gn ?_
  refine gn ?_
  refine gn ?_
  refine gn ?_
  refine aw xp (am ?_)
  refine gn ?_
  refine gn ?_
  refine gn ?_
  refine gn ?_
  refine Q9 rfl rfl rfl rfl ?_
  refine Q9 rfl rfl rfl rfl ?_
  refine Q9 rfl rfl rfl rfl ?_
  refine gn ?_
  refine aw xp (nwq [26,1,0] ?_)
  refine ct rfl ?_
  refine sr (aa (aa (nwq [5,4] ?_)))
  refine rt ?_
  have K:=os hF
  subst K
  exact Q6 rfl rfl rfl wb
 refine fx 10 h1 ?_
 refine gy (am (gy ?_))
 obtain ⟨t2,ht2,hF⟩:=bM hF
 refine cB func113 rfl (fun w hw=>QiM _ _ ht2 w) ?_
 refine gy (am (gy ?_))
 refine aw (QaR underlying9 rfl) ?_
 refine gy (aw xl (aw xp (am ?_)))
 obtain ⟨h3,hF⟩|⟨h3,hF⟩:=oi hF
 ·refine fx 17 h3 ?_
  refine gn ?_
  refine gn ?_
  refine gn ?_
  refine gn ?_
  refine Q9 rfl rfl rfl rfl ?_
  refine Q9 rfl rfl rfl rfl ?_
  refine Q9 rfl rfl rfl rfl ?_
  refine gn ?_
  refine aw xp (nwq [26,1,0] ?_)
  refine ct rfl ?_
  refine sr (aa (aa (nwq [5,4] ?_)))
  refine rt ?_
  have K:=os hF
  subst K
  exact Q6 rfl rfl rfl wb
 refine fx 17 h3 ?_
 refine gy (am (gy ?_))
 refine aw (QaR underlying9 rfl) ?_
 refine gy ?_
 refine aw (QbI rfl rfl) ?_
 refine gy (am ?_)
 obtain ⟨h4,hF⟩|⟨h4,hF⟩:=oi hF
 ·refine fx 21 h4 ?_
  refine gy (am (gy ?_))
  obtain ⟨h5,hF⟩:=gd hF
  refine aw (QaZ underlying9 rfl rfl h5) ?_
  refine gy (aw xq (gy (aw xp (aw xp (nwq [26,1,0] ?_)))))
  obtain ⟨h6,hF⟩|⟨h6,hF⟩:=oi hF
  ·refine ct h6 ?_
   refine sr (aa (aa (nwq [5,4] ?_)))
   refine rt ?_
   have K:=os hF
   subst K
   exact Q6 rfl rfl rfl wb
  refine cf h6 ?_
  refine sns (am ?_)
  obtain ⟨h7,hF⟩:=gd hF
  refine QoX func114 rfl (by kernel_rfl) rfl rfl (fun w1 hw=>QiX _ h7 w1 (hg_strconv_ErrRange.on hw.below) (hg_strconv_ErrSyntax.on hw.below)) ?_
  intro u9 hu10
  refine am ?_
  refine aw xe (aw xe (aa (aa (nwq [7,6,1] ?_))))
  refine qs (sr (am ?_))
  refine aw (Qvq underlying103 rfl hu10 (.inr rfl) rfl) ?_
  refine am ?_
  obtain ⟨h11,hF⟩|⟨h11,hF⟩:=oi hF
  ·refine fx 34 h11 ?_
   refine gn ?_
   refine gn ?_
   refine gn ?_
   refine aw xp (nwq [38,6] ?_)
   refine ct rfl ?_
   refine sr (aa (aa (nwq [5,4] ?_)))
   refine rt ?_
   have K:=os hF
   subst K
   exact Q6 rfl rfl rfl wb
  refine fx 34 h11 ?_
  refine gy (am (gy (am (gy ?_))))
  refine aw (QbI rfl rfl) ?_
  refine aw xp (nwq [38,6] ?_)
  obtain ⟨h12,hF⟩|⟨h12,hF⟩:=oi hF
  ·refine ct h12 ?_
   refine sr (aa (aa (nwq [5,4] ?_)))
   refine rt ?_
   have K:=os hF
   subst K
   exact Q6 rfl rfl rfl wb
  refine cf h12 ?_
  refine sns (am (aa (aa (nwq [5,4] ?_))))
  refine qt ?_
  have K:=os hF
  subst K
  exact Q6 rfl rfl rfl wb
 refine fx 21 h4 ?_
 refine gn ?_
 refine gn ?_
 refine gn ?_
 refine gy (aw xp (aw xp (nwq [26,1,0] ?_)))
 refine cf rfl ?_
 refine sns (am ?_)
 obtain ⟨h13,hF⟩:=gd hF
 refine QoX func114 rfl (by kernel_rfl) rfl rfl (fun w1 hw=>QiX _ h13 w1 (hg_strconv_ErrRange.on hw.below) (hg_strconv_ErrSyntax.on hw.below)) ?_
 intro u14 hu15
 refine am ?_
 refine aw xe (aw xe (aa (aa (nwq [7,6,1] ?_))))
 refine qs (sr (am ?_))
 refine aw (Qvq underlying103 rfl hu15 (.inr rfl) rfl) ?_
 refine am ?_
 obtain ⟨h16,hF⟩|⟨h16,hF⟩:=oi hF
 ·refine fx 34 h16 ?_
  refine gn ?_
  refine gn ?_
  refine gn ?_
  refine aw xp (nwq [38,6] ?_)
  refine ct rfl ?_
  refine sr (aa (aa (nwq [5,4] ?_)))
  refine rt ?_
  have K:=os hF
  subst K
  exact Q6 rfl rfl rfl wb
 refine fx 34 h16 ?_
 refine gy (am (gy (am (gy ?_))))
 refine aw (QbI rfl rfl) ?_
 refine aw xp (nwq [38,6] ?_)
 obtain ⟨h17,hF⟩|⟨h17,hF⟩:=oi hF
 ·refine ct h17 ?_
  refine sr (aa (aa (nwq [5,4] ?_)))
  refine rt ?_
  have K:=os hF
  subst K
  exact Q6 rfl rfl rfl wb
 refine cf h17 ?_
 refine sns (am (aa (aa (nwq [5,4] ?_))))
 refine qt ?_
 have K:=os hF
 subst K
 exact Q6 rfl rfl rfl wb
def QA.l0(x0:ByteArray)(x1:Int)(i9:Int)(i10:Int):Option (Ctl (Int×Int) (Int)) :=
 if (decide (i10<(x0.size:Int)))=true then (if (0:Int)≤i10∧i10<(x0.size:Int) then if (decide (i9>wr .u64 (Int.tdiv x1 10)))=true then (some (.ret (0,6))) else (if (decide (wr .u64 (10*i9)>wr .u64 (x1-(if x1<wr .u64 ((wr .u64 (bt x0 i10))-48) then x1 else wr .u64 ((wr .u64 (bt x0 i10))-48)))))=true then (some (.ret (0,6))) else (if (decide (wr .u64 ((wr .u64 (bt x0 i10))-48)>x1))=true then (some (.ret (0,6))) else (QA.l0 x0 x1 (wr .u64 ((wr .u64 (10*i9))+(wr .u64 ((wr .u64 (bt x0 i10))-48)))) (wr .i64 (i10+1))))) else none) else (some (.nx i9))
 partial_fixpoint
def QA.l1(x0:ByteArray)(x1:Int)(i17:Int)(i18:Int):Option (Ctl (Int×Int) (Int)) :=
 if (decide (i18<(x0.size:Int)))=true then (if (0:Int)≤i18∧i18<(x0.size:Int) then if (decide (i17>wr .u64 (Int.tdiv x1 10)))=true then (some (.ret (0,6))) else (if (decide (wr .u64 (10*i17)>wr .u64 (x1-(if x1<wr .u64 ((wr .u64 (bt x0 i18))-48) then x1 else wr .u64 ((wr .u64 (bt x0 i18))-48)))))=true then (some (.ret (0,6))) else (if (decide (wr .u64 ((wr .u64 (bt x0 i18))-48)>x1))=true then (some (.ret (0,6))) else (QA.l1 x0 x1 (wr .u64 ((wr .u64 (10*i17))+(wr .u64 ((wr .u64 (bt x0 i18))-48)))) (wr .i64 (i18+1))))) else none) else (some (.nx i17))
 partial_fixpoint
def QA(x0:ByteArray)(x1:Int):Option (Int×Int) :=
 if ((x0.size:Int)==0)=true then (some (0,5)) else (QaO x0>>=fun t2=>if (decide (t2<(x0.size:Int)))=true then (some (0,5)) else (if (decide ((x0.size:Int)>1))=true then (if (0:Int)≤0∧0<(x0.size:Int) then if (bt x0 0==48)=true then (some (0,5)) else (QA.l0 x0 x1 0 0>>=fun q7=>match q7 with | .ret r'=>some r' | .nx sq7=>(some (sq7,0))) else none) else (QA.l1 x0 x1 0 0>>=fun q16=>match q16 with | .ret r'=>some r' | .nx sq16=>(some (sq16,0)))))
theorem Qah(x0:ByteArray)(x1:Int)(r:Int×Int)(hF:QA x0 x1=some r)(w:World) :
    Calls Tryz.prog 21 #[.string x0,.int .u64 x1] w (fun e w'=>e=.returned (.tuple #[.int .u64 r.1,.int .i64 r.2])∧w'=w):=by
 unfold QA at hF
 refine ce (l:=[.string x0,.int .u64 x1]) func21 rfl rfl ?_
 refine sr (aa (aa (nwq [1,0] ?_)))
 refine qs (sr (am ?_))
 refine aw (QaR underlying9 rfl) ?_
 refine aw xq (am ?_)
 obtain ⟨h1,hF⟩|⟨h1,hF⟩:=oi hF
 ·refine fx 12 h1 ?_
  refine gn ?_
  refine gn ?_
  refine gn ?_
  refine gn ?_
  refine gn ?_
  refine aw xp (am ?_)
  refine gn ?_
  refine gn ?_
  refine gn ?_
  refine gn ?_
  refine Q9 rfl rfl rfl rfl ?_
  refine Q9 rfl rfl rfl rfl ?_
  refine Q9 rfl rfl rfl rfl ?_
  refine gn ?_
  refine aw xp (nwq [28,1,0] ?_)
  refine ct rfl ?_
  refine sr (aa (aa (nwq [5,4] ?_)))
  refine rt ?_
  have K:=os hF
  subst K
  exact Q6 rfl rfl rfl (fun w1 hw=>⟨rfl,hw⟩)
 refine fx 12 h1 ?_
 refine gy (am (gy ?_))
 obtain ⟨t2,ht2,hF⟩:=bM hF
 refine Qav func54 rfl (by kernel_rfl) rfl rfl (fun w=>Qgg _ _ ht2 w) ?_
 refine gy (am (gy ?_))
 refine aw (QaR underlying9 rfl) ?_
 refine gy (aw xl (aw xp (am ?_)))
 obtain ⟨h3,hF⟩|⟨h3,hF⟩:=oi hF
 ·refine fx 19 h3 ?_
  refine gn ?_
  refine gn ?_
  refine gn ?_
  refine gn ?_
  refine Q9 rfl rfl rfl rfl ?_
  refine Q9 rfl rfl rfl rfl ?_
  refine Q9 rfl rfl rfl rfl ?_
  refine gn ?_
  refine aw xp (nwq [28,1,0] ?_)
  refine ct rfl ?_
  refine sr (aa (aa (nwq [5,4] ?_)))
  refine rt ?_
  have K:=os hF
  subst K
  exact Q6 rfl rfl rfl (fun w1 hw=>⟨rfl,hw⟩)
 refine fx 19 h3 ?_
 refine gy (am (gy ?_))
 refine aw (QaR underlying9 rfl) ?_
 refine gy ?_
 refine aw (QbI rfl rfl) ?_
 refine gy (am ?_)
 obtain ⟨h4,hF⟩|⟨h4,hF⟩:=oi hF
 ·refine fx 23 h4 ?_
  refine gy (am (gy ?_))
  obtain ⟨h5,hF⟩:=gd hF
  refine aw (QaZ underlying9 rfl rfl h5) ?_
  refine gy (aw xq (gy (aw xp (aw xp (nwq [28,1,0] ?_)))))
  obtain ⟨h6,hF⟩|⟨h6,hF⟩:=oi hF
  ·refine ct h6 ?_
   refine sr (aa (aa (nwq [5,4] ?_)))
   refine rt ?_
   have K:=os hF
   subst K
   exact Q6 rfl rfl rfl (fun w1 hw=>⟨rfl,hw⟩)
  refine cf h6 ?_
  refine sns (aa (nt (qs (sr (aa (nwq [7,6,1,0] ?_))))))
  refine qb ?_
  obtain ⟨q7,hq7,hF⟩:=bM hF
  refine wq [7,6,1,0] ?_
  refine Qbn (B:=0) (r:=r) (q:=q7) (A:=fun sq7 Y=>At 64 [(6,.int .u64 sq7)] (fun w'=>w'=w) Y) ?_ ?_
  ·intro K
   refine QA.l0.partial_correctness x0 x1 (motive:=fun i9 i10 x=>KR (fun sq7 Y=>At 64 [(6,.int .u64 sq7)] (fun w'=>w'=w) Y) _ 0 r x→QbB (fun Y=>At 64 [(0,.string x0),(1,.int .u64 x1),(6,.int .u64 i9),(7,.int .i64 i10)] (fun w'=>w'=w) Y) _ _ _) ?_ _ _ _ hq7 K
   ·clear K hF
    intro g ih i9 i10 x hF K
    refine QW ?_
    refine qs (sr (am (am ?_)))
    refine aw (QaR underlying9 rfl) ?_
    refine aw xl (nwq [32,7,6,1,0] ?_)
    obtain ⟨h11,hF⟩|⟨h11,hF⟩:=oi hF
    ·refine ct h11 ?_
     refine sn (qs (qb (sr (am (am ?_)))))
     obtain ⟨h12,hF⟩:=gd hF
     refine aw (QaZ underlying9 rfl rfl h12) ?_
     refine aw (QaW underlying5 underlying41 rfl) ?_
     refine aw (Qdh rfl rfl) ?_
     refine aa (nwq [8,7,6,1,0] ?_)
     refine qs (sr (am (am ?_)))
     refine aw (Qfl rfl rfl (by decide)) ?_
     refine aw (QbI rfl rfl) ?_
     refine am ?_
     obtain ⟨h13,hF⟩|⟨h13,hF⟩:=oi hF
     ·refine fx 44 h13 ?_
      refine gn ?_
      refine gn ?_
      refine gn ?_
      refine gn ?_
      refine gn ?_
      refine gn ?_
      refine gn ?_
      refine gn ?_
      refine aw xp (am ?_)
      refine gn ?_
      refine gn ?_
      refine gn ?_
      refine aw xp (nwq [58,8,7,6,1,0] ?_)
      refine ct rfl ?_
      refine sr (aa (aa (nwq [5,4] ?_)))
      refine qt ?_
      refine tr (br (tr (tr (br (tr ?_)))))
      obtain rfl:=os hF
      subst K
      exact Q6 rfl rfl rfl (fun w1 hw=>⟨rfl,hw⟩)
     refine fx 44 h13 ?_
     refine gy (am (gy ?_))
     refine aw (QcT rfl rfl) ?_
     refine gy (am (gy (am (gy (am (gy ?_))))))
     refine aw (Qqy rfl rfl) ?_
     refine gy ?_
     refine aw (Qdh rfl rfl) ?_
     refine gy ?_
     refine aw (QbI rfl rfl) ?_
     refine aw xp (am ?_)
     obtain ⟨h14,hF⟩|⟨h14,hF⟩:=oi hF
     ·refine fx 54 h14 ?_
      refine gn ?_
      refine gn ?_
      refine gn ?_
      refine aw xp (nwq [58,8,7,6,1,0] ?_)
      refine ct rfl ?_
      refine sr (aa (aa (nwq [5,4] ?_)))
      refine qt ?_
      refine tr (br (tr (tr (br (tr ?_)))))
      obtain rfl:=os hF
      subst K
      exact Q6 rfl rfl rfl (fun w1 hw=>⟨rfl,hw⟩)
     refine fx 54 h14 ?_
     refine gy (am (gy (am (gy ?_))))
     refine aw (QbI rfl rfl) ?_
     refine aw xp (nwq [58,8,7,6,1,0] ?_)
     obtain ⟨h15,hF⟩|⟨h15,hF⟩:=oi hF
     ·refine ct h15 ?_
      refine sr (aa (aa (nwq [5,4] ?_)))
      refine qt ?_
      refine tr (br (tr (tr (br (tr ?_)))))
      obtain rfl:=os hF
      subst K
      exact Q6 rfl rfl rfl (fun w1 hw=>⟨rfl,hw⟩)
     refine cf h15 ?_
     refine sn (qr (am ?_))
     refine aw (QcT rfl rfl) ?_
     refine am (aw xa (aa (qn (wq [7,6,1,0] ?_))))
     refine bm ?_
     refine qr (am (aw xa (aa (nwq [7,6,1,0] ?_))))
     exact Qk (ih _ _ _ hF K) ⟨rfl,rfl,rfl,rfl,trivial⟩
    refine cf h11 ?_
    refine Q7 ?_
    refine te (te ?_)
    obtain rfl:=os hF
    exact Qk K ⟨rfl,trivial⟩
  cases q7 with
  | ret r'=>exact os hF
  | nx sq7 =>
   skip
   refine QD ?_
   refine tn (sr (am (aa (aa (nwq [5,4] ?_)))))
   refine qt ?_
   have K:=os hF
   subst K
   exact Q6 rfl rfl rfl (fun w1 hw=>⟨rfl,hw⟩)
 refine fx 23 h4 ?_
 refine gn ?_
 refine gn ?_
 refine gn ?_
 refine gy (aw xp (aw xp (nwq [28,1,0] ?_)))
 refine cf rfl ?_
 refine sns (aa (nt (qs (sr (aa (nwq [7,6,1,0] ?_))))))
 refine qb ?_
 obtain ⟨q16,hq16,hF⟩:=bM hF
 refine wq [7,6,1,0] ?_
 refine Qbn (B:=0) (r:=r) (q:=q16) (A:=fun sq16 Y=>At 64 [(6,.int .u64 sq16)] (fun w'=>w'=w) Y) ?_ ?_
 ·intro K
  refine QA.l1.partial_correctness x0 x1 (motive:=fun i17 i18 x=>KR (fun sq16 Y=>At 64 [(6,.int .u64 sq16)] (fun w'=>w'=w) Y) _ 0 r x→QbB (fun Y=>At 64 [(0,.string x0),(1,.int .u64 x1),(6,.int .u64 i17),(7,.int .i64 i18)] (fun w'=>w'=w) Y) _ _ _) ?_ _ _ _ hq16 K
  ·clear K hF
   intro g ih i17 i18 x hF K
   refine QW ?_
   refine qs (sr (am (am ?_)))
   refine aw (QaR underlying9 rfl) ?_
   refine aw xl (nwq [32,7,6,1,0] ?_)
   obtain ⟨h19,hF⟩|⟨h19,hF⟩:=oi hF
   ·refine ct h19 ?_
    refine sn (qs (qb (sr (am (am ?_)))))
    obtain ⟨h20,hF⟩:=gd hF
    refine aw (QaZ underlying9 rfl rfl h20) ?_
    refine aw (QaW underlying5 underlying41 rfl) ?_
    refine aw (Qdh rfl rfl) ?_
    refine aa (nwq [8,7,6,1,0] ?_)
    refine qs (sr (am (am ?_)))
    refine aw (Qfl rfl rfl (by decide)) ?_
    refine aw (QbI rfl rfl) ?_
    refine am ?_
    obtain ⟨h21,hF⟩|⟨h21,hF⟩:=oi hF
    ·refine fx 44 h21 ?_
     refine gn ?_
     refine gn ?_
     refine gn ?_
     refine gn ?_
     refine gn ?_
     refine gn ?_
     refine gn ?_
     refine gn ?_
     refine aw xp (am ?_)
     refine gn ?_
     refine gn ?_
     refine gn ?_
     refine aw xp (nwq [58,8,7,6,1,0] ?_)
     refine ct rfl ?_
     refine sr (aa (aa (nwq [5,4] ?_)))
     refine qt ?_
     refine tr (br (tr (tr (br (tr ?_)))))
     obtain rfl:=os hF
     subst K
     exact Q6 rfl rfl rfl (fun w1 hw=>⟨rfl,hw⟩)
    refine fx 44 h21 ?_
    refine gy (am (gy ?_))
    refine aw (QcT rfl rfl) ?_
    refine gy (am (gy (am (gy (am (gy ?_))))))
    refine aw (Qqy rfl rfl) ?_
    refine gy ?_
    refine aw (Qdh rfl rfl) ?_
    refine gy ?_
    refine aw (QbI rfl rfl) ?_
    refine aw xp (am ?_)
    obtain ⟨h22,hF⟩|⟨h22,hF⟩:=oi hF
    ·refine fx 54 h22 ?_
     refine gn ?_
     refine gn ?_
     refine gn ?_
     refine aw xp (nwq [58,8,7,6,1,0] ?_)
     refine ct rfl ?_
     refine sr (aa (aa (nwq [5,4] ?_)))
     refine qt ?_
     refine tr (br (tr (tr (br (tr ?_)))))
     obtain rfl:=os hF
     subst K
     exact Q6 rfl rfl rfl (fun w1 hw=>⟨rfl,hw⟩)
    refine fx 54 h22 ?_
    refine gy (am (gy (am (gy ?_))))
    refine aw (QbI rfl rfl) ?_
    refine aw xp (nwq [58,8,7,6,1,0] ?_)
    obtain ⟨h23,hF⟩|⟨h23,hF⟩:=oi hF
    ·refine ct h23 ?_
     refine sr (aa (aa (nwq [5,4] ?_)))
     refine qt ?_
     refine tr (br (tr (tr (br (tr ?_)))))
     obtain rfl:=os hF
     subst K
     exact Q6 rfl rfl rfl (fun w1 hw=>⟨rfl,hw⟩)
    refine cf h23 ?_
    refine sn (qr (am ?_))
    refine aw (QcT rfl rfl) ?_
    refine am (aw xa (aa (qn (wq [7,6,1,0] ?_))))
    refine bm ?_
    refine qr (am (aw xa (aa (nwq [7,6,1,0] ?_))))
    exact Qk (ih _ _ _ hF K) ⟨rfl,rfl,rfl,rfl,trivial⟩
   refine cf h19 ?_
   refine Q7 ?_
   refine te (te ?_)
   obtain rfl:=os hF
   exact Qk K ⟨rfl,trivial⟩
 cases q16 with
 | ret r'=>exact os hF
 | nx sq16 =>
  skip
  refine QD ?_
  refine tn (sr (am (aa (aa (nwq [5,4] ?_)))))
  refine qt ?_
  have K:=os hF
  subst K
  exact Q6 rfl rfl rfl (fun w1 hw=>⟨rfl,hw⟩)
end Go.Proofs.YtnekckhjmnhinaaGreatDoor
namespace Go.Proofs.YtnekckhjmnhinaaGreatDoor
open E Go.RowKit _root_.Go.Proofs.Tryz
theorem QpC:(Tryz.prog.info? 9).isSome=true:=by kernel_rfl
noncomputable def Qrm:TypeInfo:=(Tryz.prog.info? 9).get QpC
theorem QnH:Tryz.prog.info? 9=some Qrm:=(Option.some_get _).symm
def Qdi.l0(x0:(Vector Int 4))(i4:Int)(i5:(Vector ByteArray 4)):Option ((Vector ByteArray 4)) :=
 if (decide (i4<4))=true then (if (0:Int)≤i4∧i4<4 then Qbi (wr .u64 (Qbb x0 i4))>>=fun t8=>if (0:Int)≤i4∧i4<4 then Qdi.l0 x0 (wr .i64 (i4+1)) (Qb2 i5 i4 t8) else none else none) else (some i5)
 partial_fixpoint
def Qdi(x0:(Vector Int 4)):Option (ByteArray) :=
 Qdi.l0 x0 0 (Vector.replicate 4 (⟨#[]⟩:ByteArray):(Vector ByteArray 4))>>=fun q3=>if List.length (Vector.toList q3)≤140737488355328 then if (Qdp (Vector.toList q3) (⟨#[46]⟩:ByteArray)).size≤140737488355328 then some (Qdp (Vector.toList q3) (⟨#[46]⟩:ByteArray)) else none else none
theorem Qmx(x0:(Vector Int 4))(r:ByteArray)(hF:Qdi x0=some r)(w:World)(hg_strconv_uint64pow10:GV_strconv_uint64pow10 w) :
    Calls Tryz.prog 131 #[.agg (Cd.cs (QQ (Qv .u8) 4 (by decide)) x0).toArray] w (fun e w'=>e=.returned (.string r)∧Below w.heap.size w w'):=by
 unfold Qdi at hF
 refine ce (l:=[.agg (Cd.cs (QQ (Qv .u8) 4 (by decide)) x0).toArray]) func131 rfl rfl ?_
 refine QN ?_
 refine sr ?_
 refine Qbv (cs:=Cd.cs (QQ (Qv .u8) 4 (by decide)) x0) rfl rfl rfl ?_
 intro b1
 refine aa (ns ?_)
 refine al (cs:=Cd.cs (QQ QbA 4 (by decide)) (Vector.replicate 4 (⟨#[]⟩:ByteArray):(Vector ByteArray 4))) zeroValue202 ?_
 intro b2
 refine nt (qs (sr ?_))
 refine aw (Qg (c:=(QQ (Qv .u8) 4 (by decide))) (z:=x0) isAgg143 sizeOf143 rfl (Qp (.s .z) lw)) ?_
 refine am (qn ?_)
 refine Qam (H:=_) (.s .z) ?_
 refine wq [7,6,3] ?_
 refine tn (qb ?_)
 obtain ⟨q3,hq3,hF⟩:=bM hF
 refine wq [7,6,3] ?_
 refine Qal (B:=0) (A:=fun Y=>At 19 [(3,.pointer (some ⟨b2,0,none⟩))] (Wd w [Qi b2 (Cd.cs (QQ QbA 4 (by decide)) q3) 202]) Y) ?_ ?_
 ·intro K
  refine Qdi.l0.partial_correctness x0 (motive:=fun i4 i5 x=>KN (fun Y=>At 19 [(3,.pointer (some ⟨b2,0,none⟩))] (Wd w [Qi b2 (Cd.cs (QQ QbA 4 (by decide)) x) 202]) Y) _ 0→QbB (fun Y=>At 19 [(3,.pointer (some ⟨b2,0,none⟩)),(6,.agg (Cd.cs (QQ (Qv .u8) 4 (by decide)) x0).toArray),(7,.int .i64 i4)] (Wd w [Qi b2 (Cd.cs (QQ QbA 4 (by decide)) i5) 202]) Y) _ _ _) ?_ _ _ _ hq3 K
  ·clear K hF
   intro g ih i4 i5 x hF K
   refine QW ?_
   refine sr (aw xl (nwq [8,7,6,3] ?_))
   refine qs ?_
   obtain ⟨h6,hF⟩|⟨h6,hF⟩:=oi hF
   ·refine ct h6 ?_
    refine sn (qs (qb (sr (am ?_))))
    obtain ⟨h7,hF⟩:=gd hF
    refine aw (Qlm underlying143 sizeOf5 rfl rfl h7 (Qfw (Qaf.vec (Qv .u8) (by decide) x0 i4 h7) isAgg5 sizeOf5 (.inr rfl))) ?_
    refine aa (aa (nt (qr (am (am ?_)))))
    refine aw (QaW underlying5 underlying41 rfl) ?_
    obtain ⟨t8,ht8,hF⟩:=bM hF
    refine cB func28 rfl (fun w hw=>Qb1 _ _ ht8 w (hg_strconv_uint64pow10.on hw.below)) ?_
    obtain ⟨h9,hF⟩:=gd hF
    refine aw (Qas underlying202 sizeOf9 rfl rfl h9) ?_
    refine Qn (c:=QbA) (z:=t8) .z (Qaf.comp lw (fun z=>Qb2 i5 i4 z) (Qaf.vec QbA (by decide) i5 i4 h9)) sizeOf9 rfl rfl rfl ?_
    refine qn (wq [7,6,3] ?_)
    refine bm ?_
    refine qr (aw xa (am (nwq [7,6,3] ?_)))
    exact Qk (ih _ _ _ hF K) ⟨rfl,rfl,rfl,trivial⟩
   refine cf h6 ?_
   refine Q7 ?_
   refine te (te ?_)
   obtain rfl:=os hF
   exact Qk K ⟨rfl,trivial⟩
 skip
 skip
 refine QD ?_
 refine tn (sr ?_)
 refine aw (Qfk q3 underlying202 sizeOf9 rfl) ?_
 obtain ⟨h10,hF⟩:=gd hF
 obtain ⟨h11,hF⟩:=gd hF
 refine cB func25 rfl (fun w1 hw=>Qj4 _ _ h10 h11 _ _ w1 (Qlb (hw.ok (Upd.mem .z)))) ?_
 refine aa (qn (dz (wq [2] ?_)))
 refine tn (qt ?_)
 have K:=os hF
 subst K
 exact r1 wb
def QcV(x0:ByteArray)(x1:Int):Option (ByteArray×ByteArray×Bool) :=
 if (decide (Lib.indexByte x0.data.toList (Nat.toUInt8 (Int.toNat x1))<0))=true then (some (x0,⟨#[]⟩,false)) else (if (0:Int)≤0∧0≤Lib.indexByte x0.data.toList (Nat.toUInt8 (Int.toNat x1))∧Lib.indexByte x0.data.toList (Nat.toUInt8 (Int.toNat x1))≤(x0.size:Int) then if (0:Int)≤wr .i64 ((Lib.indexByte x0.data.toList (Nat.toUInt8 (Int.toNat x1)))+1)∧wr .i64 ((Lib.indexByte x0.data.toList (Nat.toUInt8 (Int.toNat x1)))+1)≤(x0.size:Int)∧(x0.size:Int)≤(x0.size:Int) then some (x0.extract (Int.toNat 0) (Int.toNat (Lib.indexByte x0.data.toList (Nat.toUInt8 (Int.toNat x1)))),x0.extract (Int.toNat (wr .i64 ((Lib.indexByte x0.data.toList (Nat.toUInt8 (Int.toNat x1)))+1))) (Int.toNat (x0.size:Int)),true) else none else none)
theorem Qeb(x0:ByteArray)(x1:Int)(r:ByteArray×ByteArray×Bool)(hF:QcV x0 x1=some r)(w:World) :
    Calls Tryz.prog 148 #[.string x0,.int .u8 x1] w (fun e w'=>e=.returned (.tuple #[.string r.1,.string r.2.1,.bool r.2.2])∧Below w.heap.size w w'):=by
 unfold QcV at hF
 refine ce (l:=[.string x0,.int .u8 x1]) func148 rfl rfl ?_
 refine QN ?_
 refine sr (aa (aa (aa (ns (am (am ?_))))))
 refine Qav func181 rfl (by kernel_rfl) rfl rfl (fun w=>Tryz.strings_IndexByte _ _ w) ?_
 refine aa (nt (qs (sr (am (aw xl (nwq [12,7,0] ?_))))))
 obtain ⟨h1,hF⟩|⟨h1,hF⟩:=oi hF
 ·refine ct h1 ?_
  refine sr (am (aa (aa (aa (nwq [6,5,4] ?_)))))
  refine rt ?_
  have K:=os hF
  subst K
  exact QdO rfl rfl rfl rfl wb
 refine cf h1 ?_
 refine sn (qs ?_)
 refine Qdd (by kernel_rfl) (by kernel_rfl) (fun _ h=>h.drew) ?_
 refine Ql rfl rfl rfl (Qbz rfl) ?_
 refine Ql rfl rfl rfl (Qbz rfl) ?_
 obtain ⟨h2,hF⟩:=gd hF
 refine Ql rfl rfl rfl (Qbc underlying9 rfl rfl ⟨_,rfl⟩ h2) ?_
 refine Ql rfl rfl rfl (Qbz rfl) ?_
 refine Ql rfl rfl rfl (Qbz rfl) ?_
 refine Ql rfl rfl rfl (QjS rfl rfl) ?_
 obtain ⟨h3,hF⟩:=gd hF
 refine Ql rfl rfl rfl (Qbc underlying9 rfl ⟨_,rfl⟩ rfl h3) ?_
 refine Ql rfl rfl rfl (Qcf rfl) ?_
 refine Ql rfl rfl rfl (Qcf rfl) ?_
 refine Ql rfl rfl rfl (Qcf rfl) ?_
 refine Qck ?_
 refine wq [6,5,4] ?_
 refine tn (qt ?_)
 have K:=os hF
 subst K
 exact QdO rfl rfl rfl rfl wb
def Qb5.l0(x1:Int)(i4:ByteArray)(i5:List ByteArray):Option (List ByteArray) :=
 QcV i4 x1>>=fun t8=>if (i5.length+1)*16≤140737488355328 then if (!t8.2.2)=true then (some (i5++[t8.1])) else (Qb5.l0 x1 t8.2.1 (i5++[t8.1])) else none
 partial_fixpoint
def Qb5(x0:ByteArray)(x1:Int):Option (List ByteArray) :=
 Qb5.l0 x1 x0 ([]:List ByteArray)>>=fun q3=>some q3
theorem Qhz(x0:ByteArray)(x1:Int)(r:List ByteArray)(hF:Qb5 x0 x1=some r)(w:World) :
    Calls Tryz.prog 115 #[.string x0,.int .u8 x1] w (fun e w'=>∃ p cap,e=.returned (.slice p r.length cap)∧Own QbA 9 w.heap.size w' p cap r∧Below w.heap.size w w'):=by
 unfold Qb5 at hF
 refine ce (l:=[.string x0,.int .u8 x1]) func115 rfl rfl ?_
 refine QN ?_
 refine sr (aa (ns (aa (nwq [5,1,0] ?_))))
 refine qb ?_
 refine Qco QbA 9 ?_
 obtain ⟨q3,hq3,hF⟩:=bM hF
 refine wq [5,1,0] ?_
 refine QfA (r:=r) (q:=q3) ?_ ?_
 ·intro K
  refine Qb5.l0.partial_correctness x1 (motive:=fun i4 i5 x=>x=r→QbB (fun Y=>∀ (p6:Option Addr) (c7:Nat),At 24 [(0,.string i4),(1,.int .u8 x1),(5,.slice p6 i5.length c7)] (Wd w [Qbm QbA 9 p6 c7 i5]) Y) _ _ _) ?_ _ _ _ hq3 K none 0
  ·clear K hF
   intro g ih i4 i5 x hF K p6 c7
   refine QW ?_
   refine qb (sr (am (am ?_)))
   obtain ⟨t8,ht8,hF⟩:=bM hF
   refine cB func148 rfl (fun w hw=>Qeb _ _ _ ht8 w) ?_
   refine am ?_
   refine aw xe (aw xe (aw xe (aa (aa (aa (ns (am (am ?_))))))))
   refine Qep (cs:=QbA.all ([t8.1]:List ByteArray)) underlying46 sizeOf9 zeroValue9 rfl rfl rfl (by kernel_rfl) rfl ?_
   intro b9
   obtain ⟨h10,hF⟩:=gd hF
   refine Qcl (z:=.string ⟨#[]⟩) (c:=QbA) (ys:=([t8.1]:List ByteArray)) (.s .z) underlying46 QnH (by kernel_rfl) (by kernel_rfl) rfl rfl rfl rfl (fun _ hw=>QbX (hw.ok (Upd.mem .z))) (by kernel_rfl) h10 (QbR h10) rfl ?_
   intro p11 c12
   refine aa (qn (dz (tn (qs (sr (am ?_))))))
   refine aw (Qcq rfl) ?_
   refine nwq [21,7,5,1] ?_
   obtain ⟨h13,hF⟩|⟨h13,hF⟩:=oi hF
   ·refine ct h13 ?_
    refine sr (am (aa (nwq [4] ?_)))
    refine qt ?_
    refine tr (br (tr (br ?_)))
    obtain rfl:=os hF
    subst K
    exact r1 (fun w1 hw=>⟨p11,c12,rfl,hw.own .z,hw.below⟩)
   refine cf h13 ?_
   refine sn (qr (am (aa (qn (wq [5,1,0] ?_)))))
   refine bm ?_
   exact Qk (ih _ _ _ hF K p11 c12) ⟨rfl,rfl,rfl,trivial⟩
 exact os hF
def QG.l0(x0:ByteArray)(x1:Int)(i4:Int)(i5:List ByteArray)(i6:Int):Option (Int×List ByteArray) :=
 if (decide (i6<(x0.size:Int)))=true then (if (0:Int)≤i6∧i6<(x0.size:Int) then if (bt x0 i6==x1)=true then (if (0:Int)≤i4∧i4≤i6∧i6≤(x0.size:Int) then if (i5.length+1)*16≤140737488355328 then QG.l0 x0 x1 (wr .i64 (i6+1)) (i5++[x0.extract (Int.toNat i4) (Int.toNat i6)]) (wr .i64 (i6+1)) else none else none) else (QG.l0 x0 x1 i4 i5 (wr .i64 (i6+1))) else none) else (some (i4,i5))
 partial_fixpoint
def QG(x0:ByteArray)(x1:Int):Option (List ByteArray) :=
 QG.l0 x0 x1 0 ([]:List ByteArray) 0>>=fun q3=>if (0:Int)≤q3.1∧q3.1≤(x0.size:Int)∧(x0.size:Int)≤(x0.size:Int) then if (q3.2.length+1)*16≤140737488355328 then some (q3.2++[x0.extract (Int.toNat q3.1) (Int.toNat (x0.size:Int))]) else none else none
theorem Qak(x0:ByteArray)(x1:Int)(r:List ByteArray)(hF:QG x0 x1=some r)(w:World) :
    Calls Tryz.prog 19 #[.string x0,.int .u8 x1] w (fun e w'=>∃ p cap,e=.returned (.slice p r.length cap)∧Own QbA 9 w.heap.size w' p cap r∧Below w.heap.size w w'):=by
 unfold QG at hF
 refine ce (l:=[.string x0,.int .u8 x1]) func19 rfl rfl ?_
 refine QN ?_
 refine sr (aa (ns (aa (ns (aa (nt (qs (sr ?_))))))))
 refine aa (nwq [7,6,5,1,0] ?_)
 refine qb ?_
 refine Qco QbA 9 ?_
 obtain ⟨q3,hq3,hF⟩:=bM hF
 refine wq [7,6,5,1,0] ?_
 refine Qal (B:=0) (A:=fun Y=>∀ (p9:Option Addr) (c10:Nat),At 34 [(0,.string x0),(5,.int .i64 q3.1),(6,.slice p9 q3.2.length c10)] (Wd w [Qbm QbA 9 p9 c10 q3.2]) Y) ?_ ?_
 ·intro K
  refine QG.l0.partial_correctness x0 x1 (motive:=fun i4 i5 i6 x=>KN (fun Y=>∀ (p9:Option Addr) (c10:Nat),At 34 [(0,.string x0),(5,.int .i64 x.1),(6,.slice p9 x.2.length c10)] (Wd w [Qbm QbA 9 p9 c10 x.2]) Y) _ 0→QbB (fun Y=>∀ (p7:Option Addr) (c8:Nat),At 34 [(0,.string x0),(1,.int .u8 x1),(5,.int .i64 i4),(6,.slice p7 i5.length c8),(7,.int .i64 i6)] (Wd w [Qbm QbA 9 p7 c8 i5]) Y) _ _ _) ?_ _ _ _ _ hq3 K none 0
  ·clear K hF
   intro g ih i4 i5 i6 x hF K p7 c8
   refine QW ?_
   refine qs (sr (am (am ?_)))
   refine aw (QaR underlying9 rfl) ?_
   refine aw xl (nwq [11,7,6,5,1,0] ?_)
   obtain ⟨h11,hF⟩|⟨h11,hF⟩:=oi hF
   ·refine ct h11 ?_
    refine sn (qs (qb (sr (am (am ?_)))))
    obtain ⟨h12,hF⟩:=gd hF
    refine aw (QaZ underlying9 rfl rfl h12) ?_
    refine am (aw xq (nwq [18,7,6,5,1,0] ?_))
    obtain ⟨h13,hF⟩|⟨h13,hF⟩:=oi hF
    ·refine ct h13 ?_
     refine sr (am (am (am (am ?_))))
     obtain ⟨h14,hF⟩:=gd hF
     refine aw (Qbc underlying9 rfl ⟨_,rfl⟩ ⟨_,rfl⟩ h14) ?_
     refine Qep (cs:=QbA.all ([x0.extract (Int.toNat i4) (Int.toNat i6)]:List ByteArray)) underlying46 sizeOf9 zeroValue9 rfl rfl rfl (by kernel_rfl) rfl ?_
     intro b15
     obtain ⟨h16,hF⟩:=gd hF
     refine Qcl (z:=.string ⟨#[]⟩) (c:=QbA) (ys:=([x0.extract (Int.toNat i4) (Int.toNat i6)]:List ByteArray)) (.s .z) underlying46 QnH (by kernel_rfl) (by kernel_rfl) rfl rfl rfl rfl (fun _ hw=>QbX (hw.ok (Upd.mem .z))) (by kernel_rfl) h16 (QbR h16) rfl ?_
     intro p17 c18
     refine aa (qn (dz (tn (qr (am (aw xa (aa (qn ?_))))))))
     refine wq [7,6,5,1,0] ?_
     refine bm ?_
     refine qr (am (aw xa (aa (nwq [7,6,5,1,0] ?_))))
     exact Qk (ih _ _ _ _ hF K p17 c18) ⟨rfl,rfl,rfl,rfl,rfl,trivial⟩
    refine cf h13 ?_
    refine QbQ ?_
    refine bm ?_
    refine qr (am (aw xa (aa (nwq [7,6,5,1,0] ?_))))
    exact Qk (ih _ _ _ _ hF K p7 c8) ⟨rfl,rfl,rfl,rfl,rfl,trivial⟩
   refine cf h11 ?_
   refine Q7 ?_
   refine te (te ?_)
   obtain rfl:=os hF
   exact Qk (K p7 c8) ⟨rfl,rfl,rfl,trivial⟩
 skip
 intro p9 c10
 refine QD ?_
 refine tn (sr (am (am (am ?_))))
 obtain ⟨h19,hF⟩:=gd hF
 refine aw (Qbc underlying9 rfl ⟨_,rfl⟩ rfl h19) ?_
 refine Qep (cs:=QbA.all ([x0.extract (Int.toNat q3.1) (Int.toNat (x0.size:Int))]:List ByteArray)) underlying46 sizeOf9 zeroValue9 rfl rfl rfl (by kernel_rfl) rfl ?_
 intro b20
 obtain ⟨h21,hF⟩:=gd hF
 refine Qcl (z:=.string ⟨#[]⟩) (c:=QbA) (ys:=([x0.extract (Int.toNat q3.1) (Int.toNat (x0.size:Int))]:List ByteArray)) (.s .z) underlying46 QnH (by kernel_rfl) (by kernel_rfl) rfl rfl rfl rfl (fun _ hw=>QbX (hw.ok (Upd.mem .z))) (by kernel_rfl) h21 (QbR h21) rfl ?_
 intro p22 c23
 refine aa (qn (dz (wq [4] ?_)))
 refine tn (qt ?_)
 have K:=os hF
 subst K
 exact r1 (fun w1 hw=>⟨p22,c23,rfl,hw.own .z,hw.below⟩)
def QcQ.l0(t2:List ByteArray)(i9:Int)(i10:(Vector Int 4)):Option (Ctl ((Vector Int 4)×Int) ((Vector Int 4))) :=
 if (decide (i9<(t2.length:Int)))=true then (if (0:Int)≤i9∧i9<(t2.length:Int) then QcP (QO t2 i9) 255>>=fun t16=>if (t16.2 != 0)=true then (some (.ret ((Vector.replicate 4 (0:Int):(Vector Int 4)),t16.2))) else (if (0:Int)≤i9∧i9<4 then QcQ.l0 t2 (wr .i64 (i9+1)) (Qb2 i10 i9 (wr .u8 t16.1)) else none) else none) else (some (.nx i10))
 partial_fixpoint
def QcQ(x0:ByteArray):Option ((Vector Int 4)×Int) :=
 Qb5 x0 46>>=fun t2=>if ((t2.length:Int) != 4)=true then (some ((Vector.replicate 4 (0:Int):(Vector Int 4)),5)) else (QcQ.l0 t2 0 (Vector.replicate 4 (0:Int):(Vector Int 4))>>=fun q7=>match q7 with | .ret r'=>some r' | .nx sq7=>(some (sq7,0)))
theorem QhZ(x0:ByteArray)(r:(Vector Int 4)×Int)(hF:QcQ x0=some r)(w:World)(hg_strconv_ErrRange:GV_strconv_ErrRange w)(hg_strconv_ErrSyntax:GV_strconv_ErrSyntax w) :
    Calls Tryz.prog 155 #[.string x0] w (fun e w'=>e=.returned (.tuple #[.agg (Cd.cs (QQ (Qv .u8) 4 (by decide)) r.1).toArray,.int .i64 r.2])∧Below w.heap.size w w'):=by
 unfold QcQ at hF
 refine ce (l:=[.string x0]) func155 rfl rfl ?_
 refine QN ?_
 refine sr ?_
 refine al (cs:=Cd.cs (QQ (Qv .u8) 4 (by decide)) zv5) zeroValue143 ?_
 intro b1
 refine aa (ns (am ?_))
 obtain ⟨t2,ht2,hF⟩:=bM hF
 refine QbU (c:=QbA) (e:=9) (ys:=t2) (V:=fun p cap=>.slice p t2.length cap) func115 rfl (by kernel_rfl) rfl rfl (fun w hw=>Qhz _ _ _ ht2 w) ?_
 intro p3 c4
 refine aa (ns ?_)
 refine al (cs:=Cd.cs (QQ (Qv .u8) 4 (by decide)) zv5) zeroValue143 ?_
 intro b5
 refine nt (qs (sr (am ?_)))
 refine aw (QZ underlying46 rfl) ?_
 refine aw xn (nwq [14,5,4,2] ?_)
 obtain ⟨h6,hF⟩|⟨h6,hF⟩:=oi hF
 ·refine ct h6 ?_
  refine sr ?_
  refine aw (Qg (c:=(QQ (Qv .u8) 4 (by decide))) (z:=zv5) isAgg143 sizeOf143 rfl (Qp .z lw)) ?_
  refine Qn (c:=(QQ (Qv .u8) 4 (by decide))) (z:=zv5) (.s (.s .z)) lw sizeOf143 rfl rfl rfl ?_
  refine aa (qn (dz (dz (wq [3,2] ?_))))
  refine tn (rt ?_)
  have K:=os hF
  subst K
  exact QU rfl (QE (c:=(QQ (Qv .u8) 4 (by decide))) (y:=zv5) rfl .z lw isAgg143 sizeOf143 (.inl rfl)) (QS rfl) wb
 refine cf h6 ?_
 refine sn (qs (sr (am ?_)))
 refine aw (QZ underlying46 rfl) ?_
 refine am (nwq [18,17,16,5,2] ?_)
 refine qb ?_
 obtain ⟨q7,hq7,hF⟩:=bM hF
 refine wq [18,17,16,5,2] ?_
 refine Qbn (B:=0) (r:=r) (q:=q7) (A:=fun sq7 Y=>At 38 [(2,.pointer (some ⟨b1,0,none⟩)),(5,.pointer (some ⟨b5,0,none⟩))] (Wd w [Qi b5 (Cd.cs (QQ (Qv .u8) 4 (by decide)) sq7) 143,Qi b1 (Cd.cs (QQ (Qv .u8) 4 (by decide)) zv5) 143]) Y) ?_ ?_
 ·intro K
  refine QcQ.l0.partial_correctness t2 (motive:=fun i9 i10 x=>KR (fun sq7 Y=>At 38 [(2,.pointer (some ⟨b1,0,none⟩)),(5,.pointer (some ⟨b5,0,none⟩))] (Wd w [Qi b5 (Cd.cs (QQ (Qv .u8) 4 (by decide)) sq7) 143,Qi b1 (Cd.cs (QQ (Qv .u8) 4 (by decide)) zv5) 143]) Y) _ 0 r x→QbB (fun Y=>At 38 [(2,.pointer (some ⟨b1,0,none⟩)),(5,.pointer (some ⟨b5,0,none⟩)),(16,.slice p3 t2.length c4),(17,.int .i64 (t2.length:Int)),(18,.int .i64 i9)] (Wd w [Qi b5 (Cd.cs (QQ (Qv .u8) 4 (by decide)) i10) 143,Qbm QbA 9 p3 c4 t2,Qi b1 (Cd.cs (QQ (Qv .u8) 4 (by decide)) zv5) 143]) Y) _ _ _) ?_ _ _ _ hq7 K
  ·clear K hF
   intro g ih i9 i10 x hF K
   refine QW ?_
   refine sr (aw xl (nwq [19,18,17,16,5,2] ?_))
   refine qs ?_
   obtain ⟨h11,hF⟩|⟨h11,hF⟩:=oi hF
   ·refine ct h11 ?_
    refine sn (qs (qb (sr (am ?_))))
    obtain ⟨h12,hF⟩:=gd hF
    refine Qae (φ:=∃ b o,p3=some ⟨b,o,none⟩) (fun _ hw=>Qaa (hw.own (.s .z)).row h12) ?_
    rintro ⟨b14,o15,hp13⟩
    refine aw (QbD underlying46 sizeOf9 rfl rfl h12 hp13) ?_
    refine aw (Qe isAgg9 rfl (fun _ hw=>QP (W:=fun w1=>w1=_) (fun w1 h=>by subst h;exact Below.refl _ _) (hw.own (.s .z)).row h12 hp13 rfl _ rfl)) ?_
    refine aa (aa (ns (am ?_)))
    obtain ⟨t16,ht16,hF⟩:=bM hF
    refine cB func82 rfl (fun w hw=>Qem _ _ _ ht16 w (hg_strconv_ErrRange.on hw.below) (hg_strconv_ErrSyntax.on hw.below)) ?_
    refine am ?_
    refine aw xe (aw xe (aa (aa (nt (qs (sr (am (aw xn ?_))))))))
    refine nwq [29,18,17,16,9,8,6,5,2] ?_
    obtain ⟨h17,hF⟩|⟨h17,hF⟩:=oi hF
    ·refine ct h17 ?_
     refine sr ?_
     refine aw (Qb3 (zs:=Cd.cs (QQ (Qv .u8) 4 (by decide)) zv5) (cs:=Cd.cs (QQ (Qv .u8) 4 (by decide)) zv5) underlying143 zeroValue143 rfl sizeOf5 rfl rfl) ?_
     refine am ?_
     refine Qn (c:=(QQ (Qv .u8) 4 (by decide))) (z:=zv5) (.s (.s .z)) lw sizeOf143 rfl rfl rfl ?_
     refine aa (qn (dz (dz (wq [3,2] ?_))))
     refine tn (qt ?_)
     refine tr (br (tr (tr (br (tr ?_)))))
     obtain rfl:=os hF
     subst K
     exact QU rfl (QE (c:=(QQ (Qv .u8) 4 (by decide))) (y:=zv5) rfl .z lw isAgg143 sizeOf143 (.inl rfl)) (QS rfl) wb
    refine cf h17 ?_
    refine sn (qr (am (am ?_)))
    refine aw (QaW underlying41 underlying5 rfl) ?_
    obtain ⟨h18,hF⟩:=gd hF
    refine aw (Qas underlying143 sizeOf5 rfl rfl h18) ?_
    refine Qn (c:=(Qv .u8)) (z:=wr .u8 t16.1) .z (Qaf.comp lw (fun z=>Qb2 i10 i9 z) (Qaf.vec (Qv .u8) (by decide) i10 i9 h18)) sizeOf5 rfl rfl rfl ?_
    refine qn (wq [18,17,16,5,2] ?_)
    refine bm ?_
    refine qr (aw xa (am (nwq [18,17,16,5,2] ?_)))
    exact Qk (ih _ _ _ hF K) ⟨rfl,rfl,rfl,rfl,rfl,trivial⟩
   refine cf h11 ?_
   refine Q7 ?_
   refine te (te ?_)
   refine Qam (H:=_) (.s .z) ?_
   obtain rfl:=os hF
   exact Qk K ⟨rfl,rfl,trivial⟩
 cases q7 with
 | ret r'=>exact os hF
 | nx sq7 =>
  skip
  refine QD ?_
  refine tn (sr ?_)
  refine aw (Qg (c:=(QQ (Qv .u8) 4 (by decide))) (z:=sq7) isAgg143 sizeOf143 rfl (Qp .z lw)) ?_
  refine Qn (c:=(QQ (Qv .u8) 4 (by decide))) (z:=sq7) (.s .z) lw sizeOf143 rfl rfl rfl ?_
  refine aa (qn (dz (wq [3,2] ?_)))
  refine tn (qt ?_)
  have K:=os hF
  subst K
  exact QU rfl (QE (c:=(QQ (Qv .u8) 4 (by decide))) (y:=sq7) rfl .z lw isAgg143 sizeOf143 (.inl rfl)) (QS rfl) wb
def QaF.l0(x0:(Vector Int 4))(i4:ByteArray)(i5:Int):Option (ByteArray) :=
 if (decide (i5<4))=true then (if i4.size+(⟨#[46]⟩:ByteArray).size≤140737488355328 then if (0:Int)≤i5∧i5<4 then Qab (wr .u64 (Qbb x0 i5))>>=fun t9=>if (i4++(⟨#[46]⟩:ByteArray)).size+t9.size≤140737488355328 then QaF.l0 x0 ((i4++(⟨#[46]⟩:ByteArray))++t9) (wr .i64 (i5+1)) else none else none else none) else (some i4)
 partial_fixpoint
def QaF(x0:(Vector Int 4)):Option (ByteArray) :=
 Qab (wr .u64 (Qbb x0 0))>>=fun t2=>QaF.l0 x0 t2 1>>=fun q3=>some q3
theorem QgX(x0:(Vector Int 4))(r:ByteArray)(hF:QaF x0=some r)(w:World) :
    Calls Tryz.prog 107 #[.agg (Cd.cs (QQ (Qv .u8) 4 (by decide)) x0).toArray] w (fun e w'=>e=.returned (.string r)∧Below w.heap.size w w'):=by
 unfold QaF at hF
 refine ce (l:=[.agg (Cd.cs (QQ (Qv .u8) 4 (by decide)) x0).toArray]) func107 rfl rfl ?_
 refine QN ?_
 refine sr ?_
 refine Qbv (cs:=Cd.cs (QQ (Qv .u8) 4 (by decide)) x0) rfl rfl rfl ?_
 intro b1
 refine aa (ns ?_)
 refine aw (Qas underlying143 sizeOf5 rfl rfl (by decide)) ?_
 refine aw (Qe isAgg5 rfl (Qm (c:=(Qv .u8)) (y:=Qbb x0 0) .z (Qaf.comp lw (fun z=>Qb2 x0 0 z) (Qaf.vec (Qv .u8) (by decide) x0 0 (by decide))) rfl)) ?_
 refine aw (QaW underlying5 underlying41 rfl) ?_
 obtain ⟨t2,ht2,hF⟩:=bM hF
 refine cB func45 rfl (fun w hw=>Qa2 _ _ ht2 w) ?_
 refine aa (nt (qs (sr (aa (nwq [4,3,1] ?_)))))
 refine qb ?_
 obtain ⟨q3,hq3,hF⟩:=bM hF
 refine wq [4,3,1] ?_
 refine Qal (B:=0) (A:=fun Y=>At 22 [(3,.string q3)] (Wd w []) Y) ?_ ?_
 ·intro K
  refine QaF.l0.partial_correctness x0 (motive:=fun i4 i5 x=>KN (fun Y=>At 22 [(3,.string x)] (Wd w []) Y) _ 0→QbB (fun Y=>At 22 [(1,.pointer (some ⟨b1,0,none⟩)),(3,.string i4),(4,.int .i64 i5)] (Wd w [Qi b1 (Cd.cs (QQ (Qv .u8) 4 (by decide)) x0) 143]) Y) _ _ _) ?_ _ _ _ hq3 K
  ·clear K hF
   intro g ih i4 i5 x hF K
   refine QW ?_
   refine qs (sr (am (aw xl (nwq [10,4,3,1] ?_))))
   obtain ⟨h6,hF⟩|⟨h6,hF⟩:=oi hF
   ·refine ct h6 ?_
    refine sn (qs (qb (qr (am ?_))))
    obtain ⟨h7,hF⟩:=gd hF
    refine aw (Q2 rfl rfl h7) ?_
    refine am ?_
    obtain ⟨h8,hF⟩:=gd hF
    refine aw (Qas underlying143 sizeOf5 rfl rfl h8) ?_
    refine aw (Qe isAgg5 rfl (Qm (c:=(Qv .u8)) (y:=Qbb x0 i5) .z (Qaf.comp lw (fun z=>Qb2 x0 i5 z) (Qaf.vec (Qv .u8) (by decide) x0 i5 h8)) rfl)) ?_
    refine aw (QaW underlying5 underlying41 rfl) ?_
    obtain ⟨t9,ht9,hF⟩:=bM hF
    refine cB func45 rfl (fun w hw=>Qa2 _ _ ht9 w) ?_
    obtain ⟨h10,hF⟩:=gd hF
    refine aw (Q2 rfl rfl h10) ?_
    refine aa (qn (wq [4,3,1] ?_))
    refine bm ?_
    refine qr (am (aw xa (aa (nwq [4,3,1] ?_))))
    exact Qk (ih _ _ _ hF K) ⟨rfl,rfl,rfl,trivial⟩
   refine cf h6 ?_
   refine Q7 ?_
   refine te (te ?_)
   refine dz ?_
   obtain rfl:=os hF
   exact Qk K ⟨rfl,trivial⟩
 skip
 skip
 refine QD ?_
 refine tn (sr (am (aa (nwq [2] ?_))))
 refine qt ?_
 have K:=os hF
 subst K
 exact r1 wb
def QaI.l0(t3:List ByteArray)(i9:Int)(i10:(Vector Int 4)):Option (Ctl ((Vector Int 4)×Int) ((Vector Int 4))) :=
 if (decide (i9<4))=true then (if (0:Int)≤i9∧i9<(t3.length:Int) then QA (QO t3 i9) 255>>=fun t16=>if (t16.2 != 0)=true then (some (.ret ((Vector.replicate 4 (0:Int):(Vector Int 4)),t16.2))) else (if (0:Int)≤i9∧i9<4 then QaI.l0 t3 (wr .i64 (i9+1)) (Qb2 i10 i9 (wr .u8 t16.1)) else none) else none) else (some (.nx i10))
 partial_fixpoint
def QaI(x0:ByteArray):Option ((Vector Int 4)×Int) :=
 QG x0 46>>=fun t3=>if ((t3.length:Int) != 4)=true then (some ((Vector.replicate 4 (0:Int):(Vector Int 4)),5)) else (QaI.l0 t3 0 (Vector.replicate 4 (0:Int):(Vector Int 4))>>=fun q7=>match q7 with | .ret r'=>some r' | .nx sq7=>(some (sq7,0)))
theorem Qev(x0:ByteArray)(r:(Vector Int 4)×Int)(hF:QaI x0=some r)(w:World) :
    Calls Tryz.prog 121 #[.string x0] w (fun e w'=>e=.returned (.tuple #[.agg (Cd.cs (QQ (Qv .u8) 4 (by decide)) r.1).toArray,.int .i64 r.2])∧Below w.heap.size w w'):=by
 unfold QaI at hF
 refine ce (l:=[.string x0]) func121 rfl rfl ?_
 refine QN ?_
 refine sr ?_
 refine al (cs:=Cd.cs (QQ (Qv .u8) 4 (by decide)) zv5) zeroValue143 ?_
 intro b1
 refine aa (ns ?_)
 refine al (cs:=Cd.cs (QQ (Qv .u8) 4 (by decide)) zv5) zeroValue143 ?_
 intro b2
 refine ns (am ?_)
 obtain ⟨t3,ht3,hF⟩:=bM hF
 refine QbU (c:=QbA) (e:=9) (ys:=t3) (V:=fun p cap=>.slice p t3.length cap) func19 rfl (by kernel_rfl) rfl rfl (fun w hw=>Qak _ _ _ ht3 w) ?_
 intro p4 c5
 refine aa (nt (qs (sr (am ?_))))
 refine aw (QZ underlying46 rfl) ?_
 refine aw xn (nwq [13,5,4,2] ?_)
 obtain ⟨h6,hF⟩|⟨h6,hF⟩:=oi hF
 ·refine ct h6 ?_
  refine sr ?_
  refine aw (Qb3 (zs:=Cd.cs (QQ (Qv .u8) 4 (by decide)) zv5) (cs:=Cd.cs (QQ (Qv .u8) 4 (by decide)) zv5) underlying143 zeroValue143 rfl sizeOf5 rfl rfl) ?_
  refine Qn (c:=(QQ (Qv .u8) 4 (by decide))) (z:=zv5) (.s (.s .z)) lw sizeOf143 rfl rfl rfl ?_
  refine aa (qn (dz (dz (wq [3,2] ?_))))
  refine tn (rt ?_)
  have K:=os hF
  subst K
  exact QU rfl (QE (c:=(QQ (Qv .u8) 4 (by decide))) (y:=zv5) rfl .z lw isAgg143 sizeOf143 (.inl rfl)) (QS rfl) wb
 refine cf h6 ?_
 refine sn (qs (sr (aa (nwq [6,5,4,2] ?_))))
 refine qb ?_
 obtain ⟨q7,hq7,hF⟩:=bM hF
 refine wq [6,5,4,2] ?_
 refine Qbn (B:=0) (r:=r) (q:=q7) (A:=fun sq7 Y=>At 36 [(2,.pointer (some ⟨b1,0,none⟩)),(4,.pointer (some ⟨b2,0,none⟩))] (Wd w [Qi b2 (Cd.cs (QQ (Qv .u8) 4 (by decide)) sq7) 143,Qi b1 (Cd.cs (QQ (Qv .u8) 4 (by decide)) zv5) 143]) Y) ?_ ?_
 ·intro K
  refine QaI.l0.partial_correctness t3 (motive:=fun i9 i10 x=>KR (fun sq7 Y=>At 36 [(2,.pointer (some ⟨b1,0,none⟩)),(4,.pointer (some ⟨b2,0,none⟩))] (Wd w [Qi b2 (Cd.cs (QQ (Qv .u8) 4 (by decide)) sq7) 143,Qi b1 (Cd.cs (QQ (Qv .u8) 4 (by decide)) zv5) 143]) Y) _ 0 r x→QbB (fun Y=>At 36 [(2,.pointer (some ⟨b1,0,none⟩)),(4,.pointer (some ⟨b2,0,none⟩)),(5,.slice p4 t3.length c5),(6,.int .i64 i9)] (Wd w [Qbm QbA 9 p4 c5 t3,Qi b2 (Cd.cs (QQ (Qv .u8) 4 (by decide)) i10) 143,Qi b1 (Cd.cs (QQ (Qv .u8) 4 (by decide)) zv5) 143]) Y) _ _ _) ?_ _ _ _ hq7 K
  ·clear K hF
   intro g ih i9 i10 x hF K
   refine QW ?_
   refine qs (sr (am (aw xl (nwq [16,6,5,4,2] ?_))))
   obtain ⟨h11,hF⟩|⟨h11,hF⟩:=oi hF
   ·refine ct h11 ?_
    refine sn (qs (qb (sr (am (am ?_)))))
    obtain ⟨h12,hF⟩:=gd hF
    refine Qae (φ:=∃ b o,p4=some ⟨b,o,none⟩) (fun _ hw=>Qaa (hw.own .z).row h12) ?_
    rintro ⟨b14,o15,hp13⟩
    refine aw (QbD underlying46 sizeOf9 rfl rfl h12 hp13) ?_
    refine aw (Qe isAgg9 rfl (fun _ hw=>QP (W:=fun w1=>w1=_) (fun w1 h=>by subst h;exact Below.refl _ _) (hw.own .z).row h12 hp13 rfl _ rfl)) ?_
    obtain ⟨t16,ht16,hF⟩:=bM hF
    refine Qav func21 rfl (by kernel_rfl) rfl rfl (fun w=>Qah _ _ _ ht16 w) ?_
    refine am ?_
    refine aw xe (aw xe (aa (aa (nt (qs (sr (am (aw xn ?_))))))))
    refine nwq [28,8,7,6,5,4,2] ?_
    obtain ⟨h17,hF⟩|⟨h17,hF⟩:=oi hF
    ·refine ct h17 ?_
     refine sr ?_
     refine aw (Qb3 (zs:=Cd.cs (QQ (Qv .u8) 4 (by decide)) zv5) (cs:=Cd.cs (QQ (Qv .u8) 4 (by decide)) zv5) underlying143 zeroValue143 rfl sizeOf5 rfl rfl) ?_
     refine am ?_
     refine Qn (c:=(QQ (Qv .u8) 4 (by decide))) (z:=zv5) (.s (.s .z)) lw sizeOf143 rfl rfl rfl ?_
     refine aa (qn (dz (dz (wq [3,2] ?_))))
     refine tn (qt ?_)
     refine tr (br (tr (tr (br (tr ?_)))))
     obtain rfl:=os hF
     subst K
     exact QU rfl (QE (c:=(QQ (Qv .u8) 4 (by decide))) (y:=zv5) rfl .z lw isAgg143 sizeOf143 (.inl rfl)) (QS rfl) wb
    refine cf h17 ?_
    refine sn (qr (am (am ?_)))
    refine aw (QaW underlying41 underlying5 rfl) ?_
    obtain ⟨h18,hF⟩:=gd hF
    refine aw (Qas underlying143 sizeOf5 rfl rfl h18) ?_
    refine Qn (c:=(Qv .u8)) (z:=wr .u8 t16.1) (.s .z) (Qaf.comp lw (fun z=>Qb2 i10 i9 z) (Qaf.vec (Qv .u8) (by decide) i10 i9 h18)) sizeOf5 rfl rfl rfl ?_
    refine qn (wq [6,5,4,2] ?_)
    refine bm ?_
    refine qr (am (aw xa (aa (nwq [6,5,4,2] ?_))))
    exact Qk (ih _ _ _ hF K) ⟨rfl,rfl,rfl,rfl,trivial⟩
   refine cf h11 ?_
   refine Q7 ?_
   refine te (te ?_)
   refine dz ?_
   obtain rfl:=os hF
   exact Qk K ⟨rfl,rfl,trivial⟩
 cases q7 with
 | ret r'=>exact os hF
 | nx sq7 =>
  skip
  refine QD ?_
  refine tn (sr ?_)
  refine aw (Qg (c:=(QQ (Qv .u8) 4 (by decide))) (z:=sq7) isAgg143 sizeOf143 rfl (Qp .z lw)) ?_
  refine Qn (c:=(QQ (Qv .u8) 4 (by decide))) (z:=sq7) (.s .z) lw sizeOf143 rfl rfl rfl ?_
  refine aa (qn (dz (wq [3,2] ?_)))
  refine tn (qt ?_)
  have K:=os hF
  subst K
  exact QU rfl (QE (c:=(QQ (Qv .u8) 4 (by decide))) (y:=sq7) rfl .z lw isAgg143 sizeOf143 (.inl rfl)) (QS rfl) wb
end Go.Proofs.YtnekckhjmnhinaaGreatDoor
namespace Go.Proofs.YtnekckhjmnhinaaGreatDoor
open E Go.RowKit _root_.Go.Proofs.Tryz
theorem QpB:(Tryz.prog.info? 9).isSome=true:=by kernel_rfl
noncomputable def Qrl:TypeInfo:=(Tryz.prog.info? 9).get QpB
theorem Qun:Tryz.prog.info? 9=some Qrl:=(Option.some_get _).symm
def Qbw(x0:ByteArray)(x1:ByteArray):Option (Bool) :=
 if (decide ((x0.size:Int)≥(x1.size:Int)))=true then (if (0:Int)≤0∧0≤(x1.size:Int)∧(x1.size:Int)≤(x0.size:Int) then some (seq (x0.extract (Int.toNat 0) (Int.toNat (x1.size:Int))) x1) else none) else (some false)
theorem Qea(x0:ByteArray)(x1:ByteArray)(r:Bool)(hF:Qbw x0 x1=some r)(w:World) :
    Calls Tryz.prog 162 #[.string x0,.string x1] w (fun e w'=>e=.returned (.bool r)∧w'=w):=by
 unfold Qbw at hF
 refine ce (l:=[.string x0,.string x1]) func162 rfl rfl ?_
 refine sr (aa (nwx [1,0] ?_))
 refine am ?_
 refine aw (QaR underlying9 rfl) ?_
 refine am ?_
 refine aw (QaR underlying9 rfl) ?_
 refine aw (QfM rfl rfl) ?_
 refine am ?_
 obtain ⟨h1,hF⟩|⟨h1,hF⟩:=oi hF
 ·refine fx 10 h1 ?_
  refine gy (am (gy (am (gy ?_))))
  refine aw (QaR underlying9 rfl) ?_
  refine gy ?_
  obtain ⟨h2,hF⟩:=gd hF
  refine aw (Qbc underlying9 rfl rfl ⟨_,rfl⟩ h2) ?_
  refine gy (am (gy ?_))
  refine aw (QfK rfl rfl) ?_
  refine aw xp (aa (nwq [4] ?_))
  refine qt ?_
  have K:=os hF
  subst K
  exact r1 (fun w1 hw=>⟨rfl,hw⟩)
 refine fx 10 h1 ?_
 refine gn ?_
 refine gn ?_
 refine gn ?_
 refine gn ?_
 refine gn ?_
 refine gn ?_
 refine aw xp (aa (nwq [4] ?_))
 refine qt ?_
 have K:=os hF
 subst K
 exact r1 (fun w1 hw=>⟨rfl,hw⟩)
def QbF(x0:ByteArray)(x1:ByteArray):Option (Bool) :=
 Qbw x0 x1>>=fun t1=>some t1
theorem QdQ(x0:ByteArray)(x1:ByteArray)(r:Bool)(hF:QbF x0 x1=some r)(w:World) :
    Calls Tryz.prog 129 #[.string x0,.string x1] w (fun e w'=>e=.returned (.bool r)∧w'=w):=by
 unfold QbF at hF
 refine ce (l:=[.string x0,.string x1]) func129 rfl rfl ?_
 refine sr (aa (ns (am (am ?_))))
 obtain ⟨t1,ht1,hF⟩:=bM hF
 refine Qav func162 rfl (by kernel_rfl) rfl rfl (fun w=>Qea _ _ _ ht1 w) ?_
 refine aa (nwq [4] ?_)
 refine qt ?_
 have K:=os hF
 subst K
 exact r1 (fun w1 hw=>⟨rfl,hw⟩)
def Qf8(x0:Int):Option (Int×Bool) :=
 some (wr .u16 (Lib.indexByte (⟨#[48,49,50,51,52,53,54,55,56,57,97,98,99,100,101,102]⟩:ByteArray).data.toList (Nat.toUInt8 (Int.toNat x0))),decide (Lib.indexByte (⟨#[48,49,50,51,52,53,54,55,56,57,97,98,99,100,101,102]⟩:ByteArray).data.toList (Nat.toUInt8 (Int.toNat x0))≥0))
theorem Qkx(x0:Int)(r:Int×Bool)(hF:Qf8 x0=some r)(w:World) :
    Calls Tryz.prog 202 #[.int .u8 x0] w (fun e w'=>e=.returned (.tuple #[.int .u16 r.1,.bool r.2])∧w'=w):=by
 unfold Qf8 at hF
 refine ce (l:=[.int .u8 x0]) func202 rfl rfl ?_
 refine sr (aa (aa (ns (am ?_))))
 refine Qav func181 rfl (by kernel_rfl) rfl rfl (fun w=>Tryz.strings_IndexByte _ _ w) ?_
 refine aa (ns (am ?_))
 refine aw (QaW underlying3 underlying203 rfl) ?_
 refine am ?_
 refine aw (QfM rfl rfl) ?_
 refine aa (aa (nwq [3,2] ?_))
 refine qt ?_
 have K:=os hF
 subst K
 exact Q6 rfl rfl rfl (fun w1 hw=>⟨rfl,hw⟩)
def Qfo(x0:Int):Option (Int) :=
 if (decide (x0≥65))=true then (if (decide (x0≤70))=true then (some (ior .u8 x0 32)) else (some x0)) else (some x0)
theorem Qky(x0:Int)(r:Int)(hF:Qfo x0=some r)(w:World) :
    Calls Tryz.prog 203 #[.int .u8 x0] w (fun e w'=>e=.returned (.int .u8 r)∧w'=w):=by
 unfold Qfo at hF
 refine ce (l:=[.int .u8 x0]) func203 rfl rfl ?_
 refine sr (aa (nwq [0] ?_))
 refine qs (sr (am ?_))
 refine aw (QfM rfl rfl) ?_
 refine am ?_
 obtain ⟨h1,hF⟩|⟨h1,hF⟩:=oi hF
 ·refine fx 5 h1 ?_
  refine gy (am (gy ?_))
  refine aw (Qhw rfl rfl) ?_
  refine aw xp (nwq [8,0] ?_)
  obtain ⟨h2,hF⟩|⟨h2,hF⟩:=oi hF
  ·refine ct h2 ?_
   refine sr (am ?_)
   refine aw (Qnj rfl rfl) ?_
   refine aa (nwq [2] ?_)
   refine rt ?_
   have K:=os hF
   subst K
   exact r1 (fun w1 hw=>⟨rfl,hw⟩)
  refine cf h2 ?_
  refine sns (am (aa (nwq [2] ?_)))
  refine qt ?_
  have K:=os hF
  subst K
  exact r1 (fun w1 hw=>⟨rfl,hw⟩)
 refine fx 5 h1 ?_
 refine gn ?_
 refine gn ?_
 refine aw xp (nwq [8,0] ?_)
 refine cf rfl ?_
 refine sns (am (aa (nwq [2] ?_)))
 refine qt ?_
 have K:=os hF
 subst K
 exact r1 (fun w1 hw=>⟨rfl,hw⟩)
def Qa8.l0(x0:ByteArray)(i4:Int)(i5:Int):Option (Ctl (Int×Int) (Int)) :=
 if (decide (i5<(x0.size:Int)))=true then (if (0:Int)≤i5∧i5<(x0.size:Int) then Qfo (bt x0 i5)>>=fun t8=>Qf8 t8>>=fun t9=>if (!t9.2)=true then (some (.ret (0,5))) else (Qa8.l0 x0 (ior .u16 (Qh9 .u16 i4 4) t9.1) (wr .i64 (i5+1))) else none) else (some (.nx i4))
 partial_fixpoint
def Qa8(x0:ByteArray):Option (Int×Int) :=
 if (decide ((x0.size:Int)<1))=true then (some (0,5)) else (if (decide ((x0.size:Int)>4))=true then (some (0,5)) else (Qa8.l0 x0 0 0>>=fun q3=>match q3 with | .ret r'=>some r' | .nx sq3=>(some (sq3,0))))
theorem Qel(x0:ByteArray)(r:Int×Int)(hF:Qa8 x0=some r)(w:World) :
    Calls Tryz.prog 197 #[.string x0] w (fun e w'=>e=.returned (.tuple #[.int .u16 r.1,.int .i64 r.2])∧w'=w):=by
 unfold Qa8 at hF
 refine ce (l:=[.string x0]) func197 rfl rfl ?_
 refine sr (aa (aa (nwq [0] ?_)))
 refine qs (sr (am ?_))
 refine aw (QaR underlying9 rfl) ?_
 refine aw xl (am ?_)
 obtain ⟨h1,hF⟩|⟨h1,hF⟩:=oi hF
 ·refine fx 11 h1 ?_
  refine gn ?_
  refine gn ?_
  refine gn ?_
  refine aw xp (nwq [15,0] ?_)
  refine ct rfl ?_
  refine sr (aa (aa (nwq [3,2] ?_)))
  refine rt ?_
  have K:=os hF
  subst K
  exact Q6 rfl rfl rfl (fun w1 hw=>⟨rfl,hw⟩)
 refine fx 11 h1 ?_
 refine gy (am (gy ?_))
 refine aw (QaR underlying9 rfl) ?_
 refine gy ?_
 refine aw (QbI rfl rfl) ?_
 refine aw xp (nwq [15,0] ?_)
 obtain ⟨h2,hF⟩|⟨h2,hF⟩:=oi hF
 ·refine ct h2 ?_
  refine sr (aa (aa (nwq [3,2] ?_)))
  refine rt ?_
  have K:=os hF
  subst K
  exact Q6 rfl rfl rfl (fun w1 hw=>⟨rfl,hw⟩)
 refine cf h2 ?_
 refine sns (aa (nt (qs (sr (am ?_)))))
 refine aw (QaR underlying9 rfl) ?_
 refine am (nwq [18,17,4,0] ?_)
 refine qb ?_
 obtain ⟨q3,hq3,hF⟩:=bM hF
 refine wq [18,17,4,0] ?_
 refine Qbn (B:=0) (r:=r) (q:=q3) (A:=fun sq3 Y=>At 37 [(4,.int .u16 sq3)] (fun w'=>w'=w) Y) ?_ ?_
 ·intro K
  refine Qa8.l0.partial_correctness x0 (motive:=fun i4 i5 x=>KR (fun sq3 Y=>At 37 [(4,.int .u16 sq3)] (fun w'=>w'=w) Y) _ 0 r x→QbB (fun Y=>At 37 [(0,.string x0),(4,.int .u16 i4),(17,.int .i64 (x0.size:Int)),(18,.int .i64 i5)] (fun w'=>w'=w) Y) _ _ _) ?_ _ _ _ hq3 K
  ·clear K hF
   intro g ih i4 i5 x hF K
   refine QW ?_
   refine sr (aw xl (nwq [19,18,17,4,0] ?_))
   refine qs ?_
   obtain ⟨h6,hF⟩|⟨h6,hF⟩:=oi hF
   ·refine ct h6 ?_
    refine sn (qs (qb (sr (am (aa (ns (am (am ?_))))))))
    obtain ⟨h7,hF⟩:=gd hF
    refine aw (QaZ underlying9 rfl rfl h7) ?_
    obtain ⟨t8,ht8,hF⟩:=bM hF
    refine Qav func203 rfl (by kernel_rfl) rfl rfl (fun w=>Qky _ _ ht8 w) ?_
    obtain ⟨t9,ht9,hF⟩:=bM hF
    refine Qav func202 rfl (by kernel_rfl) rfl rfl (fun w=>Qkx _ _ ht9 w) ?_
    refine am ?_
    refine aw xe (aw xe (aa (aa (nt (qs (sr (am ?_)))))))
    refine aw (Qcq rfl) ?_
    refine nwq [30,18,17,6,4,0] ?_
    obtain ⟨h10,hF⟩|⟨h10,hF⟩:=oi hF
    ·refine ct h10 ?_
     refine sr (aa (aa (nwq [3,2] ?_)))
     refine qt ?_
     refine tr (br (tr (tr (br (tr ?_)))))
     obtain rfl:=os hF
     subst K
     exact Q6 rfl rfl rfl (fun w1 hw=>⟨rfl,hw⟩)
    refine cf h10 ?_
    refine sn (qr (am ?_))
    refine aw (QgI rfl rfl (by decide)) ?_
    refine am ?_
    refine aw (Qnj rfl rfl) ?_
    refine aa (qn (wq [18,17,4,0] ?_))
    refine bm ?_
    refine qr (aw xa (am (nwq [18,17,4,0] ?_)))
    exact Qk (ih _ _ _ hF K) ⟨rfl,rfl,rfl,rfl,trivial⟩
   refine cf h6 ?_
   refine Q7 ?_
   refine te (te ?_)
   obtain rfl:=os hF
   exact Qk K ⟨rfl,trivial⟩
 cases q3 with
 | ret r'=>exact os hF
 | nx sq3 =>
  skip
  refine QD ?_
  refine tn (sr (am (aa (aa (nwq [3,2] ?_)))))
  refine qt ?_
  have K:=os hF
  subst K
  exact Q6 rfl rfl rfl (fun w1 hw=>⟨rfl,hw⟩)
def Qa7(x0:QF)(x1:Int):Option (Bool×QF) :=
 if (x0.f_n==8)=true then (some (false,x0)) else (if (0:Int)≤x0.f_n∧x0.f_n<8 then some (true,{ { x0 with f_g:=Qb2 x0.f_g x0.f_n x1 } with f_n:=wr .i64 ((({ x0 with f_g:=Qb2 x0.f_g x0.f_n x1 }).f_n)+1) }) else none)
set_option maxHeartbeats 3200000 in
theorem QcX(x0:QF)(b0_:Nat)(x1:Int)(r:Bool×QF)(hF:Qa7 x0 x1=some r)(w:World){w0:World}{H_ G_:List Ent}{f_:Ent→List Ent}(hu_:Upd H_ (Qi b0_ (Cd.cs QL x0) 220) f_ G_)(hw_:Wd w0 H_ w) :
    Calls Tryz.prog 198 #[.pointer (some ⟨b0_,0,none⟩),.int .u16 x1] w (fun e w'=>e=.returned (.bool r.1)∧Wd w0 (f_ (Qi b0_ (Cd.cs QL r.2) 220)) w'):=by
 unfold Qa7 at hF
 refine ce (l:=[.pointer (some ⟨b0_,0,none⟩),.int .u16 x1]) func198 rfl rfl ?_
 refine QdJ hu_ hw_ ?_
 refine sr (aa (nt (qs (sr (am ?_)))))
 refine aw (Qa3 rfl) ?_
 refine fa 8 underlying220 rfl sizeOf3 ?_
 refine aw (Qe isAgg3 rfl (Qm (c:=(Qv .i64)) (y:=x0.f_n) (Upd.again hu_ _) (Qaf.comp lw (fun z=>{ x0 with f_n:=z }) (Qbk x0)) rfl)) ?_
 refine aw xq (nwq [9,1,0] ?_)
 obtain ⟨h1,hF⟩|⟨h1,hF⟩:=oi hF
 ·refine ct h1 ?_
  refine sr (aa (nwq [4] ?_))
  refine rt ?_
  have K:=os hF
  subst K
  exact r1 (fun w1 hw=>⟨rfl,hw⟩)
 refine cf h1 ?_
 refine sn (qs (wq [1,0] ?_))
 obtain ⟨h2,hF⟩:=gd hF
 refine Qey [.q 10 (fun g3=>.pointer (some ⟨b0_,0,none⟩)) [] 0 0,.q 11 (fun g3=>.pointer (some ⟨b0_,0,none⟩)) [] 0 0,.q 12 (fun g3=>.pointer (some ⟨b0_,0,none⟩)) [1] 0 0,.q 13 (fun g3=>.pointer (some ⟨b0_,0+8,none⟩)) [2] 0 0,.q 14 (fun g3=>.int .i64 x0.f_n) [3] 0 0,.q 15 (fun g3=>.int .u16 x1) [] 0 0,.q 16 (fun g3=>.pointer (some ⟨b0_,0,none⟩)) [0] 0 0,.q 17 (fun g3=>.pointer (some ⟨b0_,0+0,none⟩)) [6] 0 0,.q 18 (fun g3=>.pointer (some ⟨b0_,0+0+Int.toNat x0.f_n*1,none⟩)) [4,7] 0 0,.st 0 none [5,8]] (fun g3 s=>match s with | 0=>(Wd w0 (f_ (Qi b0_ (Cd.cs QL x0) 220))) | _=>(Wd w0 (f_ (Qi b0_ (Cd.cs QL ({ x0 with f_g:=Qb2 x0.f_g x0.f_n x1 })) 220)))) 1 (by kernel_rfl) (by kernel_rfl) (by kernel_rfl) (by kernel_rfl) (by kernel_rfl) ⟨fun _ _ _=>rfl,fun _ _ _=>rfl,fun _ _ _=>rfl,fun _ _ _=>rfl,fun _ _ _=>rfl,fun _ _ _=>rfl,fun _ _ _=>rfl,fun _ _ _=>rfl,fun _ _ _=>rfl,fun _ _ _=>rfl,trivial⟩ (by kernel_rfl) (fun w_ h=>⟨fun _=>g3 0 none 0 none w_,h.drew⟩) ⟨?_,?_,?_,?_,?_,?_,?_,?_,?_,?_,trivial⟩ ?_
 ·intro Lx g3 s K hl hh k
  show At 26 ((0,_)::(1,_)::Lx) _ _
  refine am ?_
  exact Qs k
 ·intro Lx g3 s K hl hh k
  show At 26 ((0,_)::(1,_)::Lx) _ _
  refine am ?_
  exact Qs k
 ·intro Lx g3 s K hl hh k
  show At 26 ((11,_)::(0,_)::(1,_)::Lx) _ _
  refine aw (Qa3 rfl) ?_
  exact Qs k
 ·intro Lx g3 s K hl hh k
  show At 26 ((12,_)::(0,_)::(1,_)::Lx) _ _
  refine fa 8 underlying220 rfl sizeOf3 ?_
  exact Qs k
 ·intro Lx g3 s K hl hh k
  show At 26 ((13,_)::(0,_)::(1,_)::Lx) _ _
  obtain rfl:s=0:=by omega
  refine aw (Qe isAgg3 rfl (Qm (c:=(Qv .i64)) (y:=x0.f_n) (Upd.again hu_ _) (Qaf.comp lw (fun z=>{ x0 with f_n:=z }) (Qbk x0)) rfl)) ?_
  exact Qs k
 ·intro Lx g3 s K hl hh k
  show At 26 ((0,_)::(1,_)::Lx) _ _
  refine am ?_
  exact Qs k
 ·intro Lx g3 s K hl hh k
  show At 26 ((10,_)::(0,_)::(1,_)::Lx) _ _
  refine aw (Qa3 rfl) ?_
  exact Qs k
 ·intro Lx g3 s K hl hh k
  show At 26 ((16,_)::(0,_)::(1,_)::Lx) _ _
  refine fa 0 underlying220 rfl sizeOf204 ?_
  exact Qs k
 ·intro Lx g3 s K hl hh k
  show At 26 ((14,_)::(17,_)::(0,_)::(1,_)::Lx) _ _
  refine aw (Qas underlying204 sizeOf203 rfl rfl h2) ?_
  exact Qs k
 ·intro Lx g3 K k
  show At 26 ((15,_)::(18,_)::(0,_)::(1,_)::Lx) _ _
  refine Qn (c:=(Qv .u16)) (z:=x1) (Upd.again hu_ _) (Qaf.comp (Qaf.comp lw (fun z=>{ x0 with f_g:=z }) (Qc3 x0)) (fun z=>Qb2 x0.f_g x0.f_n z) (Qaf.vec (Qv .u16) (by decide) x0.f_g x0.f_n h2)) sizeOf203 rfl rfl rfl ?_
  exact Qs k
 intro g3
 show At 26 [(10,_),(11,_),(12,_),(13,_),(14,_),(15,_),(16,_),(17,_),(18,_),(0,_),(1,_)] _ _
 refine tn (sr (am ?_))
 refine aw (Qa3 rfl) ?_
 refine fa 8 underlying220 rfl sizeOf3 ?_
 refine aw (Qe isAgg3 rfl (Qm (c:=(Qv .i64)) (y:=({ x0 with f_g:=Qb2 x0.f_g x0.f_n x1 }).f_n) (Upd.again hu_ _) (Qaf.comp lw (fun z=>{ { x0 with f_g:=Qb2 x0.f_g x0.f_n x1 } with f_n:=z }) (Qbk ({ x0 with f_g:=Qb2 x0.f_g x0.f_n x1 }))) rfl)) ?_
 refine aw xa ?_
 refine aw (Qa3 rfl) ?_
 refine fa 8 underlying220 rfl sizeOf3 ?_
 refine Qn (c:=(Qv .i64)) (z:=wr .i64 ((({ x0 with f_g:=Qb2 x0.f_g x0.f_n x1 }).f_n)+1)) (Upd.again hu_ _) (Qaf.comp lw (fun z=>{ { x0 with f_g:=Qb2 x0.f_g x0.f_n x1 } with f_n:=z }) (Qbk ({ x0 with f_g:=Qb2 x0.f_g x0.f_n x1 }))) sizeOf3 rfl rfl rfl ?_
 refine nws [] trivial ?_
 refine aa (nwq [4] ?_)
 refine qt ?_
 have K:=os hF
 subst K
 exact r1 (fun w1 hw=>⟨rfl,hw⟩)
def Qcy(x0:QF)(x1:ByteArray):Option (Bool×QF) :=
 Qa8 x1>>=fun t1=>if (t1.2==0)=true then (Qa7 x0 t1.1>>=fun t3=>some (t3.1,t3.2)) else (QcQ x1>>=fun t4=>if (t4.2==0)=true then (Qa7 x0 (ior .u16 (Qh9 .u16 (wr .u16 (Qbb t4.1 0)) 8) (wr .u16 (Qbb t4.1 1)))>>=fun t7=>if t7.1=true then (Qa7 t7.2 (ior .u16 (Qh9 .u16 (wr .u16 (Qbb t4.1 2)) 8) (wr .u16 (Qbb t4.1 3)))>>=fun t9=>some (t9.1,t9.2)) else (some (false,t7.2))) else (some (false,x0)))
theorem Qe2(x0:QF)(b0_:Nat)(x1:ByteArray)(r:Bool×QF)(hF:Qcy x0 x1=some r)(w:World){w0:World}{H_ G_:List Ent}{f_:Ent→List Ent}(hu_:Upd H_ (Qi b0_ (Cd.cs QL x0) 220) f_ G_)(hw_:Wd w0 H_ w)(hg_strconv_ErrRange:GV_strconv_ErrRange w0)(hg_strconv_ErrSyntax:GV_strconv_ErrSyntax w0) :
    Calls Tryz.prog 196 #[.pointer (some ⟨b0_,0,none⟩),.string x1] w (fun e w'=>e=.returned (.bool r.1)∧Wd w0 (f_ (Qi b0_ (Cd.cs QL r.2) 220)) w'):=by
 unfold Qcy at hF
 refine ce (l:=[.pointer (some ⟨b0_,0,none⟩),.string x1]) func196 rfl rfl ?_
 refine QdJ hu_ hw_ ?_
 refine sr (aa (nt (qs (sr (am ?_)))))
 obtain ⟨t1,ht1,hF⟩:=bM hF
 refine Qav func197 rfl (by kernel_rfl) rfl rfl (fun w=>Qel _ _ ht1 w) ?_
 refine am ?_
 refine aw xe (aw xe (aa (aa (ns (am (aw xq (nwq [15,5,1,0] ?_)))))))
 obtain ⟨h2,hF⟩|⟨h2,hF⟩:=oi hF
 ·refine ct h2 ?_
  refine sr (am (am ?_))
  obtain ⟨t3,ht3,hF⟩:=bM hF
  refine QbM (E':=Qi b0_ (Cd.cs QL t3.2) 220) func198 rfl (by kernel_rfl) rfl rfl (fun w hw=>QcX _ _ _ _ ht3 w (Upd.again hu_ _) hw) ?_
  refine aa (nwq [4] ?_)
  refine rt ?_
  have K:=os hF
  subst K
  exact r1 (fun w1 hw=>⟨rfl,hw⟩)
 refine cf h2 ?_
 refine sns (am ?_)
 obtain ⟨t4,ht4,hF⟩:=bM hF
 refine cB func155 rfl (fun w hw=>QhZ _ _ ht4 w (hg_strconv_ErrRange.on hw.below) (hg_strconv_ErrSyntax.on hw.below)) ?_
 refine am ?_
 refine aw xe (aw xe ?_)
 refine al (cs:=Cd.cs (QQ (Qv .u8) 4 (by decide)) zv5) zeroValue143 ?_
 intro b5
 refine Qn (c:=(QQ (Qv .u8) 4 (by decide))) (z:=t4.1) .z lw sizeOf143 rfl rfl rfl ?_
 refine aa (nwx [8,7,0] ?_)
 refine am (aw xq (am ?_))
 obtain ⟨h6,hF⟩|⟨h6,hF⟩:=oi hF
 ·refine fx 26 h6 ?_
  refine gy (am (gy ?_))
  refine aw (Qas underlying143 sizeOf5 rfl rfl (by decide)) ?_
  refine gy ?_
  refine aw (Qe isAgg5 rfl (Qm (c:=(Qv .u8)) (y:=Qbb t4.1 0) .z (Qaf.comp lw (fun z=>Qb2 t4.1 0 z) (Qaf.vec (Qv .u8) (by decide) t4.1 0 (by decide))) rfl)) ?_
  refine gy ?_
  refine aw (QaW underlying5 underlying203 rfl) ?_
  refine gy ?_
  refine aw (QgI rfl rfl (by decide)) ?_
  refine gy ?_
  refine aw (Qas underlying143 sizeOf5 rfl rfl (by decide)) ?_
  refine gy ?_
  refine aw (Qe isAgg5 rfl (Qm (c:=(Qv .u8)) (y:=Qbb t4.1 1) .z (Qaf.comp lw (fun z=>Qb2 t4.1 1 z) (Qaf.vec (Qv .u8) (by decide) t4.1 1 (by decide))) rfl)) ?_
  refine gy ?_
  refine aw (QaW underlying5 underlying203 rfl) ?_
  refine gy ?_
  refine aw (Qnj rfl rfl) ?_
  refine gy ?_
  obtain ⟨t7,ht7,hF⟩:=bM hF
  refine QbM (E':=Qi b0_ (Cd.cs QL t7.2) 220) func198 rfl (by kernel_rfl) rfl rfl (fun w hw=>QcX _ _ _ _ ht7 w (.s (Upd.again hu_ _)) hw) ?_
  refine aw xp (am ?_)
  obtain ⟨h8,hF⟩|⟨h8,hF⟩:=oi hF
  ·refine fx 38 h8 ?_
   refine gy (am (gy ?_))
   refine aw (Qas underlying143 sizeOf5 rfl rfl (by decide)) ?_
   refine gy ?_
   refine aw (Qe isAgg5 rfl (Qm (c:=(Qv .u8)) (y:=Qbb t4.1 2) .z (Qaf.comp lw (fun z=>Qb2 t4.1 2 z) (Qaf.vec (Qv .u8) (by decide) t4.1 2 (by decide))) rfl)) ?_
   refine gy ?_
   refine aw (QaW underlying5 underlying203 rfl) ?_
   refine gy ?_
   refine aw (QgI rfl rfl (by decide)) ?_
   refine gy ?_
   refine aw (Qas underlying143 sizeOf5 rfl rfl (by decide)) ?_
   refine gy ?_
   refine aw (Qe isAgg5 rfl (Qm (c:=(Qv .u8)) (y:=Qbb t4.1 3) .z (Qaf.comp lw (fun z=>Qb2 t4.1 3 z) (Qaf.vec (Qv .u8) (by decide) t4.1 3 (by decide))) rfl)) ?_
   refine gy ?_
   refine aw (QaW underlying5 underlying203 rfl) ?_
   refine gy ?_
   refine aw (Qnj rfl rfl) ?_
   refine gy ?_
   obtain ⟨t9,ht9,hF⟩:=bM hF
   refine QbM (E':=Qi b0_ (Cd.cs QL t9.2) 220) func198 rfl (by kernel_rfl) rfl rfl (fun w hw=>QcX _ _ _ _ ht9 w (.s (Upd.again hu_ _)) hw) ?_
   refine aw xp (aa (qn (dz (wq [4] ?_))))
   refine tn (qt ?_)
   have K:=os hF
   subst K
   exact r1 (fun w1 hw=>⟨rfl,hw⟩)
  refine fx 38 h8 ?_
  refine gn ?_
  refine gn ?_
  refine gn ?_
  refine gn ?_
  refine gn ?_
  refine gn ?_
  refine gn ?_
  refine gn ?_
  refine gn ?_
  refine gn ?_
  refine aw xp (aa (qn (dz (wq [4] ?_))))
  refine tn (qt ?_)
  have K:=os hF
  subst K
  exact r1 (fun w1 hw=>⟨rfl,hw⟩)
 refine fx 26 h6 ?_
 refine gn ?_
 refine gn ?_
 refine gn ?_
 refine gn ?_
 refine gn ?_
 refine gn ?_
 refine gn ?_
 refine gn ?_
 refine gn ?_
 refine gn ?_
 refine aw xp (am ?_)
 refine gn ?_
 refine gn ?_
 refine gn ?_
 refine gn ?_
 refine gn ?_
 refine gn ?_
 refine gn ?_
 refine gn ?_
 refine gn ?_
 refine gn ?_
 refine aw xp (aa (qn (dz (wq [4] ?_))))
 refine tn (qt ?_)
 have K:=os hF
 subst K
 exact r1 (fun w1 hw=>⟨rfl,hw⟩)
def Qag.l0(i6:ByteArray)(i7:QF):Option (Bool×QF) :=
 QcV i6 58>>=fun t8=>if (!t8.2.2)=true then (Qcy i7 t8.1>>=fun t10=>some (t10.1,t10.2)) else (Qa8 t8.1>>=fun t11=>if (t11.2 != 0)=true then (some (false,i7)) else (Qa7 i7 t11.1>>=fun t13=>if (!t13.1)=true then (some (false,t13.2)) else (QbF t8.2.1 (⟨#[58]⟩:ByteArray)>>=fun t15=>if (!t15)=true then (Qag.l0 t8.2.1 t13.2) else (if (decide (t13.2.f_gap≥0))=true then (some (false,t13.2)) else (if (0:Int)≤1∧1≤(t8.2.1.size:Int)∧(t8.2.1.size:Int)≤(t8.2.1.size:Int) then if (seq (t8.2.1.extract (Int.toNat 1) (Int.toNat (t8.2.1.size:Int))) (⟨#[]⟩:ByteArray))=true then (some (true,{ t13.2 with f_gap:=t13.2.f_n })) else (Qag.l0 (t8.2.1.extract (Int.toNat 1) (Int.toNat (t8.2.1.size:Int))) ({ t13.2 with f_gap:=t13.2.f_n })) else none)))))
 partial_fixpoint
def Qag.l1(i21:ByteArray)(i22:QF):Option (Bool×QF) :=
 QcV i21 58>>=fun t23=>if (!t23.2.2)=true then (Qcy i22 t23.1>>=fun t25=>some (t25.1,t25.2)) else (Qa8 t23.1>>=fun t26=>if (t26.2 != 0)=true then (some (false,i22)) else (Qa7 i22 t26.1>>=fun t28=>if (!t28.1)=true then (some (false,t28.2)) else (QbF t23.2.1 (⟨#[58]⟩:ByteArray)>>=fun t30=>if (!t30)=true then (Qag.l1 t23.2.1 t28.2) else (if (decide (t28.2.f_gap≥0))=true then (some (false,t28.2)) else (if (0:Int)≤1∧1≤(t23.2.1.size:Int)∧(t23.2.1.size:Int)≤(t23.2.1.size:Int) then if (seq (t23.2.1.extract (Int.toNat 1) (Int.toNat (t23.2.1.size:Int))) (⟨#[]⟩:ByteArray))=true then (some (true,{ t28.2 with f_gap:=t28.2.f_n })) else (Qag.l1 (t23.2.1.extract (Int.toNat 1) (Int.toNat (t23.2.1.size:Int))) ({ t28.2 with f_gap:=t28.2.f_n })) else none)))))
 partial_fixpoint
def Qag(x0:QF)(x1:ByteArray):Option (Bool×QF) :=
 QbF x1 (⟨#[58,58]⟩:ByteArray)>>=fun t1=>if t1=true then (if (0:Int)≤2∧2≤(x1.size:Int)∧(x1.size:Int)≤(x1.size:Int) then if (seq (x1.extract (Int.toNat 2) (Int.toNat (x1.size:Int))) (⟨#[]⟩:ByteArray))=true then (some (true,{ x0 with f_gap:=0 })) else (Qag.l0 (x1.extract (Int.toNat 2) (Int.toNat (x1.size:Int))) ({ x0 with f_gap:=0 })>>=fun q5=>some q5) else none) else (Qag.l1 x1 x0>>=fun q20=>some q20)
theorem Qht(x0:QF)(b0_:Nat)(x1:ByteArray)(r:Bool×QF)(hF:Qag x0 x1=some r)(w:World){w0:World}{H_ G_:List Ent}{f_:Ent→List Ent}(hu_:Upd H_ (Qi b0_ (Cd.cs QL x0) 220) f_ G_)(hw_:Wd w0 H_ w)(hg_strconv_ErrRange:GV_strconv_ErrRange w0)(hg_strconv_ErrSyntax:GV_strconv_ErrSyntax w0) :
    Calls Tryz.prog 184 #[.pointer (some ⟨b0_,0,none⟩),.string x1] w (fun e w'=>e=.returned (.bool r.1)∧Wd w0 (f_ (Qi b0_ (Cd.cs QL r.2) 220)) w'):=by
 unfold Qag at hF
 refine ce (l:=[.pointer (some ⟨b0_,0,none⟩),.string x1]) func184 rfl rfl ?_
 refine QdJ hu_ hw_ ?_
 refine sr (aa (nt (qs (sr (am ?_)))))
 obtain ⟨t1,ht1,hF⟩:=bM hF
 refine Qav func129 rfl (by kernel_rfl) rfl rfl (fun w=>QdQ _ _ _ ht1 w) ?_
 refine nwq [11,1,0] ?_
 obtain ⟨h2,hF⟩|⟨h2,hF⟩:=oi hF
 ·refine ct h2 ?_
  refine sr (am ?_)
  refine aw (Qa3 rfl) ?_
  refine fa 9 underlying220 rfl sizeOf3 ?_
  refine Qn (c:=(Qv .i64)) (z:=0) (Upd.again hu_ _) (Qaf.comp lw (fun z=>{ x0 with f_gap:=z }) (Qba x0)) sizeOf3 rfl rfl rfl ?_
  refine ns (am ?_)
  obtain ⟨h3,hF⟩:=gd hF
  refine aw (Qbc underlying9 rfl ⟨_,rfl⟩ rfl h3) ?_
  refine aa (ns (am ?_))
  refine aw (QfK rfl rfl) ?_
  refine nwq [18,1,0] ?_
  obtain ⟨h4,hF⟩|⟨h4,hF⟩:=oi hF
  ·refine ct h4 ?_
   refine sr (aa (nwq [4] ?_))
   refine rt ?_
   have K:=os hF
   subst K
   exact r1 (fun w1 hw=>⟨rfl,hw⟩)
  refine cf h4 ?_
  refine sn (qb ?_)
  obtain ⟨q5,hq5,hF⟩:=bM hF
  refine wq [1,0] ?_
  refine QfA (r:=r) (q:=q5) ?_ ?_
  ·intro K
   refine Qag.l0.partial_correctness  (motive:=fun i6 i7 x=>x=r→QbB (fun Y=>At 63 [(0,.pointer (some ⟨b0_,0,none⟩)),(1,.string i6)] (Wd w0 (f_ (Qi b0_ (Cd.cs QL i7) 220))) Y) _ _ _) ?_ _ _ _ hq5 K
   ·clear K hF
    intro g ih i6 i7 x hF K
    refine QW ?_
    refine qb (sr (am ?_))
    obtain ⟨t8,ht8,hF⟩:=bM hF
    refine cB func148 rfl (fun w hw=>Qeb _ _ _ ht8 w) ?_
    refine am ?_
    refine aw xe (aw xe (aw xe (aa (aa (aa (nt (qs (sr ?_))))))))
    refine am ?_
    refine aw (Qcq rfl) ?_
    refine nwq [26,6,5,0] ?_
    obtain ⟨h9,hF⟩|⟨h9,hF⟩:=oi hF
    ·refine ct h9 ?_
     refine sr (am (am ?_))
     obtain ⟨t10,ht10,hF⟩:=bM hF
     refine QbM (E':=Qi b0_ (Cd.cs QL t10.2) 220) func196 rfl (by kernel_rfl) rfl rfl (fun w hw=>Qe2 _ _ _ _ ht10 w (Upd.again hu_ _) hw hg_strconv_ErrRange hg_strconv_ErrSyntax) ?_
     refine aa (nwq [4] ?_)
     refine qt ?_
     refine tr (br (tr (br ?_)))
     obtain rfl:=os hF
     subst K
     exact r1 (fun w1 hw=>⟨rfl,hw⟩)
    refine cf h9 ?_
    refine sns (am ?_)
    obtain ⟨t11,ht11,hF⟩:=bM hF
    refine Qav func197 rfl (by kernel_rfl) rfl rfl (fun w=>Qel _ _ ht11 w) ?_
    refine am ?_
    refine aw xe (aw xe (aa (aa (nwq [9,8,6,0] ?_))))
    refine qs (sr (am (aw xn (am ?_))))
    obtain ⟨h12,hF⟩|⟨h12,hF⟩:=oi hF
    ·refine fx 37 h12 ?_
     refine gn ?_
     refine gn ?_
     refine gn ?_
     refine gn ?_
     refine aw xp (nwq [42,6,0] ?_)
     refine ct rfl ?_
     refine sr (aa (nwq [4] ?_))
     refine qt ?_
     refine tr (br (tr (br ?_)))
     obtain rfl:=os hF
     subst K
     exact r1 (fun w1 hw=>⟨rfl,hw⟩)
    refine fx 37 h12 ?_
    refine gy (am (gy (am (gy ?_))))
    obtain ⟨t13,ht13,hF⟩:=bM hF
    refine QbM (E':=Qi b0_ (Cd.cs QL t13.2) 220) func198 rfl (by kernel_rfl) rfl rfl (fun w hw=>QcX _ _ _ _ ht13 w (Upd.again hu_ _) hw) ?_
    refine gy ?_
    refine aw (Qcq rfl) ?_
    refine aw xp (nwq [42,6,0] ?_)
    obtain ⟨h14,hF⟩|⟨h14,hF⟩:=oi hF
    ·refine ct h14 ?_
     refine sr (aa (nwq [4] ?_))
     refine qt ?_
     refine tr (br (tr (br ?_)))
     obtain rfl:=os hF
     subst K
     exact r1 (fun w1 hw=>⟨rfl,hw⟩)
    refine cf h14 ?_
    refine sns (am (aa (nt (qs (sr (am ?_))))))
    obtain ⟨t15,ht15,hF⟩:=bM hF
    refine Qav func129 rfl (by kernel_rfl) rfl rfl (fun w=>QdQ _ _ _ ht15 w) ?_
    refine aw (Qcq rfl) ?_
    refine nwq [46,1,0] ?_
    obtain ⟨h16,hF⟩|⟨h16,hF⟩:=oi hF
    ·refine ct h16 ?_
     refine Q7 ?_
     refine te (QD (tn ?_))
     exact Qk (ih _ _ _ hF K) ⟨rfl,rfl,trivial⟩
    refine cf h16 ?_
    refine sn (qs (sr (am ?_)))
    refine aw (Qa3 rfl) ?_
    refine fa 9 underlying220 rfl sizeOf3 ?_
    refine aw (Qe isAgg3 rfl (Qm (c:=(Qv .i64)) (y:=t13.2.f_gap) (Upd.again hu_ _) (Qaf.comp lw (fun z=>{ t13.2 with f_gap:=z }) (Qba t13.2)) rfl)) ?_
    refine aw (QfM rfl rfl) ?_
    refine nwq [51,1,0] ?_
    obtain ⟨h17,hF⟩|⟨h17,hF⟩:=oi hF
    ·refine ct h17 ?_
     refine sr (aa (nwq [4] ?_))
     refine qt ?_
     refine tr (br (tr (br ?_)))
     obtain rfl:=os hF
     subst K
     exact r1 (fun w1 hw=>⟨rfl,hw⟩)
    refine cf h17 ?_
    refine sns (am (am ?_))
    refine aw (Qa3 rfl) ?_
    refine fa 8 underlying220 rfl sizeOf3 ?_
    refine aw (Qe isAgg3 rfl (Qm (c:=(Qv .i64)) (y:=t13.2.f_n) (Upd.again hu_ _) (Qaf.comp lw (fun z=>{ t13.2 with f_n:=z }) (Qbk t13.2)) rfl)) ?_
    refine aw (Qa3 rfl) ?_
    refine fa 9 underlying220 rfl sizeOf3 ?_
    refine Qn (c:=(Qv .i64)) (z:=t13.2.f_n) (Upd.again hu_ _) (Qaf.comp lw (fun z=>{ t13.2 with f_gap:=z }) (Qba t13.2)) sizeOf3 rfl rfl rfl ?_
    refine ns (am ?_)
    obtain ⟨h18,hF⟩:=gd hF
    refine aw (Qbc underlying9 rfl ⟨_,rfl⟩ rfl h18) ?_
    refine aa (ns (am ?_))
    refine aw (QfK rfl rfl) ?_
    refine nwq [62,1,0] ?_
    obtain ⟨h19,hF⟩|⟨h19,hF⟩:=oi hF
    ·refine ct h19 ?_
     refine sr (aa (nwq [4] ?_))
     refine qt ?_
     refine br (tr (br ?_))
     obtain rfl:=os hF
     subst K
     exact r1 (fun w1 hw=>⟨rfl,hw⟩)
    refine cf h19 ?_
    refine QbQ ?_
    refine bm ?_
    exact Qk (ih _ _ _ hF K) ⟨rfl,rfl,trivial⟩
  exact os hF
 refine cf h2 ?_
 refine sn (qb ?_)
 obtain ⟨q20,hq20,hF⟩:=bM hF
 refine wq [1,0] ?_
 refine QfA (r:=r) (q:=q20) ?_ ?_
 ·intro K
  refine Qag.l1.partial_correctness  (motive:=fun i21 i22 x=>x=r→QbB (fun Y=>At 63 [(0,.pointer (some ⟨b0_,0,none⟩)),(1,.string i21)] (Wd w0 (f_ (Qi b0_ (Cd.cs QL i22) 220))) Y) _ _ _) ?_ _ _ _ hq20 K
  ·clear K hF
   intro g ih i21 i22 x hF K
   refine QW ?_
   refine qb (sr (am ?_))
   obtain ⟨t23,ht23,hF⟩:=bM hF
   refine cB func148 rfl (fun w hw=>Qeb _ _ _ ht23 w) ?_
   refine am ?_
   refine aw xe (aw xe (aw xe (aa (aa (aa (nt (qs (sr ?_))))))))
   refine am ?_
   refine aw (Qcq rfl) ?_
   refine nwq [26,6,5,0] ?_
   obtain ⟨h24,hF⟩|⟨h24,hF⟩:=oi hF
   ·refine ct h24 ?_
    refine sr (am (am ?_))
    obtain ⟨t25,ht25,hF⟩:=bM hF
    refine QbM (E':=Qi b0_ (Cd.cs QL t25.2) 220) func196 rfl (by kernel_rfl) rfl rfl (fun w hw=>Qe2 _ _ _ _ ht25 w (Upd.again hu_ _) hw hg_strconv_ErrRange hg_strconv_ErrSyntax) ?_
    refine aa (nwq [4] ?_)
    refine qt ?_
    refine tr (br (tr (br ?_)))
    obtain rfl:=os hF
    subst K
    exact r1 (fun w1 hw=>⟨rfl,hw⟩)
   refine cf h24 ?_
   refine sns (am ?_)
   obtain ⟨t26,ht26,hF⟩:=bM hF
   refine Qav func197 rfl (by kernel_rfl) rfl rfl (fun w=>Qel _ _ ht26 w) ?_
   refine am ?_
   refine aw xe (aw xe (aa (aa (nwq [9,8,6,0] ?_))))
   refine qs (sr (am (aw xn (am ?_))))
   obtain ⟨h27,hF⟩|⟨h27,hF⟩:=oi hF
   ·refine fx 37 h27 ?_
    refine gn ?_
    refine gn ?_
    refine gn ?_
    refine gn ?_
    refine aw xp (nwq [42,6,0] ?_)
    refine ct rfl ?_
    refine sr (aa (nwq [4] ?_))
    refine qt ?_
    refine tr (br (tr (br ?_)))
    obtain rfl:=os hF
    subst K
    exact r1 (fun w1 hw=>⟨rfl,hw⟩)
   refine fx 37 h27 ?_
   refine gy (am (gy (am (gy ?_))))
   obtain ⟨t28,ht28,hF⟩:=bM hF
   refine QbM (E':=Qi b0_ (Cd.cs QL t28.2) 220) func198 rfl (by kernel_rfl) rfl rfl (fun w hw=>QcX _ _ _ _ ht28 w (Upd.again hu_ _) hw) ?_
   refine gy ?_
   refine aw (Qcq rfl) ?_
   refine aw xp (nwq [42,6,0] ?_)
   obtain ⟨h29,hF⟩|⟨h29,hF⟩:=oi hF
   ·refine ct h29 ?_
    refine sr (aa (nwq [4] ?_))
    refine qt ?_
    refine tr (br (tr (br ?_)))
    obtain rfl:=os hF
    subst K
    exact r1 (fun w1 hw=>⟨rfl,hw⟩)
   refine cf h29 ?_
   refine sns (am (aa (nt (qs (sr (am ?_))))))
   obtain ⟨t30,ht30,hF⟩:=bM hF
   refine Qav func129 rfl (by kernel_rfl) rfl rfl (fun w=>QdQ _ _ _ ht30 w) ?_
   refine aw (Qcq rfl) ?_
   refine nwq [46,1,0] ?_
   obtain ⟨h31,hF⟩|⟨h31,hF⟩:=oi hF
   ·refine ct h31 ?_
    refine Q7 ?_
    refine te (QD (tn ?_))
    exact Qk (ih _ _ _ hF K) ⟨rfl,rfl,trivial⟩
   refine cf h31 ?_
   refine sn (qs (sr (am ?_)))
   refine aw (Qa3 rfl) ?_
   refine fa 9 underlying220 rfl sizeOf3 ?_
   refine aw (Qe isAgg3 rfl (Qm (c:=(Qv .i64)) (y:=t28.2.f_gap) (Upd.again hu_ _) (Qaf.comp lw (fun z=>{ t28.2 with f_gap:=z }) (Qba t28.2)) rfl)) ?_
   refine aw (QfM rfl rfl) ?_
   refine nwq [51,1,0] ?_
   obtain ⟨h32,hF⟩|⟨h32,hF⟩:=oi hF
   ·refine ct h32 ?_
    refine sr (aa (nwq [4] ?_))
    refine qt ?_
    refine tr (br (tr (br ?_)))
    obtain rfl:=os hF
    subst K
    exact r1 (fun w1 hw=>⟨rfl,hw⟩)
   refine cf h32 ?_
   refine sns (am (am ?_))
   refine aw (Qa3 rfl) ?_
   refine fa 8 underlying220 rfl sizeOf3 ?_
   refine aw (Qe isAgg3 rfl (Qm (c:=(Qv .i64)) (y:=t28.2.f_n) (Upd.again hu_ _) (Qaf.comp lw (fun z=>{ t28.2 with f_n:=z }) (Qbk t28.2)) rfl)) ?_
   refine aw (Qa3 rfl) ?_
   refine fa 9 underlying220 rfl sizeOf3 ?_
   refine Qn (c:=(Qv .i64)) (z:=t28.2.f_n) (Upd.again hu_ _) (Qaf.comp lw (fun z=>{ t28.2 with f_gap:=z }) (Qba t28.2)) sizeOf3 rfl rfl rfl ?_
   refine ns (am ?_)
   obtain ⟨h33,hF⟩:=gd hF
   refine aw (Qbc underlying9 rfl ⟨_,rfl⟩ rfl h33) ?_
   refine aa (ns (am ?_))
   refine aw (QfK rfl rfl) ?_
   refine nwq [62,1,0] ?_
   obtain ⟨h34,hF⟩|⟨h34,hF⟩:=oi hF
   ·refine ct h34 ?_
    refine sr (aa (nwq [4] ?_))
    refine qt ?_
    refine br (tr (br ?_))
    obtain rfl:=os hF
    subst K
    exact r1 (fun w1 hw=>⟨rfl,hw⟩)
   refine cf h34 ?_
   refine QbQ ?_
   refine bm ?_
   exact Qk (ih _ _ _ hF K) ⟨rfl,rfl,trivial⟩
 exact os hF
def Qcz(x0:QF):Option ((Vector Int 8)×Bool×QF) :=
 if (decide (x0.f_gap<0))=true then (some (x0.f_g,(x0.f_n==8),x0)) else (if (x0.f_n==8)=true then (some (x0.f_g,false,x0)) else (if (0:Int)≤0∧0≤x0.f_gap∧x0.f_gap≤(8:Int) then if (0:Int)≤wr .i64 ((wr .i64 (8-x0.f_n))+x0.f_gap)∧wr .i64 ((wr .i64 (8-x0.f_n))+x0.f_gap)≤8∧8≤(8:Int) then if (0:Int)≤x0.f_gap∧x0.f_gap≤x0.f_n∧x0.f_n≤(8:Int) then some (QdW (QdW (Vector.replicate 8 (0:Int):(Vector Int 8)) (Int.toNat 0) (List.take (Int.toNat (8-0)) (QdS (Vector.toList x0.f_g) 0 x0.f_gap))) (Int.toNat (wr .i64 ((wr .i64 (8-x0.f_n))+x0.f_gap))) (List.take (Int.toNat (8-wr .i64 ((wr .i64 (8-x0.f_n))+x0.f_gap))) (QdS (Vector.toList x0.f_g) x0.f_gap x0.f_n)),true,x0) else none else none else none))
set_option maxHeartbeats 3200000 in
theorem QgC(x0:QF)(b0_:Nat)(r:(Vector Int 8)×Bool×QF)(hF:Qcz x0=some r)(w:World){w0:World}{H_ G_:List Ent}{f_:Ent→List Ent}(hu_:Upd H_ (Qi b0_ (Cd.cs QL x0) 220) f_ G_)(hw_:Wd w0 H_ w) :
    Calls Tryz.prog 185 #[.pointer (some ⟨b0_,0,none⟩)] w (fun e w'=>e=.returned (.tuple #[.agg (Cd.cs (QQ (Qv .u16) 8 (by decide)) r.1).toArray,.bool r.2.1])∧Wd w0 (f_ (Qi b0_ (Cd.cs QL r.2.2) 220)) w'):=by
 unfold Qcz at hF
 refine ce (l:=[.pointer (some ⟨b0_,0,none⟩)]) func185 rfl rfl ?_
 refine QdJ hu_ hw_ ?_
 refine sr ?_
 refine al (cs:=Cd.cs (QQ (Qv .u16) 8 (by decide)) zv6) zeroValue204 ?_
 intro b1
 refine aa (nt (qs (sr (am ?_))))
 refine aw (Qa3 rfl) ?_
 refine fa 9 underlying220 rfl sizeOf3 ?_
 refine aw (Qe isAgg3 rfl (Qm (c:=(Qv .i64)) (y:=x0.f_gap) (.s (Upd.again hu_ _)) (Qaf.comp lw (fun z=>{ x0 with f_gap:=z }) (Qba x0)) rfl)) ?_
 refine aw xl (nwq [9,2,0] ?_)
 obtain ⟨h2,hF⟩|⟨h2,hF⟩:=oi hF
 ·refine ct h2 ?_
  refine qs (wq [2,0] ?_)
  refine Qey [.q 10 (fun g3=>.pointer (some ⟨b0_,0,none⟩)) [] 0 0,.q 11 (fun g3=>.pointer (some ⟨b0_,0,none⟩)) [0] 0 0,.q 12 (fun g3=>.pointer (some ⟨b0_,0+0,none⟩)) [1] 0 0,.q 13 (fun g3=>.agg (Cd.cs (QQ (Qv .u16) 8 (by decide)) x0.f_g).toArray) [2] 0 0,.q 14 (fun g3=>.pointer (some ⟨b0_,0,none⟩)) [] 0 1,.q 15 (fun g3=>.pointer (some ⟨b0_,0,none⟩)) [4] 0 1,.q 16 (fun g3=>.pointer (some ⟨b0_,0+8,none⟩)) [5] 0 1,.q 17 (fun g3=>.int .i64 x0.f_n) [6] 0 1,.q 18 (fun g3=>.bool (x0.f_n==8)) [7] 0 1,.st 0 none [3],.q 3 (fun g3=>.bool (x0.f_n==8)) [8] 1 1] (fun g3 s=>match s with | 0=>(Wd w0 (Qi b1 (Cd.cs (QQ (Qv .u16) 8 (by decide)) zv6) 204::f_ (Qi b0_ (Cd.cs QL x0) 220))) | _=>(Wd w0 (Qi b1 (Cd.cs (QQ (Qv .u16) 8 (by decide)) x0.f_g) 204::f_ (Qi b0_ (Cd.cs QL x0) 220)))) 1 (by kernel_rfl) (by kernel_rfl) (by kernel_rfl) (by kernel_rfl) (by kernel_rfl) ⟨fun _ _ _=>rfl,fun _ _ _=>rfl,fun _ _ _=>rfl,fun _ _ _=>rfl,fun _ _ _=>rfl,fun _ _ _=>rfl,fun _ _ _=>rfl,fun _ _ _=>rfl,fun _ _ _=>rfl,fun _ _ _=>rfl,fun _ _ _=>rfl,trivial⟩ (by kernel_rfl) (fun w_ h=>⟨fun _=>g3 0 none 0 none w_,h.drew⟩) ⟨?_,?_,?_,?_,?_,?_,?_,?_,?_,?_,?_,trivial⟩ ?_
  ·intro Lx g3 s K hl hh k
   show At 63 ((0,_)::(2,_)::Lx) _ _
   refine am ?_
   exact Qs k
  ·intro Lx g3 s K hl hh k
   show At 63 ((10,_)::(0,_)::(2,_)::Lx) _ _
   refine aw (Qa3 rfl) ?_
   exact Qs k
  ·intro Lx g3 s K hl hh k
   show At 63 ((11,_)::(0,_)::(2,_)::Lx) _ _
   refine fa 0 underlying220 rfl sizeOf204 ?_
   exact Qs k
  ·intro Lx g3 s K hl hh k
   show At 63 ((12,_)::(0,_)::(2,_)::Lx) _ _
   obtain rfl:s=0:=by omega
   refine aw (Qg (c:=(QQ (Qv .u16) 8 (by decide))) (z:=x0.f_g) isAgg204 sizeOf204 rfl (Qp (.s (Upd.again hu_ _)) (Qaf.comp lw (fun z=>{ x0 with f_g:=z }) (Qc3 x0)))) ?_
   exact Qs k
  ·intro Lx g3 s K hl hh k
   show At 63 ((0,_)::(2,_)::Lx) _ _
   refine am ?_
   exact Qs k
  ·intro Lx g3 s K hl hh k
   show At 63 ((14,_)::(0,_)::(2,_)::Lx) _ _
   refine aw (Qa3 rfl) ?_
   exact Qs k
  ·intro Lx g3 s K hl hh k
   show At 63 ((15,_)::(0,_)::(2,_)::Lx) _ _
   refine fa 8 underlying220 rfl sizeOf3 ?_
   exact Qs k
  ·intro Lx g3 s K hl hh k
   show At 63 ((16,_)::(0,_)::(2,_)::Lx) _ _
   rcases (by omega:s=0∨s=1) with rfl | rfl
   ·skip
    refine aw (Qe isAgg3 rfl (Qm (c:=(Qv .i64)) (y:=x0.f_n) (.s (Upd.again hu_ _)) (Qaf.comp lw (fun z=>{ x0 with f_n:=z }) (Qbk x0)) rfl)) ?_
    exact Qs k
   skip
   refine aw (Qe isAgg3 rfl (Qm (c:=(Qv .i64)) (y:=x0.f_n) (.s (Upd.again hu_ _)) (Qaf.comp lw (fun z=>{ x0 with f_n:=z }) (Qbk x0)) rfl)) ?_
   exact Qs k
  ·intro Lx g3 s K hl hh k
   show At 63 ((17,_)::(0,_)::(2,_)::Lx) _ _
   refine aw xq ?_
   exact Qs k
  ·intro Lx g3 K k
   show At 63 ((13,_)::(0,_)::(2,_)::Lx) _ _
   refine Qn (c:=(QQ (Qv .u16) 8 (by decide))) (z:=x0.f_g) .z lw sizeOf204 rfl rfl rfl ?_
   exact Qs k
  ·intro Lx g3 s K hl hh k
   show At 63 ((18,_)::(0,_)::(2,_)::Lx) _ _
   refine aa ?_
   exact Qs k
  intro g3
  show At 63 [(10,_),(11,_),(12,_),(13,_),(14,_),(15,_),(16,_),(17,_),(18,_),(3,_),(0,_),(2,_)] _ _
  refine wq [3,2] ?_
  refine tn (rt ?_)
  have K:=os hF
  subst K
  exact QU rfl (QE (c:=(QQ (Qv .u16) 8 (by decide))) (y:=x0.f_g) rfl .z lw isAgg204 sizeOf204 (.inl rfl)) (QS rfl) (fun w1 hw=>⟨rfl,hw.pop⟩)
 refine cf h2 ?_
 refine sn (qs (sr (am ?_)))
 refine aw (Qa3 rfl) ?_
 refine fa 8 underlying220 rfl sizeOf3 ?_
 refine aw (Qe isAgg3 rfl (Qm (c:=(Qv .i64)) (y:=x0.f_n) (.s (Upd.again hu_ _)) (Qaf.comp lw (fun z=>{ x0 with f_n:=z }) (Qbk x0)) rfl)) ?_
 refine aw xq (nwq [23,2,0] ?_)
 obtain ⟨h4,hF⟩|⟨h4,hF⟩:=oi hF
 ·refine ct h4 ?_
  refine sr (am ?_)
  refine aw (Qa3 rfl) ?_
  refine fa 0 underlying220 rfl sizeOf204 ?_
  refine aw (Qg (c:=(QQ (Qv .u16) 8 (by decide))) (z:=x0.f_g) isAgg204 sizeOf204 rfl (Qp (.s (Upd.again hu_ _)) (Qaf.comp lw (fun z=>{ x0 with f_g:=z }) (Qc3 x0)))) ?_
  refine Qn (c:=(QQ (Qv .u16) 8 (by decide))) (z:=x0.f_g) .z lw sizeOf204 rfl rfl rfl ?_
  refine aa (nwq [3,2] ?_)
  refine rt ?_
  have K:=os hF
  subst K
  exact QU rfl (QE (c:=(QQ (Qv .u16) 8 (by decide))) (y:=x0.f_g) rfl .z lw isAgg204 sizeOf204 (.inl rfl)) (QS rfl) (fun w1 hw=>⟨rfl,hw.pop⟩)
 refine cf h4 ?_
 refine sns ?_
 refine al (cs:=Cd.cs (QQ (Qv .u16) 8 (by decide)) zv6) zeroValue204 ?_
 intro b5
 refine nt (qs (wq [4,2,0] ?_))
 obtain ⟨h6,hF⟩:=gd hF
 refine Qey [.q 28 (fun g7=>.slice (some ⟨b5,0,none⟩) (Vector.toList zv6).length 8) [] 0 0,.q 29 (fun g7=>.pointer (some ⟨b0_,0,none⟩)) [] 0 0,.q 30 (fun g7=>.pointer (some ⟨b0_,0,none⟩)) [1] 0 0,.q 31 (fun g7=>.pointer (some ⟨b0_,0+0,none⟩)) [2] 0 0,.q 32 (fun g7=>.pointer (some ⟨b0_,0,none⟩)) [] 0 0,.q 33 (fun g7=>.pointer (some ⟨b0_,0,none⟩)) [4] 0 0,.q 34 (fun g7=>.pointer (some ⟨b0_,0+9,none⟩)) [5] 0 0,.q 35 (fun g7=>.int .i64 x0.f_gap) [6] 0 0,.q 36 (fun g7=>.slice (rsp (some ⟨b0_,0+0,none⟩) 8 0 (Cd.sz (Qv .u16))) (QdS (Vector.toList x0.f_g) 0 x0.f_gap).length (8-Int.toNat 0)) [3,7] 0 0,.st 0 (some (37,fun g7=>.int .i64 (min (List.length (QdS (Vector.toList x0.f_g) 0 x0.f_gap)) (Int.toNat (8-0)):Nat))) [0,8]] (fun g7 s=>match s with | 0=>(Wd w0 (Qi b5 (Cd.cs (QQ (Qv .u16) 8 (by decide)) zv6) 204::Qi b1 (Cd.cs (QQ (Qv .u16) 8 (by decide)) zv6) 204::f_ (Qi b0_ (Cd.cs QL x0) 220))) | _=>(Wd w0 (Qi b5 (Cd.cs (QQ (Qv .u16) 8 (by decide)) (QdW zv6 (Int.toNat 0) (List.take (Int.toNat (8-0)) (QdS (Vector.toList x0.f_g) 0 x0.f_gap)))) 204::Qi b1 (Cd.cs (QQ (Qv .u16) 8 (by decide)) zv6) 204::f_ (Qi b0_ (Cd.cs QL x0) 220)))) 1 (by kernel_rfl) (by kernel_rfl) (by kernel_rfl) (by kernel_rfl) (by kernel_rfl) ⟨fun _ _ _=>rfl,fun _ _ _=>rfl,fun _ _ _=>rfl,fun _ _ _=>rfl,fun _ _ _=>rfl,fun _ _ _=>rfl,fun _ _ _=>rfl,fun _ _ _=>rfl,fun _ _ _=>rfl,fun _ _ _=>rfl,trivial⟩ (by kernel_rfl) (fun w_ h=>⟨fun _=>g3 0 none 0 none w_,h.drew⟩) ⟨?_,?_,?_,?_,?_,?_,?_,?_,?_,?_,trivial⟩ ?_
 ·intro Lx g7 s K hl hh k
  show At 63 ((0,_)::(2,_)::(4,_)::Lx) _ _
  obtain rfl:s=0:=by omega
  refine aw (Qfk zv6 underlying204 sizeOf203 rfl) ?_
  exact Qs k
 ·intro Lx g7 s K hl hh k
  show At 63 ((0,_)::(2,_)::(4,_)::Lx) _ _
  refine am ?_
  exact Qs k
 ·intro Lx g7 s K hl hh k
  show At 63 ((29,_)::(0,_)::(2,_)::(4,_)::Lx) _ _
  refine aw (Qa3 rfl) ?_
  exact Qs k
 ·intro Lx g7 s K hl hh k
  show At 63 ((30,_)::(0,_)::(2,_)::(4,_)::Lx) _ _
  refine fa 0 underlying220 rfl sizeOf204 ?_
  exact Qs k
 ·intro Lx g7 s K hl hh k
  show At 63 ((0,_)::(2,_)::(4,_)::Lx) _ _
  refine am ?_
  exact Qs k
 ·intro Lx g7 s K hl hh k
  show At 63 ((32,_)::(0,_)::(2,_)::(4,_)::Lx) _ _
  refine aw (Qa3 rfl) ?_
  exact Qs k
 ·intro Lx g7 s K hl hh k
  show At 63 ((33,_)::(0,_)::(2,_)::(4,_)::Lx) _ _
  refine fa 9 underlying220 rfl sizeOf3 ?_
  exact Qs k
 ·intro Lx g7 s K hl hh k
  show At 63 ((34,_)::(0,_)::(2,_)::(4,_)::Lx) _ _
  obtain rfl:s=0:=by omega
  refine aw (Qe isAgg3 rfl (Qm (c:=(Qv .i64)) (y:=x0.f_gap) (.s (.s (Upd.again hu_ _))) (Qaf.comp lw (fun z=>{ x0 with f_gap:=z }) (Qba x0)) rfl)) ?_
  exact Qs k
 ·intro Lx g7 s K hl hh k
  show At 63 ((31,_)::(35,_)::(0,_)::(2,_)::(4,_)::Lx) _ _
  obtain rfl:s=0:=by omega
  refine aw (QiV (c:=(Qv .u16)) (v:=x0.f_g) (l:=0) (h:=x0.f_gap) underlying204 sizeOf203 rfl rfl ⟨_,rfl⟩ h6) ?_
  exact Qs k
 ·intro Lx g7 K k
  show At 63 ((28,_)::(36,_)::(0,_)::(2,_)::(4,_)::Lx) _ _
  refine QnT (lo:=0) (hi:=8) (xs:=QdS (Vector.toList x0.f_g) 0 x0.f_gap) .z lw rfl (by decide) underlying209 (by kernel_rfl) rfl (Qn9 (by decide)) (by simp) rfl Qoa (fun w1 hw=>(Row.sub (Qe7 (.s (.s (Upd.again hu_ _))) (Qaf.comp lw (fun z=>{ x0 with f_g:=z }) (Qc3 x0)) hw) (Qr9 h6))) rfl ?_
  exact Qs k
 intro g7
 show At 63 [(28,_),(29,_),(30,_),(31,_),(32,_),(33,_),(34,_),(35,_),(36,_),(37,_),(0,_),(2,_),(4,_)] _ _
 refine tn (qs (wq [4,2,0] ?_))
 obtain ⟨h8,hF⟩:=gd hF
 obtain ⟨h9,hF⟩:=gd hF
 refine Qey [.q 38 (fun g10=>.pointer (some ⟨b0_,0,none⟩)) [] 0 1,.q 39 (fun g10=>.pointer (some ⟨b0_,0,none⟩)) [0] 0 1,.q 40 (fun g10=>.pointer (some ⟨b0_,0+8,none⟩)) [1] 0 0,.q 41 (fun g10=>.int .i64 x0.f_n) [2] 0 0,.q 42 (fun g10=>.int .i64 (wr .i64 (8-x0.f_n))) [3] 0 0,.q 43 (fun g10=>.pointer (some ⟨b0_,0,none⟩)) [] 0 1,.q 44 (fun g10=>.pointer (some ⟨b0_,0,none⟩)) [5] 0 0,.q 45 (fun g10=>.pointer (some ⟨b0_,0+9,none⟩)) [6] 0 0,.q 46 (fun g10=>.int .i64 x0.f_gap) [7] 0 0,.q 47 (fun g10=>.int .i64 (wr .i64 ((wr .i64 (8-x0.f_n))+x0.f_gap))) [4,8] 0 0,.q 48 (fun g10=>.slice (rsp (some ⟨b5,0,none⟩) 8 (wr .i64 ((wr .i64 (8-x0.f_n))+x0.f_gap)) (Cd.sz (Qv .u16))) (QdS (Vector.toList (QdW zv6 (Int.toNat 0) (List.take (Int.toNat (8-0)) (QdS (Vector.toList x0.f_g) 0 x0.f_gap)))) (wr .i64 ((wr .i64 (8-x0.f_n))+x0.f_gap)) 8).length (8-Int.toNat (wr .i64 ((wr .i64 (8-x0.f_n))+x0.f_gap)))) [9] 0 0,.q 49 (fun g10=>.pointer (some ⟨b0_,0,none⟩)) [] 0 0,.q 50 (fun g10=>.pointer (some ⟨b0_,0,none⟩)) [11] 0 0,.q 51 (fun g10=>.pointer (some ⟨b0_,0+0,none⟩)) [12] 0 0,.q 52 (fun g10=>.pointer (some ⟨b0_,0,none⟩)) [] 0 0,.q 53 (fun g10=>.pointer (some ⟨b0_,0,none⟩)) [14] 0 0,.q 54 (fun g10=>.pointer (some ⟨b0_,0+9,none⟩)) [15] 0 0,.q 55 (fun g10=>.int .i64 x0.f_gap) [16] 0 0,.q 56 (fun g10=>.pointer (some ⟨b0_,0,none⟩)) [] 0 0,.q 57 (fun g10=>.pointer (some ⟨b0_,0,none⟩)) [18] 0 0,.q 58 (fun g10=>.pointer (some ⟨b0_,0+8,none⟩)) [19] 0 0,.q 59 (fun g10=>.int .i64 x0.f_n) [20] 0 0,.q 60 (fun g10=>.slice (rsp (some ⟨b0_,0+0,none⟩) 8 x0.f_gap (Cd.sz (Qv .u16))) (QdS (Vector.toList x0.f_g) x0.f_gap x0.f_n).length (8-Int.toNat x0.f_gap)) [13,17,21] 0 0,.st 0 (some (61,fun g10=>.int .i64 (min (List.length (QdS (Vector.toList x0.f_g) x0.f_gap x0.f_n)) (Int.toNat (8-wr .i64 ((wr .i64 (8-x0.f_n))+x0.f_gap))):Nat))) [10,22]] (fun g10 s=>match s with | 0=>(Wd w0 (Qi b5 (Cd.cs (QQ (Qv .u16) 8 (by decide)) (QdW zv6 (Int.toNat 0) (List.take (Int.toNat (8-0)) (QdS (Vector.toList x0.f_g) 0 x0.f_gap)))) 204::Qi b1 (Cd.cs (QQ (Qv .u16) 8 (by decide)) zv6) 204::f_ (Qi b0_ (Cd.cs QL x0) 220))) | _=>(Wd w0 (Qi b5 (Cd.cs (QQ (Qv .u16) 8 (by decide)) (QdW (QdW zv6 (Int.toNat 0) (List.take (Int.toNat (8-0)) (QdS (Vector.toList x0.f_g) 0 x0.f_gap))) (Int.toNat (wr .i64 ((wr .i64 (8-x0.f_n))+x0.f_gap))) (List.take (Int.toNat (8-wr .i64 ((wr .i64 (8-x0.f_n))+x0.f_gap))) (QdS (Vector.toList x0.f_g) x0.f_gap x0.f_n)))) 204::Qi b1 (Cd.cs (QQ (Qv .u16) 8 (by decide)) zv6) 204::f_ (Qi b0_ (Cd.cs QL x0) 220)))) 1 (by kernel_rfl) (by kernel_rfl) (by kernel_rfl) (by kernel_rfl) (by kernel_rfl) ⟨fun _ _ _=>rfl,fun _ _ _=>rfl,fun _ _ _=>rfl,fun _ _ _=>rfl,fun _ _ _=>rfl,fun _ _ _=>rfl,fun _ _ _=>rfl,fun _ _ _=>rfl,fun _ _ _=>rfl,fun _ _ _=>rfl,fun _ _ _=>rfl,fun _ _ _=>rfl,fun _ _ _=>rfl,fun _ _ _=>rfl,fun _ _ _=>rfl,fun _ _ _=>rfl,fun _ _ _=>rfl,fun _ _ _=>rfl,fun _ _ _=>rfl,fun _ _ _=>rfl,fun _ _ _=>rfl,fun _ _ _=>rfl,fun _ _ _=>rfl,fun _ _ _=>rfl,trivial⟩ (by kernel_rfl) (fun w_ h=>⟨fun _=>g3 0 none 0 none w_,h.drew⟩) ⟨?_,?_,?_,?_,?_,?_,?_,?_,?_,?_,?_,?_,?_,?_,?_,?_,?_,?_,?_,?_,?_,?_,?_,?_,trivial⟩ ?_
 ·intro Lx g10 s K hl hh k
  show At 63 ((0,_)::(2,_)::(4,_)::Lx) _ _
  refine am ?_
  exact Qs k
 ·intro Lx g10 s K hl hh k
  show At 63 ((38,_)::(0,_)::(2,_)::(4,_)::Lx) _ _
  refine aw (Qa3 rfl) ?_
  exact Qs k
 ·intro Lx g10 s K hl hh k
  show At 63 ((39,_)::(0,_)::(2,_)::(4,_)::Lx) _ _
  refine fa 8 underlying220 rfl sizeOf3 ?_
  exact Qs k
 ·intro Lx g10 s K hl hh k
  show At 63 ((40,_)::(0,_)::(2,_)::(4,_)::Lx) _ _
  obtain rfl:s=0:=by omega
  refine aw (Qe isAgg3 rfl (Qm (c:=(Qv .i64)) (y:=x0.f_n) (.s (.s (Upd.again hu_ _))) (Qaf.comp lw (fun z=>{ x0 with f_n:=z }) (Qbk x0)) rfl)) ?_
  exact Qs k
 ·intro Lx g10 s K hl hh k
  show At 63 ((41,_)::(0,_)::(2,_)::(4,_)::Lx) _ _
  refine aw (Qdh rfl rfl) ?_
  exact Qs k
 ·intro Lx g10 s K hl hh k
  show At 63 ((0,_)::(2,_)::(4,_)::Lx) _ _
  refine am ?_
  exact Qs k
 ·intro Lx g10 s K hl hh k
  show At 63 ((43,_)::(0,_)::(2,_)::(4,_)::Lx) _ _
  refine aw (Qa3 rfl) ?_
  exact Qs k
 ·intro Lx g10 s K hl hh k
  show At 63 ((44,_)::(0,_)::(2,_)::(4,_)::Lx) _ _
  refine fa 9 underlying220 rfl sizeOf3 ?_
  exact Qs k
 ·intro Lx g10 s K hl hh k
  show At 63 ((45,_)::(0,_)::(2,_)::(4,_)::Lx) _ _
  obtain rfl:s=0:=by omega
  refine aw (Qe isAgg3 rfl (Qm (c:=(Qv .i64)) (y:=x0.f_gap) (.s (.s (Upd.again hu_ _))) (Qaf.comp lw (fun z=>{ x0 with f_gap:=z }) (Qba x0)) rfl)) ?_
  exact Qs k
 ·intro Lx g10 s K hl hh k
  show At 63 ((42,_)::(46,_)::(0,_)::(2,_)::(4,_)::Lx) _ _
  refine aw xa ?_
  exact Qs k
 ·intro Lx g10 s K hl hh k
  show At 63 ((47,_)::(0,_)::(2,_)::(4,_)::Lx) _ _
  obtain rfl:s=0:=by omega
  refine aw (QiV (c:=(Qv .u16)) (v:=QdW zv6 (Int.toNat 0) (List.take (Int.toNat (8-0)) (QdS (Vector.toList x0.f_g) 0 x0.f_gap))) (l:=wr .i64 ((wr .i64 (8-x0.f_n))+x0.f_gap)) (h:=8) underlying204 sizeOf203 rfl ⟨_,rfl⟩ rfl h8) ?_
  exact Qs k
 ·intro Lx g10 s K hl hh k
  show At 63 ((0,_)::(2,_)::(4,_)::Lx) _ _
  refine am ?_
  exact Qs k
 ·intro Lx g10 s K hl hh k
  show At 63 ((49,_)::(0,_)::(2,_)::(4,_)::Lx) _ _
  refine aw (Qa3 rfl) ?_
  exact Qs k
 ·intro Lx g10 s K hl hh k
  show At 63 ((50,_)::(0,_)::(2,_)::(4,_)::Lx) _ _
  refine fa 0 underlying220 rfl sizeOf204 ?_
  exact Qs k
 ·intro Lx g10 s K hl hh k
  show At 63 ((0,_)::(2,_)::(4,_)::Lx) _ _
  refine am ?_
  exact Qs k
 ·intro Lx g10 s K hl hh k
  show At 63 ((52,_)::(0,_)::(2,_)::(4,_)::Lx) _ _
  refine aw (Qa3 rfl) ?_
  exact Qs k
 ·intro Lx g10 s K hl hh k
  show At 63 ((53,_)::(0,_)::(2,_)::(4,_)::Lx) _ _
  refine fa 9 underlying220 rfl sizeOf3 ?_
  exact Qs k
 ·intro Lx g10 s K hl hh k
  show At 63 ((54,_)::(0,_)::(2,_)::(4,_)::Lx) _ _
  obtain rfl:s=0:=by omega
  refine aw (Qe isAgg3 rfl (Qm (c:=(Qv .i64)) (y:=x0.f_gap) (.s (.s (Upd.again hu_ _))) (Qaf.comp lw (fun z=>{ x0 with f_gap:=z }) (Qba x0)) rfl)) ?_
  exact Qs k
 ·intro Lx g10 s K hl hh k
  show At 63 ((0,_)::(2,_)::(4,_)::Lx) _ _
  refine am ?_
  exact Qs k
 ·intro Lx g10 s K hl hh k
  show At 63 ((56,_)::(0,_)::(2,_)::(4,_)::Lx) _ _
  refine aw (Qa3 rfl) ?_
  exact Qs k
 ·intro Lx g10 s K hl hh k
  show At 63 ((57,_)::(0,_)::(2,_)::(4,_)::Lx) _ _
  refine fa 8 underlying220 rfl sizeOf3 ?_
  exact Qs k
 ·intro Lx g10 s K hl hh k
  show At 63 ((58,_)::(0,_)::(2,_)::(4,_)::Lx) _ _
  obtain rfl:s=0:=by omega
  refine aw (Qe isAgg3 rfl (Qm (c:=(Qv .i64)) (y:=x0.f_n) (.s (.s (Upd.again hu_ _))) (Qaf.comp lw (fun z=>{ x0 with f_n:=z }) (Qbk x0)) rfl)) ?_
  exact Qs k
 ·intro Lx g10 s K hl hh k
  show At 63 ((51,_)::(55,_)::(59,_)::(0,_)::(2,_)::(4,_)::Lx) _ _
  obtain rfl:s=0:=by omega
  refine aw (QiV (c:=(Qv .u16)) (v:=x0.f_g) (l:=x0.f_gap) (h:=x0.f_n) underlying204 sizeOf203 rfl ⟨_,rfl⟩ ⟨_,rfl⟩ h9) ?_
  exact Qs k
 ·intro Lx g10 K k
  show At 63 ((48,_)::(60,_)::(0,_)::(2,_)::(4,_)::Lx) _ _
  refine QnT (lo:=wr .i64 ((wr .i64 (8-x0.f_n))+x0.f_gap)) (hi:=8) (xs:=QdS (Vector.toList x0.f_g) x0.f_gap x0.f_n) .z lw rfl h8 underlying209 (by kernel_rfl) rfl rfl (Qfn (Qr9 h8)) rfl Qoa (fun w1 hw=>(Row.sub (Qe7 (.s (.s (Upd.again hu_ _))) (Qaf.comp lw (fun z=>{ x0 with f_g:=z }) (Qc3 x0)) hw) (Qr9 h9))) rfl ?_
  exact Qs k
 intro g10
 show At 63 [(38,_),(39,_),(40,_),(41,_),(42,_),(43,_),(44,_),(45,_),(46,_),(47,_),(48,_),(49,_),(50,_),(51,_),(52,_),(53,_),(54,_),(55,_),(56,_),(57,_),(58,_),(59,_),(60,_),(61,_),(0,_),(2,_),(4,_)] _ _
 refine tn (sr ?_)
 refine aw (Qg (c:=(QQ (Qv .u16) 8 (by decide))) (z:=QdW (QdW zv6 (Int.toNat 0) (List.take (Int.toNat (8-0)) (QdS (Vector.toList x0.f_g) 0 x0.f_gap))) (Int.toNat (wr .i64 ((wr .i64 (8-x0.f_n))+x0.f_gap))) (List.take (Int.toNat (8-wr .i64 ((wr .i64 (8-x0.f_n))+x0.f_gap))) (QdS (Vector.toList x0.f_g) x0.f_gap x0.f_n))) isAgg204 sizeOf204 rfl (Qp .z lw)) ?_
 refine Qn (c:=(QQ (Qv .u16) 8 (by decide))) (z:=QdW (QdW zv6 (Int.toNat 0) (List.take (Int.toNat (8-0)) (QdS (Vector.toList x0.f_g) 0 x0.f_gap))) (Int.toNat (wr .i64 ((wr .i64 (8-x0.f_n))+x0.f_gap))) (List.take (Int.toNat (8-wr .i64 ((wr .i64 (8-x0.f_n))+x0.f_gap))) (QdS (Vector.toList x0.f_g) x0.f_gap x0.f_n))) (.s .z) lw sizeOf204 rfl rfl rfl ?_
 refine aa (qn (dz (wq [3,2] ?_)))
 refine tn (qt ?_)
 have K:=os hF
 subst K
 exact QU rfl (QE (c:=(QQ (Qv .u16) 8 (by decide))) (y:=QdW (QdW zv6 (Int.toNat 0) (List.take (Int.toNat (8-0)) (QdS (Vector.toList x0.f_g) 0 x0.f_gap))) (Int.toNat (wr .i64 ((wr .i64 (8-x0.f_n))+x0.f_gap))) (List.take (Int.toNat (8-wr .i64 ((wr .i64 (8-x0.f_n))+x0.f_gap))) (QdS (Vector.toList x0.f_g) x0.f_gap x0.f_n))) rfl .z lw isAgg204 sizeOf204 (.inl rfl)) (QS rfl) (fun w1 hw=>⟨rfl,hw.pop⟩)
def Qcj.l0(t5:(Vector Int 8)×Bool×QF)(i10:Int)(i11:(Vector Int 16)):Option ((Vector Int 16)) :=
 if (decide (i10<8))=true then (if (0:Int)≤i10∧i10<8 then if (0:Int)≤wr .i64 (2*i10)∧wr .i64 (2*i10)<16 then if (0:Int)≤wr .i64 ((wr .i64 (2*i10))+1)∧wr .i64 ((wr .i64 (2*i10))+1)<16 then Qcj.l0 t5 (wr .i64 (i10+1)) (Qb2 (Qb2 i11 (wr .i64 (2*i10)) (wr .u8 (Qh8 .u16 (Qbb t5.1 i10) 8))) (wr .i64 ((wr .i64 (2*i10))+1)) (wr .u8 (Qbb t5.1 i10))) else none else none else none) else (some i11)
 partial_fixpoint
def Qcj(x0:ByteArray):Option ((Vector Int 16)×Int) :=
 Qag ({ ({ f_g:=(Vector.replicate 8 (0:Int):(Vector Int 8)),f_n:=(0:Int),f_gap:=(0:Int) }:QF) with f_gap:=(-1) }) x0>>=fun t3=>if (!t3.1)=true then (some ((Vector.replicate 16 (0:Int):(Vector Int 16)),5)) else (Qcz t3.2>>=fun t5=>if (!t5.2.1)=true then (some ((Vector.replicate 16 (0:Int):(Vector Int 16)),5)) else (Qcj.l0 t5 0 (Vector.replicate 16 (0:Int):(Vector Int 16))>>=fun q9=>some (q9,0)))
theorem QkC(x0:ByteArray)(r:(Vector Int 16)×Int)(hF:Qcj x0=some r)(w:World)(hg_strconv_ErrRange:GV_strconv_ErrRange w)(hg_strconv_ErrSyntax:GV_strconv_ErrSyntax w) :
    Calls Tryz.prog 153 #[.string x0] w (fun e w'=>e=.returned (.tuple #[.agg (Cd.cs (QQ (Qv .u8) 16 (by decide)) r.1).toArray,.int .i64 r.2])∧Below w.heap.size w w'):=by
 unfold Qcj at hF
 refine ce (l:=[.string x0]) func153 rfl rfl ?_
 refine QN ?_
 refine sr ?_
 refine al (cs:=Cd.cs (QQ (Qv .u8) 16 (by decide)) zv3) zeroValue53 ?_
 intro b1
 refine aa (ns ?_)
 refine aw (Qw (zs:=Cd.cs QL zv1) (cs:=Cd.cs QL ({ zv1 with f_gap:=(-1) })) underlying220 zeroValue220 rfl (Qf5) rfl (QaB (c:=(Qv .i64)) (z:=(-1)) rfl (Qba zv1) rfl rfl)) ?_
 refine Qbv (cs:=Cd.cs QL ({ zv1 with f_gap:=(-1) })) rfl rfl rfl ?_
 intro b2
 refine aa (nt (qs (sr (am (am ?_)))))
 obtain ⟨t3,ht3,hF⟩:=bM hF
 refine QbM (E':=Qi b2 (Cd.cs QL t3.2) 220) func184 rfl (by kernel_rfl) rfl rfl (fun w hw=>Qht _ _ _ _ ht3 w .z hw hg_strconv_ErrRange hg_strconv_ErrSyntax) ?_
 refine aw (Qcq rfl) ?_
 refine nwq [15,4,2] ?_
 obtain ⟨h4,hF⟩|⟨h4,hF⟩:=oi hF
 ·refine ct h4 ?_
  refine sr ?_
  refine aw (Qb3 (zs:=Cd.cs (QQ (Qv .u8) 16 (by decide)) zv3) (cs:=Cd.cs (QQ (Qv .u8) 16 (by decide)) zv3) underlying53 zeroValue53 rfl sizeOf5 rfl rfl) ?_
  refine Qn (c:=(QQ (Qv .u8) 16 (by decide))) (z:=zv3) (.s .z) lw sizeOf53 rfl rfl rfl ?_
  refine aa (qn (dz (wq [3,2] ?_)))
  refine tn (rt ?_)
  have K:=os hF
  subst K
  exact QU rfl (QE (c:=(QQ (Qv .u8) 16 (by decide))) (y:=zv3) rfl .z lw isAgg53 sizeOf53 (.inl rfl)) (QS rfl) wb
 refine cf h4 ?_
 refine sns (am ?_)
 obtain ⟨t5,ht5,hF⟩:=bM hF
 refine QbM (E':=Qi b2 (Cd.cs QL t5.2.2) 220) func185 rfl (by kernel_rfl) rfl rfl (fun w hw=>QgC _ _ _ ht5 w .z hw) ?_
 refine am ?_
 refine aw xe (aw xe ?_)
 refine al (cs:=Cd.cs (QQ (Qv .u16) 8 (by decide)) zv6) zeroValue204 ?_
 intro b6
 refine Qn (c:=(QQ (Qv .u16) 8 (by decide))) (z:=t5.1) .z lw sizeOf204 rfl rfl rfl ?_
 refine aa (qn ?_)
 refine Qam (H:=_) (.s .z) ?_
 refine tn (qs (sr (am ?_)))
 refine aw (Qcq rfl) ?_
 refine nwq [23,5,2] ?_
 obtain ⟨h7,hF⟩|⟨h7,hF⟩:=oi hF
 ·refine ct h7 ?_
  refine sr ?_
  refine aw (Qb3 (zs:=Cd.cs (QQ (Qv .u8) 16 (by decide)) zv3) (cs:=Cd.cs (QQ (Qv .u8) 16 (by decide)) zv3) underlying53 zeroValue53 rfl sizeOf5 rfl rfl) ?_
  refine Qn (c:=(QQ (Qv .u8) 16 (by decide))) (z:=zv3) (.s .z) lw sizeOf53 rfl rfl rfl ?_
  refine aa (qn (dz (wq [3,2] ?_)))
  refine tn (rt ?_)
  have K:=os hF
  subst K
  exact QU rfl (QE (c:=(QQ (Qv .u8) 16 (by decide))) (y:=zv3) rfl .z lw isAgg53 sizeOf53 (.inl rfl)) (QS rfl) wb
 refine cf h7 ?_
 refine sns ?_
 refine al (cs:=Cd.cs (QQ (Qv .u8) 16 (by decide)) zv3) zeroValue53 ?_
 intro b8
 refine nt (qs (sr ?_))
 refine aw (Qg (c:=(QQ (Qv .u16) 8 (by decide))) (z:=t5.1) isAgg204 sizeOf204 rfl (Qp (.s .z) lw)) ?_
 refine am (qn ?_)
 refine Qam (H:=_) (.s .z) ?_
 refine wq [26,25,7,2] ?_
 refine tn (qb ?_)
 obtain ⟨q9,hq9,hF⟩:=bM hF
 refine wq [26,25,7,2] ?_
 refine Qal (B:=0) (A:=fun Y=>At 44 [(2,.pointer (some ⟨b1,0,none⟩)),(7,.pointer (some ⟨b8,0,none⟩))] (Wd w [Qi b8 (Cd.cs (QQ (Qv .u8) 16 (by decide)) q9) 53,Qi b1 (Cd.cs (QQ (Qv .u8) 16 (by decide)) zv3) 53]) Y) ?_ ?_
 ·intro K
  refine Qcj.l0.partial_correctness t5 (motive:=fun i10 i11 x=>KN (fun Y=>At 44 [(2,.pointer (some ⟨b1,0,none⟩)),(7,.pointer (some ⟨b8,0,none⟩))] (Wd w [Qi b8 (Cd.cs (QQ (Qv .u8) 16 (by decide)) x) 53,Qi b1 (Cd.cs (QQ (Qv .u8) 16 (by decide)) zv3) 53]) Y) _ 0→QbB (fun Y=>At 44 [(2,.pointer (some ⟨b1,0,none⟩)),(7,.pointer (some ⟨b8,0,none⟩)),(25,.agg (Cd.cs (QQ (Qv .u16) 8 (by decide)) t5.1).toArray),(26,.int .i64 i10)] (Wd w [Qi b8 (Cd.cs (QQ (Qv .u8) 16 (by decide)) i11) 53,Qi b1 (Cd.cs (QQ (Qv .u8) 16 (by decide)) zv3) 53]) Y) _ _ _) ?_ _ _ _ hq9 K
  ·clear K hF
   intro g ih i10 i11 x hF K
   refine QW ?_
   refine sr (aw xl (nwq [27,26,25,7,2] ?_))
   refine qs ?_
   obtain ⟨h12,hF⟩|⟨h12,hF⟩:=oi hF
   ·refine ct h12 ?_
    refine sn (qs (qb (sr (am ?_))))
    obtain ⟨h13,hF⟩:=gd hF
    refine aw (Qlm underlying204 sizeOf203 rfl rfl h13 (Qfw (Qaf.vec (Qv .u16) (by decide) t5.1 i10 h13) isAgg203 sizeOf203 (.inr rfl))) ?_
    refine aa (aa (nt (qr (am ?_))))
    refine aw (QcT rfl rfl) ?_
    refine am ?_
    refine aw (QcT rfl rfl) ?_
    refine aw xa (am ?_)
    refine aw (QjQ rfl rfl (by decide)) ?_
    refine aw (QaW underlying203 underlying5 rfl) ?_
    refine am ?_
    refine aw (QaW underlying203 underlying5 rfl) ?_
    obtain ⟨h14,hF⟩:=gd hF
    refine aw (Qas underlying53 sizeOf5 rfl rfl h14) ?_
    refine Qn (c:=(Qv .u8)) (z:=wr .u8 (Qh8 .u16 (Qbb t5.1 i10) 8)) .z (Qaf.comp lw (fun z=>Qb2 i11 (wr .i64 (2*i10)) z) (Qaf.vec (Qv .u8) (by decide) i11 (wr .i64 (2*i10)) h14)) sizeOf5 rfl rfl rfl ?_
    obtain ⟨h15,hF⟩:=gd hF
    refine aw (Qas underlying53 sizeOf5 rfl rfl h15) ?_
    refine Qn (c:=(Qv .u8)) (z:=wr .u8 (Qbb t5.1 i10)) .z (Qaf.comp lw (fun z=>Qb2 (Qb2 i11 (wr .i64 (2*i10)) (wr .u8 (Qh8 .u16 (Qbb t5.1 i10) 8))) (wr .i64 ((wr .i64 (2*i10))+1)) z) (Qaf.vec (Qv .u8) (by decide) (Qb2 i11 (wr .i64 (2*i10)) (wr .u8 (Qh8 .u16 (Qbb t5.1 i10) 8))) (wr .i64 ((wr .i64 (2*i10))+1)) h15)) sizeOf5 rfl rfl rfl ?_
    refine qn (wq [26,25,7,2] ?_)
    refine bm ?_
    refine qr (aw xa (am (nwq [26,25,7,2] ?_)))
    exact Qk (ih _ _ _ hF K) ⟨rfl,rfl,rfl,rfl,trivial⟩
   refine cf h12 ?_
   refine Q7 ?_
   refine te (te ?_)
   obtain rfl:=os hF
   exact Qk K ⟨rfl,rfl,trivial⟩
 skip
 skip
 refine QD ?_
 refine tn (sr ?_)
 refine aw (Qg (c:=(QQ (Qv .u8) 16 (by decide))) (z:=q9) isAgg53 sizeOf53 rfl (Qp .z lw)) ?_
 refine Qn (c:=(QQ (Qv .u8) 16 (by decide))) (z:=q9) (.s .z) lw sizeOf53 rfl rfl rfl ?_
 refine aa (qn (dz (wq [3,2] ?_)))
 refine tn (qt ?_)
 have K:=os hF
 subst K
 exact QU rfl (QE (c:=(QQ (Qv .u8) 16 (by decide))) (y:=q9) rfl .z lw isAgg53 sizeOf53 (.inl rfl)) (QS rfl) wb
def Qfz(x0:List Int):Option (Bool) :=
 if (decide ((x0.length:Int)≥1))=true then (some (decide ((x0.length:Int)≤8))) else (some false)
theorem Qka(x0:List Int)(p0_:Option Addr)(c0_:Nat)(r:Bool)(hF:Qfz x0=some r)(w:World)(hr0:Row (Qv .u8) w p0_ c0_ x0) :
    Calls Tryz.prog 200 #[.slice p0_ x0.length c0_] w (fun e w'=>e=.returned (.bool r)∧w'=w):=by
 unfold Qfz at hF
 refine ce (l:=[.slice p0_ x0.length c0_]) func200 rfl rfl ?_
 refine sr (aa (nwx [0] ?_))
 refine am ?_
 refine aw (QZ underlying85 rfl) ?_
 refine aw (QfM rfl rfl) ?_
 refine am ?_
 obtain ⟨h1,hF⟩|⟨h1,hF⟩:=oi hF
 ·refine fx 6 h1 ?_
  refine gy (am (gy ?_))
  refine aw (QZ underlying85 rfl) ?_
  refine gy ?_
  refine aw (Qhw rfl rfl) ?_
  refine aw xp (aa (nwq [2] ?_))
  refine qt ?_
  have K:=os hF
  subst K
  exact r1 (fun w1 hw=>⟨rfl,hw⟩)
 refine fx 6 h1 ?_
 refine gn ?_
 refine gn ?_
 refine gn ?_
 refine aw xp (aa (nwq [2] ?_))
 refine qt ?_
 have K:=os hF
 subst K
 exact r1 (fun w1 hw=>⟨rfl,hw⟩)
def Qcp.l0(x0:List Int)(i4:Int)(i5:Int):Option (Int) :=
 if (decide (i5<(x0.length:Int)))=true then (if (0:Int)≤i5∧i5<(x0.length:Int) then Qcp.l0 x0 (ior .u64 (Qh9 .u64 i4 8) (wr .u64 (QO x0 i5))) (wr .i64 (i5+1)) else none) else (some i4)
 partial_fixpoint
def Qcp(x0:List Int):Option (Int×Int) :=
 Qfz x0>>=fun t1=>if (!t1)=true then (some (0,1)) else (Qcp.l0 x0 0 0>>=fun q3=>some (q3,0))
theorem Qkb(x0:List Int)(p0_:Option Addr)(c0_:Nat)(r:Int×Int)(hF:Qcp x0=some r)(w:World)(hr0:Row (Qv .u8) w p0_ c0_ x0) :
    Calls Tryz.prog 188 #[.slice p0_ x0.length c0_] w (fun e w'=>e=.returned (.tuple #[.int .u64 r.1,.int .i64 r.2])∧w'=w):=by
 unfold Qcp at hF
 refine ce (l:=[.slice p0_ x0.length c0_]) func188 rfl rfl ?_
 refine sr (aa (aa (nt (qs (sr (am ?_))))))
 obtain ⟨t1,ht1,hF⟩:=bM hF
 refine Qm0 func200 rfl (by kernel_rfl) rfl rfl (fun w hw=>Qka _ _ _ _ ht1 w (hr0.below (by subst hw;exact Below.refl _ _))) ?_
 refine aw (Qcq rfl) ?_
 refine nwq [9,0] ?_
 obtain ⟨h2,hF⟩|⟨h2,hF⟩:=oi hF
 ·refine ct h2 ?_
  refine sr (aa (aa (nwq [3,2] ?_)))
  refine rt ?_
  have K:=os hF
  subst K
  exact Q6 rfl rfl rfl (fun w1 hw=>⟨rfl,hw⟩)
 refine cf h2 ?_
 refine sns (aa (nt (qs (sr (am ?_)))))
 refine aw (QZ underlying85 rfl) ?_
 refine am (nwq [12,11,10,4] ?_)
 refine qb ?_
 obtain ⟨q3,hq3,hF⟩:=bM hF
 refine wq [12,11,10,4] ?_
 refine Qal (B:=0) (A:=fun Y=>At 23 [(4,.int .u64 q3)] (fun w'=>w'=w) Y) ?_ ?_
 ·intro K
  refine Qcp.l0.partial_correctness x0 (motive:=fun i4 i5 x=>KN (fun Y=>At 23 [(4,.int .u64 x)] (fun w'=>w'=w) Y) _ 0→QbB (fun Y=>At 23 [(4,.int .u64 i4),(10,.slice p0_ x0.length c0_),(11,.int .i64 (x0.length:Int)),(12,.int .i64 i5)] (fun w'=>w'=w) Y) _ _ _) ?_ _ _ _ hq3 K
  ·clear K hF
   intro g ih i4 i5 x hF K
   refine QW ?_
   refine sr (aw xl (nwq [13,12,11,10,4] ?_))
   refine qs ?_
   obtain ⟨h6,hF⟩|⟨h6,hF⟩:=oi hF
   ·refine ct h6 ?_
    refine sn (qs (qb (sr ?_)))
    obtain ⟨h7,hF⟩:=gd hF
    obtain ⟨b9,o10,hp8⟩:=Qaa hr0 h7
    refine aw (QbD underlying85 sizeOf5 rfl rfl h7 hp8) ?_
    refine aw (Qe isAgg5 rfl (QP (fun w1 (h:w1=w)=>by subst h;exact Below.refl _ _) hr0 h7 hp8 rfl)) ?_
    refine aa (nt (qr (am ?_)))
    refine aw (QgI rfl rfl (by decide)) ?_
    refine am ?_
    refine aw (QaW underlying5 underlying41 rfl) ?_
    refine aw (Qnj rfl rfl) ?_
    refine aa (qn (wq [12,11,10,4] ?_))
    refine bm ?_
    refine qr (aw xa (am (nwq [12,11,10,4] ?_)))
    exact Qk (ih _ _ _ hF K) ⟨rfl,rfl,rfl,rfl,trivial⟩
   refine cf h6 ?_
   refine Q7 ?_
   refine te (te ?_)
   obtain rfl:=os hF
   exact Qk K ⟨rfl,trivial⟩
 skip
 skip
 refine QD ?_
 refine tn (sr (am (aa (aa (nwq [3,2] ?_)))))
 refine qt ?_
 have K:=os hF
 subst K
 exact Q6 rfl rfl rfl (fun w1 hw=>⟨rfl,hw⟩)
def Qcd.l0(x0:(Vector Int 16))(i5:Int)(i6:(Vector Int 8)):Option ((Vector Int 8)) :=
 if (decide (i5<8))=true then (if (0:Int)≤wr .i64 (2*i5)∧wr .i64 (2*i5)≤wr .i64 ((wr .i64 (2*i5))+2)∧wr .i64 ((wr .i64 (2*i5))+2)≤(16:Int) then Qcp (QdS (Vector.toList x0) (wr .i64 (2*i5)) (wr .i64 ((wr .i64 (2*i5))+2)))>>=fun t9=>if (0:Int)≤i5∧i5<8 then Qcd.l0 x0 (wr .i64 (i5+1)) (Qb2 i6 i5 (wr .u16 t9.1)) else none else none) else (some i6)
 partial_fixpoint
def Qcd(x0:(Vector Int 16)):Option ((Vector Int 8)) :=
 Qcd.l0 x0 0 (Vector.replicate 8 (0:Int):(Vector Int 8))>>=fun q4=>some q4
theorem Qke(x0:(Vector Int 16))(r:(Vector Int 8))(hF:Qcd x0=some r)(w:World) :
    Calls Tryz.prog 163 #[.agg (Cd.cs (QQ (Qv .u8) 16 (by decide)) x0).toArray] w (fun e w'=>e=.returned (.agg (Cd.cs (QQ (Qv .u16) 8 (by decide)) r).toArray)∧Below w.heap.size w w'):=by
 unfold Qcd at hF
 refine ce (l:=[.agg (Cd.cs (QQ (Qv .u8) 16 (by decide)) x0).toArray]) func163 rfl rfl ?_
 refine QN ?_
 refine sr ?_
 refine Qbv (cs:=Cd.cs (QQ (Qv .u8) 16 (by decide)) x0) rfl rfl rfl ?_
 intro b1
 refine al (cs:=Cd.cs (QQ (Qv .u16) 8 (by decide)) zv6) zeroValue204 ?_
 intro b2
 refine ns ?_
 refine al (cs:=Cd.cs (QQ (Qv .u16) 8 (by decide)) zv6) zeroValue204 ?_
 intro b3
 refine nt (qs (sr (am (nwq [7,3,2,1] ?_))))
 refine qb ?_
 obtain ⟨q4,hq4,hF⟩:=bM hF
 refine wq [7,3,2,1] ?_
 refine Qal (B:=0) (A:=fun Y=>At 26 [(2,.pointer (some ⟨b2,0,none⟩)),(3,.pointer (some ⟨b3,0,none⟩))] (Wd w [Qi b3 (Cd.cs (QQ (Qv .u16) 8 (by decide)) q4) 204,Qi b2 (Cd.cs (QQ (Qv .u16) 8 (by decide)) zv6) 204]) Y) ?_ ?_
 ·intro K
  refine Qcd.l0.partial_correctness x0 (motive:=fun i5 i6 x=>KN (fun Y=>At 26 [(2,.pointer (some ⟨b2,0,none⟩)),(3,.pointer (some ⟨b3,0,none⟩))] (Wd w [Qi b3 (Cd.cs (QQ (Qv .u16) 8 (by decide)) x) 204,Qi b2 (Cd.cs (QQ (Qv .u16) 8 (by decide)) zv6) 204]) Y) _ 0→QbB (fun Y=>At 26 [(1,.pointer (some ⟨b1,0,none⟩)),(2,.pointer (some ⟨b2,0,none⟩)),(3,.pointer (some ⟨b3,0,none⟩)),(7,.int .i64 i5)] (Wd w [Qi b3 (Cd.cs (QQ (Qv .u16) 8 (by decide)) i6) 204,Qi b2 (Cd.cs (QQ (Qv .u16) 8 (by decide)) zv6) 204,Qi b1 (Cd.cs (QQ (Qv .u8) 16 (by decide)) x0) 53]) Y) _ _ _) ?_ _ _ _ hq4 K
  ·clear K hF
   intro g ih i5 i6 x hF K
   refine QW ?_
   refine sr (aw xl (nwq [8,7,3,2,1] ?_))
   refine qs ?_
   obtain ⟨h7,hF⟩|⟨h7,hF⟩:=oi hF
   ·refine ct h7 ?_
    refine sn (qs (qb (sr (am (aa (ns (am ?_)))))))
    refine aw (QcT rfl rfl) ?_
    refine am ?_
    refine aw (QcT rfl rfl) ?_
    refine aw xa ?_
    obtain ⟨h8,hF⟩:=gd hF
    refine aw (QiV (c:=(Qv .u8)) (v:=x0) (l:=wr .i64 (2*i5)) (h:=wr .i64 ((wr .i64 (2*i5))+2)) underlying53 sizeOf5 rfl ⟨_,rfl⟩ ⟨_,rfl⟩ h8) ?_
    obtain ⟨t9,ht9,hF⟩:=bM hF
    refine cB func188 rfl (fun w hw=>Qd1 (Qkb _ _ _ _ ht9 w (Row.sub (Qe7 (.s (.s .z)) lw hw) (Qr9 h8)))) ?_
    refine am ?_
    refine aw xe (aw xe (aa (aa (nt (qr (am (am ?_)))))))
    refine aw (QaW underlying41 underlying203 rfl) ?_
    obtain ⟨h10,hF⟩:=gd hF
    refine aw (Qas underlying204 sizeOf203 rfl rfl h10) ?_
    refine Qn (c:=(Qv .u16)) (z:=wr .u16 t9.1) .z (Qaf.comp lw (fun z=>Qb2 i6 i5 z) (Qaf.vec (Qv .u16) (by decide) i6 i5 h10)) sizeOf203 rfl rfl rfl ?_
    refine qn (wq [7,3,2,1] ?_)
    refine bm ?_
    refine qr (aw xa (am (nwq [7,3,2,1] ?_)))
    exact Qk (ih _ _ _ hF K) ⟨rfl,rfl,rfl,rfl,trivial⟩
   refine cf h7 ?_
   refine Q7 ?_
   refine te (te ?_)
   refine Qam (H:=_) (.s (.s .z)) ?_
   obtain rfl:=os hF
   exact Qk K ⟨rfl,rfl,trivial⟩
 skip
 skip
 refine QD ?_
 refine tn (sr ?_)
 refine aw (Qg (c:=(QQ (Qv .u16) 8 (by decide))) (z:=q4) isAgg204 sizeOf204 rfl (Qp .z lw)) ?_
 refine Qn (c:=(QQ (Qv .u16) 8 (by decide))) (z:=q4) (.s .z) lw sizeOf204 rfl rfl rfl ?_
 refine qn (dz (wq [2] ?_))
 refine tn (qt ?_)
 have K:=os hF
 subst K
 exact Qd9 rfl (QE (c:=(QQ (Qv .u16) 8 (by decide))) (y:=q4) rfl .z lw isAgg204 sizeOf204 (.inl rfl)) wb
def QbK.l0(x0:(Vector Int 8))(i3:Int)(i4:Int)(i5:Int)(i6:Int):Option (Int×Int) :=
 if (decide (i6<8))=true then (if (0:Int)≤i6∧i6<8 then if (Qbb x0 i6 != 0)=true then (QbK.l0 x0 i3 i4 0 (wr .i64 (i6+1))) else (if (decide (wr .i64 (i5+1)>i4))=true then (QbK.l0 x0 (wr .i64 ((wr .i64 (i6+1))-(wr .i64 (i5+1)))) (wr .i64 (i5+1)) (wr .i64 (i5+1)) (wr .i64 (i6+1))) else (QbK.l0 x0 i3 i4 (wr .i64 (i5+1)) (wr .i64 (i6+1)))) else none) else (some (i3,i4))
 partial_fixpoint
def QbK(x0:(Vector Int 8)):Option (Int×Int) :=
 QbK.l0 x0 0 0 0 0>>=fun q2=>some (q2.1,q2.2)
theorem Qjg(x0:(Vector Int 8))(r:Int×Int)(hF:QbK x0=some r)(w:World) :
    Calls Tryz.prog 164 #[.agg (Cd.cs (QQ (Qv .u16) 8 (by decide)) x0).toArray] w (fun e w'=>e=.returned (.tuple #[.int .i64 r.1,.int .i64 r.2])∧Below w.heap.size w w'):=by
 unfold QbK at hF
 refine ce (l:=[.agg (Cd.cs (QQ (Qv .u16) 8 (by decide)) x0).toArray]) func164 rfl rfl ?_
 refine QN ?_
 refine sr ?_
 refine Qbv (cs:=Cd.cs (QQ (Qv .u16) 8 (by decide)) x0) rfl rfl rfl ?_
 intro b1
 refine aa (aa (ns (aa (nt (qs (sr ?_))))))
 refine aw (Qg (c:=(QQ (Qv .u16) 8 (by decide))) (z:=x0) isAgg204 sizeOf204 rfl (Qp .z lw)) ?_
 refine am (qn (dz (wq [8,7,4,3,2] ?_)))
 refine tn (qb ?_)
 obtain ⟨q2,hq2,hF⟩:=bM hF
 refine wq [8,7,4,3,2] ?_
 refine Qal (B:=0) (A:=fun Y=>At 27 [(2,.int .i64 q2.1),(3,.int .i64 q2.2)] (Wd w []) Y) ?_ ?_
 ·intro K
  refine QbK.l0.partial_correctness x0 (motive:=fun i3 i4 i5 i6 x=>KN (fun Y=>At 27 [(2,.int .i64 x.1),(3,.int .i64 x.2)] (Wd w []) Y) _ 0→QbB (fun Y=>At 27 [(2,.int .i64 i3),(3,.int .i64 i4),(4,.int .i64 i5),(7,.agg (Cd.cs (QQ (Qv .u16) 8 (by decide)) x0).toArray),(8,.int .i64 i6)] (Wd w []) Y) _ _ _) ?_ _ _ _ _ _ hq2 K
  ·clear K hF
   intro g ih i3 i4 i5 i6 x hF K
   refine QW ?_
   refine sr (aw xl (nwq [9,8,7,4,3,2] ?_))
   refine qs ?_
   obtain ⟨h7,hF⟩|⟨h7,hF⟩:=oi hF
   ·refine ct h7 ?_
    refine sn (qs (qb (sr (am ?_))))
    obtain ⟨h8,hF⟩:=gd hF
    refine aw (Qlm underlying204 sizeOf203 rfl rfl h8 (Qfw (Qaf.vec (Qv .u16) (by decide) x0 i6 h8) isAgg203 sizeOf203 (.inr rfl))) ?_
    refine aa (aa (nt (qs (sr (am (aw xn (nwq [13,8,7,5,4,3,2] ?_)))))))
    obtain ⟨h9,hF⟩|⟨h9,hF⟩:=oi hF
    ·refine ct h9 ?_
     refine sr (aa (nwq [8,7,4,3,2] ?_))
     refine Q7 ?_
     refine te (QD (tn ?_))
     refine qr (aw xa (am (nwq [8,7,4,3,2] ?_)))
     exact Qk (ih _ _ _ _ _ hF K) ⟨rfl,rfl,rfl,rfl,rfl,trivial⟩
    refine cf h9 ?_
    refine sns (am (aw xa (aa (ns (am (am ?_))))))
    refine aw (QbI rfl rfl) ?_
    refine nwq [18,8,7,5,4,3,2] ?_
    obtain ⟨h10,hF⟩|⟨h10,hF⟩:=oi hF
    ·refine ct h10 ?_
     refine qr (am (aw xa (am ?_)))
     refine aw (Qdh rfl rfl) ?_
     refine am (aa (aa (qn (wq [8,7,4,3,2] ?_))))
     refine bm ?_
     refine qr (aw xa (am (nwq [8,7,4,3,2] ?_)))
     exact Qk (ih _ _ _ _ _ hF K) ⟨rfl,rfl,rfl,rfl,rfl,trivial⟩
    refine cf h10 ?_
    refine QbQ ?_
    refine bm ?_
    refine qr (aw xa (am (nwq [8,7,4,3,2] ?_)))
    exact Qk (ih _ _ _ _ _ hF K) ⟨rfl,rfl,rfl,rfl,rfl,trivial⟩
   refine cf h7 ?_
   refine Q7 ?_
   refine te (te ?_)
   obtain rfl:=os hF
   exact Qk K ⟨rfl,rfl,trivial⟩
 skip
 skip
 refine QD ?_
 refine tn (sr (am (am (aa (aa (nwq [3,2] ?_))))))
 refine qt ?_
 have K:=os hF
 subst K
 exact Q6 rfl rfl rfl wb
def QcW.l0(i2:Int)(i3:ByteArray):Option (ByteArray) :=
 if (0:Int)≤Qjd .u16 i2 15∧Qjd .u16 i2 15<((⟨#[48,49,50,51,52,53,54,55,56,57,97,98,99,100,101,102]⟩:ByteArray).size:Int) then if (Utf8.encode (bt (⟨#[48,49,50,51,52,53,54,55,56,57,97,98,99,100,101,102]⟩:ByteArray) (Qjd .u16 i2 15))).size+i3.size≤140737488355328 then if (Qh8 .u16 i2 4==0)=true then (some ((Utf8.encode (bt (⟨#[48,49,50,51,52,53,54,55,56,57,97,98,99,100,101,102]⟩:ByteArray) (Qjd .u16 i2 15)))++i3)) else (QcW.l0 (Qh8 .u16 i2 4) ((Utf8.encode (bt (⟨#[48,49,50,51,52,53,54,55,56,57,97,98,99,100,101,102]⟩:ByteArray) (Qjd .u16 i2 15)))++i3)) else none else none
 partial_fixpoint
def QcW(x0:Int):Option (ByteArray) :=
 QcW.l0 x0 (⟨#[]⟩)>>=fun q1=>some q1
theorem Qkz(x0:Int)(r:ByteArray)(hF:QcW x0=some r)(w:World) :
    Calls Tryz.prog 189 #[.int .u16 x0] w (fun e w'=>e=.returned (.string r)∧w'=w):=by
 unfold QcW at hF
 refine ce (l:=[.int .u16 x0]) func189 rfl rfl ?_
 refine sr (aa (ns (aa (nwq [3,0] ?_))))
 refine qb ?_
 obtain ⟨q1,hq1,hF⟩:=bM hF
 refine wq [3,0] ?_
 refine QfA (r:=r) (q:=q1) ?_ ?_
 ·intro K
  refine QcW.l0.partial_correctness  (motive:=fun i2 i3 x=>x=r→QbB (fun Y=>At 15 [(0,.int .u16 i2),(3,.string i3)] (fun w'=>w'=w) Y) _ _ _) ?_ _ _ _ hq1 K
  ·clear K hF
   intro g ih i2 i3 x hF K
   refine QW ?_
   refine qb (sr (am ?_))
   refine aw (QkM rfl rfl) ?_
   obtain ⟨h4,hF⟩:=gd hF
   refine aw (QaZ underlying9 rfl rfl h4) ?_
   refine aw (Qpd underlying5 underlying9 rfl) ?_
   refine am ?_
   obtain ⟨h5,hF⟩:=gd hF
   refine aw (Q2 rfl rfl h5) ?_
   refine aa (ns (am ?_))
   refine aw (QjQ rfl rfl (by decide)) ?_
   refine aa (ns (am (aw xq (nwq [13,3,0] ?_))))
   obtain ⟨h6,hF⟩|⟨h6,hF⟩:=oi hF
   ·refine ct h6 ?_
    refine sr (am (aa (nwq [2] ?_)))
    refine qt ?_
    refine br (tr (br ?_))
    obtain rfl:=os hF
    subst K
    exact r1 (fun w1 hw=>⟨rfl,hw⟩)
   refine cf h6 ?_
   refine QbQ ?_
   refine bm ?_
   exact Qk (ih _ _ _ hF K) ⟨rfl,rfl,trivial⟩
 exact os hF
def QcK.l0(x0:List Int)(i4:List ByteArray)(i5:Int):Option (List ByteArray) :=
 if (decide (i5<(x0.length:Int)))=true then (if (0:Int)≤i5∧i5<(x0.length:Int) then QcW (QO x0 i5)>>=fun t15=>if (i4.length+1)*16≤140737488355328 then QcK.l0 x0 (i4++[t15]) (wr .i64 (i5+1)) else none else none) else (some i4)
 partial_fixpoint
def QcK(x0:List Int):Option (ByteArray) :=
 QcK.l0 x0 ([]:List ByteArray) 0>>=fun q3=>if List.length q3≤140737488355328 then if (Qdp q3 (⟨#[58]⟩:ByteArray)).size≤140737488355328 then some (Qdp q3 (⟨#[58]⟩:ByteArray)) else none else none
theorem QgY(x0:List Int)(p0_:Option Addr)(c0_:Nat)(r:ByteArray)(hF:QcK x0=some r)(w:World)(hr0:Row (Qv .u16) w p0_ c0_ x0) :
    Calls Tryz.prog 165 #[.slice p0_ x0.length c0_] w (fun e w'=>e=.returned (.string r)∧Below w.heap.size w w'):=by
 unfold QcK at hF
 refine ce (l:=[.slice p0_ x0.length c0_]) func165 rfl rfl ?_
 refine QN ?_
 refine sr (aa (ns (aa (nt (qs (sr (am ?_)))))))
 refine aw (QZ underlying209 rfl) ?_
 refine am (nwq [8,7,6,3] ?_)
 refine qb ?_
 refine Qco QbA 9 ?_
 obtain ⟨q3,hq3,hF⟩:=bM hF
 refine wq [8,7,6,3] ?_
 refine Qal (B:=0) (A:=fun Y=>∀ (p8:Option Addr) (c9:Nat),At 20 [(3,.slice p8 q3.length c9)] (Wd w [Qbm QbA 9 p8 c9 q3]) Y) ?_ ?_
 ·intro K
  refine QcK.l0.partial_correctness x0 (motive:=fun i4 i5 x=>KN (fun Y=>∀ (p8:Option Addr) (c9:Nat),At 20 [(3,.slice p8 x.length c9)] (Wd w [Qbm QbA 9 p8 c9 x]) Y) _ 0→QbB (fun Y=>∀ (p6:Option Addr) (c7:Nat),At 20 [(3,.slice p6 i4.length c7),(6,.slice p0_ x0.length c0_),(7,.int .i64 (x0.length:Int)),(8,.int .i64 i5)] (Wd w [Qbm QbA 9 p6 c7 i4]) Y) _ _ _) ?_ _ _ _ hq3 K none 0
  ·clear K hF
   intro g ih i4 i5 x hF K p6 c7
   refine QW ?_
   refine sr (aw xl (nwq [9,8,7,6,3] ?_))
   refine qs ?_
   obtain ⟨h10,hF⟩|⟨h10,hF⟩:=oi hF
   ·refine ct h10 ?_
    refine sn (qs (qb (sr ?_)))
    obtain ⟨h11,hF⟩:=gd hF
    obtain ⟨b13,o14,hp12⟩:=Qaa hr0 h11
    refine aw (QbD underlying209 sizeOf203 rfl rfl h11 hp12) ?_
    refine aw (Qe isAgg203 rfl (QP (fun _ h=>h.below) hr0 h11 hp12 rfl)) ?_
    refine aa (nt (qr (am (am ?_))))
    obtain ⟨t15,ht15,hF⟩:=bM hF
    refine Qav func189 rfl (by kernel_rfl) rfl rfl (fun w=>Qkz _ _ ht15 w) ?_
    refine Qep (cs:=QbA.all ([t15]:List ByteArray)) underlying46 sizeOf9 zeroValue9 rfl rfl rfl (by kernel_rfl) rfl ?_
    intro b16
    obtain ⟨h17,hF⟩:=gd hF
    refine Qcl (z:=.string ⟨#[]⟩) (c:=QbA) (ys:=([t15]:List ByteArray)) (.s .z) underlying46 Qun (by kernel_rfl) (by kernel_rfl) rfl rfl rfl rfl (fun _ hw=>QbX (hw.ok (Upd.mem .z))) (by kernel_rfl) h17 (QbR h17) rfl ?_
    intro p18 c19
    refine aa (qn (dz (wq [8,7,6,3] ?_)))
    refine bm ?_
    refine qr (aw xa (am (nwq [8,7,6,3] ?_)))
    exact Qk (ih _ _ _ hF K p18 c19) ⟨rfl,rfl,rfl,rfl,trivial⟩
   refine cf h10 ?_
   refine Q7 ?_
   refine te (te ?_)
   obtain rfl:=os hF
   exact Qk (K p6 c7) ⟨rfl,trivial⟩
 skip
 intro p8 c9
 refine QD ?_
 refine tn (sr (am ?_))
 obtain ⟨h20,hF⟩:=gd hF
 obtain ⟨h21,hF⟩:=gd hF
 refine cB func25 rfl (fun w1 hw=>Qj4 _ _ h20 h21 _ _ w1 (hw.own .z).row) ?_
 refine aa (qn (dz (wq [2] ?_)))
 refine tn (qt ?_)
 have K:=os hF
 subst K
 exact r1 wb
def Qfd(x0:(Vector Int 16)):Option (ByteArray) :=
 Qcd x0>>=fun t2=>QbK t2>>=fun t4=>if (decide (t4.2<2))=true then (QcK (Vector.toList t2)>>=fun t6=>some t6) else (if (0:Int)≤0∧0≤t4.1∧t4.1≤(8:Int) then QcK (QdS (Vector.toList t2) 0 t4.1)>>=fun t8=>if t8.size+(⟨#[58,58]⟩:ByteArray).size≤140737488355328 then if (0:Int)≤wr .i64 (t4.1+t4.2)∧wr .i64 (t4.1+t4.2)≤8∧8≤(8:Int) then QcK (QdS (Vector.toList t2) (wr .i64 (t4.1+t4.2)) 8)>>=fun t11=>if (t8++(⟨#[58,58]⟩:ByteArray)).size+t11.size≤140737488355328 then some ((t8++(⟨#[58,58]⟩:ByteArray))++t11) else none else none else none else none)
theorem QlS(x0:(Vector Int 16))(r:ByteArray)(hF:Qfd x0=some r)(w:World) :
    Calls Tryz.prog 132 #[.agg (Cd.cs (QQ (Qv .u8) 16 (by decide)) x0).toArray] w (fun e w'=>e=.returned (.string r)∧Below w.heap.size w w'):=by
 unfold Qfd at hF
 refine ce (l:=[.agg (Cd.cs (QQ (Qv .u8) 16 (by decide)) x0).toArray]) func132 rfl rfl ?_
 refine QN ?_
 refine sr ?_
 refine Qbv (cs:=Cd.cs (QQ (Qv .u8) 16 (by decide)) x0) rfl rfl rfl ?_
 intro b1
 refine aa (ns ?_)
 refine aw (Qg (c:=(QQ (Qv .u8) 16 (by decide))) (z:=x0) isAgg53 sizeOf53 rfl (Qp .z lw)) ?_
 obtain ⟨t2,ht2,hF⟩:=bM hF
 refine cB func163 rfl (fun w hw=>Qke _ _ ht2 w) ?_
 refine al (cs:=Cd.cs (QQ (Qv .u16) 8 (by decide)) zv6) zeroValue204 ?_
 intro b3
 refine Qn (c:=(QQ (Qv .u16) 8 (by decide))) (z:=t2) .z lw sizeOf204 rfl rfl rfl ?_
 refine qn ?_
 refine Qam (H:=_) (.s .z) ?_
 refine tn (sr ?_)
 refine aw (Qg (c:=(QQ (Qv .u16) 8 (by decide))) (z:=t2) isAgg204 sizeOf204 rfl (Qp .z lw)) ?_
 obtain ⟨t4,ht4,hF⟩:=bM hF
 refine cB func164 rfl (fun w hw=>Qjg _ _ ht4 w) ?_
 refine am ?_
 refine aw xe (aw xe (aa (aa (nt (qs (sr (am (aw xl ?_))))))))
 refine nwq [14,5,4,3] ?_
 obtain ⟨h5,hF⟩|⟨h5,hF⟩:=oi hF
 ·refine ct h5 ?_
  refine sr ?_
  refine aw (Qfk t2 underlying204 sizeOf203 rfl) ?_
  obtain ⟨t6,ht6,hF⟩:=bM hF
  refine cB func165 rfl (fun w hw=>QgY _ _ _ _ ht6 w (Qlb (hw.ok (Upd.mem .z)))) ?_
  refine aa (qn (dz (wq [2] ?_)))
  refine tn (rt ?_)
  have K:=os hF
  subst K
  exact r1 wb
 refine cf h5 ?_
 refine sn (qs ?_)
 refine Qdd (by kernel_rfl) (by kernel_rfl) (fun _ h=>h.drew) ?_
 refine Ql rfl rfl rfl (Qbz rfl) ?_
 obtain ⟨h7,hF⟩:=gd hF
 refine Ql rfl rfl rfl (QiV (c:=(Qv .u16)) (v:=t2) (l:=0) (h:=t4.1) underlying204 sizeOf203 rfl rfl ⟨_,rfl⟩ h7) ?_
 obtain ⟨t8,ht8,hF⟩:=bM hF
 refine Qbl func165 rfl (by kernel_rfl) rfl rfl (fun w hw=>(QgY _ _ _ _ ht8 w (Row.sub (Qe7 .z lw hw) (Qr9 h7))).mono fun _ _ h=>⟨h.1,hw.call h.2⟩) ?_
 obtain ⟨h9,hF⟩:=gd hF
 refine Ql rfl rfl rfl (Q2 rfl rfl h9) ?_
 refine Ql rfl rfl rfl (Qbz rfl) ?_
 refine Ql rfl rfl rfl (Qbz rfl) ?_
 refine Ql rfl rfl rfl (QjS rfl rfl) ?_
 obtain ⟨h10,hF⟩:=gd hF
 refine Ql rfl rfl rfl (QiV (c:=(Qv .u16)) (v:=t2) (l:=wr .i64 (t4.1+t4.2)) (h:=8) underlying204 sizeOf203 rfl ⟨_,rfl⟩ rfl h10) ?_
 obtain ⟨t11,ht11,hF⟩:=bM hF
 refine Qbl func165 rfl (by kernel_rfl) rfl rfl (fun w hw=>(QgY _ _ _ _ ht11 w (Row.sub (Qe7 .z lw hw) (Qr9 h10))).mono fun _ _ h=>⟨h.1,hw.call h.2⟩) ?_
 obtain ⟨h12,hF⟩:=gd hF
 refine Ql rfl rfl rfl (Q2 rfl rfl h12) ?_
 refine Ql rfl rfl rfl (Qcf rfl) ?_
 refine Qck ?_
 refine dz (wq [2] ?_)
 refine tn (qt ?_)
 have K:=os hF
 subst K
 exact r1 wb
end Go.Proofs.YtnekckhjmnhinaaGreatDoor
namespace Go.Proofs.YtnekckhjmnhinaaGreatDoor
open E Go.RowKit _root_.Go.Proofs.Tryz
theorem QpA:(Tryz.prog.info? 3).isSome=true:=by kernel_rfl
noncomputable def Qrk:TypeInfo:=(Tryz.prog.info? 3).get QpA
theorem Qj5:Tryz.prog.info? 3=some Qrk:=(Option.some_get _).symm
def QaH.l0(x0:ByteArray)(i2:Int):Option (Ctl (Int) (Unit)) :=
 if (decide (wr .i64 (i2+1)<(x0.size:Int)))=true then (if (0:Int)≤i2∧i2<(x0.size:Int) then if (bt x0 i2==58)=true then (if (0:Int)≤wr .i64 (i2+1)∧wr .i64 (i2+1)<(x0.size:Int) then if (bt x0 (wr .i64 (i2+1))==58)=true then (some (.ret i2)) else (QaH.l0 x0 (wr .i64 (i2+1))) else none) else (QaH.l0 x0 (wr .i64 (i2+1))) else none) else (some (.nx ()))
 partial_fixpoint
def QaH(x0:ByteArray):Option (Int) :=
 QaH.l0 x0 0>>=fun q1=>match q1 with | .ret r'=>some r' | .nx sq1=>(some (-1))
theorem Qhr(x0:ByteArray)(r:Int)(hF:QaH x0=some r)(w:World) :
    Calls Tryz.prog 156 #[.string x0] w (fun e w'=>e=.returned (.int .i64 r)∧w'=w):=by
 unfold QaH at hF
 refine ce (l:=[.string x0]) func156 rfl rfl ?_
 refine sr (aa (nt (qs (sr (aa (nwq [3,0] ?_))))))
 refine qb ?_
 obtain ⟨q1,hq1,hF⟩:=bM hF
 refine wq [3,0] ?_
 refine Qbn (B:=0) (r:=r) (q:=q1) (A:=fun (_:Unit) Y=>At 23 [] (fun w'=>w'=w) Y) ?_ ?_
 ·intro K
  refine QaH.l0.partial_correctness x0 (motive:=fun i2 x=>KR (fun (_:Unit) Y=>At 23 [] (fun w'=>w'=w) Y) _ 0 r x→QbB (fun Y=>At 23 [(0,.string x0),(3,.int .i64 i2)] (fun w'=>w'=w) Y) _ _ _) ?_ _ _ hq1 K
  ·clear K hF
   intro g ih i2 x hF K
   refine QW ?_
   refine qs (sr (am (aw xa (am ?_))))
   refine aw (QaR underlying9 rfl) ?_
   refine aw xl (nwq [8,3,0] ?_)
   obtain ⟨h3,hF⟩|⟨h3,hF⟩:=oi hF
   ·refine ct h3 ?_
    refine sn (qs (qb (sr (am (am ?_)))))
    obtain ⟨h4,hF⟩:=gd hF
    refine aw (QaZ underlying9 rfl rfl h4) ?_
    refine aw xq (am ?_)
    obtain ⟨h5,hF⟩|⟨h5,hF⟩:=oi hF
    ·refine fx 15 h5 ?_
     refine gy (am (gy (am (gy (aw xa (gy ?_))))))
     obtain ⟨h6,hF⟩:=gd hF
     refine aw (QaZ underlying9 rfl rfl h6) ?_
     refine gy (aw xq (aw xp (nwq [21,3,0] ?_)))
     obtain ⟨h7,hF⟩|⟨h7,hF⟩:=oi hF
     ·refine ct h7 ?_
      refine sr (am (aa (nwq [2] ?_)))
      refine qt ?_
      refine br (tr (tr (br (tr ?_))))
      obtain rfl:=os hF
      subst K
      exact r1 (fun w1 hw=>⟨rfl,hw⟩)
     refine cf h7 ?_
     refine QbQ ?_
     refine bm ?_
     refine qr (am (aw xa (aa (nwq [3,0] ?_))))
     exact Qk (ih _ _ hF K) ⟨rfl,rfl,trivial⟩
    refine fx 15 h5 ?_
    refine gn ?_
    refine gn ?_
    refine gn ?_
    refine gn ?_
    refine gn ?_
    refine aw xp (nwq [21,3,0] ?_)
    refine cf rfl ?_
    refine QbQ ?_
    refine bm ?_
    refine qr (am (aw xa (aa (nwq [3,0] ?_))))
    exact Qk (ih _ _ hF K) ⟨rfl,rfl,trivial⟩
   refine cf h3 ?_
   refine Q7 ?_
   refine te (te ?_)
   obtain rfl:=os hF
   exact Qk K trivial
 cases q1 with
 | ret r'=>exact os hF
 | nx sq1 =>
  skip
  refine QD ?_
  refine tn (sr (aa (nwq [2] ?_)))
  refine qt ?_
  have K:=os hF
  subst K
  exact r1 (fun w1 hw=>⟨rfl,hw⟩)
def QbO(x0:Int):Option (ByteArray) :=
 if (0:Int)≤x0∧x0≤wr .i64 (x0+1)∧wr .i64 (x0+1)≤((⟨#[48,49,50,51,52,53,54,55,56,57,97,98,99,100,101,102]⟩:ByteArray).size:Int) then some ((⟨#[48,49,50,51,52,53,54,55,56,57,97,98,99,100,101,102]⟩:ByteArray).extract (Int.toNat x0) (Int.toNat (wr .i64 (x0+1)))) else none
theorem QcY(x0:Int)(r:ByteArray)(hF:QbO x0=some r)(w:World) :
    Calls Tryz.prog 190 #[.int .i64 x0] w (fun e w'=>e=.returned (.string r)∧w'=w):=by
 unfold QbO at hF
 refine ce (l:=[.int .i64 x0]) func190 rfl rfl ?_
 refine sr (aa (ns (am (am (aw xa ?_)))))
 obtain ⟨h1,hF⟩:=gd hF
 refine aw (Qbc underlying9 rfl ⟨_,rfl⟩ ⟨_,rfl⟩ h1) ?_
 refine aa (nwq [2] ?_)
 refine qt ?_
 have K:=os hF
 subst K
 exact r1 (fun w1 hw=>⟨rfl,hw⟩)
def QaA.l0(x0:Int)(x1:Bool)(i2:Int):Option (Ctl (Int) (Unit)) :=
 if (decide (i2<16))=true then (QbO i2>>=fun t4=>if (0:Int)≤0∧0<(t4.size:Int) then if (bt t4 0==x0)=true then (some (.ret i2)) else (if x1=true then (if (decide (i2>9))=true then (QbO i2>>=fun t9=>if (0:Int)≤0∧0<(t9.size:Int) then if (bt t9 0==wr .u8 (x0+32))=true then (some (.ret i2)) else (QaA.l0 x0 x1 (wr .i64 (i2+1))) else none) else (QaA.l0 x0 x1 (wr .i64 (i2+1)))) else (QaA.l0 x0 x1 (wr .i64 (i2+1)))) else none) else (some (.nx ()))
 partial_fixpoint
def QaA(x0:Int)(x1:Bool):Option (Int) :=
 QaA.l0 x0 x1 0>>=fun q1=>match q1 with | .ret r'=>some r' | .nx sq1=>(some (-1))
theorem QgA(x0:Int)(x1:Bool)(r:Int)(hF:QaA x0 x1=some r)(w:World) :
    Calls Tryz.prog 199 #[.int .u8 x0,.bool x1] w (fun e w'=>e=.returned (.int .i64 r)∧w'=w):=by
 unfold QaA at hF
 refine ce (l:=[.int .u8 x0,.bool x1]) func199 rfl rfl ?_
 refine sr (aa (nt (qs (sr (aa (nwq [5,1,0] ?_))))))
 refine qb ?_
 obtain ⟨q1,hq1,hF⟩:=bM hF
 refine wq [5,1,0] ?_
 refine Qbn (B:=0) (r:=r) (q:=q1) (A:=fun (_:Unit) Y=>At 31 [] (fun w'=>w'=w) Y) ?_ ?_
 ·intro K
  refine QaA.l0.partial_correctness x0 x1 (motive:=fun i2 x=>KR (fun (_:Unit) Y=>At 31 [] (fun w'=>w'=w) Y) _ 0 r x→QbB (fun Y=>At 31 [(0,.int .u8 x0),(1,.bool x1),(5,.int .i64 i2)] (fun w'=>w'=w) Y) _ _ _) ?_ _ _ hq1 K
  ·clear K hF
   intro g ih i2 x hF K
   refine QW ?_
   refine qs (sr (am (aw xl (nwq [7,5,1,0] ?_))))
   obtain ⟨h3,hF⟩|⟨h3,hF⟩:=oi hF
   ·refine ct h3 ?_
    refine sn (qs (qb (sr (am ?_))))
    obtain ⟨t4,ht4,hF⟩:=bM hF
    refine Qav func190 rfl (by kernel_rfl) rfl rfl (fun w=>QcY _ _ ht4 w) ?_
    obtain ⟨h5,hF⟩:=gd hF
    refine aw (QaZ underlying9 rfl rfl h5) ?_
    refine am (aw xq (am ?_))
    obtain ⟨h6,hF⟩|⟨h6,hF⟩:=oi hF
    ·refine fx 15 h6 ?_
     refine gn ?_
     refine gn ?_
     refine Q9 rfl rfl rfl rfl ?_
     refine Q9 rfl rfl rfl rfl ?_
     refine gn ?_
     refine gn ?_
     refine Q9 rfl rfl rfl rfl ?_
     refine Q9 rfl rfl rfl rfl ?_
     refine Q9 rfl rfl rfl rfl ?_
     refine Q9 rfl rfl rfl rfl ?_
     refine Q9 rfl rfl rfl rfl ?_
     refine Q9 rfl rfl rfl rfl ?_
     refine gn ?_
     refine aw xp (nwq [29,5,1,0] ?_)
     refine ct rfl ?_
     refine sr (am (aa (nwq [4] ?_)))
     refine qt ?_
     refine br (tr (tr (br (tr ?_))))
     obtain rfl:=os hF
     subst K
     exact r1 (fun w1 hw=>⟨rfl,hw⟩)
    refine fx 15 h6 ?_
    refine gy (am (gy (am ?_)))
    obtain ⟨h7,hF⟩|⟨h7,hF⟩:=oi hF
    ·refine fx 17 h7 ?_
     refine gy (am (gy ?_))
     refine aw (QbI rfl rfl) ?_
     refine gy (aw xp (gy (am ?_)))
     obtain ⟨h8,hF⟩|⟨h8,hF⟩:=oi hF
     ·refine fx 21 h8 ?_
      refine gy (am (gy ?_))
      obtain ⟨t9,ht9,hF⟩:=bM hF
      refine Qav func190 rfl (by kernel_rfl) rfl rfl (fun w=>QcY _ _ ht9 w) ?_
      refine gy ?_
      obtain ⟨h10,hF⟩:=gd hF
      refine aw (QaZ underlying9 rfl rfl h10) ?_
      refine gy (am (gy (aw xa (gy (aw xq (gy (aw xp (aw xp ?_))))))))
      refine nwq [29,5,1,0] ?_
      obtain ⟨h11,hF⟩|⟨h11,hF⟩:=oi hF
      ·refine ct h11 ?_
       refine sr (am (aa (nwq [4] ?_)))
       refine qt ?_
       refine br (tr (tr (br (tr ?_))))
       obtain rfl:=os hF
       subst K
       exact r1 (fun w1 hw=>⟨rfl,hw⟩)
      refine cf h11 ?_
      refine QbQ ?_
      refine bm ?_
      refine qr (am (aw xa (aa (nwq [5,1,0] ?_))))
      exact Qk (ih _ _ hF K) ⟨rfl,rfl,rfl,trivial⟩
     refine fx 21 h8 ?_
     refine gn ?_
     refine gn ?_
     refine gn ?_
     refine gn ?_
     refine gn ?_
     refine gn ?_
     refine gy (aw xp (aw xp (nwq [29,5,1,0] ?_)))
     refine cf rfl ?_
     refine QbQ ?_
     refine bm ?_
     refine qr (am (aw xa (aa (nwq [5,1,0] ?_))))
     exact Qk (ih _ _ hF K) ⟨rfl,rfl,rfl,trivial⟩
    refine fx 17 h7 ?_
    refine gn ?_
    refine gn ?_
    refine gy (aw xp (gy (am ?_)))
    refine gn ?_
    refine gn ?_
    refine gn ?_
    refine gn ?_
    refine gn ?_
    refine gn ?_
    refine gy (aw xp (aw xp (nwq [29,5,1,0] ?_)))
    refine cf rfl ?_
    refine QbQ ?_
    refine bm ?_
    refine qr (am (aw xa (aa (nwq [5,1,0] ?_))))
    exact Qk (ih _ _ hF K) ⟨rfl,rfl,rfl,trivial⟩
   refine cf h3 ?_
   refine Q7 ?_
   refine te (te ?_)
   obtain rfl:=os hF
   exact Qk K trivial
 cases q1 with
 | ret r'=>exact os hF
 | nx sq1 =>
  skip
  refine QD ?_
  refine tn (sr (aa (nwq [4] ?_)))
  refine qt ?_
  have K:=os hF
  subst K
  exact r1 (fun w1 hw=>⟨rfl,hw⟩)
def Qau.l0(x0:ByteArray)(i4:Int)(i5:Int):Option (Ctl (Int) (Int)) :=
 if (decide (i5<(x0.size:Int)))=true then (if (0:Int)≤i5∧i5<(x0.size:Int) then QaA (bt x0 i5) true>>=fun t8=>if (decide (t8<0))=true then (some (.ret (-1))) else (Qau.l0 x0 (wr .i64 ((wr .i64 (16*i4))+t8)) (wr .i64 (i5+1))) else none) else (some (.nx i4))
 partial_fixpoint
def Qau(x0:ByteArray):Option (Int) :=
 if (decide ((x0.size:Int)<1))=true then (some (-1)) else (if (decide ((x0.size:Int)>4))=true then (some (-1)) else (Qau.l0 x0 0 0>>=fun q3=>match q3 with | .ret r'=>some r' | .nx sq3=>(some sq3)))
theorem Qfu(x0:ByteArray)(r:Int)(hF:Qau x0=some r)(w:World) :
    Calls Tryz.prog 186 #[.string x0] w (fun e w'=>e=.returned (.int .i64 r)∧w'=w):=by
 unfold Qau at hF
 refine ce (l:=[.string x0]) func186 rfl rfl ?_
 refine sr (aa (nwq [0] ?_))
 refine qs (sr (am ?_))
 refine aw (QaR underlying9 rfl) ?_
 refine aw xl (am ?_)
 obtain ⟨h1,hF⟩|⟨h1,hF⟩:=oi hF
 ·refine fx 9 h1 ?_
  refine gn ?_
  refine gn ?_
  refine gn ?_
  refine aw xp (nwq [13,0] ?_)
  refine ct rfl ?_
  refine sr (aa (nwq [2] ?_))
  refine rt ?_
  have K:=os hF
  subst K
  exact r1 (fun w1 hw=>⟨rfl,hw⟩)
 refine fx 9 h1 ?_
 refine gy (am (gy ?_))
 refine aw (QaR underlying9 rfl) ?_
 refine gy ?_
 refine aw (QbI rfl rfl) ?_
 refine aw xp (nwq [13,0] ?_)
 obtain ⟨h2,hF⟩|⟨h2,hF⟩:=oi hF
 ·refine ct h2 ?_
  refine sr (aa (nwq [2] ?_))
  refine rt ?_
  have K:=os hF
  subst K
  exact r1 (fun w1 hw=>⟨rfl,hw⟩)
 refine cf h2 ?_
 refine sns (aa (nt (qs (sr (aa (nwq [4,3,0] ?_))))))
 refine qb ?_
 obtain ⟨q3,hq3,hF⟩:=bM hF
 refine wq [4,3,0] ?_
 refine Qbn (B:=0) (r:=r) (q:=q3) (A:=fun sq3 Y=>At 31 [(3,.int .i64 sq3)] (fun w'=>w'=w) Y) ?_ ?_
 ·intro K
  refine Qau.l0.partial_correctness x0 (motive:=fun i4 i5 x=>KR (fun sq3 Y=>At 31 [(3,.int .i64 sq3)] (fun w'=>w'=w) Y) _ 0 r x→QbB (fun Y=>At 31 [(0,.string x0),(3,.int .i64 i4),(4,.int .i64 i5)] (fun w'=>w'=w) Y) _ _ _) ?_ _ _ _ hq3 K
  ·clear K hF
   intro g ih i4 i5 x hF K
   refine QW ?_
   refine qs (sr (am (am ?_)))
   refine aw (QaR underlying9 rfl) ?_
   refine aw xl (nwq [17,4,3,0] ?_)
   obtain ⟨h6,hF⟩|⟨h6,hF⟩:=oi hF
   ·refine ct h6 ?_
    refine sn (qs (qb (sr (am (am ?_)))))
    obtain ⟨h7,hF⟩:=gd hF
    refine aw (QaZ underlying9 rfl rfl h7) ?_
    obtain ⟨t8,ht8,hF⟩:=bM hF
    refine Qav func199 rfl (by kernel_rfl) rfl rfl (fun w=>QgA _ _ _ ht8 w) ?_
    refine aa (nt (qs (sr (am (aw xl (nwq [25,5,4,3,0] ?_))))))
    obtain ⟨h9,hF⟩|⟨h9,hF⟩:=oi hF
    ·refine ct h9 ?_
     refine sr (aa (nwq [2] ?_))
     refine qt ?_
     refine tr (br (tr (tr (br (tr ?_)))))
     obtain rfl:=os hF
     subst K
     exact r1 (fun w1 hw=>⟨rfl,hw⟩)
    refine cf h9 ?_
    refine sn (qr (am ?_))
    refine aw (QcT rfl rfl) ?_
    refine am (aw xa (aa (qn (wq [4,3,0] ?_))))
    refine bm ?_
    refine qr (am (aw xa (aa (nwq [4,3,0] ?_))))
    exact Qk (ih _ _ _ hF K) ⟨rfl,rfl,rfl,trivial⟩
   refine cf h6 ?_
   refine Q7 ?_
   refine te (te ?_)
   obtain rfl:=os hF
   exact Qk K ⟨rfl,trivial⟩
 cases q3 with
 | ret r'=>exact os hF
 | nx sq3 =>
  skip
  refine QD ?_
  refine tn (sr (am (aa (nwq [2] ?_))))
  refine qt ?_
  have K:=os hF
  subst K
  exact r1 (fun w1 hw=>⟨rfl,hw⟩)
def Qaj.l0(x1:Bool)(t2:List ByteArray)(i9:List Int)(i10:Int):Option (Ctl (List Int×Bool) (List Int)) :=
 if (decide (i10<(t2.length:Int)))=true then (if (0:Int)≤i10∧i10<(t2.length:Int) then Qau (QO t2 i10)>>=fun t20=>if (decide (t20≥0))=true then (if (i9.length+1)*8≤140737488355328 then Qaj.l0 x1 t2 (i9++[t20]) (wr .i64 (i10+1)) else none) else (if (0:Int)≤i10∧i10<(t2.length:Int) then QaI (QO t2 i10)>>=fun t30=>if (t30.2 != 0)=true then (some (.ret ([],false))) else (if (!x1)=true then (some (.ret ([],false))) else (if (decide (i10<wr .i64 ((t2.length:Int)-1)))=true then (some (.ret ([],false))) else (if (i9.length+2)*8≤140737488355328 then Qaj.l0 x1 t2 (i9++[wr .i64 ((wr .i64 (256*(wr .i64 (Qbb t30.1 0))))+(wr .i64 (Qbb t30.1 1))),wr .i64 ((wr .i64 (256*(wr .i64 (Qbb t30.1 2))))+(wr .i64 (Qbb t30.1 3)))]) (wr .i64 (i10+1)) else none))) else none) else none) else (some (.nx i9))
 partial_fixpoint
def Qaj(x0:ByteArray)(x1:Bool):Option (List Int×Bool) :=
 if (seq x0 (⟨#[]⟩:ByteArray))=true then (some ([],true)) else (QG x0 58>>=fun t2=>Qaj.l0 x1 t2 ([]:List Int) 0>>=fun q7=>match q7 with | .ret r'=>some r' | .nx sq7=>(some (sq7,true)))
theorem QdI(x0:ByteArray)(x1:Bool)(r:List Int×Bool)(hF:Qaj x0 x1=some r)(w:World) :
    Calls Tryz.prog 157 #[.string x0,.bool x1] w (fun e w'=>∃ p cap,e=.returned (.tuple #[.slice p r.1.length cap,.bool r.2])∧Own (Qv .i64) 3 w.heap.size w' p cap r.1∧Below w.heap.size w w'):=by
 unfold Qaj at hF
 refine ce (l:=[.string x0,.bool x1]) func157 rfl rfl ?_
 refine QN ?_
 refine sr (aa (aa (nt (qs (sr (am ?_))))))
 refine aw (QfK rfl rfl) ?_
 refine nwq [13,1,0] ?_
 obtain ⟨h1,hF⟩|⟨h1,hF⟩:=oi hF
 ·refine ct h1 ?_
  refine sr (aa (aa (nwq [5,4] ?_)))
  refine rt ?_
  have K:=os hF
  subst K
  exact Q6 rfl rfl rfl (fun w1 hw=>⟨none,0,rfl,Own.nil _ _ _ _,hw.below⟩)
 refine cf h1 ?_
 refine sns (aa (ns (am ?_)))
 obtain ⟨t2,ht2,hF⟩:=bM hF
 refine QbU (c:=QbA) (e:=9) (ys:=t2) (V:=fun p cap=>.slice p t2.length cap) func19 rfl (by kernel_rfl) rfl rfl (fun w hw=>Qak _ _ _ ht2 w) ?_
 intro p3 c4
 refine aa (nt (qs (sr (aa (nwq [8,7,6,1] ?_)))))
 refine qb ?_
 refine Qco (Qv .i64) 3 ?_
 obtain ⟨q7,hq7,hF⟩:=bM hF
 refine wq [8,7,6,1] ?_
 refine Qbn (B:=0) (r:=r) (q:=q7) (A:=fun sq7 Y=>∀ (p13:Option Addr) (c14:Nat),At 74 [(6,.slice p13 sq7.length c14)] (Wd w [Qbm (Qv .i64) 3 p13 c14 sq7]) Y) ?_ ?_
 ·intro K
  refine Qaj.l0.partial_correctness x1 t2 (motive:=fun i9 i10 x=>KR (fun sq7 Y=>∀ (p13:Option Addr) (c14:Nat),At 74 [(6,.slice p13 sq7.length c14)] (Wd w [Qbm (Qv .i64) 3 p13 c14 sq7]) Y) _ 0 r x→QbB (fun Y=>∀ (p11:Option Addr) (c12:Nat),At 74 [(1,.bool x1),(6,.slice p11 i9.length c12),(7,.slice p3 t2.length c4),(8,.int .i64 i10)] (Wd w [Qbm (Qv .i64) 3 p11 c12 i9,Qbm QbA 9 p3 c4 t2]) Y) _ _ _) ?_ _ _ _ hq7 K none 0
  ·clear K hF
   intro g ih i9 i10 x hF K p11 c12
   refine QW ?_
   refine qs (sr (am (am ?_)))
   refine aw (QZ underlying46 rfl) ?_
   refine aw xl (nwq [19,8,7,6,1] ?_)
   obtain ⟨h15,hF⟩|⟨h15,hF⟩:=oi hF
   ·refine ct h15 ?_
    refine sn (qs (qb (sr (am (am ?_)))))
    obtain ⟨h16,hF⟩:=gd hF
    refine Qae (φ:=∃ b o,p3=some ⟨b,o,none⟩) (fun _ hw=>Qaa (hw.own (.s .z)).row h16) ?_
    rintro ⟨b18,o19,hp17⟩
    refine aw (QbD underlying46 sizeOf9 rfl rfl h16 hp17) ?_
    refine aw (Qe isAgg9 rfl (fun _ hw=>QP (W:=fun w1=>w1=_) (fun w1 h=>by subst h;exact Below.refl _ _) (hw.own (.s .z)).row h16 hp17 rfl _ rfl)) ?_
    obtain ⟨t20,ht20,hF⟩:=bM hF
    refine Qav func186 rfl (by kernel_rfl) rfl rfl (fun w=>Qfu _ _ ht20 w) ?_
    refine aa (nt (qs (sr (am ?_))))
    refine aw (QfM rfl rfl) ?_
    refine nwq [28,9,8,7,6,1] ?_
    obtain ⟨h21,hF⟩|⟨h21,hF⟩:=oi hF
    ·refine ct h21 ?_
     refine sr (am (am ?_))
     refine Qep (cs:=(Qv .i64).all ([t20]:List Int)) underlying124 sizeOf3 zeroValue3 rfl rfl rfl (by kernel_rfl) rfl ?_
     intro b22
     obtain ⟨h23,hF⟩:=gd hF
     refine Qcl (z:=.int .i64 0) (c:=(Qv .i64)) (ys:=([t20]:List Int)) (.s .z) underlying124 Qj5 (by kernel_rfl) (by kernel_rfl) rfl rfl rfl rfl (fun _ hw=>QbX (hw.ok (Upd.mem .z))) (by kernel_rfl) h23 (QbR h23) rfl ?_
     intro p24 c25
     refine aa (qn (dz (wq [8,7,6,1] ?_)))
     refine tn ?_
     refine Q7 ?_
     refine te (QD (tn ?_))
     refine qr (am (aw xa (aa (nwq [8,7,6,1] ?_))))
     exact Qk (ih _ _ _ hF K p24 c25) ⟨rfl,rfl,rfl,rfl,trivial⟩
    refine cf h21 ?_
    refine sns (am (am ?_))
    obtain ⟨h26,hF⟩:=gd hF
    refine Qae (φ:=∃ b o,p3=some ⟨b,o,none⟩) (fun _ hw=>Qaa (hw.own (.s .z)).row h26) ?_
    rintro ⟨b28,o29,hp27⟩
    refine aw (QbD underlying46 sizeOf9 rfl rfl h26 hp27) ?_
    refine aw (Qe isAgg9 rfl (fun _ hw=>QP (W:=fun w1=>w1=_) (fun w1 h=>by subst h;exact Below.refl _ _) (hw.own (.s .z)).row h26 hp27 rfl _ rfl)) ?_
    obtain ⟨t30,ht30,hF⟩:=bM hF
    refine cB func121 rfl (fun w hw=>Qev _ _ ht30 w) ?_
    refine am ?_
    refine aw xe (aw xe ?_)
    refine al (cs:=Cd.cs (QQ (Qv .u8) 4 (by decide)) zv5) zeroValue143 ?_
    intro b31
    refine Qn (c:=(QQ (Qv .u8) 4 (by decide))) (z:=t30.1) .z lw sizeOf143 rfl rfl rfl ?_
    refine aa (nwq [11,10,8,7,6,1] ?_)
    refine qs (sr (am (aw xn (am ?_))))
    obtain ⟨h32,hF⟩|⟨h32,hF⟩:=oi hF
    ·refine fx 43 h32 ?_
     refine gn ?_
     refine gn ?_
     refine aw xp (am ?_)
     refine gn ?_
     refine gn ?_
     refine gn ?_
     refine gn ?_
     refine gn ?_
     refine aw xp (nwq [53,10,8,7,6,1] ?_)
     refine ct rfl ?_
     refine sr (aa (aa (qn (dz (dz (dz (wq [5,4] ?_)))))))
     refine tn (qt ?_)
     refine tr (br (tr (tr (br (tr ?_)))))
     obtain rfl:=os hF
     subst K
     exact Q6 rfl rfl rfl (fun w1 hw=>⟨none,0,rfl,Own.nil _ _ _ _,hw.below⟩)
    refine fx 43 h32 ?_
    refine gy (am (gy ?_))
    refine aw (Qcq rfl) ?_
    refine aw xp (am ?_)
    obtain ⟨h33,hF⟩|⟨h33,hF⟩:=oi hF
    ·refine fx 47 h33 ?_
     refine gn ?_
     refine gn ?_
     refine gn ?_
     refine gn ?_
     refine gn ?_
     refine aw xp (nwq [53,10,8,7,6,1] ?_)
     refine ct rfl ?_
     refine sr (aa (aa (qn (dz (dz (dz (wq [5,4] ?_)))))))
     refine tn (qt ?_)
     refine tr (br (tr (tr (br (tr ?_)))))
     obtain rfl:=os hF
     subst K
     exact Q6 rfl rfl rfl (fun w1 hw=>⟨none,0,rfl,Own.nil _ _ _ _,hw.below⟩)
    refine fx 47 h33 ?_
    refine gy (am (gy (am (gy ?_))))
    refine aw (QZ underlying46 rfl) ?_
    refine gy ?_
    refine aw (Qdh rfl rfl) ?_
    refine gy (aw xl (aw xp (nwq [53,10,8,7,6,1] ?_)))
    obtain ⟨h34,hF⟩|⟨h34,hF⟩:=oi hF
    ·refine ct h34 ?_
     refine sr (aa (aa (qn (dz (dz (dz (wq [5,4] ?_)))))))
     refine tn (qt ?_)
     refine tr (br (tr (tr (br (tr ?_)))))
     obtain rfl:=os hF
     subst K
     exact Q6 rfl rfl rfl (fun w1 hw=>⟨none,0,rfl,Own.nil _ _ _ _,hw.below⟩)
    refine cf h34 ?_
    refine sn (qr (am ?_))
    refine aw (Qas underlying143 sizeOf5 rfl rfl (by decide)) ?_
    refine aw (Qe isAgg5 rfl (Qm (c:=(Qv .u8)) (y:=Qbb t30.1 0) .z (Qaf.comp lw (fun z=>Qb2 t30.1 0 z) (Qaf.vec (Qv .u8) (by decide) t30.1 0 (by decide))) rfl)) ?_
    refine aw (QaW underlying5 underlying3 rfl) ?_
    refine aw (QcT rfl rfl) ?_
    refine aw (Qas underlying143 sizeOf5 rfl rfl (by decide)) ?_
    refine aw (Qe isAgg5 rfl (Qm (c:=(Qv .u8)) (y:=Qbb t30.1 1) .z (Qaf.comp lw (fun z=>Qb2 t30.1 1 z) (Qaf.vec (Qv .u8) (by decide) t30.1 1 (by decide))) rfl)) ?_
    refine aw (QaW underlying5 underlying3 rfl) ?_
    refine aw xa ?_
    refine aw (Qas underlying143 sizeOf5 rfl rfl (by decide)) ?_
    refine aw (Qe isAgg5 rfl (Qm (c:=(Qv .u8)) (y:=Qbb t30.1 2) .z (Qaf.comp lw (fun z=>Qb2 t30.1 2 z) (Qaf.vec (Qv .u8) (by decide) t30.1 2 (by decide))) rfl)) ?_
    refine aw (QaW underlying5 underlying3 rfl) ?_
    refine aw (QcT rfl rfl) ?_
    refine aw (Qas underlying143 sizeOf5 rfl rfl (by decide)) ?_
    refine aw (Qe isAgg5 rfl (Qm (c:=(Qv .u8)) (y:=Qbb t30.1 3) .z (Qaf.comp lw (fun z=>Qb2 t30.1 3 z) (Qaf.vec (Qv .u8) (by decide) t30.1 3 (by decide))) rfl)) ?_
    refine aw (QaW underlying5 underlying3 rfl) ?_
    refine aw xa ?_
    refine Qep (cs:=(Qv .i64).all ([wr .i64 ((wr .i64 (256*(wr .i64 (Qbb t30.1 0))))+(wr .i64 (Qbb t30.1 1))),wr .i64 ((wr .i64 (256*(wr .i64 (Qbb t30.1 2))))+(wr .i64 (Qbb t30.1 3)))]:List Int)) underlying124 sizeOf3 zeroValue3 rfl rfl rfl (by kernel_rfl) rfl ?_
    intro b35
    obtain ⟨h36,hF⟩:=gd hF
    refine Qcl (z:=.int .i64 0) (c:=(Qv .i64)) (ys:=([wr .i64 ((wr .i64 (256*(wr .i64 (Qbb t30.1 0))))+(wr .i64 (Qbb t30.1 1))),wr .i64 ((wr .i64 (256*(wr .i64 (Qbb t30.1 2))))+(wr .i64 (Qbb t30.1 3)))]:List Int)) (.s (.s .z)) underlying124 Qj5 (by kernel_rfl) (by kernel_rfl) rfl rfl rfl rfl (fun _ hw=>QbX (hw.ok (Upd.mem .z))) (by kernel_rfl) h36 (QbR h36) rfl ?_
    intro p37 c38
    refine aa (qn (dz (dz (wq [8,7,6,1] ?_))))
    refine bm ?_
    refine qr (am (aw xa (aa (nwq [8,7,6,1] ?_))))
    exact Qk (ih _ _ _ hF K p37 c38) ⟨rfl,rfl,rfl,rfl,trivial⟩
   refine cf h15 ?_
   refine Q7 ?_
   refine te (te ?_)
   refine Qam (H:=_) (.s .z) ?_
   obtain rfl:=os hF
   exact Qk (K p11 c12) ⟨rfl,trivial⟩
 cases q7 with
 | ret r'=>exact os hF
 | nx sq7 =>
  intro p13 c14
  refine QD ?_
  refine tn (sr (am (aa (aa (nwq [5,4] ?_)))))
  refine qt ?_
  have K:=os hF
  subst K
  exact Q6 rfl rfl rfl (fun w1 hw=>⟨p13,c14,rfl,hw.own .z,hw.below⟩)
def QC.l0(t5:List Int×Bool)(i11:Int)(i12:(Vector Int 16)):Option ((Vector Int 16)) :=
 if (decide (i11<8))=true then (if (0:Int)≤i11∧i11<(t5.1.length:Int) then if (0:Int)≤wr .i64 (2*i11)∧wr .i64 (2*i11)<16 then if (0:Int)≤i11∧i11<(t5.1.length:Int) then if (0:Int)≤wr .i64 ((wr .i64 (2*i11))+1)∧wr .i64 ((wr .i64 (2*i11))+1)<16 then QC.l0 t5 (wr .i64 (i11+1)) (Qb2 (Qb2 i12 (wr .i64 (2*i11)) (wr .u8 (wr .i64 (Int.tdiv (QO t5.1 i11) 256)))) (wr .i64 ((wr .i64 (2*i11))+1)) (wr .u8 (Int.tmod (QO t5.1 i11) 256))) else none else none else none else none) else (some i12)
 partial_fixpoint
def QC.l1(t25:List Int×Bool)(i38:List Int)(i39:Int):Option (List Int) :=
 if (decide (i39<(t25.1.length:Int)))=true then (if (0:Int)≤i39∧i39<(t25.1.length:Int) then if (i38.length+1)*8≤140737488355328 then QC.l1 t25 (i38++[QO t25.1 i39]) (wr .i64 (i39+1)) else none else none) else (some i38)
 partial_fixpoint
def QC.l2(t29:List Int×Bool)(i56:List Int):Option (List Int) :=
 if (decide (wr .i64 ((i56.length:Int)+(t29.1.length:Int))<8))=true then (if (i56.length+1)*8≤140737488355328 then QC.l2 t29 (i56++[0]) else none) else (some i56)
 partial_fixpoint
def QC.l3(t29:List Int×Bool)(q55:List Int)(i70:Int)(i71:(Vector Int 16)):Option ((Vector Int 16)) :=
 if (decide (i70<8))=true then (if (0:Int)≤i70∧i70<((q55++t29.1).length:Int) then if (0:Int)≤wr .i64 (2*i70)∧wr .i64 (2*i70)<16 then if (0:Int)≤i70∧i70<((q55++t29.1).length:Int) then if (0:Int)≤wr .i64 ((wr .i64 (2*i70))+1)∧wr .i64 ((wr .i64 (2*i70))+1)<16 then QC.l3 t29 q55 (wr .i64 (i70+1)) (Qb2 (Qb2 i71 (wr .i64 (2*i70)) (wr .u8 (wr .i64 (Int.tdiv (QO (q55++t29.1) i70) 256)))) (wr .i64 ((wr .i64 (2*i70))+1)) (wr .u8 (Int.tmod (QO (q55++t29.1) i70) 256))) else none else none else none else none) else (some i71)
 partial_fixpoint
def QC(x0:ByteArray):Option ((Vector Int 16)×Bool) :=
 QaH x0>>=fun t3=>if (decide (t3<0))=true then (Qaj x0 true>>=fun t5=>if (!t5.2)=true then (some ((Vector.replicate 16 (0:Int):(Vector Int 16)),false)) else (if ((t5.1.length:Int) != 8)=true then (some ((Vector.replicate 16 (0:Int):(Vector Int 16)),false)) else (QC.l0 t5 0 (Vector.replicate 16 (0:Int):(Vector Int 16))>>=fun q10=>some (q10,true)))) else (if (0:Int)≤0∧0≤t3∧t3≤(x0.size:Int) then Qaj (x0.extract (Int.toNat 0) (Int.toNat t3)) false>>=fun t25=>if (0:Int)≤wr .i64 (t3+2)∧wr .i64 (t3+2)≤(x0.size:Int)∧(x0.size:Int)≤(x0.size:Int) then Qaj (x0.extract (Int.toNat (wr .i64 (t3+2))) (Int.toNat (x0.size:Int))) true>>=fun t29=>if (!t25.2)=true then (some ((Vector.replicate 16 (0:Int):(Vector Int 16)),false)) else (if (!t29.2)=true then (some ((Vector.replicate 16 (0:Int):(Vector Int 16)),false)) else (if (decide (wr .i64 ((t25.1.length:Int)+(t29.1.length:Int))>7))=true then (some ((Vector.replicate 16 (0:Int):(Vector Int 16)),false)) else (QC.l1 t25 ([]:List Int) 0>>=fun q37=>QC.l2 t29 q37>>=fun q55=>if (q55.length+t29.1.length)*8≤140737488355328 then QC.l3 t29 q55 0 (Vector.replicate 16 (0:Int):(Vector Int 16))>>=fun q69=>some (q69,true) else none))) else none else none)
theorem Qgx(x0:ByteArray)(r:(Vector Int 16)×Bool)(hF:QC x0=some r)(w:World) :
    Calls Tryz.prog 120 #[.string x0] w (fun e w'=>e=.returned (.tuple #[.agg (Cd.cs (QQ (Qv .u8) 16 (by decide)) r.1).toArray,.bool r.2])∧Below w.heap.size w w'):=by
 unfold QC at hF
 refine ce (l:=[.string x0]) func120 rfl rfl ?_
 refine QN ?_
 refine sr ?_
 refine al (cs:=Cd.cs (QQ (Qv .u8) 16 (by decide)) zv3) zeroValue53 ?_
 intro b1
 refine aa (ns ?_)
 refine al (cs:=Cd.cs (QQ (Qv .u8) 16 (by decide)) zv3) zeroValue53 ?_
 intro b2
 refine ns (aa (ns (am ?_)))
 obtain ⟨t3,ht3,hF⟩:=bM hF
 refine Qav func156 rfl (by kernel_rfl) rfl rfl (fun w=>Qhr _ _ ht3 w) ?_
 refine aa (nt (qs (sr (am (aw xl (nwq [18,6,5,4,2,0] ?_))))))
 obtain ⟨h4,hF⟩|⟨h4,hF⟩:=oi hF
 ·refine ct h4 ?_
  refine sr (am ?_)
  obtain ⟨t5,ht5,hF⟩:=bM hF
  refine QbU (c:=(Qv .i64)) (e:=3) (ys:=t5.1) (V:=fun p cap=>.tuple #[.slice p t5.1.length cap,.bool t5.2]) func157 rfl (by kernel_rfl) rfl rfl (fun w hw=>QdI _ _ _ ht5 w) ?_
  intro p6 c7
  refine am ?_
  refine aw xe (aw xe (aa (aa (nwq [8,7,4,2] ?_))))
  refine qs (sr (am ?_))
  refine aw (Qcq rfl) ?_
  refine am ?_
  obtain ⟨h8,hF⟩|⟨h8,hF⟩:=oi hF
  ·refine fx 26 h8 ?_
   refine gn ?_
   refine gn ?_
   refine gn ?_
   refine aw xp (nwq [30,7,4,2] ?_)
   refine ct rfl ?_
   refine sr ?_
   refine aw (Qg (c:=(QQ (Qv .u8) 16 (by decide))) (z:=zv3) isAgg53 sizeOf53 rfl (Qp (.s .z) lw)) ?_
   refine Qn (c:=(QQ (Qv .u8) 16 (by decide))) (z:=zv3) (.s (.s .z)) lw sizeOf53 rfl rfl rfl ?_
   refine aa (qn (dz (dz (wq [3,2] ?_))))
   refine tn (qt ?_)
   refine tr (tr ?_)
   have K:=os hF
   subst K
   exact QU rfl (QE (c:=(QQ (Qv .u8) 16 (by decide))) (y:=zv3) rfl .z lw isAgg53 sizeOf53 (.inl rfl)) (QS rfl) wb
  refine fx 26 h8 ?_
  refine gy (am (gy ?_))
  refine aw (QZ underlying124 rfl) ?_
  refine gy (aw xn (aw xp (nwq [30,7,4,2] ?_)))
  obtain ⟨h9,hF⟩|⟨h9,hF⟩:=oi hF
  ·refine ct h9 ?_
   refine sr ?_
   refine aw (Qg (c:=(QQ (Qv .u8) 16 (by decide))) (z:=zv3) isAgg53 sizeOf53 rfl (Qp (.s .z) lw)) ?_
   refine Qn (c:=(QQ (Qv .u8) 16 (by decide))) (z:=zv3) (.s (.s .z)) lw sizeOf53 rfl rfl rfl ?_
   refine aa (qn (dz (dz (wq [3,2] ?_))))
   refine tn (qt ?_)
   refine tr (tr ?_)
   have K:=os hF
   subst K
   exact QU rfl (QE (c:=(QQ (Qv .u8) 16 (by decide))) (y:=zv3) rfl .z lw isAgg53 sizeOf53 (.inl rfl)) (QS rfl) wb
  refine cf h9 ?_
  refine sn (qr (am (aa (nt (qs (sr (aa (nwq [14,5,4,2] ?_))))))))
  refine qb ?_
  obtain ⟨q10,hq10,hF⟩:=bM hF
  refine wq [14,5,4,2] ?_
  refine Qal (B:=4) (A:=fun Y=>At 112 [(2,.pointer (some ⟨b1,0,none⟩)),(4,.pointer (some ⟨b2,0,none⟩))] (Wd w [Qi b2 (Cd.cs (QQ (Qv .u8) 16 (by decide)) q10) 53,Qi b1 (Cd.cs (QQ (Qv .u8) 16 (by decide)) zv3) 53]) Y) ?_ ?_
  ·intro K
   refine QC.l0.partial_correctness t5 (motive:=fun i11 i12 x=>KN (fun Y=>At 112 [(2,.pointer (some ⟨b1,0,none⟩)),(4,.pointer (some ⟨b2,0,none⟩))] (Wd w [Qi b2 (Cd.cs (QQ (Qv .u8) 16 (by decide)) x) 53,Qi b1 (Cd.cs (QQ (Qv .u8) 16 (by decide)) zv3) 53]) Y) _ 4→QbB (fun Y=>At 112 [(2,.pointer (some ⟨b1,0,none⟩)),(4,.pointer (some ⟨b2,0,none⟩)),(5,.slice p6 t5.1.length c7),(14,.int .i64 i11)] (Wd w [Qbm (Qv .i64) 3 p6 c7 t5.1,Qi b2 (Cd.cs (QQ (Qv .u8) 16 (by decide)) i12) 53,Qi b1 (Cd.cs (QQ (Qv .u8) 16 (by decide)) zv3) 53]) Y) _ _ _) ?_ _ _ _ hq10 K
   ·clear K hF
    intro g ih i11 i12 x hF K
    refine QW ?_
    refine qs (sr (am (aw xl (nwq [89,14,5,4,2] ?_))))
    obtain ⟨h13,hF⟩|⟨h13,hF⟩:=oi hF
    ·refine ct h13 ?_
     refine sn (qs (qb (sr (am ?_))))
     refine aw (QcT rfl rfl) ?_
     refine am (am ?_)
     obtain ⟨h14,hF⟩:=gd hF
     refine Qae (φ:=∃ b o,p6=some ⟨b,o,none⟩) (fun _ hw=>Qaa (hw.own .z).row h14) ?_
     rintro ⟨b16,o17,hp15⟩
     refine aw (QbD underlying124 sizeOf3 rfl rfl h14 hp15) ?_
     refine aw (Qe isAgg3 rfl (fun _ hw=>QP (W:=fun w1=>w1=_) (fun w1 h=>by subst h;exact Below.refl _ _) (hw.own .z).row h14 hp15 rfl _ rfl)) ?_
     refine aw (Qfl rfl rfl (by decide)) ?_
     refine aw (QaW underlying3 underlying5 rfl) ?_
     obtain ⟨h18,hF⟩:=gd hF
     refine aw (Qas underlying53 sizeOf5 rfl rfl h18) ?_
     refine Qn (c:=(Qv .u8)) (z:=wr .u8 (wr .i64 (Int.tdiv (QO t5.1 i11) 256))) (.s .z) (Qaf.comp lw (fun z=>Qb2 i12 (wr .i64 (2*i11)) z) (Qaf.vec (Qv .u8) (by decide) i12 (wr .i64 (2*i11)) h18)) sizeOf5 rfl rfl rfl ?_
     refine nt (qr (am ?_))
     refine aw (QcT rfl rfl) ?_
     refine aw xa (am (am ?_))
     obtain ⟨h19,hF⟩:=gd hF
     refine Qae (φ:=∃ b o,p6=some ⟨b,o,none⟩) (fun _ hw=>Qaa (hw.own .z).row h19) ?_
     rintro ⟨b21,o22,hp20⟩
     refine aw (QbD underlying124 sizeOf3 rfl rfl h19 hp20) ?_
     refine aw (Qe isAgg3 rfl (fun _ hw=>QP (W:=fun w1=>w1=_) (fun w1 h=>by subst h;exact Below.refl _ _) (hw.own .z).row h19 hp20 rfl _ rfl)) ?_
     refine aw (QfL rfl rfl (by decide)) ?_
     refine aw (QaW underlying3 underlying5 rfl) ?_
     obtain ⟨h23,hF⟩:=gd hF
     refine aw (Qas underlying53 sizeOf5 rfl rfl h23) ?_
     refine Qn (c:=(Qv .u8)) (z:=wr .u8 (Int.tmod (QO t5.1 i11) 256)) (.s .z) (Qaf.comp lw (fun z=>Qb2 (Qb2 i12 (wr .i64 (2*i11)) (wr .u8 (wr .i64 (Int.tdiv (QO t5.1 i11) 256)))) (wr .i64 ((wr .i64 (2*i11))+1)) z) (Qaf.vec (Qv .u8) (by decide) (Qb2 i12 (wr .i64 (2*i11)) (wr .u8 (wr .i64 (Int.tdiv (QO t5.1 i11) 256)))) (wr .i64 ((wr .i64 (2*i11))+1)) h23)) sizeOf5 rfl rfl rfl ?_
     refine qn (wq [14,5,4,2] ?_)
     refine bm ?_
     refine qr (am (aw xa (aa (nwq [14,5,4,2] ?_))))
     exact Qk (ih _ _ _ hF K) ⟨rfl,rfl,rfl,rfl,trivial⟩
    refine cf h13 ?_
    refine Q7 ?_
    refine te (te ?_)
    refine dz ?_
    obtain rfl:=os hF
    exact Qk K ⟨rfl,rfl,trivial⟩
  skip
  skip
  refine QD ?_
  refine tn (sr ?_)
  refine aw (Qg (c:=(QQ (Qv .u8) 16 (by decide))) (z:=q10) isAgg53 sizeOf53 rfl (Qp .z lw)) ?_
  refine Qn (c:=(QQ (Qv .u8) 16 (by decide))) (z:=q10) (.s .z) lw sizeOf53 rfl rfl rfl ?_
  refine aa (qn (dz (wq [3,2] ?_)))
  refine tn (qt ?_)
  have K:=os hF
  subst K
  exact QU rfl (QE (c:=(QQ (Qv .u8) 16 (by decide))) (y:=q10) rfl .z lw isAgg53 sizeOf53 (.inl rfl)) (QS rfl) wb
 refine cf h4 ?_
 refine sr (am (am ?_))
 obtain ⟨h24,hF⟩:=gd hF
 refine aw (Qbc underlying9 rfl rfl ⟨_,rfl⟩ h24) ?_
 obtain ⟨t25,ht25,hF⟩:=bM hF
 refine QbU (c:=(Qv .i64)) (e:=3) (ys:=t25.1) (V:=fun p cap=>.tuple #[.slice p t25.1.length cap,.bool t25.2]) func157 rfl (by kernel_rfl) rfl rfl (fun w hw=>QdI _ _ _ ht25 w) ?_
 intro p26 c27
 refine am ?_
 refine aw xe (aw xe (aa (aa (ns (am (am (aw xa ?_)))))))
 obtain ⟨h28,hF⟩:=gd hF
 refine aw (Qbc underlying9 rfl ⟨_,rfl⟩ rfl h28) ?_
 obtain ⟨t29,ht29,hF⟩:=bM hF
 refine QbU (c:=(Qv .i64)) (e:=3) (ys:=t29.1) (V:=fun p cap=>.tuple #[.slice p t29.1.length cap,.bool t29.2]) func157 rfl (by kernel_rfl) rfl rfl (fun w hw=>QdI _ _ _ ht29 w) ?_
 intro p30 c31
 refine am ?_
 refine aw xe (aw xe (aa (aa (nwq [12,11,10,9,5,4,2] ?_))))
 refine qs (sr (am ?_))
 refine aw (Qcq rfl) ?_
 refine am ?_
 obtain ⟨h32,hF⟩|⟨h32,hF⟩:=oi hF
 ·refine fx 50 h32 ?_
  refine gn ?_
  refine gn ?_
  refine aw xp (am ?_)
  refine gn ?_
  refine gn ?_
  refine gn ?_
  refine gn ?_
  refine gn ?_
  refine gn ?_
  refine aw xp (nwq [61,11,9,5,4,2] ?_)
  refine ct rfl ?_
  refine sr ?_
  refine aw (Qg (c:=(QQ (Qv .u8) 16 (by decide))) (z:=zv3) isAgg53 sizeOf53 rfl (Qp (.s (.s .z)) lw)) ?_
  refine Qn (c:=(QQ (Qv .u8) 16 (by decide))) (z:=zv3) (.s (.s (.s .z))) lw sizeOf53 rfl rfl rfl ?_
  refine aa (qn (dz (dz (dz (wq [3,2] ?_)))))
  refine tn (qt ?_)
  refine tr (tr ?_)
  have K:=os hF
  subst K
  exact QU rfl (QE (c:=(QQ (Qv .u8) 16 (by decide))) (y:=zv3) rfl .z lw isAgg53 sizeOf53 (.inl rfl)) (QS rfl) wb
 refine fx 50 h32 ?_
 refine gy (am (gy ?_))
 refine aw (Qcq rfl) ?_
 refine aw xp (am ?_)
 obtain ⟨h33,hF⟩|⟨h33,hF⟩:=oi hF
 ·refine fx 54 h33 ?_
  refine gn ?_
  refine gn ?_
  refine gn ?_
  refine gn ?_
  refine gn ?_
  refine gn ?_
  refine aw xp (nwq [61,11,9,5,4,2] ?_)
  refine ct rfl ?_
  refine sr ?_
  refine aw (Qg (c:=(QQ (Qv .u8) 16 (by decide))) (z:=zv3) isAgg53 sizeOf53 rfl (Qp (.s (.s .z)) lw)) ?_
  refine Qn (c:=(QQ (Qv .u8) 16 (by decide))) (z:=zv3) (.s (.s (.s .z))) lw sizeOf53 rfl rfl rfl ?_
  refine aa (qn (dz (dz (dz (wq [3,2] ?_)))))
  refine tn (qt ?_)
  refine tr (tr ?_)
  have K:=os hF
  subst K
  exact QU rfl (QE (c:=(QQ (Qv .u8) 16 (by decide))) (y:=zv3) rfl .z lw isAgg53 sizeOf53 (.inl rfl)) (QS rfl) wb
 refine fx 54 h33 ?_
 refine gy (am (gy ?_))
 refine aw (QZ underlying124 rfl) ?_
 refine gy (am (gy ?_))
 refine aw (QZ underlying124 rfl) ?_
 refine gy (aw xa (gy ?_))
 refine aw (QbI rfl rfl) ?_
 refine aw xp (nwq [61,11,9,5,4,2] ?_)
 obtain ⟨h34,hF⟩|⟨h34,hF⟩:=oi hF
 ·refine ct h34 ?_
  refine sr ?_
  refine aw (Qg (c:=(QQ (Qv .u8) 16 (by decide))) (z:=zv3) isAgg53 sizeOf53 rfl (Qp (.s (.s .z)) lw)) ?_
  refine Qn (c:=(QQ (Qv .u8) 16 (by decide))) (z:=zv3) (.s (.s (.s .z))) lw sizeOf53 rfl rfl rfl ?_
  refine aa (qn (dz (dz (dz (wq [3,2] ?_)))))
  refine tn (qt ?_)
  refine tr (tr ?_)
  have K:=os hF
  subst K
  exact QU rfl (QE (c:=(QQ (Qv .u8) 16 (by decide))) (y:=zv3) rfl .z lw isAgg53 sizeOf53 (.inl rfl)) (QS rfl) wb
 refine cf h34 ?_
 refine sn (qs (sr (aa (nwq [13,11,9,5,4,2] ?_))))
 refine qb ?_
 refine Qco (Qv .i64) 3 ?_
 obtain ⟨q37,hq37,hF⟩:=bM hF
 refine wq [13,11,9,5,4,2] ?_
 refine Qal (B:=0) (A:=fun Y=>∀ (p42:Option Addr) (c43:Nat),At 112 [(2,.pointer (some ⟨b1,0,none⟩)),(4,.pointer (some ⟨b2,0,none⟩)),(5,.slice p42 q37.length c43),(11,.slice p30 t29.1.length c31)] (Wd w [Qbm (Qv .i64) 3 p42 c43 q37,Qbm (Qv .i64) 3 p30 c31 t29.1,Qi b2 (Cd.cs (QQ (Qv .u8) 16 (by decide)) zv3) 53,Qi b1 (Cd.cs (QQ (Qv .u8) 16 (by decide)) zv3) 53]) Y) ?_ ?_
 ·intro K
  refine QC.l1.partial_correctness t25 (motive:=fun i38 i39 x=>KN (fun Y=>∀ (p42:Option Addr) (c43:Nat),At 112 [(2,.pointer (some ⟨b1,0,none⟩)),(4,.pointer (some ⟨b2,0,none⟩)),(5,.slice p42 x.length c43),(11,.slice p30 t29.1.length c31)] (Wd w [Qbm (Qv .i64) 3 p42 c43 x,Qbm (Qv .i64) 3 p30 c31 t29.1,Qi b2 (Cd.cs (QQ (Qv .u8) 16 (by decide)) zv3) 53,Qi b1 (Cd.cs (QQ (Qv .u8) 16 (by decide)) zv3) 53]) Y) _ 0→QbB (fun Y=>∀ (p40:Option Addr) (c41:Nat),At 112 [(2,.pointer (some ⟨b1,0,none⟩)),(4,.pointer (some ⟨b2,0,none⟩)),(5,.slice p40 i38.length c41),(9,.slice p26 t25.1.length c27),(11,.slice p30 t29.1.length c31),(13,.int .i64 i39)] (Wd w [Qbm (Qv .i64) 3 p40 c41 i38,Qbm (Qv .i64) 3 p30 c31 t29.1,Qbm (Qv .i64) 3 p26 c27 t25.1,Qi b2 (Cd.cs (QQ (Qv .u8) 16 (by decide)) zv3) 53,Qi b1 (Cd.cs (QQ (Qv .u8) 16 (by decide)) zv3) 53]) Y) _ _ _) ?_ _ _ _ hq37 K none 0
  ·clear K hF
   intro g ih i38 i39 x hF K p40 c41
   refine QW ?_
   refine qs (sr (am (am ?_)))
   refine aw (QZ underlying124 rfl) ?_
   refine aw xl (nwq [66,13,11,9,5,4,2] ?_)
   obtain ⟨h44,hF⟩|⟨h44,hF⟩:=oi hF
   ·refine ct h44 ?_
    refine sn (qs (qb (qr (am (am (am ?_))))))
    obtain ⟨h45,hF⟩:=gd hF
    refine Qae (φ:=∃ b o,p26=some ⟨b,o,none⟩) (fun _ hw=>Qaa (hw.own (.s (.s .z))).row h45) ?_
    rintro ⟨b47,o48,hp46⟩
    refine aw (QbD underlying124 sizeOf3 rfl rfl h45 hp46) ?_
    refine aw (Qe isAgg3 rfl (fun _ hw=>QP (W:=fun w1=>w1=_) (fun w1 h=>by subst h;exact Below.refl _ _) (hw.own (.s (.s .z))).row h45 hp46 rfl _ rfl)) ?_
    refine Qep (cs:=(Qv .i64).all ([QO t25.1 i39]:List Int)) underlying124 sizeOf3 zeroValue3 rfl rfl rfl (by kernel_rfl) rfl ?_
    intro b49
    obtain ⟨h50,hF⟩:=gd hF
    refine Qcl (z:=.int .i64 0) (c:=(Qv .i64)) (ys:=([QO t25.1 i39]:List Int)) (.s .z) underlying124 Qj5 (by kernel_rfl) (by kernel_rfl) rfl rfl rfl rfl (fun _ hw=>QbX (hw.ok (Upd.mem .z))) (by kernel_rfl) h50 (QbR h50) rfl ?_
    intro p51 c52
    refine aa (qn (dz (wq [13,11,9,5,4,2] ?_)))
    refine bm ?_
    refine qr (am (aw xa (aa (nwq [13,11,9,5,4,2] ?_))))
    exact Qk (ih _ _ _ hF K p51 c52) ⟨rfl,rfl,rfl,rfl,rfl,rfl,trivial⟩
   refine cf h44 ?_
   refine Q7 ?_
   refine te (te ?_)
   refine Qam (H:=_) (.s (.s .z)) ?_
   obtain rfl:=os hF
   exact Qk (K p40 c41) ⟨rfl,rfl,rfl,rfl,trivial⟩
 skip
 intro p42 c43
 refine QD ?_
 refine tn (qs (qb ?_))
 obtain ⟨q55,hq55,hF⟩:=bM hF
 refine wq [11,5,4,2] ?_
 refine Qal (B:=2) (A:=fun Y=>∀ (p59:Option Addr) (c60:Nat),At 112 [(2,.pointer (some ⟨b1,0,none⟩)),(4,.pointer (some ⟨b2,0,none⟩)),(5,.slice p59 q55.length c60),(11,.slice p30 t29.1.length c31)] (Wd w [Qbm (Qv .i64) 3 p59 c60 q55,Qbm (Qv .i64) 3 p30 c31 t29.1,Qi b2 (Cd.cs (QQ (Qv .u8) 16 (by decide)) zv3) 53,Qi b1 (Cd.cs (QQ (Qv .u8) 16 (by decide)) zv3) 53]) Y) ?_ ?_
 ·intro K
  refine QC.l2.partial_correctness t29 (motive:=fun i56 x=>KN (fun Y=>∀ (p59:Option Addr) (c60:Nat),At 112 [(2,.pointer (some ⟨b1,0,none⟩)),(4,.pointer (some ⟨b2,0,none⟩)),(5,.slice p59 x.length c60),(11,.slice p30 t29.1.length c31)] (Wd w [Qbm (Qv .i64) 3 p59 c60 x,Qbm (Qv .i64) 3 p30 c31 t29.1,Qi b2 (Cd.cs (QQ (Qv .u8) 16 (by decide)) zv3) 53,Qi b1 (Cd.cs (QQ (Qv .u8) 16 (by decide)) zv3) 53]) Y) _ 2→QbB (fun Y=>∀ (p57:Option Addr) (c58:Nat),At 112 [(2,.pointer (some ⟨b1,0,none⟩)),(4,.pointer (some ⟨b2,0,none⟩)),(5,.slice p57 i56.length c58),(11,.slice p30 t29.1.length c31)] (Wd w [Qbm (Qv .i64) 3 p57 c58 i56,Qbm (Qv .i64) 3 p30 c31 t29.1,Qi b2 (Cd.cs (QQ (Qv .u8) 16 (by decide)) zv3) 53,Qi b1 (Cd.cs (QQ (Qv .u8) 16 (by decide)) zv3) 53]) Y) _ _ _) ?_ _ _ hq55 K p42 c43
  ·clear K hF
   intro g ih i56 x hF K p57 c58
   refine QW ?_
   refine qs (sr (am ?_))
   refine aw (QZ underlying124 rfl) ?_
   refine am ?_
   refine aw (QZ underlying124 rfl) ?_
   refine aw xa (aw xl (nwq [81,11,5,4,2] ?_))
   obtain ⟨h61,hF⟩|⟨h61,hF⟩:=oi hF
   ·refine ct h61 ?_
    refine sn (qb (qr (am ?_)))
    refine Qep (cs:=(Qv .i64).all ([0]:List Int)) underlying124 sizeOf3 zeroValue3 rfl rfl rfl (by kernel_rfl) rfl ?_
    intro b62
    obtain ⟨h63,hF⟩:=gd hF
    refine Qcl (z:=.int .i64 0) (c:=(Qv .i64)) (ys:=([0]:List Int)) (.s .z) underlying124 Qj5 (by kernel_rfl) (by kernel_rfl) rfl rfl rfl rfl (fun _ hw=>QbX (hw.ok (Upd.mem .z))) (by kernel_rfl) h63 (QbR h63) rfl ?_
    intro p64 c65
    refine aa (qn (dz (wq [11,5,4,2] ?_)))
    refine bm ?_
    exact Qk (ih _ _ hF K p64 c65) ⟨rfl,rfl,rfl,rfl,trivial⟩
   refine cf h61 ?_
   refine Q7 ?_
   refine te (te ?_)
   obtain rfl:=os hF
   exact Qk (K p57 c58) ⟨rfl,rfl,rfl,rfl,trivial⟩
 skip
 intro p59 c60
 refine QD ?_
 refine tn (qr (am (am ?_)))
 obtain ⟨h66,hF⟩:=gd hF
 refine Qio (z:=.int .i64 0) (c:=(Qv .i64)) (ys:=t29.1) .z underlying124 Qj5 (by kernel_rfl) (by kernel_rfl) rfl rfl rfl (fun w1 hw=>(hw.own (.s .z)).row) (by kernel_rfl) h66 (QbR h66) rfl ?_
 intro p67 c68
 refine aa (qn ?_)
 refine Qam (H:=_) (.s .z) ?_
 refine tn (qs (sr (aa (nwq [14,5,4,2] ?_))))
 refine qb ?_
 obtain ⟨q69,hq69,hF⟩:=bM hF
 refine wq [14,5,4,2] ?_
 refine Qal (B:=4) (A:=fun Y=>At 112 [(2,.pointer (some ⟨b1,0,none⟩)),(4,.pointer (some ⟨b2,0,none⟩))] (Wd w [Qi b2 (Cd.cs (QQ (Qv .u8) 16 (by decide)) q69) 53,Qi b1 (Cd.cs (QQ (Qv .u8) 16 (by decide)) zv3) 53]) Y) ?_ ?_
 ·intro K
  refine QC.l3.partial_correctness t29 q55 (motive:=fun i70 i71 x=>KN (fun Y=>At 112 [(2,.pointer (some ⟨b1,0,none⟩)),(4,.pointer (some ⟨b2,0,none⟩))] (Wd w [Qi b2 (Cd.cs (QQ (Qv .u8) 16 (by decide)) x) 53,Qi b1 (Cd.cs (QQ (Qv .u8) 16 (by decide)) zv3) 53]) Y) _ 4→QbB (fun Y=>At 112 [(2,.pointer (some ⟨b1,0,none⟩)),(4,.pointer (some ⟨b2,0,none⟩)),(5,.slice p67 (q55++t29.1).length c68),(14,.int .i64 i70)] (Wd w [Qbm (Qv .i64) 3 p67 c68 (q55++t29.1),Qi b2 (Cd.cs (QQ (Qv .u8) 16 (by decide)) i71) 53,Qi b1 (Cd.cs (QQ (Qv .u8) 16 (by decide)) zv3) 53]) Y) _ _ _) ?_ _ _ _ hq69 K
  ·clear K hF
   intro g ih i70 i71 x hF K
   refine QW ?_
   refine qs (sr (am (aw xl (nwq [89,14,5,4,2] ?_))))
   obtain ⟨h72,hF⟩|⟨h72,hF⟩:=oi hF
   ·refine ct h72 ?_
    refine sn (qs (qb (sr (am ?_))))
    refine aw (QcT rfl rfl) ?_
    refine am (am ?_)
    obtain ⟨h73,hF⟩:=gd hF
    refine Qae (φ:=∃ b o,p67=some ⟨b,o,none⟩) (fun _ hw=>Qaa (hw.own .z).row h73) ?_
    rintro ⟨b75,o76,hp74⟩
    refine aw (QbD underlying124 sizeOf3 rfl rfl h73 hp74) ?_
    refine aw (Qe isAgg3 rfl (fun _ hw=>QP (W:=fun w1=>w1=_) (fun w1 h=>by subst h;exact Below.refl _ _) (hw.own .z).row h73 hp74 rfl _ rfl)) ?_
    refine aw (Qfl rfl rfl (by decide)) ?_
    refine aw (QaW underlying3 underlying5 rfl) ?_
    obtain ⟨h77,hF⟩:=gd hF
    refine aw (Qas underlying53 sizeOf5 rfl rfl h77) ?_
    refine Qn (c:=(Qv .u8)) (z:=wr .u8 (wr .i64 (Int.tdiv (QO (q55++t29.1) i70) 256))) (.s .z) (Qaf.comp lw (fun z=>Qb2 i71 (wr .i64 (2*i70)) z) (Qaf.vec (Qv .u8) (by decide) i71 (wr .i64 (2*i70)) h77)) sizeOf5 rfl rfl rfl ?_
    refine nt (qr (am ?_))
    refine aw (QcT rfl rfl) ?_
    refine aw xa (am (am ?_))
    obtain ⟨h78,hF⟩:=gd hF
    refine Qae (φ:=∃ b o,p67=some ⟨b,o,none⟩) (fun _ hw=>Qaa (hw.own .z).row h78) ?_
    rintro ⟨b80,o81,hp79⟩
    refine aw (QbD underlying124 sizeOf3 rfl rfl h78 hp79) ?_
    refine aw (Qe isAgg3 rfl (fun _ hw=>QP (W:=fun w1=>w1=_) (fun w1 h=>by subst h;exact Below.refl _ _) (hw.own .z).row h78 hp79 rfl _ rfl)) ?_
    refine aw (QfL rfl rfl (by decide)) ?_
    refine aw (QaW underlying3 underlying5 rfl) ?_
    obtain ⟨h82,hF⟩:=gd hF
    refine aw (Qas underlying53 sizeOf5 rfl rfl h82) ?_
    refine Qn (c:=(Qv .u8)) (z:=wr .u8 (Int.tmod (QO (q55++t29.1) i70) 256)) (.s .z) (Qaf.comp lw (fun z=>Qb2 (Qb2 i71 (wr .i64 (2*i70)) (wr .u8 (wr .i64 (Int.tdiv (QO (q55++t29.1) i70) 256)))) (wr .i64 ((wr .i64 (2*i70))+1)) z) (Qaf.vec (Qv .u8) (by decide) (Qb2 i71 (wr .i64 (2*i70)) (wr .u8 (wr .i64 (Int.tdiv (QO (q55++t29.1) i70) 256)))) (wr .i64 ((wr .i64 (2*i70))+1)) h82)) sizeOf5 rfl rfl rfl ?_
    refine qn (wq [14,5,4,2] ?_)
    refine bm ?_
    refine qr (am (aw xa (aa (nwq [14,5,4,2] ?_))))
    exact Qk (ih _ _ _ hF K) ⟨rfl,rfl,rfl,rfl,trivial⟩
   refine cf h72 ?_
   refine Q7 ?_
   refine te (te ?_)
   refine dz ?_
   obtain rfl:=os hF
   exact Qk K ⟨rfl,rfl,trivial⟩
 skip
 skip
 refine QD ?_
 refine tn (sr ?_)
 refine aw (Qg (c:=(QQ (Qv .u8) 16 (by decide))) (z:=q69) isAgg53 sizeOf53 rfl (Qp .z lw)) ?_
 refine Qn (c:=(QQ (Qv .u8) 16 (by decide))) (z:=q69) (.s .z) lw sizeOf53 rfl rfl rfl ?_
 refine aa (qn (dz (wq [3,2] ?_)))
 refine tn (qt ?_)
 have K:=os hF
 subst K
 exact QU rfl (QE (c:=(QQ (Qv .u8) 16 (by decide))) (y:=q69) rfl .z lw isAgg53 sizeOf53 (.inl rfl)) (QS rfl) wb
def QaN.l0(x0:(Vector Int 16))(i5:Int)(i6:(Vector Int 8)):Option ((Vector Int 8)) :=
 if (decide (i5<8))=true then (if (0:Int)≤wr .i64 (2*i5)∧wr .i64 (2*i5)<16 then if (0:Int)≤wr .i64 ((wr .i64 (2*i5))+1)∧wr .i64 ((wr .i64 (2*i5))+1)<16 then if (0:Int)≤i5∧i5<8 then QaN.l0 x0 (wr .i64 (i5+1)) (Qb2 i6 i5 (wr .i64 ((wr .i64 (256*(wr .i64 (Qbb x0 (wr .i64 (2*i5))))))+(wr .i64 (Qbb x0 (wr .i64 ((wr .i64 (2*i5))+1))))))) else none else none else none) else (some i6)
 partial_fixpoint
def QaN(x0:(Vector Int 16)):Option ((Vector Int 8)) :=
 QaN.l0 x0 0 (Vector.replicate 8 (0:Int):(Vector Int 8))>>=fun q4=>some q4
set_option maxRecDepth 20000 in
theorem Qgd(x0:(Vector Int 16))(r:(Vector Int 8))(hF:QaN x0=some r)(w:World) :
    Calls Tryz.prog 138 #[.agg (Cd.cs (QQ (Qv .u8) 16 (by decide)) x0).toArray] w (fun e w'=>e=.returned (.agg (Cd.cs (QQ (Qv .i64) 8 (by decide)) r).toArray)∧Below w.heap.size w w'):=by
 unfold QaN at hF
 refine ce (l:=[.agg (Cd.cs (QQ (Qv .u8) 16 (by decide)) x0).toArray]) func138 rfl rfl ?_
 refine QN ?_
 refine sr ?_
 refine Qbv (cs:=Cd.cs (QQ (Qv .u8) 16 (by decide)) x0) rfl rfl rfl ?_
 intro b1
 refine al (cs:=Cd.cs (QQ (Qv .i64) 8 (by decide)) zv6) zeroValue175 ?_
 intro b2
 refine ns ?_
 refine al (cs:=Cd.cs (QQ (Qv .i64) 8 (by decide)) zv6) zeroValue175 ?_
 intro b3
 refine nt (qs (sr (aa (nwq [4,3,2,1] ?_))))
 refine qb ?_
 obtain ⟨q4,hq4,hF⟩:=bM hF
 refine wq [4,3,2,1] ?_
 refine Qal (B:=0) (A:=fun Y=>At 25 [(2,.pointer (some ⟨b2,0,none⟩)),(3,.pointer (some ⟨b3,0,none⟩))] (Wd w [Qi b3 (Cd.cs (QQ (Qv .i64) 8 (by decide)) q4) 175,Qi b2 (Cd.cs (QQ (Qv .i64) 8 (by decide)) zv6) 175]) Y) ?_ ?_
 ·intro K
  refine QaN.l0.partial_correctness x0 (motive:=fun i5 i6 x=>KN (fun Y=>At 25 [(2,.pointer (some ⟨b2,0,none⟩)),(3,.pointer (some ⟨b3,0,none⟩))] (Wd w [Qi b3 (Cd.cs (QQ (Qv .i64) 8 (by decide)) x) 175,Qi b2 (Cd.cs (QQ (Qv .i64) 8 (by decide)) zv6) 175]) Y) _ 0→QbB (fun Y=>At 25 [(1,.pointer (some ⟨b1,0,none⟩)),(2,.pointer (some ⟨b2,0,none⟩)),(3,.pointer (some ⟨b3,0,none⟩)),(4,.int .i64 i5)] (Wd w [Qi b3 (Cd.cs (QQ (Qv .i64) 8 (by decide)) i6) 175,Qi b2 (Cd.cs (QQ (Qv .i64) 8 (by decide)) zv6) 175,Qi b1 (Cd.cs (QQ (Qv .u8) 16 (by decide)) x0) 53]) Y) _ _ _) ?_ _ _ _ hq4 K
  ·clear K hF
   intro g ih i5 i6 x hF K
   refine QW ?_
   refine qs (sr (am (aw xl (nwq [6,4,3,2,1] ?_))))
   obtain ⟨h7,hF⟩|⟨h7,hF⟩:=oi hF
   ·refine ct h7 ?_
    refine sn (qs (qb ?_))
    refine QmY 15 (by kernel_rfl) (by kernel_rfl) (fun _ h=>h.drew) ?_
    simp only [List.take_succ_cons,List.take_zero,List.drop_succ_cons,List.drop_zero]
    refine Qd8 rfl rfl rfl (Qbz rfl) ?_
    refine Qd8 rfl rfl rfl (Qbz rfl) ?_
    refine Qd8 rfl rfl rfl (QcT rfl rfl) ?_
    obtain ⟨h8,hF⟩:=gd hF
    refine Qd8 rfl rfl rfl (Qas underlying53 sizeOf5 rfl rfl h8) ?_
    refine Qd8 rfl rfl rfl (Qe isAgg5 rfl (Qm (c:=(Qv .u8)) (y:=Qbb x0 (wr .i64 (2*i5))) (.s (.s .z)) (Qaf.comp lw (fun z=>Qb2 x0 (wr .i64 (2*i5)) z) (Qaf.vec (Qv .u8) (by decide) x0 (wr .i64 (2*i5)) h8)) rfl)) ?_
    refine Qd8 rfl rfl rfl (QaW underlying5 underlying3 rfl) ?_
    refine Qd8 rfl rfl rfl (QcT rfl rfl) ?_
    refine Qd8 rfl rfl rfl (Qbz rfl) ?_
    refine Qd8 rfl rfl rfl (QcT rfl rfl) ?_
    refine Qd8 rfl rfl rfl (QjS rfl rfl) ?_
    obtain ⟨h9,hF⟩:=gd hF
    refine Qd8 rfl rfl rfl (Qas underlying53 sizeOf5 rfl rfl h9) ?_
    refine Qd8 rfl rfl rfl (Qe isAgg5 rfl (Qm (c:=(Qv .u8)) (y:=Qbb x0 (wr .i64 ((wr .i64 (2*i5))+1))) (.s (.s .z)) (Qaf.comp lw (fun z=>Qb2 x0 (wr .i64 ((wr .i64 (2*i5))+1)) z) (Qaf.vec (Qv .u8) (by decide) x0 (wr .i64 ((wr .i64 (2*i5))+1)) h9)) rfl)) ?_
    refine Qd8 rfl rfl rfl (QaW underlying5 underlying3 rfl) ?_
    refine Qd8 rfl rfl rfl (QjS rfl rfl) ?_
    obtain ⟨h10,hF⟩:=gd hF
    refine Qd8 rfl rfl rfl (Qas underlying175 sizeOf3 rfl rfl h10) ?_
    refine QuF ?_
    refine Qn (c:=(Qv .i64)) (z:=wr .i64 ((wr .i64 (256*(wr .i64 (Qbb x0 (wr .i64 (2*i5))))))+(wr .i64 (Qbb x0 (wr .i64 ((wr .i64 (2*i5))+1)))))) .z (Qaf.comp lw (fun z=>Qb2 i6 i5 z) (Qaf.vec (Qv .i64) (by decide) i6 i5 h10)) sizeOf3 rfl rfl rfl ?_
    refine qn (wq [4,3,2,1] ?_)
    refine bm ?_
    refine qr (am (aw xa (aa (nwq [4,3,2,1] ?_))))
    exact Qk (ih _ _ _ hF K) ⟨rfl,rfl,rfl,rfl,trivial⟩
   refine cf h7 ?_
   refine Q7 ?_
   refine te (te ?_)
   refine Qam (H:=_) (.s (.s .z)) ?_
   obtain rfl:=os hF
   exact Qk K ⟨rfl,rfl,trivial⟩
 skip
 skip
 refine QD ?_
 refine tn (sr ?_)
 refine aw (Qg (c:=(QQ (Qv .i64) 8 (by decide))) (z:=q4) isAgg175 sizeOf175 rfl (Qp .z lw)) ?_
 refine Qn (c:=(QQ (Qv .i64) 8 (by decide))) (z:=q4) (.s .z) lw sizeOf175 rfl rfl rfl ?_
 refine qn (dz (wq [2] ?_))
 refine tn (qt ?_)
 have K:=os hF
 subst K
 exact Qd9 rfl (QE (c:=(QQ (Qv .i64) 8 (by decide))) (y:=q4) rfl .z lw isAgg175 sizeOf175 (.inl rfl)) wb
def Qa4.l0(x0:(Vector Int 8))(x1:Int)(i3:Int):Option (Int) :=
 if (decide (wr .i64 (x1+i3)<8))=true then (if (0:Int)≤wr .i64 (x1+i3)∧wr .i64 (x1+i3)<8 then if (Qbb x0 (wr .i64 (x1+i3))==0)=true then (Qa4.l0 x0 x1 (wr .i64 (i3+1))) else (some i3) else none) else (some i3)
 partial_fixpoint
def Qa4(x0:(Vector Int 8))(x1:Int):Option (Int) :=
 Qa4.l0 x0 x1 0>>=fun q2=>some q2
theorem Qe1(x0:(Vector Int 8))(x1:Int)(r:Int)(hF:Qa4 x0 x1=some r)(w:World) :
    Calls Tryz.prog 139 #[.agg (Cd.cs (QQ (Qv .i64) 8 (by decide)) x0).toArray,.int .i64 x1] w (fun e w'=>e=.returned (.int .i64 r)∧Below w.heap.size w w'):=by
 unfold Qa4 at hF
 refine ce (l:=[.agg (Cd.cs (QQ (Qv .i64) 8 (by decide)) x0).toArray,.int .i64 x1]) func139 rfl rfl ?_
 refine QN ?_
 refine sr ?_
 refine Qbv (cs:=Cd.cs (QQ (Qv .i64) 8 (by decide)) x0) rfl rfl rfl ?_
 intro b1
 refine aa (ns (aa (nwq [5,2,1] ?_)))
 refine qs (qb ?_)
 obtain ⟨q2,hq2,hF⟩:=bM hF
 refine wq [5,2,1] ?_
 refine Qal (B:=0) (A:=fun Y=>At 21 [(5,.int .i64 q2)] (Wd w []) Y) ?_ ?_
 ·intro K
  refine Qa4.l0.partial_correctness x0 x1 (motive:=fun i3 x=>KN (fun Y=>At 21 [(5,.int .i64 x)] (Wd w []) Y) _ 0→QbB (fun Y=>At 21 [(1,.int .i64 x1),(2,.pointer (some ⟨b1,0,none⟩)),(5,.int .i64 i3)] (Wd w [Qi b1 (Cd.cs (QQ (Qv .i64) 8 (by decide)) x0) 175]) Y) _ _ _) ?_ _ _ hq2 K
  ·clear K hF
   intro g ih i3 x hF K
   refine QW ?_
   refine qs (sr (am (am (aw xa (aw xl (am ?_))))))
   obtain ⟨h4,hF⟩|⟨h4,hF⟩:=oi hF
   ·refine fx 10 h4 ?_
    refine gy (am (gy (am (gy (aw xa (gy ?_))))))
    obtain ⟨h5,hF⟩:=gd hF
    refine aw (Qas underlying175 sizeOf3 rfl rfl h5) ?_
    refine gy ?_
    refine aw (Qe isAgg3 rfl (Qm (c:=(Qv .i64)) (y:=Qbb x0 (wr .i64 (x1+i3))) .z (Qaf.comp lw (fun z=>Qb2 x0 (wr .i64 (x1+i3)) z) (Qaf.vec (Qv .i64) (by decide) x0 (wr .i64 (x1+i3)) h5)) rfl)) ?_
    refine gy (aw xq (aw xp (nwq [17,5,2,1] ?_)))
    obtain ⟨h6,hF⟩|⟨h6,hF⟩:=oi hF
    ·refine ct h6 ?_
     refine sn (qb (qr (am (aw xa (aa (qn (wq [5,2,1] ?_)))))))
     refine bm ?_
     exact Qk (ih _ _ hF K) ⟨rfl,rfl,rfl,trivial⟩
    refine cf h6 ?_
    refine Q7 ?_
    refine te (te ?_)
    refine dz ?_
    obtain rfl:=os hF
    exact Qk K ⟨rfl,trivial⟩
   refine fx 10 h4 ?_
   refine gn ?_
   refine gn ?_
   refine gn ?_
   refine gn ?_
   refine gn ?_
   refine gn ?_
   refine aw xp (nwq [17,5,2,1] ?_)
   refine cf rfl ?_
   refine Q7 ?_
   refine te (te ?_)
   refine dz ?_
   obtain rfl:=os hF
   exact Qk K ⟨rfl,trivial⟩
 skip
 skip
 refine QD ?_
 refine tn (sr (am (aa (nwq [4] ?_))))
 refine qt ?_
 have K:=os hF
 subst K
 exact r1 wb
def Qb9(x0:Int):Option (ByteArray) :=
 if (decide (x0<16))=true then (QbO x0>>=fun t2=>some t2) else (Qb9 (wr .i64 (Int.tdiv x0 16))>>=fun t3=>QbO (Int.tmod x0 16)>>=fun t4=>if t3.size+t4.size≤140737488355328 then some (t3++t4) else none)
 partial_fixpoint
theorem Qew(x0:Int)(r:ByteArray)(hF:Qb9 x0=some r)(w:World) :
    Calls Tryz.prog 168 #[.int .i64 x0] w (fun e w'=>e=.returned (.string r)∧w'=w):=by
 refine Qb9.partial_correctness (motive:=fun x0 r=>∀ (w:World),Calls Tryz.prog 168 #[.int .i64 x0] w (fun e w'=>e=.returned (.string r)∧w'=w)) ?_ _ _ hF w
 clear hF
 intro g ihf0 x0 r hF w
 have ihf:∀ (x0:Int) (r:ByteArray) (hF:g x0=some r) (w:World),Calls Tryz.prog 168 #[.int .i64 x0] w (fun e w'=>e=.returned (.string r)∧w'=w):=fun x0 r hF w=>ihf0 x0 r hF w
 refine ce (l:=[.int .i64 x0]) func168 rfl rfl ?_
 refine sr (aa (nt (qs (sr (am (aw xl (nwq [4,0] ?_)))))))
 obtain ⟨h1,hF⟩|⟨h1,hF⟩:=oi hF
 ·refine ct h1 ?_
  refine sr (am ?_)
  obtain ⟨t2,ht2,hF⟩:=bM hF
  refine Qav func190 rfl (by kernel_rfl) rfl rfl (fun w=>QcY _ _ ht2 w) ?_
  refine aa (nwq [2] ?_)
  refine rt ?_
  have K:=os hF
  subst K
  exact r1 (fun w1 hw=>⟨rfl,hw⟩)
 refine cf h1 ?_
 refine sns (am ?_)
 refine aw (Qfl rfl rfl (by decide)) ?_
 obtain ⟨t3,ht3,hF⟩:=bM hF
 refine Qav func168 rfl (by kernel_rfl) rfl rfl (fun w=>ihf _ _ ht3 w) ?_
 refine am ?_
 refine aw (QfL rfl rfl (by decide)) ?_
 obtain ⟨t4,ht4,hF⟩:=bM hF
 refine Qav func190 rfl (by kernel_rfl) rfl rfl (fun w=>QcY _ _ ht4 w) ?_
 obtain ⟨h5,hF⟩:=gd hF
 refine aw (Q2 rfl rfl h5) ?_
 refine aa (nwq [2] ?_)
 refine qt ?_
 have K:=os hF
 subst K
 exact r1 (fun w1 hw=>⟨rfl,hw⟩)
def Qar.l0(x0:(Vector Int 8))(x1:Int)(x2:Int)(i3:ByteArray)(i4:Int):Option (ByteArray) :=
 if (decide (i4<x2))=true then (if (decide (i4>x1))=true then (if i3.size+(⟨#[58]⟩:ByteArray).size≤140737488355328 then if (0:Int)≤i4∧i4<8 then Qb9 (Qbb x0 i4)>>=fun t9=>if (i3++(⟨#[58]⟩:ByteArray)).size+t9.size≤140737488355328 then Qar.l0 x0 x1 x2 ((i3++(⟨#[58]⟩:ByteArray))++t9) (wr .i64 (i4+1)) else none else none else none) else (if (0:Int)≤i4∧i4<8 then Qb9 (Qbb x0 i4)>>=fun t12=>if i3.size+t12.size≤140737488355328 then Qar.l0 x0 x1 x2 (i3++t12) (wr .i64 (i4+1)) else none else none)) else (some i3)
 partial_fixpoint
def Qar(x0:(Vector Int 8))(x1:Int)(x2:Int):Option (ByteArray) :=
 Qar.l0 x0 x1 x2 (⟨#[]⟩) x1>>=fun q2=>some q2
theorem QdU(x0:(Vector Int 8))(x1:Int)(x2:Int)(r:ByteArray)(hF:Qar x0 x1 x2=some r)(w:World) :
    Calls Tryz.prog 140 #[.agg (Cd.cs (QQ (Qv .i64) 8 (by decide)) x0).toArray,.int .i64 x1,.int .i64 x2] w (fun e w'=>e=.returned (.string r)∧Below w.heap.size w w'):=by
 unfold Qar at hF
 refine ce (l:=[.agg (Cd.cs (QQ (Qv .i64) 8 (by decide)) x0).toArray,.int .i64 x1,.int .i64 x2]) func140 rfl rfl ?_
 refine QN ?_
 refine sr ?_
 refine Qbv (cs:=Cd.cs (QQ (Qv .i64) 8 (by decide)) x0) rfl rfl rfl ?_
 intro b1
 refine aa (ns (aa (nt (qs (sr (am (aa (nwq [8,7,3,2,1] ?_))))))))
 refine qb ?_
 obtain ⟨q2,hq2,hF⟩:=bM hF
 refine wq [8,7,3,2,1] ?_
 refine Qal (B:=0) (A:=fun Y=>At 27 [(7,.string q2)] (Wd w []) Y) ?_ ?_
 ·intro K
  refine Qar.l0.partial_correctness x0 x1 x2 (motive:=fun i3 i4 x=>KN (fun Y=>At 27 [(7,.string x)] (Wd w []) Y) _ 0→QbB (fun Y=>At 27 [(1,.int .i64 x1),(2,.int .i64 x2),(3,.pointer (some ⟨b1,0,none⟩)),(7,.string i3),(8,.int .i64 i4)] (Wd w [Qi b1 (Cd.cs (QQ (Qv .i64) 8 (by decide)) x0) 175]) Y) _ _ _) ?_ _ _ _ hq2 K
  ·clear K hF
   intro g ih i3 i4 x hF K
   refine QW ?_
   refine qs (sr (am (am (aw xl (nwq [12,8,7,3,2,1] ?_)))))
   obtain ⟨h5,hF⟩|⟨h5,hF⟩:=oi hF
   ·refine ct h5 ?_
    refine sn (qs (qb (qs (sr (am (am ?_))))))
    refine aw (QbI rfl rfl) ?_
    refine nwq [17,8,7,3,2,1] ?_
    obtain ⟨h6,hF⟩|⟨h6,hF⟩:=oi hF
    ·refine ct h6 ?_
     refine qr (am ?_)
     obtain ⟨h7,hF⟩:=gd hF
     refine aw (Q2 rfl rfl h7) ?_
     refine aa (nt (qr (am (am ?_))))
     obtain ⟨h8,hF⟩:=gd hF
     refine aw (Qas underlying175 sizeOf3 rfl rfl h8) ?_
     refine aw (Qe isAgg3 rfl (Qm (c:=(Qv .i64)) (y:=Qbb x0 i4) .z (Qaf.comp lw (fun z=>Qb2 x0 i4 z) (Qaf.vec (Qv .i64) (by decide) x0 i4 h8)) rfl)) ?_
     obtain ⟨t9,ht9,hF⟩:=bM hF
     refine Qav func168 rfl (by kernel_rfl) rfl rfl (fun w=>Qew _ _ ht9 w) ?_
     obtain ⟨h10,hF⟩:=gd hF
     refine aw (Q2 rfl rfl h10) ?_
     refine aa (qn (wq [8,7,3,2,1] ?_))
     refine bm ?_
     refine qr (am (aw xa (aa (nwq [8,7,3,2,1] ?_))))
     exact Qk (ih _ _ _ hF K) ⟨rfl,rfl,rfl,rfl,rfl,trivial⟩
    refine cf h6 ?_
    refine sn (qr (am (am ?_)))
    obtain ⟨h11,hF⟩:=gd hF
    refine aw (Qas underlying175 sizeOf3 rfl rfl h11) ?_
    refine aw (Qe isAgg3 rfl (Qm (c:=(Qv .i64)) (y:=Qbb x0 i4) .z (Qaf.comp lw (fun z=>Qb2 x0 i4 z) (Qaf.vec (Qv .i64) (by decide) x0 i4 h11)) rfl)) ?_
    obtain ⟨t12,ht12,hF⟩:=bM hF
    refine Qav func168 rfl (by kernel_rfl) rfl rfl (fun w=>Qew _ _ ht12 w) ?_
    obtain ⟨h13,hF⟩:=gd hF
    refine aw (Q2 rfl rfl h13) ?_
    refine aa (qn (wq [8,7,3,2,1] ?_))
    refine bm ?_
    refine qr (am (aw xa (aa (nwq [8,7,3,2,1] ?_))))
    exact Qk (ih _ _ _ hF K) ⟨rfl,rfl,rfl,rfl,rfl,trivial⟩
   refine cf h5 ?_
   refine Q7 ?_
   refine te (te ?_)
   refine dz ?_
   obtain rfl:=os hF
   exact Qk K ⟨rfl,trivial⟩
 skip
 skip
 refine QD ?_
 refine tn (sr (am (aa (nwq [6] ?_))))
 refine qt ?_
 have K:=os hF
 subst K
 exact r1 wb
def QaE.l0(t2:(Vector Int 8))(i5:Int)(i6:Int)(i7:Int):Option (Int×Int) :=
 if (decide (i7<8))=true then (Qa4 t2 i7>>=fun t9=>if (decide (t9>i6))=true then (Qa4 t2 i7>>=fun t11=>QaE.l0 t2 i7 t11 (wr .i64 (i7+1))) else (QaE.l0 t2 i5 i6 (wr .i64 (i7+1)))) else (some (i5,i6))
 partial_fixpoint
def QaE(x0:(Vector Int 16)):Option (ByteArray) :=
 QaN x0>>=fun t2=>QaE.l0 t2 0 0 0>>=fun q4=>if (decide (q4.2<2))=true then (Qar t2 0 8>>=fun t13=>some t13) else (Qar t2 0 q4.1>>=fun t14=>if t14.size+(⟨#[58,58]⟩:ByteArray).size≤140737488355328 then Qar t2 (wr .i64 (q4.1+q4.2)) 8>>=fun t16=>if (t14++(⟨#[58,58]⟩:ByteArray)).size+t16.size≤140737488355328 then some ((t14++(⟨#[58,58]⟩:ByteArray))++t16) else none else none)
theorem QgW(x0:(Vector Int 16))(r:ByteArray)(hF:QaE x0=some r)(w:World) :
    Calls Tryz.prog 106 #[.agg (Cd.cs (QQ (Qv .u8) 16 (by decide)) x0).toArray] w (fun e w'=>e=.returned (.string r)∧Below w.heap.size w w'):=by
 unfold QaE at hF
 refine ce (l:=[.agg (Cd.cs (QQ (Qv .u8) 16 (by decide)) x0).toArray]) func106 rfl rfl ?_
 refine QN ?_
 refine sr ?_
 refine Qbv (cs:=Cd.cs (QQ (Qv .u8) 16 (by decide)) x0) rfl rfl rfl ?_
 intro b1
 refine aa (ns ?_)
 refine aw (Qg (c:=(QQ (Qv .u8) 16 (by decide))) (z:=x0) isAgg53 sizeOf53 rfl (Qp .z lw)) ?_
 obtain ⟨t2,ht2,hF⟩:=bM hF
 refine cB func138 rfl (fun w hw=>Qgd _ _ ht2 w) ?_
 refine al (cs:=Cd.cs (QQ (Qv .i64) 8 (by decide)) zv6) zeroValue175 ?_
 intro b3
 refine Qn (c:=(QQ (Qv .i64) 8 (by decide))) (z:=t2) .z lw sizeOf175 rfl rfl rfl ?_
 refine qn ?_
 refine Qam (H:=_) (.s .z) ?_
 refine tn (sr (aa (ns (aa (nt (qs (sr (aa ?_))))))))
 refine nwq [6,5,4,3] ?_
 refine qb ?_
 obtain ⟨q4,hq4,hF⟩:=bM hF
 refine wq [6,5,4,3] ?_
 refine Qal (B:=0) (A:=fun Y=>At 36 [(3,.pointer (some ⟨b3,0,none⟩)),(4,.int .i64 q4.1),(5,.int .i64 q4.2)] (Wd w [Qi b3 (Cd.cs (QQ (Qv .i64) 8 (by decide)) t2) 175]) Y) ?_ ?_
 ·intro K
  refine QaE.l0.partial_correctness t2 (motive:=fun i5 i6 i7 x=>KN (fun Y=>At 36 [(3,.pointer (some ⟨b3,0,none⟩)),(4,.int .i64 x.1),(5,.int .i64 x.2)] (Wd w [Qi b3 (Cd.cs (QQ (Qv .i64) 8 (by decide)) t2) 175]) Y) _ 0→QbB (fun Y=>At 36 [(3,.pointer (some ⟨b3,0,none⟩)),(4,.int .i64 i5),(5,.int .i64 i6),(6,.int .i64 i7)] (Wd w [Qi b3 (Cd.cs (QQ (Qv .i64) 8 (by decide)) t2) 175]) Y) _ _ _) ?_ _ _ _ _ hq4 K
  ·clear K hF
   intro g ih i5 i6 i7 x hF K
   refine QW ?_
   refine qs (sr (am (aw xl (nwq [10,6,5,4,3] ?_))))
   obtain ⟨h8,hF⟩|⟨h8,hF⟩:=oi hF
   ·refine ct h8 ?_
    refine sn (qs (qb (sr ?_)))
    refine aw (Qg (c:=(QQ (Qv .i64) 8 (by decide))) (z:=t2) isAgg175 sizeOf175 rfl (Qp .z lw)) ?_
    refine am ?_
    obtain ⟨t9,ht9,hF⟩:=bM hF
    refine cB func139 rfl (fun w hw=>Qe1 _ _ _ ht9 w) ?_
    refine am ?_
    refine aw (QbI rfl rfl) ?_
    refine nwq [17,6,5,4,3] ?_
    obtain ⟨h10,hF⟩|⟨h10,hF⟩:=oi hF
    ·refine ct h10 ?_
     refine sr (am (aa (nt (qr ?_))))
     refine aw (Qg (c:=(QQ (Qv .i64) 8 (by decide))) (z:=t2) isAgg175 sizeOf175 rfl (Qp .z lw)) ?_
     refine am ?_
     obtain ⟨t11,ht11,hF⟩:=bM hF
     refine cB func139 rfl (fun w hw=>Qe1 _ _ _ ht11 w) ?_
     refine aa (qn (wq [6,5,4,3] ?_))
     refine bm ?_
     refine qr (am (aw xa (aa (nwq [6,5,4,3] ?_))))
     exact Qk (ih _ _ _ _ hF K) ⟨rfl,rfl,rfl,rfl,trivial⟩
    refine cf h10 ?_
    refine QbQ ?_
    refine bm ?_
    refine qr (am (aw xa (aa (nwq [6,5,4,3] ?_))))
    exact Qk (ih _ _ _ _ hF K) ⟨rfl,rfl,rfl,rfl,trivial⟩
   refine cf h8 ?_
   refine Q7 ?_
   refine te (te ?_)
   obtain rfl:=os hF
   exact Qk K ⟨rfl,rfl,rfl,trivial⟩
 skip
 skip
 refine QD ?_
 refine tn (qs (sr (am (aw xl (nwq [23,5,4,3] ?_)))))
 obtain ⟨h12,hF⟩|⟨h12,hF⟩:=oi hF
 ·refine ct h12 ?_
  refine sr ?_
  refine aw (Qg (c:=(QQ (Qv .i64) 8 (by decide))) (z:=t2) isAgg175 sizeOf175 rfl (Qp .z lw)) ?_
  obtain ⟨t13,ht13,hF⟩:=bM hF
  refine cB func140 rfl (fun w hw=>QdU _ _ _ _ ht13 w) ?_
  refine aa (qn (dz (wq [2] ?_)))
  refine tn (rt ?_)
  have K:=os hF
  subst K
  exact r1 wb
 refine cf h12 ?_
 refine sn (qs ?_)
 refine Qdd (by kernel_rfl) (by kernel_rfl) (fun _ h=>h.drew) ?_
 refine Ql rfl rfl rfl (Qg (c:=(QQ (Qv .i64) 8 (by decide))) (z:=t2) isAgg175 sizeOf175 rfl (Qp .z lw)) ?_
 refine Ql rfl rfl rfl (Qbz rfl) ?_
 obtain ⟨t14,ht14,hF⟩:=bM hF
 refine Qbl func140 rfl (by kernel_rfl) rfl rfl (fun w hw=>(QdU _ _ _ _ ht14 w).mono fun _ _ h=>⟨h.1,hw.call h.2⟩) ?_
 obtain ⟨h15,hF⟩:=gd hF
 refine Ql rfl rfl rfl (Q2 rfl rfl h15) ?_
 refine Ql rfl rfl rfl (Qg (c:=(QQ (Qv .i64) 8 (by decide))) (z:=t2) isAgg175 sizeOf175 rfl (Qp .z lw)) ?_
 refine Ql rfl rfl rfl (Qbz rfl) ?_
 refine Ql rfl rfl rfl (Qbz rfl) ?_
 refine Ql rfl rfl rfl (QjS rfl rfl) ?_
 obtain ⟨t16,ht16,hF⟩:=bM hF
 refine Qbl func140 rfl (by kernel_rfl) rfl rfl (fun w hw=>(QdU _ _ _ _ ht16 w).mono fun _ _ h=>⟨h.1,hw.call h.2⟩) ?_
 obtain ⟨h17,hF⟩:=gd hF
 refine Ql rfl rfl rfl (Q2 rfl rfl h17) ?_
 refine Ql rfl rfl rfl (Qcf rfl) ?_
 refine Qck ?_
 refine dz (wq [2] ?_)
 refine tn (qt ?_)
 have K:=os hF
 subst K
 exact r1 wb
end Go.Proofs.YtnekckhjmnhinaaGreatDoor
