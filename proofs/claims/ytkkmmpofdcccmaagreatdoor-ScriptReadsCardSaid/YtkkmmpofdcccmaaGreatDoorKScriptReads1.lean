/- Texts of this claim, those in one that belong together; printed by a program of this project. -/
import Derived.Shelf.Strings.Builder1
import Derived.Shelf.Strings.Builder2
import Derived.Shelf.Strings.OnBuilder
import Derived.Shelf.Small.Strs
import Derived.Shelf.Strings.BuilderF
import Derived.Shelf.Strings.BuilderK
import Derived.Shelf.Utf8.RuneCount
import Derived.Shelf.Strings.Builder2Cap
import Derived.Shelf.Strconv.Itoa0
import Derived.Shelf.Strconv.Itoa1
import Derived.Shelf.LaysM
import Derived.Shelf.Strconv.Itoa2
import Derived.Shelf.Strconv.Itoa3
import Derived.Ground.MpProg
import Derived.Shelf.Pu.ParseUintPublic10
import Derived.Shelf.Pu.ErrVarParseUint
import Derived.Shelf.Strings.Search1
import Derived.Shelf.Strings.Search2
import Derived.Shelf.Strings.Search3
import Derived.Shelf.Strings.Cut
import Derived.Shelf.Strings.Count
import Derived.Shelf.Strings.Shaped
import Derived.Shelf.Strings.Prefix
import Derived.Shelf.Strings.Split
import Derived.Shelf.Strings.SplitShaped
import Derived.Shelf.Unicode.Decode
import Derived.Shelf.Strings.RuneCount
import Derived.Shelf.Strings.Explode
import Derived.Shelf.Unicode.DecodeSlow
import Derived.Shelf.Unicode.DecodeAny
import Derived.Shelf.Strings.BuilderCap
import Derived.Test.YtkkmmpofdcccmaaGreatDoorProg
import Derived.Test.YtkkmmpofdcccmaaGreatDoorRows
import Derived.Lib.Walk
import Derived.Lib.ItoaWalk
import Derived.Lib.ItoaMem
import Derived.Lib.AppendIntMem
import Derived.Lib.Hide
import Derived.WalkKit
import Derived.BigCall
import Derived.BigGuard
import Derived.CellFam
import Derived.Lib.SliceRun
import Derived.HandedShaped
import Derived.Handed
import Derived.Deep.Draws
import Derived.Test.YtkkmmpofdcccmaaGreatDoorKScriptReads0
set_option linter.unusedVariables false
set_option linter.unusedSimpArgs false
namespace Go.Proofs
open Go.Shelf Tryz
def Tryz.lays169_ren:Go.Shelf.Ren:=⟨fun | 169=>85 | n=>n,fun | 70=>135 | 9=>9 | 0=>0 | 72=>137 | 37=>22 | 127=>166 | 3=>3 | 5=>5 | n=>n,fun | n=>n⟩
theorem Tryz.lays169:Go.Proofs.Lays.n169 Tryz.prog Tryz.lays169_ren:={
 mixed:=by kernel_rfl
 f169:=func85.trans (congrArg some (by kernel_rfl))
 t0:=underlying0
 a0:=isAgg0
 z0:=sizeOf0
 v0:=zeroValue0
 t3:=underlying3
 a3:=isAgg3
 z3:=sizeOf3
 v3:=zeroValue3
 t9:=underlying9
 a9:=isAgg9
 z9:=sizeOf9
 v9:=zeroValue9
 t37:=underlying22
 a37:=isAgg22
 z37:=sizeOf22
 v37:=zeroValue22
 t70:=underlying135
 a70:=isAgg135
 z70:=sizeOf135
 v70:=zeroValue135
 t72:=underlying137
 a72:=isAgg137
 z72:=sizeOf137
 v72:=zeroValue137
 t127:=underlying166
 a127:=isAgg166
 z127:=sizeOf166
 v127:=zeroValue166 }
theorem Tryz.Builder_Extra_169:Builder.Extra Tryz.prog Tryz.lays169_ren:={
 sizeBuilder:=by kernel_rfl
 liesBuilder:=by kernel_rfl
 t5:=underlying5
 a5:=isAgg5
 z5:=sizeOf5
 v5:=zeroValue5
 infoByte:=by kernel_rfl
 cellsByte:=by kernel_rfl
 sizeByte:=by kernel_rfl
 neB5:=by decide }
def Tryz.lays156_ren:Go.Shelf.Ren:=⟨fun | 156=>47 | 165=>83 | 166=>84 | 169=>85 | 240=>142 | 241=>143 | 276=>166 | 277=>167 | n=>n,fun | 31=>38 | 9=>9 | 3=>3 | 4=>4 | 0=>0 | 20=>20 | 72=>137 | 76=>141 | 70=>135 | 37=>22 | 75=>140 | 127=>166 | 164=>183 | 5=>5 | 80=>143 | n=>n,fun | n=>n⟩
theorem Tryz.lays156:Go.Proofs.Lays.n156 Tryz.prog Tryz.lays156_ren:={
 mixed:=by kernel_rfl
 f156:=func47.trans (congrArg some (by kernel_rfl))
 f165:=func83.trans (congrArg some (by kernel_rfl))
 f166:=func84.trans (congrArg some (by kernel_rfl))
 f169:=func85.trans (congrArg some (by kernel_rfl))
 f240:=func142.trans (congrArg some (by kernel_rfl))
 f241:=func143.trans (congrArg some (by kernel_rfl))
 f276:=func166.trans (congrArg some (by kernel_rfl))
 f277:=func167.trans (congrArg some (by kernel_rfl))
 t0:=underlying0
 a0:=isAgg0
 z0:=sizeOf0
 v0:=zeroValue0
 t3:=underlying3
 a3:=isAgg3
 z3:=sizeOf3
 v3:=zeroValue3
 t4:=underlying4
 a4:=isAgg4
 z4:=sizeOf4
 v4:=zeroValue4
 t9:=underlying9
 a9:=isAgg9
 z9:=sizeOf9
 v9:=zeroValue9
 t20:=underlying20
 a20:=isAgg20
 z20:=sizeOf20
 v20:=zeroValue20
 t31:=underlying38
 a31:=isAgg38
 z31:=sizeOf38
 v31:=zeroValue38
 t37:=underlying22
 a37:=isAgg22
 z37:=sizeOf22
 v37:=zeroValue22
 t70:=underlying135
 a70:=isAgg135
 z70:=sizeOf135
 v70:=zeroValue135
 t72:=underlying137
 a72:=isAgg137
 z72:=sizeOf137
 v72:=zeroValue137
 t75:=underlying140
 a75:=isAgg140
 z75:=sizeOf140
 v75:=zeroValue140
 t76:=underlying141
 a76:=isAgg141
 z76:=sizeOf141
 v76:=zeroValue141
 t127:=underlying166
 a127:=isAgg166
 z127:=sizeOf166
 v127:=zeroValue166
 t164:=underlying183
 a164:=isAgg183
 z164:=sizeOf183
 v164:=zeroValue183 }
theorem Tryz.Builder_Extra_156:Builder.Extra Tryz.prog Tryz.lays156_ren:={
 sizeBuilder:=by kernel_rfl
 liesBuilder:=by kernel_rfl
 t5:=underlying5
 a5:=isAgg5
 z5:=sizeOf5
 v5:=zeroValue5
 infoByte:=by kernel_rfl
 cellsByte:=by kernel_rfl
 sizeByte:=by kernel_rfl
 neB5:=by decide }
open Go.RowKit in
theorem Tryz.strings_Join_none(a:Option Addr)(c:Nat)(sep:ByteArray)(w:World) :
  Calls Tryz.prog 47 #[.slice a 0 c,.string sep] w fun e w'=>e=.returned (.string ⟨#[]⟩)∧w'=w:=Any.strings_Join_none Tryz.lays156 Tryz.Builder_Extra_156 a c sep w
open Go.RowKit in
theorem Tryz.strings_Join(bk o c:Nat)(xs:List ByteArray)(sep:ByteArray)(w:World)(hcells:∀ (j:Nat) x,xs[j]? = some x→w.cell? ⟨bk,o+j,none⟩=some (.string x))(hbk:bk<w.heap.size)(hN:xs.length≤140737488355328)(hcap:xs.length≤c)(hlen:(Lib.join (xs.map (·.data.toList)) sep.data.toList).length≤140737488355328) :
  Calls Tryz.prog 47 #[.slice (some ⟨bk,o,none⟩) xs.length c,.string sep] w fun e w'=>e=.returned (.string ⟨(Lib.join (xs.map (·.data.toList)) sep.data.toList).toArray⟩)∧Below w.heap.size w w':=Any.strings_Join Tryz.lays156 Tryz.Builder_Extra_156 bk o c xs sep w hcells hbk hN hcap hlen
def Tryz.lays137_ren:Go.Shelf.Ren:=⟨fun | 137=>144 | 217=>168 | 266=>190 | n=>n,fun | 9=>9 | 5=>5 | 3=>3 | n=>n,fun | n=>n⟩
theorem Tryz.lays137:Go.Proofs.Lays.n137 Tryz.prog Tryz.lays137_ren:={
 mixed:=by kernel_rfl
 f137:=func144.trans (congrArg some (by kernel_rfl))
 f217:=func168.trans (congrArg some (by kernel_rfl))
 f266:=func190.trans (congrArg some (by kernel_rfl))
 t3:=underlying3
 a3:=isAgg3
 z3:=sizeOf3
 v3:=zeroValue3
 t5:=underlying5
 a5:=isAgg5
 z5:=sizeOf5
 v5:=zeroValue5
 t9:=underlying9
 a9:=isAgg9
 z9:=sizeOf9
 v9:=zeroValue9 }
open Go.RowKit in
theorem Tryz.strings_IndexByte(s:ByteArray)(c:Int)(w:World) :
  Calls Tryz.prog 144 #[.string s,.int .u8 c] w fun e w'=>e=.returned (.int .i64 (Lib.indexByte s.data.toList c.toNat.toUInt8))∧w'=w:=Any.strings_IndexByte Tryz.lays137 s c w
open Go.RowKit in
theorem Tryz.Builder_String_any_k(B b:Nat)(l:List UInt8)(w:World)(h:Lib.IsBuilderF 137 5 B b (Lib.byteCells l) w)(hBw:B≤w.heap.size) :
  Calls Tryz.prog 85 #[.pointer (some ⟨b,0,none⟩)] w fun e w'=>e=.returned (.string ⟨l.toArray⟩)∧(Lib.IsBuilderF 137 5 B b (Lib.byteCells l) w'∧Below B w w'∧Lib.OthersKept 5 (some b) w w'):=Any.Builder_String_any_k Tryz.lays169 Tryz.Builder_Extra_169 B b l w h hBw
def Tryz.lays283_ren:Go.Shelf.Ren:=⟨fun | 283=>208 | n=>n,fun | 3=>3 | 9=>9 | 4=>4 | n=>n,fun | n=>n⟩
theorem Tryz.lays283:Go.Proofs.Lays.n283 Tryz.prog Tryz.lays283_ren:={
 mixed:=by kernel_rfl
 f283:=func208.trans (congrArg some (by kernel_rfl))
 t3:=underlying3
 a3:=isAgg3
 z3:=sizeOf3
 v3:=zeroValue3
 t4:=underlying4
 a4:=isAgg4
 z4:=sizeOf4
 v4:=zeroValue4
 t9:=underlying9
 a9:=isAgg9
 z9:=sizeOf9
 v9:=zeroValue9 }
open Go.Lib in
theorem Tryz.internal_strconv_small(i:Nat)(h:i<100)(w:World) :
  Calls Tryz.prog 208 #[.int .i64 i] w fun e w'=>e=.returned (.string ⟨(Lib.decDigits i).toArray⟩)∧w'=w:=Any.internal_strconv_small Tryz.lays283 i h w
def Tryz.laysM284_ren:Go.Shelf.Ren:=⟨fun | 284=>209 | 129=>227 | 317=>226 | 318=>228 | n=>n,fun | 53=>31 | 3=>3 | 212=>242 | 0=>0 | 4=>4 | 46=>194 | 5=>5 | 9=>9 | n=>n,fun | 17=>4 | n=>n⟩
theorem Tryz.laysM284:Go.Proofs.LaysM.n284 Tryz.prog Tryz.laysM284_ren:={
 mixed:=by kernel_rfl
 f129:=func227.trans (congrArg some (by kernel_rfl))
 f284:=func209.trans (congrArg some (by kernel_rfl))
 f317:=func226.trans (congrArg some (by kernel_rfl))
 f318:=func228.trans (congrArg some (by kernel_rfl))
 t0:=underlying0
 a0:=isAgg0
 z0:=sizeOf0
 v0:=zeroValue0
 t3:=underlying3
 a3:=isAgg3
 z3:=sizeOf3
 v3:=zeroValue3
 t4:=underlying4
 a4:=isAgg4
 z4:=sizeOf4
 v4:=zeroValue4
 t5:=underlying5
 a5:=isAgg5
 z5:=sizeOf5
 v5:=zeroValue5
 t9:=underlying9
 a9:=isAgg9
 z9:=sizeOf9
 v9:=zeroValue9
 t46:=underlying194
 a46:=isAgg194
 z46:=sizeOf194
 v46:=zeroValue194
 t53:=underlying31
 a53:=isAgg31
 z53:=sizeOf31
 v53:=zeroValue31
 t212:=underlying242
 a212:=isAgg242
 z212:=sizeOf242
 v212:=zeroValue242
 g17:=by kernel_rfl
 i0:=by kernel_rfl
 i3:=by kernel_rfl
 i4:=by kernel_rfl
 i5:=by kernel_rfl
 i9:=by kernel_rfl
 i46:=by kernel_rfl
 i53:=by kernel_rfl
 i212:=by kernel_rfl
 m17:=by kernel_rfl }
open Go.Lib in
theorem Tryz.internal_strconv_numDigits(u : Nat)(h1 : 1 ≤ u)(h2 : u < 18446744073709551616)(w : World)(htab : Lib.TabIs Tryz.prog w "internal/strconv.uint64pow10" .u64 Lib.pow10Tab) :
  Calls Tryz.prog 209 #[.int .u64 u] w fun e w'=>e=.returned (.int .i64 (Lib.nDigits u))∧w'=w:=Any.internal_strconv_numDigits Tryz.laysM284 u h1 h2 w htab
def Tryz.lays285_ren:Go.Shelf.Ren:=⟨fun | 285=>210 | n=>n,fun | 37=>22 | 53=>31 | 3=>3 | 4=>4 | 51=>30 | 9=>9 | 5=>5 | 0=>0 | n=>n,fun | n=>n⟩
theorem Tryz.lays285:Go.Proofs.Lays.n285 Tryz.prog Tryz.lays285_ren:={
 mixed:=by kernel_rfl
 f285:=func210.trans (congrArg some (by kernel_rfl))
 t0:=underlying0
 a0:=isAgg0
 z0:=sizeOf0
 v0:=zeroValue0
 t3:=underlying3
 a3:=isAgg3
 z3:=sizeOf3
 v3:=zeroValue3
 t4:=underlying4
 a4:=isAgg4
 z4:=sizeOf4
 v4:=zeroValue4
 t5:=underlying5
 a5:=isAgg5
 z5:=sizeOf5
 v5:=zeroValue5
 t9:=underlying9
 a9:=isAgg9
 z9:=sizeOf9
 v9:=zeroValue9
 t37:=underlying22
 a37:=isAgg22
 z37:=sizeOf22
 v37:=zeroValue22
 t51:=underlying30
 a51:=isAgg30
 z51:=sizeOf30
 v51:=zeroValue30
 t53:=underlying31
 a53:=isAgg31
 z53:=sizeOf31
 v53:=zeroValue31 }
open Go.RowKit Go.Sort Go.Lib in
theorem Tryz.internal_strconv_formatBase10(blk off cap:Nat)(u:Nat)(d:Array UInt8)(w:World)(hH:Holds (fun (b:UInt8)=>Value.int .u8 (b.toNat:Int)) w blk off d)(hu:u<10 ^ d.size)(hu64:u<18446744073709551616)(hsz:d.size<4611686018427387904) :
  Calls Tryz.prog 210 #[.slice (some ⟨blk,off,none⟩) d.size cap,.int .u64 u] w fun e w' =>
   e=.returned (.tuple #[])∧∃ (n v':Nat) (dk:Array UInt8),w'=(putRow (fun (b:UInt8)=>Value.int .u8 (b.toNat:Int)) w blk off dk).drewN n∧FmtInv d.size u 0 v' dk:=Any.internal_strconv_formatBase10 Tryz.lays285 blk off cap u d w hH hu hu64 hsz
def Tryz.laysPu14_ren:Go.Shelf.Ren:=⟨fun | 14=>162 | 16=>186 | 17=>187 | 19=>202 | 20=>203 | 21=>204 | 22=>205 | 23=>206 | 24=>207 | 25=>223 | 27=>225 | 26=>224 | 28=>237 | 29=>241 | 30=>208 | 31=>209 | 32=>210 | 33=>211 | 35=>227 | 34=>226 | 36=>228 | 37=>229 | 38=>230 | 39=>238 | 40=>239 | n=>n,fun | 9=>9 | 3=>3 | 22=>31 | 24=>140 | 25=>178 | 4=>4 | 34=>219 | 5=>5 | 36=>194 | 37=>22 | 0=>0 | 39=>221 | 21=>21 | 44=>238 | 47=>166 | 50=>248 | 48=>246 | 2=>2 | 52=>224 | 55=>227 | 59=>242 | 60=>30 | 20=>20 | 61=>243 | 65=>28 | 66=>257 | 67=>143 | n=>n,fun | 0=>2 | 1=>3 | 2=>4 | 3=>7 | 4=>8 | n=>n⟩
theorem Tryz.laysPu14:Go.Proofs.LaysPu.n14 Tryz.prog Tryz.laysPu14_ren:={
 mixed:=by kernel_rfl
 f14:=func162.trans (congrArg some (by kernel_rfl))
 f16:=func186.trans (congrArg some (by kernel_rfl))
 f17:=func187.trans (congrArg some (by kernel_rfl))
 f19:=func202.trans (congrArg some (by kernel_rfl))
 f20:=func203.trans (congrArg some (by kernel_rfl))
 f21:=func204.trans (congrArg some (by kernel_rfl))
 f22:=func205.trans (congrArg some (by kernel_rfl))
 f23:=func206.trans (congrArg some (by kernel_rfl))
 f24:=func207.trans (congrArg some (by kernel_rfl))
 f25:=func223.trans (congrArg some (by kernel_rfl))
 f26:=func224.trans (congrArg some (by kernel_rfl))
 f27:=func225.trans (congrArg some (by kernel_rfl))
 f28:=func237.trans (congrArg some (by kernel_rfl))
 f29:=func241.trans (congrArg some (by kernel_rfl))
 f30:=func208.trans (congrArg some (by kernel_rfl))
 f31:=func209.trans (congrArg some (by kernel_rfl))
 f32:=func210.trans (congrArg some (by kernel_rfl))
 f33:=func211.trans (congrArg some (by kernel_rfl))
 f34:=func226.trans (congrArg some (by kernel_rfl))
 f35:=func227.trans (congrArg some (by kernel_rfl))
 f36:=func228.trans (congrArg some (by kernel_rfl))
 f37:=func229.trans (congrArg some (by kernel_rfl))
 f38:=func230.trans (congrArg some (by kernel_rfl))
 f39:=func238.trans (congrArg some (by kernel_rfl))
 f40:=func239.trans (congrArg some (by kernel_rfl))
 t0:=underlying0
 a0:=isAgg0
 z0:=sizeOf0
 v0:=zeroValue0
 i0:=by kernel_rfl
 t2:=underlying2
 a2:=isAgg2
 z2:=sizeOf2
 v2:=zeroValue2
 i2:=by kernel_rfl
 t3:=underlying3
 a3:=isAgg3
 z3:=sizeOf3
 v3:=zeroValue3
 i3:=by kernel_rfl
 t4:=underlying4
 a4:=isAgg4
 z4:=sizeOf4
 v4:=zeroValue4
 i4:=by kernel_rfl
 t5:=underlying5
 a5:=isAgg5
 z5:=sizeOf5
 v5:=zeroValue5
 i5:=by kernel_rfl
 t9:=underlying9
 a9:=isAgg9
 z9:=sizeOf9
 v9:=zeroValue9
 i9:=by kernel_rfl
 t20:=underlying20
 a20:=isAgg20
 z20:=sizeOf20
 v20:=zeroValue20
 i20:=by kernel_rfl
 t21:=underlying21
 a21:=isAgg21
 z21:=sizeOf21
 v21:=zeroValue21
 i21:=by kernel_rfl
 t22:=underlying31
 a22:=isAgg31
 z22:=sizeOf31
 v22:=zeroValue31
 i22:=by kernel_rfl
 t24:=underlying140
 a24:=isAgg140
 z24:=sizeOf140
 v24:=zeroValue140
 i24:=by kernel_rfl
 t25:=underlying178
 a25:=isAgg178
 z25:=sizeOf178
 v25:=zeroValue178
 i25:=by kernel_rfl
 t34:=underlying219
 a34:=isAgg219
 z34:=sizeOf219
 v34:=zeroValue219
 i34:=by kernel_rfl
 c34:=by kernel_rfl
 t36:=underlying194
 a36:=isAgg194
 z36:=sizeOf194
 v36:=zeroValue194
 i36:=by kernel_rfl
 t37:=underlying22
 a37:=isAgg22
 z37:=sizeOf22
 v37:=zeroValue22
 i37:=by kernel_rfl
 t39:=underlying221
 a39:=isAgg221
 z39:=sizeOf221
 v39:=zeroValue221
 i39:=by kernel_rfl
 t44:=underlying238
 a44:=isAgg238
 z44:=sizeOf238
 v44:=zeroValue238
 i44:=by kernel_rfl
 t47:=underlying166
 a47:=isAgg166
 z47:=sizeOf166
 v47:=zeroValue166
 i47:=by kernel_rfl
 t48:=underlying246
 a48:=isAgg246
 z48:=sizeOf246
 v48:=zeroValue246
 i48:=by kernel_rfl
 t50:=underlying248
 a50:=isAgg248
 z50:=sizeOf248
 v50:=zeroValue248
 i50:=by kernel_rfl
 t52:=underlying224
 a52:=isAgg224
 z52:=sizeOf224
 v52:=zeroValue224
 i52:=by kernel_rfl
 t55:=underlying227
 a55:=isAgg227
 z55:=sizeOf227
 v55:=zeroValue227
 i55:=by kernel_rfl
 t59:=underlying242
 a59:=isAgg242
 z59:=sizeOf242
 v59:=zeroValue242
 i59:=by kernel_rfl
 t60:=underlying30
 a60:=isAgg30
 z60:=sizeOf30
 v60:=zeroValue30
 i60:=by kernel_rfl
 t61:=underlying243
 a61:=isAgg243
 z61:=sizeOf243
 t65:=underlying28
 a65:=isAgg28
 z65:=sizeOf28
 v65:=zeroValue28
 i65:=by kernel_rfl
 t66:=underlying257
 a66:=isAgg257
 z66:=sizeOf257
 v66:=zeroValue257
 i66:=by kernel_rfl
 t67:=underlying143
 a67:=isAgg143
 z67:=sizeOf143
 v67:=zeroValue143
 i67:=by kernel_rfl
 g0:=by kernel_rfl
 m0:=by kernel_rfl
 g1:=by kernel_rfl
 m1:=by kernel_rfl
 g2:=by kernel_rfl
 m2:=by kernel_rfl
 g3:=by kernel_rfl
 m3:=by kernel_rfl
 g4:=by kernel_rfl
 m4:=by kernel_rfl }
open Go.RowKit in
theorem Tryz.strconv_ParseUint_10_at64_ok(s:ByteArray)(hmax:s.size≤9223372036854775806)(u:Nat)(h:Lib.parseUintB 64 s.data.toList=.ok u)(w:World) :
  Calls Tryz.prog 162 #[.string s,.int .i64 10,.int .i64 64] w fun e w'=>e=.returned (.tuple #[.int .u64 u,.nilIface])∧(w'=w∨w'=Lib.bytesWorld w 5 s):=Any.strconv_ParseUint_10_at64_ok Tryz.laysPu14 s hmax u h w
open Go.RowKit in
theorem Tryz.strconv_ParseUint_10_at64_range_var(s : ByteArray)(hlim : s.size ≤ 281474976710656)(h : Lib.parseUintB 64 s.data.toList = .range)(tp : TypeId)(p : Value)(w : World)(hvar : w.var? Tryz.prog "strconv.ErrRange" = some #[.iface tp p]) :
  Calls Tryz.prog 162 #[.string s,.int .i64 10,.int .i64 64] w fun e w'=>∃ N,e=.returned (.tuple #[.int .u64 18446744073709551615,.iface 221 (.pointer (some ⟨N,0,none⟩))])∧w.heap.size≤N∧w'.heap[N]? = some (.cells #[.string ⟨#[80,97,114,115,101,85,105,110,116]⟩,.string s,.iface tp p] 238 (0,0))∧Below w.heap.size w w':=Any.strconv_ParseUint_10_at64_range_var Tryz.laysPu14 s hlim h tp p w hvar
def Tryz.lays219_ren:Go.Shelf.Ren:=⟨fun | 219=>215 | 217=>168 | 225=>232 | 224=>233 | 267=>234 | 266=>190 | 314=>240 | n=>n,fun | 9=>9 | 3=>3 | 4=>4 | 5=>5 | 46=>194 | 146=>254 | 51=>30 | n=>n,fun | 1=>1 | n=>n⟩
def Tryz.lays144_ren:Go.Shelf.Ren:=⟨fun | 144=>178 | 143=>194 | 219=>215 | 217=>168 | 225=>232 | 224=>233 | 267=>234 | 266=>190 | 314=>240 | n=>n,fun | 9=>9 | 4=>4 | 3=>3 | 5=>5 | 46=>194 | 146=>254 | 51=>30 | n=>n,fun | 1=>1 | n=>n⟩
theorem Tryz.lays144:Go.Proofs.Lays.n144 Tryz.prog Tryz.lays144_ren:={
 mixed:=by kernel_rfl
 f143:=func194.trans (congrArg some (by kernel_rfl))
 f144:=func178.trans (congrArg some (by kernel_rfl))
 f217:=func168.trans (congrArg some (by kernel_rfl))
 f219:=func215.trans (congrArg some (by kernel_rfl))
 f224:=func233.trans (congrArg some (by kernel_rfl))
 f225:=func232.trans (congrArg some (by kernel_rfl))
 f266:=func190.trans (congrArg some (by kernel_rfl))
 f267:=func234.trans (congrArg some (by kernel_rfl))
 f314:=func240.trans (congrArg some (by kernel_rfl))
 t3:=underlying3
 a3:=isAgg3
 z3:=sizeOf3
 v3:=zeroValue3
 t4:=underlying4
 a4:=isAgg4
 z4:=sizeOf4
 v4:=zeroValue4
 t5:=underlying5
 a5:=isAgg5
 z5:=sizeOf5
 v5:=zeroValue5
 t9:=underlying9
 a9:=isAgg9
 z9:=sizeOf9
 v9:=zeroValue9
 t46:=underlying194
 a46:=isAgg194
 z46:=sizeOf194
 v46:=zeroValue194
 t51:=underlying30
 a51:=isAgg30
 z51:=sizeOf30
 v51:=zeroValue30
 t146:=underlying254
 a146:=isAgg254
 z146:=sizeOf254
 v146:=zeroValue254
 g1:=by kernel_rfl }
open Go.RowKit Go.Lib in
theorem Tryz.strings_Contains_one(s:ByteArray)(c:UInt8)(w:World) :
  Calls Tryz.prog 178 #[.string s,.string ⟨#[c]⟩] w fun e w'=>e=.returned (.bool (decide (0≤Lib.indexByte s.data.toList c)))∧w'=w:=Any.strings_Contains_one Tryz.lays144 s c w
def Tryz.lays145_ren:Go.Shelf.Ren:=⟨fun | 145=>177 | 220=>196 | 219=>215 | 217=>168 | 225=>232 | 224=>233 | 267=>234 | 266=>190 | 314=>240 | n=>n,fun | 9=>9 | 4=>4 | 59=>124 | 3=>3 | 5=>5 | 46=>194 | 146=>254 | 51=>30 | n=>n,fun | 1=>1 | n=>n⟩
theorem Tryz.lays145:Go.Proofs.Lays.n145 Tryz.prog Tryz.lays145_ren:={
 mixed:=by kernel_rfl
 f145:=func177.trans (congrArg some (by kernel_rfl))
 f217:=func168.trans (congrArg some (by kernel_rfl))
 f219:=func215.trans (congrArg some (by kernel_rfl))
 f220:=func196.trans (congrArg some (by kernel_rfl))
 f224:=func233.trans (congrArg some (by kernel_rfl))
 f225:=func232.trans (congrArg some (by kernel_rfl))
 f266:=func190.trans (congrArg some (by kernel_rfl))
 f267:=func234.trans (congrArg some (by kernel_rfl))
 f314:=func240.trans (congrArg some (by kernel_rfl))
 t3:=underlying3
 a3:=isAgg3
 z3:=sizeOf3
 v3:=zeroValue3
 t4:=underlying4
 a4:=isAgg4
 z4:=sizeOf4
 v4:=zeroValue4
 t5:=underlying5
 a5:=isAgg5
 z5:=sizeOf5
 v5:=zeroValue5
 t9:=underlying9
 a9:=isAgg9
 z9:=sizeOf9
 v9:=zeroValue9
 t46:=underlying194
 a46:=isAgg194
 z46:=sizeOf194
 v46:=zeroValue194
 t51:=underlying30
 a51:=isAgg30
 z51:=sizeOf30
 v51:=zeroValue30
 t59:=underlying124
 a59:=isAgg124
 z59:=sizeOf124
 v59:=zeroValue124
 t146:=underlying254
 a146:=isAgg254
 z146:=sizeOf254
 v146:=zeroValue254
 g1:=by kernel_rfl }
open Go.RowKit Go.Lib in
theorem Tryz.strings_Cut(s sep:ByteArray)(m:Int)(w:World)(hs:s.size<4294967281)(hm:w.cell? ⟨1,0,none⟩=some (.int .i64 m)) :
  Calls Tryz.prog 177 #[.string s,.string sep] w fun e w'=>e=.returned (.tuple #[.string ⟨(Lib.cut s.data.toList sep.data.toList).1.toArray⟩,.string ⟨(Lib.cut s.data.toList sep.data.toList).2.1.toArray⟩,.bool (Lib.cut s.data.toList sep.data.toList).2.2])∧∃ n,w'=w.drewN n:=Any.strings_Cut Tryz.lays145 s sep m w hs hm
def Tryz.laysM145_ren:Go.Shelf.Ren:=⟨fun | 145=>177 | 220=>196 | 219=>215 | 217=>168 | 225=>232 | 224=>233 | 267=>234 | 266=>190 | 314=>240 | n=>n,fun | 9=>9 | 4=>4 | 59=>124 | 3=>3 | 5=>5 | 46=>194 | 146=>254 | 51=>30 | n=>n,fun | 1=>1 | n=>n⟩
theorem Tryz.laysM145:Go.Proofs.LaysM.n145 Tryz.prog Tryz.laysM145_ren:={
 mixed:=by kernel_rfl
 f145:=func177.trans (congrArg some (by kernel_rfl))
 f217:=func168.trans (congrArg some (by kernel_rfl))
 f219:=func215.trans (congrArg some (by kernel_rfl))
 f220:=func196.trans (congrArg some (by kernel_rfl))
 f224:=func233.trans (congrArg some (by kernel_rfl))
 f225:=func232.trans (congrArg some (by kernel_rfl))
 f266:=func190.trans (congrArg some (by kernel_rfl))
 f267:=func234.trans (congrArg some (by kernel_rfl))
 f314:=func240.trans (congrArg some (by kernel_rfl))
 t3:=underlying3
 a3:=isAgg3
 z3:=sizeOf3
 v3:=zeroValue3
 t4:=underlying4
 a4:=isAgg4
 z4:=sizeOf4
 v4:=zeroValue4
 t5:=underlying5
 a5:=isAgg5
 z5:=sizeOf5
 v5:=zeroValue5
 t9:=underlying9
 a9:=isAgg9
 z9:=sizeOf9
 v9:=zeroValue9
 t46:=underlying194
 a46:=isAgg194
 z46:=sizeOf194
 v46:=zeroValue194
 t51:=underlying30
 a51:=isAgg30
 z51:=sizeOf30
 v51:=zeroValue30
 t59:=underlying124
 a59:=isAgg124
 z59:=sizeOf124
 v59:=zeroValue124
 t146:=underlying254
 a146:=isAgg254
 z146:=sizeOf254
 v146:=zeroValue254
 g1:=by kernel_rfl
 i3:=by kernel_rfl
 i4:=by kernel_rfl
 i5:=by kernel_rfl
 i9:=by kernel_rfl
 i46:=by kernel_rfl
 i51:=by kernel_rfl
 i59:=by kernel_rfl
 i146:=by kernel_rfl
 m1:=by kernel_rfl
 s1_3:=fun w h=>Go.Proofs.cell_of_shapedOpen_int (zero:=#[.int .i64 0]) (t:=3) h (of_decide_eq_true (by kernel_rfl)) (by kernel_rfl) rfl (by kernel_rfl) (by kernel_rfl) underlying3 }
def Tryz.lays206_ren:Go.Shelf.Ren:=⟨fun | 206=>216 | n=>n,fun | 9=>9 | 4=>4 | 3=>3 | n=>n,fun | n=>n⟩
def Tryz.lays102_ren:Go.Shelf.Ren:=⟨fun | 102=>150 | 209=>173 | 207=>148 | n=>n,fun | 9=>9 | 4=>4 | 3=>3 | n=>n,fun | n=>n⟩
theorem Tryz.lays102:Go.Proofs.Lays.n102 Tryz.prog Tryz.lays102_ren:={
 mixed:=by kernel_rfl
 f102:=func150.trans (congrArg some (by kernel_rfl))
 f207:=func148.trans (congrArg some (by kernel_rfl))
 f209:=func173.trans (congrArg some (by kernel_rfl))
 t3:=underlying3
 a3:=isAgg3
 z3:=sizeOf3
 v3:=zeroValue3
 t4:=underlying4
 a4:=isAgg4
 z4:=sizeOf4
 v4:=zeroValue4
 t9:=underlying9
 a9:=isAgg9
 z9:=sizeOf9
 v9:=zeroValue9 }
open Go.RowKit Go.Lib in
theorem Tryz.strings_TrimSuffix(s p:ByteArray)(w:World)(hs:s.size≤9223372036854775807) :
  Calls Tryz.prog 150 #[.string s,.string p] w fun e w'=>e=.returned (.string ⟨(Lib.trimSuffix s.data.toList p.data.toList).toArray⟩)∧w'=w:=Any.strings_TrimSuffix Tryz.lays102 s p w hs
def Tryz.lays221_ren:Go.Shelf.Ren:=⟨fun | 221=>172 | 268=>192 | 138=>193 | 143=>194 | 195=>212 | 197=>213 | 218=>214 | 219=>215 | 260=>231 | 217=>168 | 225=>232 | 224=>233 | 267=>234 | 266=>190 | 314=>240 | n=>n,fun | 9=>9 | 3=>3 | 31=>38 | 4=>4 | 0=>0 | 105=>229 | 21=>21 | 5=>5 | 46=>194 | 119=>250 | 139=>253 | 138=>252 | 146=>254 | 51=>30 | n=>n,fun | 1=>1 | 3=>5 | 4=>6 | n=>n⟩
def Tryz.lays146_ren:Go.Shelf.Ren:=⟨fun | 146=>149 | 221=>172 | 268=>192 | 138=>193 | 143=>194 | 195=>212 | 197=>213 | 218=>214 | 219=>215 | 260=>231 | 217=>168 | 225=>232 | 224=>233 | 267=>234 | 266=>190 | 314=>240 | n=>n,fun | 9=>9 | 31=>38 | 3=>3 | 4=>4 | 0=>0 | 105=>229 | 21=>21 | 5=>5 | 46=>194 | 119=>250 | 139=>253 | 138=>252 | 146=>254 | 51=>30 | n=>n,fun | 1=>1 | 3=>5 | 4=>6 | n=>n⟩
theorem Tryz.lays146:Go.Proofs.Lays.n146 Tryz.prog Tryz.lays146_ren:={
 mixed:=by kernel_rfl
 f138:=func193.trans (congrArg some (by kernel_rfl))
 f143:=func194.trans (congrArg some (by kernel_rfl))
 f146:=func149.trans (congrArg some (by kernel_rfl))
 f195:=func212.trans (congrArg some (by kernel_rfl))
 f197:=func213.trans (congrArg some (by kernel_rfl))
 f217:=func168.trans (congrArg some (by kernel_rfl))
 f218:=func214.trans (congrArg some (by kernel_rfl))
 f219:=func215.trans (congrArg some (by kernel_rfl))
 f221:=func172.trans (congrArg some (by kernel_rfl))
 f224:=func233.trans (congrArg some (by kernel_rfl))
 f225:=func232.trans (congrArg some (by kernel_rfl))
 f260:=func231.trans (congrArg some (by kernel_rfl))
 f266:=func190.trans (congrArg some (by kernel_rfl))
 f267:=func234.trans (congrArg some (by kernel_rfl))
 f268:=func192.trans (congrArg some (by kernel_rfl))
 f314:=func240.trans (congrArg some (by kernel_rfl))
 t0:=underlying0
 a0:=isAgg0
 z0:=sizeOf0
 v0:=zeroValue0
 t3:=underlying3
 a3:=isAgg3
 z3:=sizeOf3
 v3:=zeroValue3
 t4:=underlying4
 a4:=isAgg4
 z4:=sizeOf4
 v4:=zeroValue4
 t5:=underlying5
 a5:=isAgg5
 z5:=sizeOf5
 v5:=zeroValue5
 t9:=underlying9
 a9:=isAgg9
 z9:=sizeOf9
 v9:=zeroValue9
 t21:=underlying21
 a21:=isAgg21
 z21:=sizeOf21
 v21:=zeroValue21
 t31:=underlying38
 a31:=isAgg38
 z31:=sizeOf38
 v31:=zeroValue38
 t46:=underlying194
 a46:=isAgg194
 z46:=sizeOf194
 v46:=zeroValue194
 t51:=underlying30
 a51:=isAgg30
 z51:=sizeOf30
 v51:=zeroValue30
 t105:=underlying229
 a105:=isAgg229
 z105:=sizeOf229
 v105:=zeroValue229
 t119:=underlying250
 a119:=isAgg250
 z119:=sizeOf250
 t138:=underlying252
 a138:=isAgg252
 z138:=sizeOf252
 v138:=zeroValue252
 t139:=underlying253
 a139:=isAgg253
 z139:=sizeOf253
 v139:=zeroValue253
 t146:=underlying254
 a146:=isAgg254
 z146:=sizeOf254
 v146:=zeroValue254
 g1:=by kernel_rfl
 g3:=by kernel_rfl
 g4:=by kernel_rfl }
open Go.RowKit Go.Lib in
theorem Tryz.strings_Split(s sep:ByteArray)(m:Int)(w:World)(hs:s.size<4294967281)(hm:w.cell? ⟨1,0,none⟩=some (.int .i64 m))(h1:1≤sep.size) :
  Calls Tryz.prog 149 #[.string s,.string sep] w fun e w' =>
   e=.returned (.slice (some ⟨w.heap.size,0,none⟩) (Lib.countB s sep+1) (Lib.countB s sep+1))∧w'=w.alloc (.cells ((Lib.splitB sep 0 (Lib.countB s sep) s).map Value.string).toArray 9):=Any.strings_Split Tryz.lays146 (by kernel_rfl) s sep m w hs hm h1
def Tryz.renAll:Go.Shelf.Ren:=⟨fun | 0=>0 | 1=>1 | 2=>2 | 99=>217 | 100=>91 | 102=>150 | 103=>176 | 109=>36 | 115=>34 | 129=>227 | 137=>144 | 138=>193 | 143=>194 | 144=>178 | 145=>177 | 146=>149 | 156=>47 | 165=>83 | 166=>84 | 167=>175 | 169=>85 | 171=>225 | 195=>212 | 197=>213 | 205=>224 | 206=>216 | 207=>148 | 209=>173 | 210=>195 | 217=>168 | 218=>214 | 219=>215 | 220=>196 | 221=>172 | 224=>233 | 225=>232 | 240=>142 | 241=>143 | 243=>237 | 245=>187 | 246=>241 | 260=>231 | 266=>190 | 267=>234 | 268=>192 | 276=>166 | 277=>167 | 279=>204 | 280=>205 | 281=>206 | 282=>207 | 283=>208 | 284=>209 | 285=>210 | 286=>211 | 287=>186 | 314=>240 | 316=>223 | 317=>226 | 318=>228 | 319=>229 | 320=>230 | 321=>202 | 322=>203 | 337=>238 | 338=>239 | 347=>242 | 348=>243 | 349=>244 | 350=>245 | 351=>246 | 352=>247 | 353=>248 | 354=>249 | 355=>250 | 356=>251 | 357=>252 | 358=>253 | 359=>254 | 360=>255 | 361=>256 | 362=>258 | 363=>261 | 364=>259 | 365=>260 | 366=>262 | 367=>274 | n=>n,fun | 0=>0 | 1=>1 | 2=>2 | 3=>3 | 4=>4 | 5=>5 | 6=>6 | 7=>7 | 8=>8 | 9=>9 | 10=>10 | 11=>11 | 12=>12 | 13=>13 | 14=>14 | 15=>15 | 16=>16 | 17=>17 | 18=>18 | 19=>19 | 20=>20 | 21=>21 | 22=>56 | 23=>172 | 24=>94 | 25=>196 | 27=>206 | 28=>112 | 31=>38 | 32=>76 | 37=>22 | 38=>74 | 46=>194 | 47=>244 | 49=>191 | 51=>30 | 52=>249 | 53=>31 | 54=>225 | 55=>167 | 59=>124 | 60=>197 | 61=>171 | 67=>105 | 68=>72 | 69=>236 | 70=>135 | 71=>136 | 72=>137 | 73=>138 | 74=>139 | 75=>140 | 76=>141 | 77=>142 | 78=>195 | 80=>143 | 81=>263 | 83=>40 | 84=>256 | 103=>41 | 104=>65 | 105=>229 | 106=>230 | 108=>239 | 111=>84 | 113=>190 | 114=>240 | 119=>250 | 127=>166 | 128=>204 | 137=>251 | 138=>252 | 139=>253 | 143=>246 | 144=>247 | 145=>248 | 146=>254 | 150=>205 | 151=>255 | 164=>183 | 165=>184 | 166=>185 | 167=>219 | 168=>221 | 169=>222 | 170=>223 | 171=>224 | 172=>226 | 173=>227 | 174=>228 | 175=>178 | 176=>179 | 209=>237 | 210=>238 | 211=>241 | 212=>242 | 213=>243 | 214=>220 | 229=>215 | 232=>28 | 233=>257 | 234=>218 | 238=>258 | 239=>259 | 240=>260 | 241=>261 | 242=>262 | 243=>264 | 244=>265 | 245=>266 | 246=>267 | 247=>268 | 248=>269 | 249=>270 | n=>n,fun | 1=>1 | 3=>5 | 4=>6 | 15=>2 | 16=>3 | 17=>4 | 18=>7 | 19=>8 | n=>n⟩
def Tryz.lays167_ren:Go.Shelf.Ren:=Tryz.renAll
theorem Tryz.lays167:Go.Proofs.Lays.n167 Tryz.prog Tryz.renAll:={
 mixed:=by kernel_rfl
 f167:=func175.trans (congrArg some (by kernel_rfl))
 f240:=func142.trans (congrArg some (by kernel_rfl))
 f276:=func166.trans (congrArg some (by kernel_rfl))
 t0:=underlying0
 a0:=isAgg0
 z0:=sizeOf0
 v0:=zeroValue0
 t4:=underlying4
 a4:=isAgg4
 z4:=sizeOf4
 v4:=zeroValue4
 t5:=underlying5
 a5:=isAgg5
 z5:=sizeOf5
 v5:=zeroValue5
 t9:=underlying9
 a9:=isAgg9
 z9:=sizeOf9
 v9:=zeroValue9
 t20:=underlying20
 a20:=isAgg20
 z20:=sizeOf20
 v20:=zeroValue20
 t37:=underlying22
 a37:=isAgg22
 z37:=sizeOf22
 v37:=zeroValue22
 t70:=underlying135
 a70:=isAgg135
 z70:=sizeOf135
 v70:=zeroValue135
 t72:=underlying137
 a72:=isAgg137
 z72:=sizeOf137
 v72:=zeroValue137
 t75:=underlying140
 a75:=isAgg140
 z75:=sizeOf140
 v75:=zeroValue140
 t164:=underlying183
 a164:=isAgg183
 z164:=sizeOf183
 v164:=zeroValue183 }
theorem Tryz.Builder_Extra_167:Builder.Extra Tryz.prog Tryz.lays167_ren where
 sizeBuilder:=by kernel_rfl
 liesBuilder:=by kernel_rfl
 t5:=underlying5
 a5:=isAgg5
 z5:=sizeOf5
 v5:=zeroValue5
 infoByte:=by kernel_rfl
 cellsByte:=by kernel_rfl
 sizeByte:=by kernel_rfl
 neB5:=by decide
def Tryz.lays166_ren:Go.Shelf.Ren:=Tryz.renAll
theorem Tryz.lays166:Go.Proofs.Lays.n166 Tryz.prog Tryz.renAll:={
 mixed:=by kernel_rfl
 f166:=func84.trans (congrArg some (by kernel_rfl))
 f240:=func142.trans (congrArg some (by kernel_rfl))
 f276:=func166.trans (congrArg some (by kernel_rfl))
 t0:=underlying0
 a0:=isAgg0
 z0:=sizeOf0
 v0:=zeroValue0
 t3:=underlying3
 a3:=isAgg3
 z3:=sizeOf3
 v3:=zeroValue3
 t4:=underlying4
 a4:=isAgg4
 z4:=sizeOf4
 v4:=zeroValue4
 t9:=underlying9
 a9:=isAgg9
 z9:=sizeOf9
 v9:=zeroValue9
 t20:=underlying20
 a20:=isAgg20
 z20:=sizeOf20
 v20:=zeroValue20
 t37:=underlying22
 a37:=isAgg22
 z37:=sizeOf22
 v37:=zeroValue22
 t70:=underlying135
 a70:=isAgg135
 z70:=sizeOf135
 v70:=zeroValue135
 t72:=underlying137
 a72:=isAgg137
 z72:=sizeOf137
 v72:=zeroValue137
 t75:=underlying140
 a75:=isAgg140
 z75:=sizeOf140
 v75:=zeroValue140
 t164:=underlying183
 a164:=isAgg183
 z164:=sizeOf183
 v164:=zeroValue183 }
theorem Tryz.Builder_Extra_166:Builder.Extra Tryz.prog Tryz.lays166_ren where
 sizeBuilder:=by kernel_rfl
 liesBuilder:=by kernel_rfl
 t5:=underlying5
 a5:=isAgg5
 z5:=sizeOf5
 v5:=zeroValue5
 infoByte:=by kernel_rfl
 cellsByte:=by kernel_rfl
 sizeByte:=by kernel_rfl
 neB5:=by decide
open Go.RowKit in
theorem Tryz.Builder_WriteByte_k(B b:Nat)(bs:List Value)(c:Int)(w:World)(h:Lib.IsBuilderF 137 5 B b bs w)(hlen:bs.length+1≤140737488355328)(hBw:B≤w.heap.size) :
  Calls Tryz.prog 175 #[.pointer (some ⟨b,0,none⟩),.int .u8 c] w fun e w'=>e=.returned .nilIface∧(Lib.BuilderAtF 137 5 B b (.pointer (some ⟨b,0,none⟩)) (bs++[.int .u8 c]) w'∧Below B w w'∧Lib.OthersKept 5 (some b) w w'):=Any.Builder_WriteByte_k Tryz.lays167 Tryz.Builder_Extra_167 B b bs c w h hlen hBw
open Go.RowKit in
theorem Tryz.Builder_WriteString_k(B b:Nat)(bs:List Value)(s:ByteArray)(w:World)(h:Lib.IsBuilderF 137 5 B b bs w)(hlen:bs.length+s.size≤140737488355328)(hBw:B≤w.heap.size) :
  Calls Tryz.prog 84 #[.pointer (some ⟨b,0,none⟩),.string s] w fun e w'=>e=.returned (.tuple #[.int .i64 s.size,.nilIface])∧(Lib.BuilderAtF 137 5 B b (.pointer (some ⟨b,0,none⟩)) (bs++Lib.strCells s) w'∧Below B w w'∧Lib.OthersKept 5 (some b) w w'):=Any.Builder_WriteString_k Tryz.lays166 Tryz.Builder_Extra_166 B b bs s w h hlen hBw
end Go.Proofs
namespace Go.Proofs.YtkkmmpofdcccmaaGreatDoor
open E Go.RowKit
theorem g_bits_deBruijn32tab: Tryz.prog.globalNamed "math/bits.deBruijn32tab" = some 7 := by kernel_rfl
theorem gt_bits_deBruijn32tab:(Tryz.prog.globals[7]?).map (·.type)=some 28:=by kernel_rfl
def GV_bits_deBruijn32tab(w : World) : Prop := Lib.TabIs Tryz.prog w "math/bits.deBruijn32tab" .u8 [0, 1, 28, 2, 29, 14, 24, 3, 30, 22, 20, 15, 25, 17, 4, 8, 31, 27, 13, 23, 21, 19, 16, 7, 26, 12, 18, 6, 11, 5, 10, 9]
theorem GV_bits_deBruijn32tab.of_laid{l : List (String × DataW Unit)}{w : World}(h : laidMet Tryz.prog l w)(hm : ("math/bits.deBruijn32tab", Rows.laid_math_bits_deBruijn32tab) ∈ l) : GV_bits_deBruijn32tab w := tab_of_reads g_bits_deBruijn32tab gt_bits_deBruijn32tab Tryz.underlying28 Tryz.underlying5 (by kernel_rfl) (by kernel_rfl) (reads_of h hm)
theorem g_bits_deBruijn64tab: Tryz.prog.globalNamed "math/bits.deBruijn64tab" = some 8 := by kernel_rfl
theorem gt_bits_deBruijn64tab:(Tryz.prog.globals[8]?).map (·.type)=some 257:=by kernel_rfl
def GV_bits_deBruijn64tab(w : World) : Prop := Lib.TabIs Tryz.prog w "math/bits.deBruijn64tab" .u8 [0, 1, 56, 2, 57, 49, 28, 3, 61, 58, 42, 50, 38, 29, 17, 4, 62, 47, 59, 36, 45, 43, 51, 22, 53, 39, 33, 30, 24, 18, 12, 5, 63, 55, 48, 27, 60, 41, 37, 16, 46, 35, 44, 21, 52, 32, 23, 11, 54, 26, 40, 15, 34, 20, 31, 10, 25, 14, 19, 9, 13, 8, 7, 6]
theorem GV_bits_deBruijn64tab.of_laid{l : List (String × DataW Unit)}{w : World}(h : laidMet Tryz.prog l w)(hm : ("math/bits.deBruijn64tab", Rows.laid_math_bits_deBruijn64tab) ∈ l) : GV_bits_deBruijn64tab w := tab_of_reads g_bits_deBruijn64tab gt_bits_deBruijn64tab Tryz.underlying257 Tryz.underlying5 (by kernel_rfl) (by kernel_rfl) (reads_of h hm)
theorem g_strconv_uint64pow10: Tryz.prog.globalNamed "internal/strconv.uint64pow10" = some 4 := by kernel_rfl
theorem gt_strconv_uint64pow10:(Tryz.prog.globals[4]?).map (·.type)=some 242:=by kernel_rfl
def GV_strconv_uint64pow10(w : World) : Prop := Lib.TabIs Tryz.prog w "internal/strconv.uint64pow10" .u64 Lib.pow10Tab
theorem GV_strconv_uint64pow10.on{w w':World}(h:GV_strconv_uint64pow10 w)(hb:Below w.heap.size w w'):GV_strconv_uint64pow10 w':=var_on h hb
theorem GV_strconv_uint64pow10.of_laid{l : List (String × DataW Unit)}{w : World}(h : laidMet Tryz.prog l w)(hm : ("internal/strconv.uint64pow10", Rows.laid_internal_strconv_uint64pow10) ∈ l) : GV_strconv_uint64pow10 w := tab_of_reads g_strconv_uint64pow10 gt_strconv_uint64pow10 Tryz.underlying242 Tryz.underlying31 (by kernel_rfl) (by kernel_rfl) (reads_of h hm)
theorem g_strconv_ErrRange: Tryz.prog.globalNamed "strconv.ErrRange" = some 3 := by kernel_rfl
theorem gt_strconv_ErrRange:(Tryz.prog.globals[3]?).map (·.type)=some 140:=by kernel_rfl
def GV_strconv_ErrRange(w : World) : Prop := GErr Tryz.prog w "strconv.ErrRange"
theorem GV_strconv_ErrRange.on{w w':World}(h:GV_strconv_ErrRange w)(hb:Below w.heap.size w w'):GV_strconv_ErrRange w':=GErr.on h hb
theorem GV_strconv_ErrRange.of_laid{l : List (String × DataW Unit)}{w : World}(h : laidMet Tryz.prog l w)(hm : ("strconv.ErrRange", Rows.laid_strconv_ErrRange) ∈ l) : GV_strconv_ErrRange w := gerr_of_reads g_strconv_ErrRange gt_strconv_ErrRange Tryz.underlying140 (reads_of h hm)
theorem g_strconv_ErrSyntax: Tryz.prog.globalNamed "strconv.ErrSyntax" = some 2 := by kernel_rfl
theorem gt_strconv_ErrSyntax:(Tryz.prog.globals[2]?).map (·.type)=some 140:=by kernel_rfl
def GV_strconv_ErrSyntax(w : World) : Prop := GErr Tryz.prog w "strconv.ErrSyntax"
theorem GV_strconv_ErrSyntax.on{w w':World}(h:GV_strconv_ErrSyntax w)(hb:Below w.heap.size w w'):GV_strconv_ErrSyntax w':=GErr.on h hb
theorem GV_strconv_ErrSyntax.of_laid{l : List (String × DataW Unit)}{w : World}(h : laidMet Tryz.prog l w)(hm : ("strconv.ErrSyntax", Rows.laid_strconv_ErrSyntax) ∈ l) : GV_strconv_ErrSyntax w := gerr_of_reads g_strconv_ErrSyntax gt_strconv_ErrSyntax Tryz.underlying140 (reads_of h hm)
theorem g_field_names: Tryz.prog.globalNamed "crawlway/field.names" = some 0 := by kernel_rfl
theorem gt_field_names:(Tryz.prog.globals[0]?).map (·.type)=some 75:=by kernel_rfl
def gval_field_names:Vector ByteArray 17:=#v[⟨#[]⟩,⟨#[112,114,105,118,97,116,101,95,107,101,121]⟩,⟨#[108,105,115,116,101,110,95,112,111,114,116]⟩,⟨#[102,119,109,97,114,107]⟩,⟨#[114,101,112,108,97,99,101,95,112,101,101,114,115]⟩,⟨#[112,117,98,108,105,99,95,107,101,121]⟩,⟨#[114,101,109,111,118,101]⟩,⟨#[117,112,100,97,116,101,95,111,110,108,121]⟩,⟨#[112,114,101,115,104,97,114,101,100,95,107,101,121]⟩,⟨#[101,110,100,112,111,105,110,116]⟩,⟨#[112,101,114,115,105,115,116,101,110,116,95,107,101,101,112,97,108,105,118,101,95,105,110,116,101,114,118,97,108]⟩,⟨#[114,101,112,108,97,99,101,95,97,108,108,111,119,101,100,95,105,112,115]⟩,⟨#[97,108,108,111,119,101,100,95,105,112]⟩,⟨#[112,114,111,116,111,99,111,108,95,118,101,114,115,105,111,110]⟩,⟨#[116,120,95,98,121,116,101,115]⟩,⟨#[114,120,95,98,121,116,101,115]⟩,⟨#[101,114,114,110,111]⟩]
def GV_field_names(w : World) : Prop := Gv Tryz.prog w "crawlway/field.names" (cVec cStr 17 (by decide)) gval_field_names
theorem GV_field_names.of_laid{l : List (String × DataW Unit)}{w : World}(h : laidMet Tryz.prog l w)(hm : ("crawlway/field.names", Rows.laid_crawlway_field_names) ∈ l) : GV_field_names w := gv_of_strs g_field_names gt_field_names Tryz.underlying75 Tryz.underlying9 (by kernel_rfl) (by kernel_rfl) (reads_of h hm)
end Go.Proofs.YtkkmmpofdcccmaaGreatDoor
namespace Go.Proofs.YtkkmmpofdcccmaaGreatDoor
open E Go.RowKit Go.Sort
set_option maxHeartbeats 6400000 in
set_option maxRecDepth 100000 in
theorem intFormatUint_small(u:Nat)(hu:u<100)(w:World) :
  Calls Tryz.prog 188 #[.int .u64 u,.int .i64 10] w fun e w'=>e=.returned (.string ⟨(Lib.decDigits u).toArray⟩)∧w'=w:=by
 have hw:IntKind.i64.wrap (u:Int)=(u:Int):=by rw [IntKind.wrap_i64];omega
 have iu:(u:Int)<100:=by omega
 go_enter Tryz.func188,Tryz.ntmps188
 go_wp2_with (go_at_call 208;refine (Tryz.internal_strconv_small u hu _).mono ?_;rintro e w' ⟨rfl,rfl⟩)
 go_ret
 exact ⟨rfl,rfl⟩
set_option maxHeartbeats 12800000 in
set_option maxRecDepth 100000 in
theorem intFormatUint_big(u : Nat)(hu : 100 ≤ u)(hu64 : u < 18446744073709551616)(w : World)(htab : Lib.TabIs Tryz.prog w "internal/strconv.uint64pow10" .u64 Lib.pow10Tab) :
  Calls Tryz.prog 188 #[.int .u64 u,.int .i64 10] w fun e w'=>e=.returned (.string ⟨(Lib.decDigits u).toArray⟩)∧Below w.heap.size w w':=by
 have hu1:1≤u:=by omega
 have hnd20:Lib.nDigits u≤20:=by have:=Lib.numDigits_eq u hu1 hu64;split at this<;>omega
 have hal:Tryz.prog.arrayLen 224=24:=by simp [Program.arrayLen,Tryz.underlying224]
 have hsl:∀ W,(Instr.sliceAt 224 (.pointer (some ⟨w.heap.size,0,none⟩)) none (some (.int .i64 (Lib.nDigits u:Int))) none).run Tryz.prog W=.ok (.slice (some ⟨w.heap.size,0,none⟩) (Lib.nDigits u) 24) W:=fun W=>by
  rw [run_sliceAt_array_h W 224 ⟨w.heap.size,0,none⟩ (by simp [Program.arrayLen,Program.elem,Tryz.underlying224]) .i64 (Lib.nDigits u:Int) (by omega) (by rw [hal];omega)]
  go_simp
 have hH0:=Lib.holds_zero0 w 224 (Lib.nDigits u) (by omega)
 have hfmt:=Tryz.internal_strconv_formatBase10 w.heap.size 0 24 u (Array.replicate (Lib.nDigits u) 0) (w.alloc (.cells Lib.zeros24 224)) hH0 (by rw [Array.size_replicate];exact Lib.lt_pow_nDigits u) hu64 (by rw [Array.size_replicate];omega)
 rw [Array.size_replicate] at hfmt
 have HH0:=Lib.hid hH0
 have iu:(100:Int)≤(u:Int):=by omega
 clear hH0 hal
 go_enter Tryz.func188,Tryz.ntmps188
 go_wp2_with (first
  | (go_at_call 209;refine (Tryz.internal_strconv_numDigits u hu1 hu64 _ (Lib.tabIs_alloc htab _)).mono ?_;rintro e w' ⟨rfl,rfl⟩))
 go_at_call 210
 refine hfmt.mono ?_
 rintro e w' ⟨rfl,k,v',dk,rfl,hF⟩
 have hcv:(convert 22 9 (.slice (some ⟨w.heap.size,0,none⟩) (Lib.nDigits u) 24)).run Tryz.prog ((putRow (fun (b:UInt8)=>Value.int .u8 (b.toNat:Int)) (w.alloc (.cells Lib.zeros24 224)) w.heap.size 0 dk).drewN k)=.ok (.string ⟨(Lib.decDigits u).toArray⟩) ((putRow (fun (b:UInt8)=>Value.int .u8 (b.toNat:Int)) (w.alloc (.cells Lib.zeros24 224)) w.heap.size 0 dk).drewN k):=by
  have h:=run_convert_bytes_back (P:=Tryz.prog) ((putRow (fun (b:UInt8)=>Value.int .u8 (b.toNat:Int)) (w.alloc (.cells Lib.zeros24 224)) w.heap.size 0 dk).drewN k) 22 9 5 ⟨w.heap.size,0,none⟩ 24 (Lib.decDigits u) Tryz.underlying22 Tryz.underlying5 Tryz.underlying9 (fun j hj=>by
   rw [Lib.row_is_numeral hF j hj,Lib.add_plain,World.cell?_drewN]
   exact cell?_putRow (fun (b:UInt8)=>Value.int .u8 (b.toNat:Int)) _ w.heap.size 0 _ dk HH0.out (by rw [hF.size,Array.size_replicate]) j (by rw [hF.size];rw [Lib.decDigits_length] at hj;exact hj))
  rw [Lib.decDigits_length] at h
  exact h
 go_wp2
 go_ret
 obtain ⟨os,eo⟩:=Lib.fin_at w (.cells Lib.zeros24 224) dk k 0
 refine ⟨rfl,?_⟩
 rw [eo]
 exact Lib.below_grow w.heap.size w (Nat.le_refl _) k os
theorem formatUint_ok(n:Int)(h:0≤n∧n<18446744073709551616)(w:World)(hg:GV_strconv_uint64pow10 w) :
  Calls Tryz.prog 163 #[.int .u64 n,.int .i64 10] w fun e w'=>e=.returned (.string (fmtU n))∧Below w.heap.size w w':=by
 obtain ⟨u,rfl⟩:=Int.eq_ofNat_of_zero_le h.1
 have hu64:u<18446744073709551616:=by omega
 have hin:Calls Tryz.prog 188 #[.int .u64 u,.int .i64 10] w fun e w'=>e=.returned (.string (fmtU u))∧Below w.heap.size w w':=by
  by_cases hs:u<100
  ·exact (intFormatUint_small u hs w).mono fun e w' ⟨he,hw⟩=>⟨he,hw▸Below.refl _ _⟩
  ·exact intFormatUint_big u (by omega) hu64 w hg
 refine calls_enter (l:=[.int .u64 u,.int .i64 10]) Tryz.func163 rfl rfl rfl ?_
 refine at_seq ?_
 refine at_region ?_
 refine at_val rfl rfl rfl (r_assign rfl) ?_
 refine at_nil ?_
 refine at_then_normal ?_
 refine at_seq ?_
 refine at_region ?_
 refine at_val rfl rfl rfl (r_move rfl) ?_
 refine at_val rfl rfl rfl (r_move rfl) ?_
 refine at_call (W':=fun v w'=>v=.string (fmtU u)∧Below w.heap.size w w') Tryz.func188 rfl (by kernel_rfl) rfl rfl (fun w1 hw1=>?_) ?_
 ·obtain rfl:w1=w:=hw1
  exact hin.mono fun e w' ⟨he,hw⟩=>⟨_,he,rfl,hw⟩
 ·intro v
  refine at_pure (φ:=v=.string (fmtU u)) (fun _ h=>h.1) ?_
  rintro rfl
  refine at_val rfl rfl rfl (r_assign rfl) ?_
  refine at_nil ?_
  refine at_then_normal ?_
  refine at_ret ?_
  exact at_return1 rfl rfl (fun w1 hw=>⟨rfl,hw.2⟩)
theorem parseUint_ok(s:ByteArray)(h:s.size≤281474976710656)(w:World)(hgR:GV_strconv_ErrRange w)(hgS:GV_strconv_ErrSyntax w) :
  Calls Tryz.prog 162 #[.string s,.int .i64 10,.int .i64 64] w fun e w'=>∃ u,e=.returned (.tuple #[.int .u64 (parU s).1,u])∧ErrV u (parU s).2∧Below w.heap.size w w':=by
 obtain ⟨tr,pr,hr⟩:=hgR
 obtain ⟨ts,ps,hs⟩:=hgS
 unfold parU
 cases hp:Lib.parseUintB 64 s.data.toList
 ·refine (Tryz.strconv_ParseUint_10_at64_ok s (by omega) _ hp w).mono fun e w' ⟨he,hw⟩=>⟨_,he,.inl ⟨rfl,rfl⟩,?_⟩
  rcases hw with rfl | rfl
  ·exact Below.refl _ _
  ·exact Lib.bytesWorld_below _ _ _
 ·exact (Any.strconv_ParseUint_10_at64_syntax_var Tryz.laysPu14 s h hp ts ps w hs).mono fun e w' ⟨N,he,_,_,hw⟩=>⟨_,he,.inr ⟨rfl,_,_,rfl⟩,hw⟩
 ·exact (Tryz.strconv_ParseUint_10_at64_range_var s h hp tr pr w hr).mono fun e w' ⟨N,he,_,_,hw⟩=>⟨_,he,.inr ⟨rfl,_,_,rfl⟩,hw⟩
end Go.Proofs.YtkkmmpofdcccmaaGreatDoor
namespace Go.Proofs.YtkkmmpofdcccmaaGreatDoor
open E Go.RowKit
def bjoin(xs:List ByteArray)(sep:ByteArray):ByteArray:=⟨(Lib.join (xs.map (·.data.toList)) sep.data.toList).toArray⟩
theorem join_ok(xs:List ByteArray)(sep:ByteArray)(h:xs.length≤140737488355328)(hs:(bjoin xs sep).size≤140737488355328)(p:Option Addr)(cap:Nat)(w:World)(hr:Row cStr w p cap xs) :
  Calls Tryz.prog 47 #[.slice p xs.length cap,.string sep] w fun e w'=>e=.returned (.string (bjoin xs sep))∧Below w.heap.size w w':=by
 rcases hr.2 with h0 | ⟨b,o,hp,hc⟩
 ·subst h0
  exact (Tryz.strings_Join_none p cap sep w).mono fun e w' ⟨he,hw⟩=>⟨he,hw▸Below.refl _ _⟩
 ·cases xs with
  | nil=>exact (Tryz.strings_Join_none p cap sep w).mono fun e w' ⟨he,hw⟩=>⟨he,hw▸Below.refl _ _⟩
  | cons x r =>
   subst hp
   have hcell:∀ (j:Nat) y,(x::r)[j]? = some y→w.cell? ⟨b,o+j,none⟩=some (.string y):=fun j y hj=>by
    have:=Cd.all_get cStr (x::r) j 0 y hj (by decide)
    refine hc j _ ?_
    have e:j*cStr.sz+0=j:=by show j*1+0=j;omega
    rw [e] at this
    rw [this];rfl
   have hb:b<w.heap.size:=World.block_lt_of_cell? w _ (hcell 0 x rfl)
   have hlen:(Lib.join ((x::r).map (·.data.toList)) sep.data.toList).length≤140737488355328:=by
    have:(bjoin (x::r) sep).size=(Lib.join ((x::r).map (·.data.toList)) sep.data.toList).length:=by
     show (bjoin (x::r) sep).data.size=_
     simp [bjoin]
    omega
   exact Tryz.strings_Join b o cap (x::r) sep w hcell hb h hr.1 hlen
def GV_bytealg_MaxLen(w:World):Prop:=∃ m,w.cell? ⟨Tryz.laysM145_ren.g 1,0,none⟩=some (.int .i64 m)
theorem GV_bytealg_MaxLen.on{w w':World}(h:GV_bytealg_MaxLen w)(hb:Below w.heap.size w w'):GV_bytealg_MaxLen w':=by
 obtain ⟨m,hm⟩:=h
 refine ⟨m,?_⟩
 have hlt:Tryz.laysM145_ren.g 1<w.heap.size:=by
  rcases Nat.lt_or_ge (Tryz.laysM145_ren.g 1) w.heap.size with h' | h'
  ·exact h'
  ·unfold World.cell? at hm
   simp only [Array.getElem?_eq_none h'] at hm
   simp at hm
 have e:=hb.block _ hlt
 unfold World.cell? at hm ⊢
 simp only [e]
 exact hm
theorem GV_bytealg_MaxLen.of_shaped{w:World}(h:w.ShapedOpen Tryz.prog):GV_bytealg_MaxLen w:=Tryz.laysM145.s1_3 w h
def scut(s sep:ByteArray):ByteArray×ByteArray×Bool:=(⟨(Lib.cut s.data.toList sep.data.toList).1.toArray⟩,⟨(Lib.cut s.data.toList sep.data.toList).2.1.toArray⟩,(Lib.cut s.data.toList sep.data.toList).2.2)
theorem cut_okS(s sep:ByteArray)(hs:s.size<4294967281)(w:World)(hg:GV_bytealg_MaxLen w) :
  Calls Tryz.prog 177 #[.string s,.string sep] w fun e w'=>e=.returned (.tuple #[.string (scut s sep).1,.string (scut s sep).2.1,.bool (scut s sep).2.2])∧Below w.heap.size w w':=by
 obtain ⟨m,hm⟩:=hg
 refine (Tryz.strings_Cut s sep m w hs hm).mono fun e w' h=>?_
 obtain ⟨he,n,hn⟩:=h
 subst hn
 exact ⟨he,Below.drawn w _⟩
theorem handed_shaped{H:Type}{enc:TypeId×Value→H}{a:Assume}{C:Checked}{os:Os}{f:FuncId}{fn:Func}{s:ChangeSpec}{conds:List PathCond}{apart fresh handsOn again:Bool}{X:World→Array Value→Prop}
  (hX:∀ (w w':World) (args:Array Value),w.heap=w'.heap→X w args→X w' args)
  (own:ownKnob C.prog.godebug=none) (started:os.Started) (noInit:C.prog.inits.idxOf? f=none) (hfn:C.prog.funcs[f]? = some fn)
  (witness:∃ (w:World) (tape:Tape) (i:Input),w.os=os∧(w.forCall tape i).Shaped C.prog∧i.vars=[]∧Input.okWide C.prog (w.forCall tape i) .any w.heap.size f i ∧
   ((s.pre enc C.prog fn conds apart (w.forCall tape i).memory i.args∧X (w.forCall tape i).memory i.args)∧sizedMet enc C.prog fn (OpenSpec.ofChange s) apart (w.forCall tape i).memory i.args)∧a.holds C.prog (lone (Frame.enter C.prog f i.args .normal) [] (w.forCall tape i)))
  (contract:∀ (W:World) (base:Nat) (args:Array Value) (ds gs:List (DataW H)) (before:List MemPlace),
   (∀ (j:Nat) t v,fn.params[j]? = some t→args[j]? = some v→Value.okWide C.prog W .any base t v) →
   DataW.Whole enc C.prog fn.params.toList s.vars apart W args.toList ds gs before →
   conds.all (PathCond.test C.prog ⟨fn.params.toList,ds,s.plain.varTypes C.prog,gs⟩)=true →
   (DataW.weightsEach C.prog (fn.params.toList++s.plain.varTypes C.prog) (ds++gs)).all (·≤reachBytes)=true→W.ShapedOpen C.prog→X W args →
   a.holds C.prog (lone (Frame.enter C.prog f args .normal) [] W) →
   Calls C.prog f args W fun e W'=>∃ v,e=.returned v∧s.post enc C.prog fn apart fresh handsOn again W args v W') :
  ReturnsInHanded a C os f .any (fun w args=>(s.pre enc C.prog fn conds apart w args∧X w args)∧sizedMet enc C.prog fn (OpenSpec.ofChange s) apart w args) (s.post enc C.prog fn apart fresh handsOn again):=by
 refine returnsInHanded_of_calls own started noInit witness ?_
 intro w tape i _ hsh _ hok hpre hholds
 obtain ⟨_,_,_,fn2,hf2,_,_,_,_,hval⟩:=hok
 cases Option.some.inj (hf2.symm.trans hfn)
 obtain ⟨⟨⟨ds,gs,before,hw,hc⟩,hx⟩,hz⟩:=hpre
 refine (contract (w.forCall tape i) w.heap.size i.args ds gs before hval (DataW.Whole.of_heap (by rfl) hw) hc (hz.weights hw) hsh (hX _ _ _ (by rfl) hx) hholds).mono fun e W' h=>?_
 obtain ⟨v,he,hp⟩:=h
 cases he
 exact ChangeSpec.post_blind hp
end Go.Proofs.YtkkmmpofdcccmaaGreatDoor
namespace Go.Proofs.YtkkmmpofdcccmaaGreatDoor.E
open Go.RowKit
theorem wr_i64{x:Int}(h : -9223372036854775808≤x)(h':x<9223372036854775808):wr .i64 x=x:=by
 unfold wr IntKind.wrap
 simp [IntKind.bits,IntKind.signed]
 split<;>omega
theorem wr_u8{x:Int}(h:0≤x)(h':x<256):wr .u8 x=x:=by
 unfold wr IntKind.wrap;simp only [IntKind.bits,IntKind.signed,Bool.false_and,Bool.false_eq_true,if_false];omega
theorem wr_u16{x:Int}(h:0≤x)(h':x<65536):wr .u16 x=x:=by
 unfold wr IntKind.wrap;simp only [IntKind.bits,IntKind.signed,Bool.false_and,Bool.false_eq_true,if_false];omega
theorem wr_u32{x:Int}(h:0≤x)(h':x<4294967296):wr .u32 x=x:=by
 unfold wr IntKind.wrap;simp only [IntKind.bits,IntKind.signed,Bool.false_and,Bool.false_eq_true,if_false];omega
theorem wr_u64{x:Int}(h:0≤x)(h':x<18446744073709551616):wr .u64 x=x:=by
 unfold wr IntKind.wrap;simp only [IntKind.bits,IntKind.signed,Bool.false_and,Bool.false_eq_true,if_false];omega
theorem wr_u8_mod(x:Int):wr .u8 x=x%256:=by
 unfold wr IntKind.wrap;simp only [IntKind.bits,IntKind.signed,Bool.false_and,Bool.false_eq_true,if_false];omega
theorem toNat_ofInt(b:Nat)(x:Nat)(h:x<2 ^ b):(BitVec.ofInt b (x:Int)).toNat=x:=by
 rw [BitVec.toNat_ofInt]
 rw [Int.emod_eq_of_lt (by omega) (by exact_mod_cast h)]
 simp
theorem iand_nat(k:IntKind)(hk:k.signed=false)(x y:Nat)(hx:x<2 ^ k.bits)(hy:y<2 ^ k.bits):iand k x y=((x &&& y:Nat):Int):=by
 unfold iand
 rw [BitVec.toNat_and,toNat_ofInt _ _ hx,toNat_ofInt _ _ hy]
 unfold IntKind.wrap
 have h1:x &&& y<2 ^ k.bits:=Nat.lt_of_le_of_lt Nat.and_le_left hx
 rw [Int.emod_eq_of_lt (by omega) (by exact_mod_cast h1)]
 simp [hk]
theorem ior_nat(k:IntKind)(hk:k.signed=false)(x y:Nat)(hx:x<2 ^ k.bits)(hy:y<2 ^ k.bits):ior k x y=((x ||| y:Nat):Int):=by
 unfold ior
 rw [BitVec.toNat_or,toNat_ofInt _ _ hx,toNat_ofInt _ _ hy]
 unfold IntKind.wrap
 have h1:x ||| y<2 ^ k.bits:=Nat.or_lt_two_pow hx hy
 rw [Int.emod_eq_of_lt (by omega) (by exact_mod_cast h1)]
 simp [hk]
theorem ishr_nat(k:IntKind)(x n:Nat)(hn:n≤k.bits):ishr k x n=((x/2 ^ n:Nat):Int):=by
 unfold ishr
 rw [Int.toNat_natCast,Nat.min_eq_left hn,Int.fdiv_eq_ediv_of_nonneg _ (by exact_mod_cast Nat.zero_le _)]
 exact_mod_cast rfl
theorem ishl_nat(k:IntKind)(hk:k.signed=false)(x n:Nat)(hn:n≤k.bits):ishl k x n=(((x*2 ^ n)%2 ^ k.bits:Nat):Int):=by
 unfold ishl IntKind.wrap
 rw [Int.toNat_natCast,Nat.min_eq_left hn]
 simp [hk]
theorem ba_get(s:ByteArray)(i:Nat)(h:i<s.size):s.data.toList[i]? = some (s[i]):=by
 rw [List.getElem?_eq_getElem (by simpa using h)];rfl
theorem bt_nat(s:ByteArray)(i:Nat):bt s i=((s.data.toList[i]?).getD 0).toNat:=by
 unfold bt
 rw [Int.toNat_natCast]
 have:s[i]? = s.data.toList[i]?:=by
  by_cases h:i<s.size
  ·rw [ba_get s i h,getElem?_pos s i h]
  ·rw [getElem?_neg s i h,List.getElem?_eq_none (by simpa using h)]
 rw [this]
theorem seq_iff(x y:ByteArray):seq x y=true↔x=y:=by
 unfold seq
 rw [beq_iff_eq]
 constructor
 ·intro h
  have hx:∀ z:ByteArray,z.toList=z.data.toList:=fun z=>ByteArray.toList_eq z
  rw [hx,hx] at h
  cases x;cases y;simp_all
 ·rintro rfl;rfl
theorem seq_self(x:ByteArray):seq x x=true:=(seq_iff x x).2 rfl
theorem bindM_some{α β:Type}(x:α)(f:α→Option β):((some x:Option α)>>=f)=f x:=rfl
theorem wf_u8{n:Int}(h:(Lit.int .u8 n).wf=true):0≤n∧n<256:=by
 simp [Lit.wf,IntKind.min,IntKind.max,IntKind.bits,IntKind.signed] at h;omega
def ob(l:List UInt8):List Int:=l.map fun b=>(b.toNat:Int)
theorem ob_length(l:List UInt8):(ob l).length=l.length:=by simp [ob]
theorem ob_append(l k:List UInt8):ob (l++k)=ob l++ob k:=by simp [ob]
theorem ob_inj{l k:List UInt8}(h:ob l=ob k):l=k:=by
 induction l generalizing k with
 | nil=>cases k with
  | nil=>rfl
  | cons b k=>simp [ob] at h
 | cons a l ih=>cases k with
  | nil=>simp [ob] at h
  | cons b k =>
   simp only [ob,List.map_cons,List.cons.injEq] at h
   have h1:a=b:=UInt8.toNat_inj.1 (by omega)
   rw [h1,ih h.2]
theorem exists_ob(xs:List Int)(h:∀ n∈xs,(Lit.int .u8 n).wf=true):∃ l,xs=ob l:=by
 induction xs with
 | nil=>exact ⟨[],rfl⟩
 | cons n xs ih =>
  obtain ⟨l,hl⟩:=ih fun m hm=>h m (List.mem_cons_of_mem _ hm)
  obtain ⟨h0,h1⟩:=wf_u8 (h n (List.mem_cons_self ..))
  refine ⟨UInt8.ofNat n.toNat::l,?_⟩
  rw [hl]
  simp only [ob,List.map_cons,UInt8.toNat_ofNat']
  congr 1
  omega
theorem lget_ob(l:List UInt8)(i:Nat)(b:UInt8)(h:l[i]? = some b):lget (ob l) i=b.toNat:=by
 unfold lget ob
 rw [Int.toNat_natCast,List.getD_eq_getElem?_getD,List.getElem?_map,h]
 rfl
theorem drop_get{α:Type}(l:List α)(i:Nat)(h:i<l.length):∃ c,l[i]? = some c∧l.drop i=c::l.drop (i+1) :=
 ⟨l[i],List.getElem?_eq_getElem h,List.drop_eq_getElem_cons h⟩
variable {n : Nat} {L : List (Nat × Value)} {P : Program} {ops : Array Oper} {Q : Exit → Act → World → Prop} {rest : List Oper} {w0 : World} {H : List Ent}
theorem at_litL{α:Type}{d:Nat}{ty:TypeId}{pos:String}{aft:Array Edge}{t e:TypeId}{m sz:Nat}{parts:List (Nat×Operand)}{vs:List (Nat×Value)}{z:Value}{c:Cd α}(zs xs:List α)(ht:P.underlying t=some (.slice e))(hz:∀ w,(sizeOf e).run P w=.ok sz w)(hzv:∀ w,(zeroValue e).run P w=.ok z w)(hx:evp L parts=some vs)(hm:Nat.ble (m*sz) 16777216=true)(h0:Nat.beq (m*sz) 0=false)
  (hi:((Array.range (m*sz)).map (z.cells[·%z.cells.size]!))=(c.all zs).toArray)
  (hf:Instr.fill (fun i=>some (i*sz,sz)) (c.all zs).toArray vs=some (c.all xs).toArray) (hdn:Nat.blt d n=true)
  (k:∀ b,At n ((d,.slice (some ⟨b,0,none⟩) m m)::L) (Wd w0 (cellsE b (c.all xs) e::H)) (wpList P ops Q rest)) :
  At n L (Wd w0 H) (wpList P ops Q (⟨some d,.buildSlice t m parts.toArray,ty,pos,aft,none⟩::rest)) :=
 at_litG ht hz hzv hx hm h0 (by rw [hi];exact hf) hdn k
end Go.Proofs.YtkkmmpofdcccmaaGreatDoor.E
namespace Go.Proofs.YtkkmmpofdcccmaaGreatDoor.E
open Go.RowKit
variable {n : Nat} {L : List (Nat × Value)} {W : World → Prop} {P : Program} {ops : Array Oper} {Q : Exit → Act → World → Prop}
theorem updG_same{g:Gh}{k:Nat}{x:G3}:updG g k x k=x:=by unfold updG;simp
theorem updG_ne{g:Gh}{k j:Nat}{x:G3}(h:j≠k):updG g k x j=g j:=by
 unfold updG
 have:Nat.beq j k=false:=by
  cases hb:Nat.beq j k
  ·rfl
  ·exact absurd (Nat.eq_of_beq_eq_true hb) h
 rw [this];rfl
def optE(fl b:Nat)(cs:List Value)(t:TypeId):Ent:=if fl=1 then cellsE b cs t else ⟨[],fun _=>True,fun _ _ _ _=>trivial⟩
theorem optE_up{fl b:Nat}{cs:List Value}{t:TypeId}(h:fl=1):optE fl b cs t=cellsE b cs t:=if_pos h
theorem at_optIn{X:Act→World→Prop}{w0:World}{H G:List Ent}{f:Ent→List Ent}{fl b:Nat}{cs:List Value}{t:TypeId}(hu:Upd H (optE fl b cs t) f G)(h:fl=1)(k:At n L (Wd w0 (f (cellsE b cs t))) X):At n L (Wd w0 H) X:=by
 rw [←optE_up h,hu.same] at k;exact k
theorem opt_down{fl b:Nat}{cs:List Value}{t:TypeId}(h:fl≠1):optE fl b cs t=⟨[],fun _=>True,fun _ _ _ _=>trivial⟩:=if_neg h
theorem at_optPush{X:Act→World→Prop}{w0:World}{H:List Ent}{b:Nat}{cs:List Value}{t:TypeId}(k:At n L (Wd w0 (optE 0 b cs t::H)) X):At n L (Wd w0 H) X :=
 at_world (fun w hw=>hw.push (E:=optE 0 b cs t) (Below.refl _ _) (by rw [opt_down (by decide)];trivial) (by intro k hk;rw [opt_down (by decide)] at hk;simp at hk)) k
theorem at_optNew{X:Act→World→Prop}{w0:World}{H G:List Ent}{f:Ent→List Ent}{fl b0 b fl':Nat}{cs:List Value}{t:TypeId}(hu:Upd H (optE fl b0 cs t) f G)(h:fl≠1)(h':fl'=1)(k:At n L (Wd w0 (f (optE fl' b cs t))) X):At n L (Wd w0 (cellsE b cs t::H)) X:=fun a w he hw=>by
 rw [opt_down h] at hu
 rw [optE_up h'] at k
 have hb:=hw.sep.2.1 b (by simp [cellsE])
 refine k a w he ⟨hw.below,hw.pop.sep.swap hu (hw.ok (List.mem_cons_self ..)) fun j hj=>?_⟩
 simp [cellsE] at hj
 subst hj
 exact .inr ⟨hb.1,hb.2.1,hb.2.2⟩
def fixesF(flL:List Bool)(dpL:List (List Nat))(tot:Nat):Nat→List Kd→Prop
 | _,[]=>True
 | i,kd::r=>(∀ g g':Gh,(∀ k,k<kd.bound→g k=g' k)→(∀ j∈dpL.getD i [],g (tot+j)=g' (tot+j))→(flL.getD i false=true→g (tot+i)=g' (tot+i))→kd.val g=kd.val g')∧fixesF flL dpL tot (i+1) r
theorem fixesF_get{flL:List Bool}{dpL:List (List Nat)}{tot:Nat}:∀ {kds:List Kd} {m:Nat},fixesF flL dpL tot m kds→∀ {i:Nat} {kd:Kd},kds[i]? = some kd→∀ g g':Gh,(∀ k,k<kd.bound→g k=g' k)→(∀ j∈dpL.getD (m+i) [],g (tot+j)=g' (tot+j))→(flL.getD (m+i) false=true→g (tot+(m+i))=g' (tot+(m+i)))→kd.val g=kd.val g'
 | _::_,m,h,0,kd,hi=>by simp at hi;subst hi;exact h.1
 | _::_,m,h,i+1,kd,hi=>by
  have:=fixesF_get h.2 (i:=i) (by simpa using hi)
  rw [show m+(i+1)=m+1+i by omega];exact this
 | [],_,_,_,_,hi=>by simp at hi
def depsB(l:List Oper)(flL:List Bool)(dpL:List (List Nat)):Bool:=(List.range dpL.length).all fun i=>(dpL.getD i []).all fun j=>flL.getD j false&&reach l 8 i j
theorem depsB_spec{l:List Oper}{flL:List Bool}{dpL:List (List Nat)}(h:depsB l flL dpL=true){i j:Nat}(hj:j∈dpL.getD i []):flL.getD j false=true∧reach l 8 i j=true:=by
 unfold depsB at h
 have hi:i<dpL.length:=by
  rcases Nat.lt_or_ge i dpL.length with hh | hh
  ·exact hh
  ·rw [List.getD_eq_getElem?_getD,List.getElem?_eq_none hh] at hj;simp at hj
 have h1:=List.all_eq_true.1 (List.all_eq_true.1 h i (List.mem_range.2 hi)) j hj
 rw [Bool.and_eq_true] at h1
 exact h1
def ObF(n:Nat)(L:List (Nat×Value))(P:Program)(ops:Array Oper)(kds:List Kd)(Wm:Gh→Nat→World→Prop)(tot:Nat)(isf:Bool)(dp:List Nat)(i:Nat)(kd:Kd)(o:Oper):Prop :=
 match isf,kd with
 | true,.q d v need lo hi=>∀ (Lx:List (Nat×Value)) (b:Gh) (s:Nat) (K:Act→World→Prop),s≤hi→(b (tot+i)).2.2.1≠1→(∀ x:G3,x.2.2.1=1→At n ((d,v (updG b (tot+i) x))::(facOf kds b need++(L++Lx))) (Wm (updG b (tot+i) x) s) K)→At n (facOf kds b need++(L++Lx)) (Wm b s) (wpList P ops (QK K) [o])
 | true,_=>False
 | false,.q d v need lo hi=>∀ (Lx:List (Nat×Value)) (b:Gh) (s:Nat) (K:Act→World→Prop),(∀ j∈dp,(b (tot+j)).2.2.1=1)→lo≤s→s≤hi→At n ((d,v b)::(facOf kds b need++(L++Lx))) (Wm b s) K→At n (facOf kds b need++(L++Lx)) (Wm b s) (wpList P ops (QK K) [o])
 | false,.st k dv need=>∀ (Lx:List (Nat×Value)) (b:Gh) (K:Act→World→Prop),(∀ j∈dp,(b (tot+j)).2.2.1=1)→At n (Kd.add b (.st k dv need) (facOf kds b need++(L++Lx))) (Wm b (k+1)) K→At n (facOf kds b need++(L++Lx)) (Wm b k) (wpList P ops (QK K) [o])
 | false,.al k d v need=>∀ (Lx:List (Nat×Value)) (b:Gh) (K:Act→World→Prop),(∀ j∈dp,(b (tot+j)).2.2.1=1)→(∀ x,At n ((d,v (updG b k x))::(facOf kds b need++(L++Lx))) (Wm (updG b k x) (k+1)) K)→At n (facOf kds b need++(L++Lx)) (Wm b k) (wpList P ops (QK K) [o])
def ObsF(n:Nat)(L:List (Nat×Value))(P:Program)(ops:Array Oper)(kds:List Kd)(Wm:Gh→Nat→World→Prop)(tot:Nat)(flL:List Bool)(dpL:List (List Nat)):Nat→List Kd→List Oper→Prop
 | i,kd::r,o::l=>ObF n L P ops kds Wm tot (flL.getD i false) (dpL.getD i []) i kd o∧ObsF n L P ops kds Wm tot flL dpL (i+1) r l
 | _,[],[]=>True
 | _,_,_=>False
theorem obsF_get{kds0:List Kd}{Wm:Gh→Nat→World→Prop}{tot:Nat}{flL:List Bool}{dpL:List (List Nat)}:∀ {kds:List Kd} {l:List Oper} {m:Nat},ObsF n L P ops kds0 Wm tot flL dpL m kds l→∀ {i:Nat} {o:Oper},l[i]? = some o→∃ kd,kds[i]? = some kd∧ObF n L P ops kds0 Wm tot (flL.getD (m+i) false) (dpL.getD (m+i) []) (m+i) kd o
 | kd::r,o'::l,m,h,0,o,hi=>by
  simp at hi;subst hi
  exact ⟨kd,rfl,h.1⟩
 | kd::r,o'::l,m,h,i+1,o,hi=>by
  obtain ⟨kd',h1,h2⟩:=obsF_get h.2 (i:=i) (o:=o) (by simpa using hi)
  rw [show m+(i+1)=m+1+i by omega]
  exact ⟨kd',by simpa using h1,h2⟩
 | [],[],_,_,i,o,hi=>by simp at hi
 | [],_::_,_,h,_,_,_=>h.elim
 | _::_,[],_,h,_,_,_=>h.elim
def inStF(n:Nat)(L:List (Nat×Value))(l:List Oper)(kds:List Kd)(Wm:Gh→Nat→World→Prop)(tot:Nat)(flL:List Bool)(S:Array Bool)(a:Act)(w:World):Prop :=
 ∃ b s,a.tmps.size=n∧a.defers=[]∧(∀ t v,lk L t=some v→a.tmps.getD t undef=v) ∧
  (∀ j kd d,S.getD j false=true→kds[j]? = some kd→kd.dst=some d→a.tmps.getD d undef=kd.val b) ∧
  (∀ j kd k,kds[j]? = some kd→kd.rank=some k→(S.getD j false=true↔k<s))∧s≤tot∧Wm b s w∧(∀ j o i,S.getD j false=true→l[j]? = some o→edge o i=true→S.getD i false=true) ∧
  ∀ j,flL.getD j false=true→(S.getD j false=true↔(b (tot+j)).2.2.1=1)
theorem inv_goF{l:List Oper}{kds:List Kd}{Wm:Gh→Nat→World→Prop}{tot:Nat}{flL:List Bool}{dpL:List (List Nat)}(hb:backB l=true)(ha:allB n kds kds l=true)(hap:apartB (L.map (·.1)) kds=true)(hr:ranksB kds tot=true)(hfx:fixesF flL dpL tot 0 kds)(hdp:depsB l flL dpL=true)(hbo:boundB kds l tot=true)
  (hO:ObsF n L P l.toArray kds Wm tot flL dpL 0 kds l) (fin:∀ b,(∀ j,j<l.length→flL.getD j false=true→(b (tot+j)).2.2.1=1)→At n (facOf kds b (List.range l.length)++L) (Wm b tot) (Q .normal)) :
  ∀ (fuel:Nat) (S:Array Bool) (a:Act) (w:World),S.size=l.length→open_ S l.length≤fuel→inStF n L l kds Wm tot flL S a w→wpAny P .any l.toArray Q fuel S a w:=by
 have done:∀ (S:Array Bool) (a:Act) (w:World),(∀ j,j<l.length→S.getD j false=true)→inStF n L l kds Wm tot flL S a w→Q .normal a w:=by
  intro S a w hall ⟨b,s,h1,h2,h3,h4,h5,h6,h7,_,h9⟩
  have hs:s=tot:=by
   rcases Nat.lt_or_ge s tot with hlt | hge
   ·obtain ⟨j,kd,hj,hk⟩:=ranksB_cover hr hlt
    have hjl:j<l.length:=by rw [←allB_len ha];exact (List.getElem?_eq_some_iff.1 hj).1
    exact absurd ((h5 j kd s hj hk).1 (hall j hjl)) (Nat.lt_irrefl _)
   ·omega
  subst hs
  refine fin b (fun j hj hf=>(h9 j hf).1 (hall j hj)) a w ⟨h1,h2,fun t v hv=>?_⟩ h7
  rcases lk_append hv with hv | hv
  ·exact facOf_vals h4 (fun j hj=>hall j (List.mem_range.1 hj)) t v hv
  ·exact h3 t v hv
 intro fuel
 induction fuel with
 | zero =>
  intro S a w hS ho hi
  have hall:=fun j (hj:j<l.length)=>open_zero (Nat.le_zero.1 ho) hj
  refine ⟨?_,done S a w hall hi⟩
  cases hrd:Region.ready .any l.toArray S with
  | nil=>rfl
  | cons x r =>
   exfalso
   obtain ⟨hx1,o,hx2,_⟩:=mem_ready.1 (show x∈Region.ready .any l.toArray S by rw [hrd];exact List.mem_cons_self ..)
   have hxl:x<l.length:=by simpa using (Array.getElem?_eq_some_iff.1 hx2).1
   have hx3:=hall x hxl
   have hxs:x<S.size:=by omega
   rw [Array.getD_eq_getD_getElem?] at hx1 hx3
   simp [hxs] at hx1 hx3
   rw [hx1] at hx3;cases hx3
 | succ fuel ih =>
  intro S a w hS ho hi
  refine ⟨fun hrd=>done S a w (ready_nil hS hb hrd) hi,fun i hir=>?_⟩
  obtain ⟨hx1,o,hx2,hx3⟩:=mem_ready.1 hir
  have hil:i<l.length:=by simpa using (Array.getElem?_eq_some_iff.1 hx2).1
  have his:i<S.size:=by omega
  have hx0:S.getD i false=false:=by
   rw [Array.getD_eq_getD_getElem?] at hx1 ⊢
   simpa [his] using hx1
  have hlo:l[i]? = some o:=by simpa using hx2
  obtain ⟨kd,hk,hob⟩:=obsF_get hO hlo
  rw [Nat.zero_add] at hob
  have hneed:=oneB_spec (allB_get ha hlo hk)
  obtain ⟨b,s,h1,h2,h3,h4,h5,h6,h7,h8,h9⟩:=hi
  have hdf:∀ j∈dpL.getD i [],(b (tot+j)).2.2.1=1:=fun j hj=>by
   obtain ⟨hfj,hre⟩:=depsB_spec hdp hj
   exact (h9 j hfj).1 (reach_listed h8 hlo hx3 hre)
  have flags:∀ b':Gh,flL.getD i false=false→(∀ j,b (tot+j)=b' (tot+j))→∀ j,flL.getD j false=true→((S.setIfInBounds i true).getD j false=true↔(b' (tot+j)).2.2.1=1):=fun b' hfi hbb j hfj=>by
   have hji:i≠j:=fun e=>by subst e;rw [hfi] at hfj;cases hfj
   rw [getD_set_other hji,h9 j hfj,hbb j]
  have hcnt:open_ (S.setIfInBounds i true) l.length≤fuel:=by have:=open_set hil his hx0;omega
  have hsz:(S.setIfInBounds i true).size=l.length:=by simpa using hS
  have env:Env n (facOf kds b kd.need++(L++fullL a)) a:=by
   refine ⟨h1,h2,fun t v hv=>?_⟩
   rcases lk_append hv with hv | hv
   ·exact facOf_vals h4 (fun j hj=>edge_listed hx3 (hneed j hj)) t v hv
   ·rcases lk_append hv with hv | hv
    ·exact h3 t v hv
    ·exact lk_full_val hv
  have out:∀ (a':Act),a'.tmps.size=n→∀ t,¬ t<a.tmps.size→a'.tmps.getD t undef=a.tmps.getD t undef:=by
   intro a' hz t hts
   have:¬ t<a'.tmps.size:=by rw [hz,←h1];exact hts
   rw [Array.getD_eq_getD_getElem?,Array.getD_eq_getD_getElem?]
   simp [hts,this]
  have kp:∀ (a':Act) (d:Nat) (v:Value),Env n ((d,v)::(facOf kds b kd.need++(L++fullL a))) a'→∀ t,t≠d→a'.tmps.getD t undef=a.tmps.getD t undef:=by
   intro a' d v he t htd
   by_cases hts:t<a.tmps.size
   ·obtain ⟨u,hu⟩:=lk_cover (A:=facOf kds b kd.need) (lk_cover (A:=L) ⟨_,lk_full a t hts⟩)
    rw [env.vals t u hu]
    refine he.vals t _ ?_
    rw [lk_cons,if_neg (fun e=>htd e.symm)]
    exact hu
   ·exact out a' he.size t hts
  have kp0:∀ (a':Act),Env n (facOf kds b kd.need++(L++fullL a)) a'→∀ t,a'.tmps.getD t undef=a.tmps.getD t undef:=by
   intro a' he t
   by_cases hts:t<a.tmps.size
   ·obtain ⟨u,hu⟩:=lk_cover (A:=facOf kds b kd.need) (lk_cover (A:=L) ⟨_,lk_full a t hts⟩)
    rw [env.vals t u hu]
    exact he.vals t _ hu
   ·exact out a' he.size t hts
  have other:∀ j,j≠i→(S.setIfInBounds i true).getD j false=S.getD j false:=fun j hj=>getD_set_other (fun e=>hj e.symm)
  have closed:∀ j o' i',(S.setIfInBounds i true).getD j false=true→l[j]? = some o'→edge o' i'=true→(S.setIfInBounds i true).getD i' false=true:=by
   intro j o' i' hj hjo he
   refine getD_set_true ?_
   by_cases hji:j=i
   ·subst hji
    rw [hlo] at hjo;cases hjo
    exact edge_listed hx3 he
   ·rw [other j hji] at hj
    exact h8 j o' i' hj hjo he
  have hsk:∀ k,kd.rank=some k→s=k:=by
   intro k hkk
   have hle:¬ k<s:=fun hlt=>by have:=(h5 i kd k hk hkk).2 hlt;rw [hx0] at this;cases this
   cases k with
   | zero=>omega
   | succ k =>
    obtain ⟨j,hje,hjr⟩:=boundB_rank hbo hk hlo hkk
    obtain ⟨kd',hj1,hj2⟩:=rankAt_of hjr
    have:=(h5 j kd' k hj1 hj2).1 (reach_listed h8 hlo hx3 hje)
    omega
  have ranks:∀ k,kd.rank=some k→∀ j kd' k',kds[j]? = some kd'→kd'.rank=some k'→((S.setIfInBounds i true).getD j false=true↔k'<k+1):=by
   intro k hkk j kd' k' hj hk'
   by_cases hji:j=i
   ·subst hji
    rw [hk] at hj;cases hj
    rw [hkk] at hk';cases hk'
    rw [getD_set_same his];simp
   ·rw [other j hji,h5 j kd' k' hj hk']
    have hs:=hsk k hkk
    have hne:k'≠k:=fun e=>by subst e;exact hji (ranksB_one hr hj hk' hk hkk)
    omega
  have ranks0:kd.rank=none→∀ j kd' k',kds[j]? = some kd'→kd'.rank=some k'→((S.setIfInBounds i true).getD j false=true↔k'<s):=by
   intro hkn j kd' k' hj hk'
   have hji:j≠i:=fun e=>by subst e;rw [hk] at hj;cases hj;rw [hkn] at hk';cases hk'
   rw [other j hji];exact h5 j kd' k' hj hk'
  have below:∀ j kd',S.getD j false=true→kds[j]? = some kd'→kd'.bound≤s:=by
   intro j kd' hj hj'
   have rk:∀ k,kd'.rank=some k→k+1≤s:=fun k hkk=>(h5 j kd' k hj' hkk).1 hj
   cases kd' with
   | st k dv need=>exact rk k rfl
   | al k d v need=>exact rk k rfl
   | q d v need lo hi =>
    have hjl:j<l.length:=by rw [←allB_len ha];exact (List.getElem?_eq_some_iff.1 hj').1
    have hjo:l[j]? = some l[j]:=List.getElem?_eq_getElem hjl
    cases lo with
    | zero=>exact Nat.zero_le _
    | succ k =>
     obtain ⟨i',hie,hir'⟩:=(boundB_spec hbo hj' hjo).1 k rfl
     obtain ⟨kd2,hi1,hi2⟩:=rankAt_of hir'
     exact (h5 i' kd2 k hi1 hi2).1 (reach_closed h8 _ _ _ hie hj)
  have putL:∀ (b':Gh) (d:Nat) (v:Value) (a':Act),kd.dst=some d→kd.val b'=v→(∀ k,k<s→b k=b' k)→(∀ j,S.getD j false=true→b (tot+j)=b' (tot+j))→Env n ((d,v)::(facOf kds b kd.need++(L++fullL a))) a' →
    (∀ t u,lk L t=some u→a'.tmps.getD t undef=u)∧(∀ j kd' d',(S.setIfInBounds i true).getD j false=true→kds[j]? = some kd'→kd'.dst=some d'→a'.tmps.getD d' undef=kd'.val b'):=by
   intro b' d v a' hd hv hbb hbf he
   refine ⟨fun t u hu=>?_,fun j kd' d' hj hj' hd'=>?_⟩
   ·rw [kp a' d v he t (apartB_keys hap hk hd t (lk_mem_keys hu))];exact h3 t u hu
   ·by_cases hji:j=i
    ·subst hji
     rw [hk] at hj';cases hj'
     rw [hd] at hd';cases hd'
     rw [hv]
     exact he.vals _ _ (by rw [lk_cons,if_pos rfl])
    ·rw [other j hji] at hj
     rw [kp a' d v he d' (apartB_dst hap hj' hd' hk hd hji),h4 j kd' d' hj hj' hd']
     have hbd:=below j kd' hj hj'
     have hfg:=fixesF_get hfx hj'
     rw [Nat.zero_add] at hfg
     exact hfg b b' (fun k hkl=>hbb k (by omega)) (fun j2 hj2=>hbf j2 (reach_closed h8 _ _ _ (depsB_spec hdp hj2).2 hj)) fun _=>hbf j hj
  refine wpOp_of hx2 ?_
  cases hff:flL.getD i false with
  | true =>
   rw [hff] at hob
   cases kd with
   | st k dv need=>exact hob.elim
   | al k d v need=>exact hob.elim
   | q d v need lo hi =>
   have hfl0:(b (tot+i)).2.2.1≠1:=fun e=>by have:=(h9 i hff).2 e;rw [hx0] at this;cases this
   obtain ⟨_,hhi1⟩:=boundB_spec hbo hk hlo
   have hsh:s≤hi:=by
    rcases hhi1 with h | ⟨j,hjr,hje⟩
    ·omega
    ·obtain ⟨kd',hj1,hj2⟩:=rankAt_of hjr
     have:¬ hi<s:=fun hlt=>by
      have hc:=reach_closed h8 _ _ _ hje ((h5 j kd' hi hj1 hj2).2 hlt)
      rw [hx0] at hc;cases hc
     omega
   refine hob (fullL a) b s _ hsh hfl0 (fun x hxf a' w' he hw'=>ih _ a' w' hsz hcnt ?_) a w env h7
   have hne:∀ j,S.getD j false=true→b (tot+j)=updG b (tot+i) x (tot+j):=fun j hj=>(updG_ne (fun e=>by
    have:j=i:=by omega
    subst this;rw [hx0] at hj;cases hj)).symm
   obtain ⟨p1,p2⟩:=putL (updG b (tot+i) x) d _ a' rfl rfl (fun j hj=>(updG_ne (by omega)).symm) hne he
   refine ⟨updG b (tot+i) x,s,he.size,he.defs,p1,p2,ranks0 rfl,h6,hw',closed,fun j hfj=>?_⟩
   by_cases hji:j=i
   ·subst hji
    rw [getD_set_same his,updG_same];simp [hxf]
   ·rw [getD_set_other (fun e=>hji e.symm),h9 j hfj,updG_ne (by omega)]
  | false =>
  rw [hff] at hob
  cases kd with
  | q d v need lo hi =>
   obtain ⟨hlo1,hhi1⟩:=boundB_spec hbo hk hlo
   have hls:lo≤s:=by
    cases lo with
    | zero=>exact Nat.zero_le _
    | succ k =>
     obtain ⟨j,hje,hjr⟩:=hlo1 k rfl
     obtain ⟨kd',hj1,hj2⟩:=rankAt_of hjr
     exact (h5 j kd' k hj1 hj2).1 (reach_listed h8 hlo hx3 hje)
   have hsh:s≤hi:=by
    rcases hhi1 with h | ⟨j,hjr,hje⟩
    ·omega
    ·obtain ⟨kd',hj1,hj2⟩:=rankAt_of hjr
     have:¬ hi<s:=fun hlt=>by
      have hc:=reach_closed h8 _ _ _ hje ((h5 j kd' hi hj1 hj2).2 hlt)
      rw [hx0] at hc;cases hc
     omega
   refine hob (fullL a) b s _ hdf hls hsh (fun a' w' he hw'=>ih _ a' w' hsz hcnt ?_) a w env h7
   obtain ⟨p1,p2⟩:=putL b d _ a' rfl rfl (fun _ _=>rfl) (fun _ _=>rfl) he
   exact ⟨b,s,he.size,he.defs,p1,p2,ranks0 rfl,h6,hw',closed,flags b hff fun _=>rfl⟩
  | st k dv need =>
   have hs:=hsk k rfl
   subst hs
   refine hob (fullL a) b _ hdf (fun a' w' he hw'=>ih _ a' w' hsz hcnt ?_) a w env h7
   cases dv with
   | none=>exact ⟨b,_,he.size,he.defs,fun t u hu=>by rw [kp0 a' he];exact h3 t u hu,fun j kd' d' hj hj' hd'=>by
     have hji:j≠i:=fun e=>by subst e;rw [hk] at hj';cases hj';cases hd'
     rw [other j hji] at hj
     rw [kp0 a' he];exact h4 j kd' d' hj hj' hd',ranks _ rfl,ranksB_lt hr hk rfl,hw',closed,flags b hff fun _=>rfl⟩
   | some x =>
    obtain ⟨d,v⟩:=x
    obtain ⟨p1,p2⟩:=putL b d _ a' rfl rfl (fun _ _=>rfl) (fun _ _=>rfl) he
    exact ⟨b,_,he.size,he.defs,p1,p2,ranks _ rfl,ranksB_lt hr hk rfl,hw',closed,flags b hff fun _=>rfl⟩
  | al k d v need =>
   have hs:=hsk k rfl
   subst hs
   refine hob (fullL a) b _ hdf (fun x a' w' he hw'=>ih _ a' w' hsz hcnt ?_) a w env h7
   have hst:=ranksB_lt hr hk rfl
   have hne:∀ j,b (tot+j)=updG b s x (tot+j):=fun j=>(updG_ne (by omega)).symm
   obtain ⟨p1,p2⟩:=putL (updG b s x) d _ a' rfl rfl (fun j hj=>(updG_lt hj).symm) (fun j _=>hne j) he
   exact ⟨updG b s x,_,he.size,he.defs,p1,p2,ranks _ rfl,ranksB_lt hr hk rfl,hw',closed,flags _ hff hne⟩
theorem at_invF{id:Nat}{l:List Oper}(kds:List Kd)(Wm:Gh→Nat→World→Prop)(tot:Nat)(flL:List Bool)(dpL:List (List Nat))(hm:P.follows .mixedOrders=true)
  (hb:backB l=true) (ha:allB n kds kds l=true) (hap:apartB (L.map (·.1)) kds=true) (hr:ranksB kds tot=true) (hfx:fixesF flL dpL tot 0 kds) (hdp:depsB l flL dpL=true) (hbo:boundB kds l tot=true)
  (hW:∀ w,W w→∃ b:Gh,(∀ j,(b (tot+j)).2.2.1≠1)∧Wm b 0 { w with drawn:=w.drawn+1 }) (hO:ObsF n L P l.toArray kds Wm tot flL dpL 0 kds l)
  (fin:∀ b,(∀ j,j<l.length→flL.getD j false=true→(b (tot+j)).2.2.1=1)→At n (facOf kds b (List.range l.length)++L) (Wm b tot) (Q .normal)):At n L W ((Code.region id l.toArray true).wp P Q):=fun a w h hw=>by
 obtain ⟨b,hfl,hw0⟩:=hW w hw
 have hrep:∀ j,(Array.replicate l.toArray.size false).getD j false=false:=fun j=>by
  rw [Array.getD_eq_getD_getElem?,Array.getElem?_replicate];split<;>rfl
 refine wp_region_any hm (inv_goF hb ha hap hr hfx hdp hbo hO fin _ _ a _ (by simp) ?_ ⟨b,0,h.size,h.defs,h.vals,fun j kd d hj=>?_,fun j kd k _ _=>?_,Nat.zero_le _,hw0,fun j o i hj=>?_,fun j _=>?_⟩)
 ·unfold open_
  exact Nat.le_trans (List.length_filter_le ..) (by simp)
 ·rw [hrep] at hj;cases hj
 ·rw [hrep];simp
 ·rw [hrep] at hj;cases hj
 ·rw [hrep];simp [hfl j]
end Go.Proofs.YtkkmmpofdcccmaaGreatDoor.E
namespace Go.Proofs.YtkkmmpofdcccmaaGreatDoor.E
open Go.RowKit
section
variable {n d : Nat} {L : List (Nat × Value)} {P : Program} {ops : Array Oper} {Q : Exit → Act → World → Prop} {rest : List Oper} {w0 : World} {H : List Ent} {ty : TypeId} {pos : String} {aft : Array Edge} {α : Type} {t e : TypeId} {f : Ent → List Ent} {G : List Ent}
theorem rowE_take{c:Cd α}{p:Option Addr}{cap:Nat}{xs:List α}{k:Nat}{w:World}(hk:k≤xs.length)(hp:p.isSome=true∨k=xs.length)(h:w.ownsRow 0 e c.sz (.slice p xs.length cap) xs.length (c.all xs)) :
  w.ownsRow 0 e c.sz (.slice p (xs.take k).length cap) (xs.take k).length (c.all (xs.take k)):=by
 have hl:(xs.take k).length=k:=by rw [List.length_take];omega
 rw [hl]
 refine ⟨by rw [c.all_len,hl],?_⟩
 rcases h.2 with ⟨h1,h0⟩ | ⟨g,cap',cur,hv,hg,hh,h1,h2,h3,h4⟩
 ·refine .inl ⟨?_,by omega⟩
  injection h1 with e1 e2 e3
  subst e1;subst e3
  rw [show k=0 by omega]
 ·injection hv with e1 e2 e3
  subst e1;subst e3
  refine .inr ⟨g,cap,cur,rfl,hg,hh,by omega,h2,h3,?_⟩
  have:=congrArg (List.take (k*c.sz)) h4
  rw [List.take_take,Nat.min_eq_left (Nat.mul_le_mul_right _ hk)] at this
  rw [this]
  have hs:c.all xs=c.all (xs.take k)++c.all (xs.drop k):=by rw [←c.all_append,List.take_append_drop]
  rw [hs,List.take_append_of_le_length (by rw [c.all_len,hl];exact Nat.le_refl _),List.take_of_length_le (by rw [c.all_len,hl];exact Nat.le_refl _)]
theorem at_cutOwn{c:Cd α}{x hi:Operand}{k:IntKind}{h:Int}{p:Option Addr}{cap:Nat}{xs:List α}(hu:Upd H (rowE c e p cap xs) f G)(ht:P.underlying t=some (.slice e))(hz:∀ w,(sizeOf e).run P w=.ok c.sz w)(hx:ev L x=some (.slice p xs.length cap))(hy:ev L hi=some (.int k h))(hb:(0:Int)≤h∧h≤(xs.length:Int))(hdn:Nat.blt d n=true)
  (kk:At n ((d,.slice p (List.take h.toNat xs).length cap)::L) (Wd w0 (f (rowE c e p cap (List.take h.toNat xs)))) (wpList P ops Q rest)) :
  At n L (Wd w0 H) (wpList P ops Q (⟨some d,.slice t x none (some hi) none,ty,pos,aft,none⟩::rest)):=by
 refine at_pure (φ:=xs.length≤cap∧(p=none∧cap=0∨∃ g,p=some ⟨g,0,none⟩)) (fun w hw=>?_) fun hf=>?_
 ·rcases (hw.ok hu.mem).2 with ⟨h1,h0⟩ | ⟨g,cap',cur,hv,_,_,h1,_⟩
  ·injection h1 with e1 e2 e3
   exact ⟨by omega,.inl ⟨e1,e3⟩⟩
  ·injection hv with e1 e2 e3
   exact ⟨by omega,.inr ⟨g,e1⟩⟩
 ·have hr:=r_reslice (n:=n) (d:=d) (W:=Wd w0 H) (ty:=ty) (pos:=pos) (aft:=aft) (lo:=none) (hi:=some hi) (l:=0) (h:=h) ht hz hx hf.1 rfl ⟨k,hy⟩ ⟨Int.le_refl _,hb.1,hb.2⟩
  have e1:rsp p cap 0 c.sz=p:=by
   rcases hf.2 with ⟨rfl,_⟩ | ⟨g,rfl⟩
   ·simp [rsp]
   ·simp [rsp,Addr.add_lit]
  have e2:lsub xs 0 h=List.take h.toNat xs:=by simp [lsub]
  rw [e1,e2,Int.toNat_zero,Nat.sub_zero] at hr
  refine at_val rfl rfl hdn hr (at_world (fun w hw=>?_) kk)
  refine hw.swap hu (rowE_take (by omega) ?_ (hw.ok hu.mem)) fun j hj=>.inl ?_
  ·rcases hf.2 with ⟨rfl,h0⟩ | ⟨g,rfl⟩
   ·right;omega
   ·left;rfl
  ·rcases hf.2 with ⟨rfl,_⟩ | ⟨g,rfl⟩
   ·simp [rowE,Value.ownBlock] at hj
   ·simpa [rowE,Value.ownBlock] using hj
end
end Go.Proofs.YtkkmmpofdcccmaaGreatDoor.E
namespace Go.Proofs.YtkkmmpofdcccmaaGreatDoor
open E Go.RowKit _root_.Go.Proofs.Tryz
abbrev zv0 := ({ f_g := (Vector.replicate 8 (0 : Int) : (Vector Int 8)), f_n := (0 : Int), f_gap := (0 : Int) } : S_colon_reader)
abbrev zv1 := ({ f_V := (0 : Int), f_B := (Vector.replicate 16 (0 : Int) : (Vector Int 16)) } : S_api_Addr)
abbrev zv2 := (Vector.replicate 16 (0 : Int) : (Vector Int 16))
abbrev zv3 := (Vector.replicate 32 (0 : Int) : (Vector Int 32))
abbrev zv4 := (Vector.replicate 4 (0 : Int) : (Vector Int 4))
abbrev zv5 := (Vector.replicate 8 (0 : Int) : (Vector Int 8))
abbrev zv6 := ((none : Option Addr), (0 : Nat))
abbrev zv7 := ({ f_A := zv1, f_Port := (0 : Int) } : S_api_Endpoint)
abbrev zv8 := ({ f_Kind := (0 : Int), f_Bytes := ([] : List Int), f_From := zv7, f_Result := ([] : List Int), f_Ok := false, f_Key := zv3, f_Local := (0 : Int), f_Remote := (0 : Int), f_Next := (0 : Int) } : S_api_Item)
abbrev zv9 := (zv6, zv6)
abbrev zv10 := (zv9, zv8)
abbrev zl0 (x0 : Nat) (x1 : Nat) : List Value := [.func (.func 136) #[] #[], .func (.func 137) #[] #[], .func (.func 138) #[] #[], .func (.func 122) #[] #[.pointer (some ⟨x0, 0, none⟩)], .func (.func 123) #[] #[.pointer (some ⟨x0, 0, none⟩)], .func (.func 124) #[] #[.pointer (some ⟨x0, 0, none⟩)], .func (.func 122) #[] #[.pointer (some ⟨x1, 0, none⟩)], .func (.func 123) #[] #[.pointer (some ⟨x1, 0, none⟩)], .func (.func 124) #[] #[.pointer (some ⟨x1, 0, none⟩)], .func (.func 139) #[] #[], .func (.func 140) #[] #[], .func (.func 141) #[] #[]]
abbrev zl1 (x0 : Nat) (x1 : Nat) : List Value := [.func (.func 122) #[] #[.pointer (some ⟨x0, 0, none⟩)], .func (.func 123) #[] #[.pointer (some ⟨x0, 0, none⟩)], .func (.func 124) #[] #[.pointer (some ⟨x0, 0, none⟩)], .func (.func 122) #[] #[.pointer (some ⟨x1, 0, none⟩)], .func (.func 123) #[] #[.pointer (some ⟨x1, 0, none⟩)], .func (.func 124) #[] #[.pointer (some ⟨x1, 0, none⟩)], .func (.func 139) #[] #[], .func (.func 140) #[] #[], .func (.func 141) #[] #[]]
abbrev zl2 (x0 : Nat) (x1 : Nat) : List Value := [.func (.func 136) #[] #[], .func (.func 137) #[] #[], .func (.func 138) #[] #[], .func (.func 122) #[] #[.pointer (some ⟨x0, 0, none⟩)], .func (.func 123) #[] #[.pointer (some ⟨x0, 0, none⟩)], .func (.func 124) #[] #[.pointer (some ⟨x0, 0, none⟩)], .func (.func 122) #[] #[.pointer (some ⟨x1, 0, none⟩)], .func (.func 123) #[] #[.pointer (some ⟨x1, 0, none⟩)], .func (.func 124) #[] #[.pointer (some ⟨x1, 0, none⟩)]]
abbrev zl3 (x0 : Nat) : List Value := [.func (.func 122) #[] #[.pointer (some ⟨x0, 0, none⟩)], .func (.func 123) #[] #[.pointer (some ⟨x0, 0, none⟩)], .func (.func 124) #[] #[.pointer (some ⟨x0, 0, none⟩)], .func (.func 139) #[] #[], .func (.func 140) #[] #[], .func (.func 141) #[] #[]]
abbrev zl4 (x0 : Nat) : List Value := [.func (.func 136) #[] #[], .func (.func 137) #[] #[], .func (.func 138) #[] #[], .func (.func 122) #[] #[.pointer (some ⟨x0, 0, none⟩)], .func (.func 123) #[] #[.pointer (some ⟨x0, 0, none⟩)], .func (.func 124) #[] #[.pointer (some ⟨x0, 0, none⟩)]]
abbrev zl5 : List Value := [.func (.func 133) #[] #[], .func (.func 134) #[] #[], .func (.func 135) #[] #[], .func (.func 125) #[] #[], .func (.func 127) #[] #[], .func (.func 129) #[] #[], .func (.func 130) #[] #[], .func (.func 131) #[] #[], .func (.func 132) #[] #[]]
abbrev zl6 (x0 : Nat) : List Value := [.func (.func 122) #[] #[.pointer (some ⟨x0, 0, none⟩)], .func (.func 123) #[] #[.pointer (some ⟨x0, 0, none⟩)], .func (.func 124) #[] #[.pointer (some ⟨x0, 0, none⟩)]]
abbrev zl7 : List Value := [.func (.func 125) #[] #[], .func (.func 127) #[] #[], .func (.func 129) #[] #[], .func (.func 130) #[] #[], .func (.func 131) #[] #[], .func (.func 132) #[] #[]]
abbrev zl8 : List Value := [.func (.func 133) #[] #[], .func (.func 134) #[] #[], .func (.func 135) #[] #[], .func (.func 125) #[] #[], .func (.func 127) #[] #[], .func (.func 129) #[] #[]]
abbrev zl9 (x0 : Nat) : List Value := [.string (⟨#[105, 110, 115, 116, 97, 108, 108]⟩), .slice (some ⟨x0, 0, none⟩) 4 4]
abbrev zl10 : List Value := [.func (.func 136) #[] #[], .func (.func 137) #[] #[], .func (.func 138) #[] #[]]
abbrev zl11 : List Value := [.func (.func 139) #[] #[], .func (.func 140) #[] #[], .func (.func 141) #[] #[]]
abbrev zl12 : List Value := [.func (.func 125) #[] #[], .func (.func 127) #[] #[], .func (.func 129) #[] #[]]
abbrev zl13 : List Value := [.func (.func 130) #[] #[], .func (.func 131) #[] #[], .func (.func 132) #[] #[]]
abbrev zl14 : List Value := [.func (.func 133) #[] #[], .func (.func 134) #[] #[], .func (.func 135) #[] #[]]
abbrev zl15 (x0 : Nat) : List Value := [.string (⟨#[102, 111, 114, 103, 101, 116]⟩), .slice (some ⟨x0, 0, none⟩) 1 1]
abbrev zl16 (x0 : Nat) : List Value := [.string (⟨#[108, 111, 97, 100]⟩), .slice (some ⟨x0, 0, none⟩) 1 1]
abbrev zl17 (x0 : Nat) : List Value := [.string (⟨#[115, 101, 116]⟩), .slice (some ⟨x0, 0, none⟩) 1 1]
abbrev zl18 (x0 : Nat) : List Value := [.string (⟨#[111, 117, 116]⟩), .slice (some ⟨x0, 0, none⟩) 2 2]
abbrev zl19 (x0 : Nat) : List Value := [.string (⟨#[105, 110]⟩), .slice (some ⟨x0, 0, none⟩) 3 3]
abbrev zl20 : List Value := [.string (⟨#[]⟩), .slice none 0 0]
abbrev zl21 : List Value := [.nilFunc, .nilFunc, .nilFunc]
abbrev zl22 : List Value := [.func (.func 76) #[] #[]]
abbrev zl23 : List Value := [.func (.func 77) #[] #[]]
section
variable {n d m : Nat} {L : List (Nat × Value)} {W : World → Prop} {P : Program} {ops : Array Oper} {Q : Exit → Act → World → Prop} {rest : List Oper} {w0 : World} {H : List Ent} {f : FuncId} {fn : Func} {xs : List Operand} {ats : Array TypeId} {ty : TypeId} {pos : String} {aft : Array Edge} {l : List Value}
theorem cB {v : Value} (hf : P.funcs[f]? = some fn) (hx : evs L xs = some l) (hc : ∀ w, Wd w0 H w → Calls P f l.toArray w fun e w' => e = .returned v ∧ Below w.heap.size w w') (kk : At n ((d, v) :: L) (Wd w0 H) (wpList P ops Q rest)) (hb : fn.body.isSome = true := by exact rfl) (hnm : (fn.name == "runtime.NumGoroutine") = false := by kernel_rfl) (hdn : Nat.blt d n = true := by exact rfl) : At n L (Wd w0 H) (wpList P ops Q (⟨some d, .call { callee := .value (.func f), args := xs.toArray, argTypes := ats }, ty, pos, aft, none⟩ :: rest)) := at_callB hf hb hnm hx hdn hc kk
end
theorem wb {β : Type} {v : β} {w0 : World} {H : List Ent} : ∀ w1, Wd w0 H w1 → v = v ∧ Below w0.heap.size w0 w1 := fun _ h => ⟨rfl, h.below⟩
theorem lw {α : Type} {c : Cd α} {x : α} : Lens (c.cs x) 0 c x c.cs := Lens.whole c x
def okc (k : Nat) (cs : List Value) : Bool := Nat.beq cs.length k && cs.all Value.oneCell'
theorem okc_ok {k : Nat} {cs : List Value} (h : okc k cs = true) : cs.length = k ∧ ∀ v ∈ cs, v.oneCell' = true := by
  unfold okc at h
  rw [Bool.and_eq_true] at h
  exact ⟨Nat.eq_of_beq_eq_true h.1, List.all_eq_true.1 h.2⟩
abbrev ck (k : Nat) (cs : List Value) (h : okc k cs = true) : {l : List Value // l.length = k ∧ ∀ v ∈ l, v.oneCell' = true} := ⟨cs, okc_ok h⟩
theorem fa {n d : Nat} {L : List (Nat × Value)} {W : World → Prop} {P : Program} {ops : Array Oper} {Q : Exit → Act → World → Prop} {rest : List Oper} {s : TypeId} {x : Operand} {ty : TypeId} {pos : String} {aft : Array Edge} {fs : Array Field} {f : Field} {j b o m : Nat} (fo : Nat) (hs : P.underlying s = some (.struct fs)) (hf : fs[j]? = some f) (hz : ∀ w, (sizeOf f.type).run P w = .ok (m + 1) w) (k : At n ((d, .pointer (some ⟨b, o + fo, none⟩)) :: L) W (wpList P ops Q rest)) (hfo : f.offset = fo := by exact rfl) (hdn : Nat.blt d n = true := by exact rfl) (hx : ev L x = some (.pointer (some ⟨b, o, none⟩)) := by exact rfl) : At n L W (wpList P ops Q (⟨some d, .fieldAddr s x j, ty, pos, aft, none⟩ :: rest)) :=
  av hdn (r_fieldAddr hs hf hfo (fun w => ⟨m, hz w⟩) hx) k
theorem sa {n : Nat} {L : List (Nat × Value)} {P : Program} {ops : Array Oper} {Q : Exit → Act → World → Prop} {rest : List Oper} {w0 : World} {H : List Ent} {b tb : Nat} {t : TypeId} {x y : Operand} {ty : TypeId} {pos : String} {aft : Array Edge} {cells : List Value} {v : Value} {f : Ent → List Ent} {G : List Ent} (k : Nat) (cs : List Value) (hu : Upd H (cellsE b cells tb) f G) (h1 : okc (k - 1 + 1) cells = true) (h2 : okc (k - 1 + 1) cs = true) (hz : ∀ w, (sizeOf t).run P w = .ok (k - 1 + 1) w) (hx : ev L x = some (.pointer (some ⟨b, 0, none⟩))) (hy : ev L y = some v) (hv : v.cells = cs.toArray) (kk : At n L (Wd w0 (f (cellsE b cs tb))) (wpList P ops Q rest)) : At n L (Wd w0 H) (wpList P ops Q (⟨none, .store t x y, ty, pos, aft, none⟩ :: rest)) :=
  at_storeAll hu (Nat.succ_pos _) (okc_ok h1) (okc_ok h2) hz hx hy hv kk
def crawlwayref03_Text(x0:Int):Option (ByteArray) :=
 if (decide (x0<10))=true then (some (⟨(unb ([wr .u8 (wr .u64 (48+(Int.tmod x0 10)))])).toArray⟩:ByteArray)) else (crawlwayref03_Text (wr .u64 (Int.tdiv x0 10))>>=fun t3=>if t3.size+(⟨(unb ([wr .u8 (wr .u64 (48+(Int.tmod x0 10)))])).toArray⟩:ByteArray).size≤140737488355328 then some (t3++(⟨(unb ([wr .u8 (wr .u64 (48+(Int.tmod x0 10)))])).toArray⟩:ByteArray)) else none)
 partial_fixpoint
theorem crawlwayref03_Text_ok(x0:Int)(r:ByteArray)(hF:crawlwayref03_Text x0=some r)(w:World) :
    Calls Tryz.prog 55 #[.int .u64 x0] w (fun e w'=>e=.returned (.string r)∧Below w.heap.size w w'):=by
 refine crawlwayref03_Text.partial_correctness (motive:=fun x0 r=>∀ (w:World),Calls Tryz.prog 55 #[.int .u64 x0] w (fun e w'=>e=.returned (.string r)∧Below w.heap.size w w')) ?_ _ _ hF w
 clear hF
 intro g ihf0 x0 r hF w
 have ihf:∀ (x0:Int) (r:ByteArray) (hF:g x0=some r) (w:World),Calls Tryz.prog 55 #[.int .u64 x0] w (fun e w'=>e=.returned (.string r)∧Below w.heap.size w w'):=fun x0 r hF w=>ihf0 x0 r hF w
 refine ce (l:=[.int .u64 x0]) func55 rfl rfl ?_
 refine at_start ?_
 refine sr (aa (ns (am ?_)))
 refine aw (r_irem rfl rfl (by decide)) ?_
 refine aw xa ?_
 refine aw (r_conv underlying31 underlying5 rfl) ?_
 refine at_lit (cs:=(cInt .u8).all ([wr .u8 (wr .u64 (48+(Int.tmod x0 10)))]:List Int)) underlying22 sizeOf5 zeroValue5 rfl rfl rfl (by kernel_rfl) rfl ?_
 intro b1
 refine aw (r_conv_bytes (xs:=([wr .u8 (wr .u64 (48+(Int.tmod x0 10)))]:List Int)) underlying22 underlying5 underlying9 rfl (fun w1 hw=>(cells_row (hw.ok (Upd.mem .z))))) ?_
 refine aa (qn (dz (tn (qs (sr (am (aw xl (nwq [11,3,0] ?_))))))))
 obtain ⟨h2,hF⟩|⟨h2,hF⟩:=oi hF
 ·refine ct h2 ?_
  refine sr (am (aa (nwq [2] ?_)))
  refine rt ?_
  have K:=os hF
  subst K
  exact r1 wb
 refine cf h2 ?_
 refine sns (am ?_)
 refine aw (r_iquo rfl rfl (by decide)) ?_
 obtain ⟨t3,ht3,hF⟩:=bM hF
 refine cB func55 rfl (fun w hw=>ihf _ _ ht3 w) ?_
 refine am ?_
 obtain ⟨h4,hF⟩:=gd hF
 refine aw (r_concat rfl rfl h4) ?_
 refine aa (nwq [2] ?_)
 refine qt ?_
 have K:=os hF
 subst K
 exact r1 wb
def decimal_Text(x0:Int):Option (ByteArray) :=
 if (0:Int)≤x0∧x0<18446744073709551616 then some (fmtU x0) else none
theorem decimal_Text_ok(x0:Int)(r:ByteArray)(hF:decimal_Text x0=some r)(w:World)(hg_strconv_uint64pow10:GV_strconv_uint64pow10 w) :
    Calls Tryz.prog 113 #[.int .u64 x0] w (fun e w'=>e=.returned (.string r)∧Below w.heap.size w w'):=by
 unfold decimal_Text at hF
 refine ce (l:=[.int .u64 x0]) func113 rfl rfl ?_
 refine at_start ?_
 refine sr (aa (ns (am ?_)))
 obtain ⟨h1,hF⟩:=gd hF
 refine cB func163 rfl (fun w1 hw=>formatUint_ok _ h1 w1 (hg_strconv_uint64pow10.on hw.below)) ?_
 refine aa (nwq [2] ?_)
 refine qt ?_
 have K:=os hF
 subst K
 exact r1 wb
def crawlwayref03_Prefix.l0(x0:ByteArray)(i2:Int):Option (Int) :=
 if (decide (i2<(x0.size:Int)))=true then (if (0:Int)≤i2∧i2<(x0.size:Int) then if (decide (bt x0 i2≥48))=true then (if (0:Int)≤i2∧i2<(x0.size:Int) then if (decide (bt x0 i2≤57))=true then (crawlwayref03_Prefix.l0 x0 (wr .i64 (i2+1))) else (some i2) else none) else (some i2) else none) else (some i2)
 partial_fixpoint
def crawlwayref03_Prefix(x0:ByteArray):Option (Int) :=
 crawlwayref03_Prefix.l0 x0 0>>=fun q1=>some q1
theorem crawlwayref03_Prefix_ok(x0:ByteArray)(r:Int)(hF:crawlwayref03_Prefix x0=some r)(w:World) :
    Calls Tryz.prog 73 #[.string x0] w (fun e w'=>e=.returned (.int .i64 r)∧w'=w):=by
 unfold crawlwayref03_Prefix at hF
 refine ce (l:=[.string x0]) func73 rfl rfl ?_
 refine sr (aa (ns (aa (nwq [3,0] ?_))))
 refine qs ?_
 refine qb ?_
 obtain ⟨q1,hq1,hF⟩:=bM hF
 refine wq [3,0] ?_
 refine at_loop_n (B:=0) (A:=fun Y=>At 23 [(3,.int .i64 q1)] (fun w'=>w'=w) Y) ?_ ?_
 ·intro K
  refine crawlwayref03_Prefix.l0.partial_correctness x0 (motive:=fun i2 x=>KN (fun Y=>At 23 [(3,.int .i64 x)] (fun w'=>w'=w) Y) _ 0→Round (fun Y=>At 23 [(0,.string x0),(3,.int .i64 i2)] (fun w'=>w'=w) Y) _ _ _) ?_ _ _ hq1 K
  ·clear K hF
   intro g ih i2 x hF K
   refine at_round ?_
   refine qs (sr (am (am ?_)))
   refine aw (r_len_str underlying9 rfl) ?_
   refine aw xl (am ?_)
   obtain ⟨h3,hF⟩|⟨h3,hF⟩:=oi hF
   ·refine fx 8 h3 ?_
    refine gy ?_
    refine am ?_
    refine gy ?_
    refine am ?_
    refine gy ?_
    obtain ⟨h4,hF⟩:=gd hF
    refine aw (r_index_str underlying9 rfl rfl h4) ?_
    refine gy ?_
    refine aw (r_igeq rfl rfl) ?_
    refine aw xp (am ?_)
    obtain ⟨h5,hF⟩|⟨h5,hF⟩:=oi hF
    ·refine fx 14 h5 ?_
     refine gy ?_
     refine am ?_
     refine gy ?_
     refine am ?_
     refine gy ?_
     obtain ⟨h6,hF⟩:=gd hF
     refine aw (r_index_str underlying9 rfl rfl h6) ?_
     refine gy ?_
     refine aw (r_ileq rfl rfl) ?_
     refine aw xp (nwq [19,3,0] ?_)
     obtain ⟨h7,hF⟩|⟨h7,hF⟩:=oi hF
     ·refine ct h7 ?_
      refine sn ?_
      refine qb ?_
      refine qr (am (aw xa (aa (qn (wq [3,0] ?_)))))
      refine bm ?_
      exact at_weak_k (ih _ _ hF K) ⟨rfl,rfl,trivial⟩
     refine cf h7 ?_
     refine at_exit ?_
     refine te (te ?_)
     obtain rfl:=os hF
     exact at_weak_k K ⟨rfl,trivial⟩
    refine fx 14 h5 ?_
    refine gn ?_
    refine gn ?_
    refine gn ?_
    refine gn ?_
    refine aw xp (nwq [19,3,0] ?_)
    refine cf rfl ?_
    refine at_exit ?_
    refine te (te ?_)
    obtain rfl:=os hF
    exact at_weak_k K ⟨rfl,trivial⟩
   refine fx 8 h3 ?_
   refine gn ?_
   refine gn ?_
   refine gn ?_
   refine gn ?_
   refine aw xp (am ?_)
   refine gn ?_
   refine gn ?_
   refine gn ?_
   refine gn ?_
   refine aw xp (nwq [19,3,0] ?_)
   refine cf rfl ?_
   refine at_exit ?_
   refine te (te ?_)
   obtain rfl:=os hF
   exact at_weak_k K ⟨rfl,trivial⟩
 skip
 skip
 refine at_blk_same ?_
 refine tn (sr (am (aa (nwq [2] ?_))))
 refine qt ?_
 have K:=os hF
 subst K
 exact r1 (fun w1 hw=>⟨rfl,hw⟩)
def decimal_Prefix.l0(x0:ByteArray)(i3:Nat):Option (Ctl (Int) (Unit)) :=
 if decide (i3<x0.size)=true then (if (decide (dcode x0 i3<48))=true then (some (.ret (i3:Int))) else (if (decide (dcode x0 i3>57))=true then (some (.ret (i3:Int))) else (decimal_Prefix.l0 x0 (dstep x0 i3)))) else (some (.nx ()))
 partial_fixpoint
def decimal_Prefix(x0:ByteArray):Option (Int) :=
 decimal_Prefix.l0 x0 0>>=fun q2=>match q2 with | .ret r'=>some r' | .nx sq2=>(some (x0.size:Int))
theorem decimal_Prefix_ok(x0:ByteArray)(r:Int)(hF:decimal_Prefix x0=some r)(w:World) :
    Calls Tryz.prog 161 #[.string x0] w (fun e w'=>e=.returned (.int .i64 r)∧Below w.heap.size w w'):=by
 unfold decimal_Prefix at hF
 refine ce (l:=[.string x0]) func161 rfl rfl ?_
 refine at_start ?_
 refine sr (aa (nwq [0] ?_))
 refine qs (sr (am ?_))
 refine at_range (s:=x0) underlying9 rfl rfl ?_
 intro b1
 refine nwq [6,0] ?_
 refine qb ?_
 obtain ⟨q2,hq2,hF⟩:=bM hF
 refine wq [6,0] ?_
 refine at_loop_r (B:=0) (r:=r) (q:=q2) (A:=fun (_:Unit) Y=>At 20 [(0,.string x0)] (Wd w []) Y) ?_ ?_
 ·intro K
  refine decimal_Prefix.l0.partial_correctness x0 (motive:=fun i3 x=>KR (fun (_:Unit) Y=>At 20 [(0,.string x0)] (Wd w []) Y) _ 0 r x→Round (fun Y=>At 20 [(0,.string x0),(6,.pointer (some ⟨b1,0,none⟩))] (Wd w [iterE b1 x0 i3]) Y) _ _ _) ?_ _ _ hq2 K
  ·clear K hF
   intro g ih i3 x hF K
   refine at_round ?_
   refine sr ?_
   obtain ⟨h4,hF⟩|⟨h4,hF⟩:=oi hF
   ·refine at_next (s:=x0) (p:=i3) .z rfl rfl h4 ?_
    refine aw xe (nwq [8,7,6,0] ?_)
    refine qs ?_
    refine ct rfl ?_
    refine sn ?_
    refine qb ?_
    refine sr ?_
    refine aw xe (aw xe (aa (aa (nwx [6,4,3,0] ?_))))
    refine am (aw xl (am ?_))
    obtain ⟨h5,hF⟩|⟨h5,hF⟩:=oi hF
    ·refine fx 13 h5 ?_
     refine gn ?_
     refine gn ?_
     refine aw xp (nwq [16,6,3,0] ?_)
     refine ct rfl ?_
     refine sr (am (aa (qn (dz (wq [2] ?_)))))
     refine tn (qt ?_)
     refine br (tr (br (tr ?_)))
     obtain rfl:=os hF
     subst K
     exact r1 wb
    refine fx 13 h5 ?_
    refine gy ?_
    refine am ?_
    refine gy ?_
    refine aw (r_igtr rfl rfl) ?_
    refine aw xp (nwq [16,6,3,0] ?_)
    obtain ⟨h6,hF⟩|⟨h6,hF⟩:=oi hF
    ·refine ct h6 ?_
     refine sr (am (aa (qn (dz (wq [2] ?_)))))
     refine tn (qt ?_)
     refine br (tr (br (tr ?_)))
     obtain rfl:=os hF
     subst K
     exact r1 wb
    refine cf h6 ?_
    refine at_skip ?_
    refine bm ?_
    exact at_weak_k (ih _ _ hF K) ⟨rfl,rfl,trivial⟩
   refine at_over (s:=x0) (p:=i3) .z rfl rfl h4 ?_
   refine aw xe (nwq [8,7,6,0] ?_)
   refine qs ?_
   refine cf rfl ?_
   refine at_exit ?_
   refine te (te ?_)
   refine dz ?_
   obtain rfl:=os hF
   exact at_weak_k K ⟨rfl,trivial⟩
 cases q2 with
 | ret r'=>exact os hF
 | nx sq2 =>
  skip
  refine at_blk_same ?_
  refine tn (sr (am ?_))
  refine aw (r_len_str underlying9 rfl) ?_
  refine aa (nwq [2] ?_)
  refine qt ?_
  have K:=os hF
  subst K
  exact r1 wb
def decimal_Read(x0:ByteArray)(x1:Int):Option (Int×Int) :=
 if (seq x0 (⟨#[]⟩:ByteArray))=true then (some (0,5)) else (decimal_Prefix x0>>=fun t2=>if (decide (t2<(x0.size:Int)))=true then (some (0,5)) else (if (decide ((x0.size:Int)>1))=true then (if (0:Int)≤0∧0<(x0.size:Int) then if (bt x0 0==48)=true then (some (0,5)) else (if x0.size≤281474976710656 then if (!!((parU x0).2))=true then (some (0,6)) else (if (decide ((parU x0).1>x1))=true then (some (0,6)) else (some ((parU x0).1,0))) else none) else none) else (if x0.size≤281474976710656 then if (!!((parU x0).2))=true then (some (0,6)) else (if (decide ((parU x0).1>x1))=true then (some (0,6)) else (some ((parU x0).1,0))) else none)))
theorem decimal_Read_ok(x0:ByteArray)(x1:Int)(r:Int×Int)(hF:decimal_Read x0 x1=some r)(w:World)(hg_strconv_ErrRange:GV_strconv_ErrRange w)(hg_strconv_ErrSyntax:GV_strconv_ErrSyntax w) :
    Calls Tryz.prog 111 #[.string x0,.int .u64 x1] w (fun e w'=>e=.returned (.tuple #[.int .u64 r.1,.int .i64 r.2])∧Below w.heap.size w w'):=by
 unfold decimal_Read at hF
 refine ce (l:=[.string x0,.int .u64 x1]) func111 rfl rfl ?_
 refine at_start ?_
 refine sr (aa (aa (nwq [1,0] ?_)))
 refine qs (sr (am ?_))
 refine aw (r_seql rfl rfl) ?_
 refine am ?_
 obtain ⟨h1,hF⟩|⟨h1,hF⟩:=oi hF
 ·refine fx 10 h1 ?_
  refine gn ?_
  refine gn ?_
  refine gn ?_
  refine gn ?_
  refine gn ?_
  refine aw xp (am ?_)
  refine gn ?_
  refine gn ?_
  refine gn ?_
  refine gn ?_
  refine at_guard_undef rfl rfl rfl rfl ?_
  refine at_guard_undef rfl rfl rfl rfl ?_
  refine at_guard_undef rfl rfl rfl rfl ?_
  refine gn ?_
  refine aw xp (nwq [26,1,0] ?_)
  refine ct rfl ?_
  refine sr (aa (aa (nwq [5,4] ?_)))
  refine rt ?_
  have K:=os hF
  subst K
  exact at_return2 rfl rfl rfl wb
 refine fx 10 h1 ?_
 refine gy ?_
 refine am ?_
 refine gy ?_
 obtain ⟨t2,ht2,hF⟩:=bM hF
 refine cB func161 rfl (fun w hw=>decimal_Prefix_ok _ _ ht2 w) ?_
 refine gy ?_
 refine am ?_
 refine gy ?_
 refine aw (r_len_str underlying9 rfl) ?_
 refine gy ?_
 refine aw xl (aw xp (am ?_))
 obtain ⟨h3,hF⟩|⟨h3,hF⟩:=oi hF
 ·refine fx 17 h3 ?_
  refine gn ?_
  refine gn ?_
  refine gn ?_
  refine gn ?_
  refine at_guard_undef rfl rfl rfl rfl ?_
  refine at_guard_undef rfl rfl rfl rfl ?_
  refine at_guard_undef rfl rfl rfl rfl ?_
  refine gn ?_
  refine aw xp (nwq [26,1,0] ?_)
  refine ct rfl ?_
  refine sr (aa (aa (nwq [5,4] ?_)))
  refine rt ?_
  have K:=os hF
  subst K
  exact at_return2 rfl rfl rfl wb
 refine fx 17 h3 ?_
 refine gy ?_
 refine am ?_
 refine gy ?_
 refine aw (r_len_str underlying9 rfl) ?_
 refine gy ?_
 refine aw (r_igtr rfl rfl) ?_
 refine gy ?_
 refine am ?_
 obtain ⟨h4,hF⟩|⟨h4,hF⟩:=oi hF
 ·refine fx 21 h4 ?_
  refine gy ?_
  refine am ?_
  refine gy ?_
  obtain ⟨h5,hF⟩:=gd hF
  refine aw (r_index_str underlying9 rfl rfl h5) ?_
  refine gy ?_
  refine aw xq ?_
  refine gy ?_
  refine aw xp (aw xp (nwq [26,1,0] ?_))
  obtain ⟨h6,hF⟩|⟨h6,hF⟩:=oi hF
  ·refine ct h6 ?_
   refine sr (aa (aa (nwq [5,4] ?_)))
   refine rt ?_
   have K:=os hF
   subst K
   exact at_return2 rfl rfl rfl wb
  refine cf h6 ?_
  refine sns (am ?_)
  obtain ⟨h7,hF⟩:=gd hF
  refine at_callE func162 rfl (by kernel_rfl) rfl rfl (fun w1 hw=>parseUint_ok _ h7 w1 (hg_strconv_ErrRange.on hw.below) (hg_strconv_ErrSyntax.on hw.below)) ?_
  intro u9 hu10
  refine am ?_
  refine aw xe (aw xe (aa (aa (nwq [7,6,1] ?_))))
  refine qs (sr (am ?_))
  refine aw (r_err underlying140 rfl hu10 (.inr rfl) rfl) ?_
  refine am ?_
  obtain ⟨h11,hF⟩|⟨h11,hF⟩:=oi hF
  ·refine fx 34 h11 ?_
   refine gn ?_
   refine gn ?_
   refine gn ?_
   refine aw xp (nwq [38,6] ?_)
   refine ct rfl ?_
   refine sr (aa (aa (nwq [5,4] ?_)))
   refine rt ?_
   have K:=os hF
   subst K
   exact at_return2 rfl rfl rfl wb
  refine fx 34 h11 ?_
  refine gy ?_
  refine am ?_
  refine gy ?_
  refine am ?_
  refine gy ?_
  refine aw (r_igtr rfl rfl) ?_
  refine aw xp (nwq [38,6] ?_)
  obtain ⟨h12,hF⟩|⟨h12,hF⟩:=oi hF
  ·refine ct h12 ?_
   refine sr (aa (aa (nwq [5,4] ?_)))
   refine rt ?_
   have K:=os hF
   subst K
   exact at_return2 rfl rfl rfl wb
  refine cf h12 ?_
  refine sns (am (aa (aa (nwq [5,4] ?_))))
  refine qt ?_
  have K:=os hF
  subst K
  exact at_return2 rfl rfl rfl wb
 refine fx 21 h4 ?_
 refine gn ?_
 refine gn ?_
 refine gn ?_
 refine gy ?_
 refine aw xp (aw xp (nwq [26,1,0] ?_))
 refine cf rfl ?_
 refine sns (am ?_)
 obtain ⟨h13,hF⟩:=gd hF
 refine at_callE func162 rfl (by kernel_rfl) rfl rfl (fun w1 hw=>parseUint_ok _ h13 w1 (hg_strconv_ErrRange.on hw.below) (hg_strconv_ErrSyntax.on hw.below)) ?_
 intro u14 hu15
 refine am ?_
 refine aw xe (aw xe (aa (aa (nwq [7,6,1] ?_))))
 refine qs (sr (am ?_))
 refine aw (r_err underlying140 rfl hu15 (.inr rfl) rfl) ?_
 refine am ?_
 obtain ⟨h16,hF⟩|⟨h16,hF⟩:=oi hF
 ·refine fx 34 h16 ?_
  refine gn ?_
  refine gn ?_
  refine gn ?_
  refine aw xp (nwq [38,6] ?_)
  refine ct rfl ?_
  refine sr (aa (aa (nwq [5,4] ?_)))
  refine rt ?_
  have K:=os hF
  subst K
  exact at_return2 rfl rfl rfl wb
 refine fx 34 h16 ?_
 refine gy ?_
 refine am ?_
 refine gy ?_
 refine am ?_
 refine gy ?_
 refine aw (r_igtr rfl rfl) ?_
 refine aw xp (nwq [38,6] ?_)
 obtain ⟨h17,hF⟩|⟨h17,hF⟩:=oi hF
 ·refine ct h17 ?_
  refine sr (aa (aa (nwq [5,4] ?_)))
  refine rt ?_
  have K:=os hF
  subst K
  exact at_return2 rfl rfl rfl wb
 refine cf h17 ?_
 refine sns (am (aa (aa (nwq [5,4] ?_))))
 refine qt ?_
 have K:=os hF
 subst K
 exact at_return2 rfl rfl rfl wb
def crawlwayref03_Read.l0(x0:ByteArray)(x1:Int)(i9:Int)(i10:Int):Option (Ctl (Int×Int) (Int)) :=
 if (decide (i10<(x0.size:Int)))=true then (if (0:Int)≤i10∧i10<(x0.size:Int) then if (decide (i9>wr .u64 (Int.tdiv x1 10)))=true then (some (.ret (0,6))) else (if (decide (wr .u64 (10*i9)>wr .u64 (x1-(if x1<wr .u64 ((wr .u64 (bt x0 i10))-48) then x1 else wr .u64 ((wr .u64 (bt x0 i10))-48)))))=true then (some (.ret (0,6))) else (if (decide (wr .u64 ((wr .u64 (bt x0 i10))-48)>x1))=true then (some (.ret (0,6))) else (crawlwayref03_Read.l0 x0 x1 (wr .u64 ((wr .u64 (10*i9))+(wr .u64 ((wr .u64 (bt x0 i10))-48)))) (wr .i64 (i10+1))))) else none) else (some (.nx i9))
 partial_fixpoint
def crawlwayref03_Read.l1(x0:ByteArray)(x1:Int)(i17:Int)(i18:Int):Option (Ctl (Int×Int) (Int)) :=
 if (decide (i18<(x0.size:Int)))=true then (if (0:Int)≤i18∧i18<(x0.size:Int) then if (decide (i17>wr .u64 (Int.tdiv x1 10)))=true then (some (.ret (0,6))) else (if (decide (wr .u64 (10*i17)>wr .u64 (x1-(if x1<wr .u64 ((wr .u64 (bt x0 i18))-48) then x1 else wr .u64 ((wr .u64 (bt x0 i18))-48)))))=true then (some (.ret (0,6))) else (if (decide (wr .u64 ((wr .u64 (bt x0 i18))-48)>x1))=true then (some (.ret (0,6))) else (crawlwayref03_Read.l1 x0 x1 (wr .u64 ((wr .u64 (10*i17))+(wr .u64 ((wr .u64 (bt x0 i18))-48)))) (wr .i64 (i18+1))))) else none) else (some (.nx i17))
 partial_fixpoint
def crawlwayref03_Read(x0:ByteArray)(x1:Int):Option (Int×Int) :=
 if ((x0.size:Int)==0)=true then (some (0,5)) else (crawlwayref03_Prefix x0>>=fun t2=>if (decide (t2<(x0.size:Int)))=true then (some (0,5)) else (if (decide ((x0.size:Int)>1))=true then (if (0:Int)≤0∧0<(x0.size:Int) then if (bt x0 0==48)=true then (some (0,5)) else (crawlwayref03_Read.l0 x0 x1 0 0>>=fun q7=>match q7 with | .ret r'=>some r' | .nx sq7=>(some (sq7,0))) else none) else (crawlwayref03_Read.l1 x0 x1 0 0>>=fun q16=>match q16 with | .ret r'=>some r' | .nx sq16=>(some (sq16,0)))))
theorem crawlwayref03_Read_ok(x0:ByteArray)(x1:Int)(r:Int×Int)(hF:crawlwayref03_Read x0 x1=some r)(w:World) :
    Calls Tryz.prog 43 #[.string x0,.int .u64 x1] w (fun e w'=>e=.returned (.tuple #[.int .u64 r.1,.int .i64 r.2])∧w'=w):=by
 unfold crawlwayref03_Read at hF
 refine ce (l:=[.string x0,.int .u64 x1]) func43 rfl rfl ?_
 refine sr (aa (aa (nwq [1,0] ?_)))
 refine qs (sr (am ?_))
 refine aw (r_len_str underlying9 rfl) ?_
 refine aw xq (am ?_)
 obtain ⟨h1,hF⟩|⟨h1,hF⟩:=oi hF
 ·refine fx 12 h1 ?_
  refine gn ?_
  refine gn ?_
  refine gn ?_
  refine gn ?_
  refine gn ?_
  refine aw xp (am ?_)
  refine gn ?_
  refine gn ?_
  refine gn ?_
  refine gn ?_
  refine at_guard_undef rfl rfl rfl rfl ?_
  refine at_guard_undef rfl rfl rfl rfl ?_
  refine at_guard_undef rfl rfl rfl rfl ?_
  refine gn ?_
  refine aw xp (nwq [28,1,0] ?_)
  refine ct rfl ?_
  refine sr (aa (aa (nwq [5,4] ?_)))
  refine rt ?_
  have K:=os hF
  subst K
  exact at_return2 rfl rfl rfl (fun w1 hw=>⟨rfl,hw⟩)
 refine fx 12 h1 ?_
 refine gy ?_
 refine am ?_
 refine gy ?_
 obtain ⟨t2,ht2,hF⟩:=bM hF
 refine at_call0 func73 rfl (by kernel_rfl) rfl rfl (fun w=>crawlwayref03_Prefix_ok _ _ ht2 w) ?_
 refine gy ?_
 refine am ?_
 refine gy ?_
 refine aw (r_len_str underlying9 rfl) ?_
 refine gy ?_
 refine aw xl (aw xp (am ?_))
 obtain ⟨h3,hF⟩|⟨h3,hF⟩:=oi hF
 ·refine fx 19 h3 ?_
  refine gn ?_
  refine gn ?_
  refine gn ?_
  refine gn ?_
  refine at_guard_undef rfl rfl rfl rfl ?_
  refine at_guard_undef rfl rfl rfl rfl ?_
  refine at_guard_undef rfl rfl rfl rfl ?_
  refine gn ?_
  refine aw xp (nwq [28,1,0] ?_)
  refine ct rfl ?_
  refine sr (aa (aa (nwq [5,4] ?_)))
  refine rt ?_
  have K:=os hF
  subst K
  exact at_return2 rfl rfl rfl (fun w1 hw=>⟨rfl,hw⟩)
 refine fx 19 h3 ?_
 refine gy ?_
 refine am ?_
 refine gy ?_
 refine aw (r_len_str underlying9 rfl) ?_
 refine gy ?_
 refine aw (r_igtr rfl rfl) ?_
 refine gy ?_
 refine am ?_
 obtain ⟨h4,hF⟩|⟨h4,hF⟩:=oi hF
 ·refine fx 23 h4 ?_
  refine gy ?_
  refine am ?_
  refine gy ?_
  obtain ⟨h5,hF⟩:=gd hF
  refine aw (r_index_str underlying9 rfl rfl h5) ?_
  refine gy ?_
  refine aw xq ?_
  refine gy ?_
  refine aw xp (aw xp (nwq [28,1,0] ?_))
  obtain ⟨h6,hF⟩|⟨h6,hF⟩:=oi hF
  ·refine ct h6 ?_
   refine sr (aa (aa (nwq [5,4] ?_)))
   refine rt ?_
   have K:=os hF
   subst K
   exact at_return2 rfl rfl rfl (fun w1 hw=>⟨rfl,hw⟩)
  refine cf h6 ?_
  refine sns (aa (nt (qs (sr (aa (nwq [7,6,1,0] ?_))))))
  refine qb ?_
  obtain ⟨q7,hq7,hF⟩:=bM hF
  refine wq [7,6,1,0] ?_
  refine at_loop_r (B:=0) (r:=r) (q:=q7) (A:=fun sq7 Y=>At 64 [(6,.int .u64 sq7)] (fun w'=>w'=w) Y) ?_ ?_
  ·intro K
   refine crawlwayref03_Read.l0.partial_correctness x0 x1 (motive:=fun i9 i10 x=>KR (fun sq7 Y=>At 64 [(6,.int .u64 sq7)] (fun w'=>w'=w) Y) _ 0 r x→Round (fun Y=>At 64 [(0,.string x0),(1,.int .u64 x1),(6,.int .u64 i9),(7,.int .i64 i10)] (fun w'=>w'=w) Y) _ _ _) ?_ _ _ _ hq7 K
   ·clear K hF
    intro g ih i9 i10 x hF K
    refine at_round ?_
    refine qs (sr (am (am ?_)))
    refine aw (r_len_str underlying9 rfl) ?_
    refine aw xl (nwq [32,7,6,1,0] ?_)
    obtain ⟨h11,hF⟩|⟨h11,hF⟩:=oi hF
    ·refine ct h11 ?_
     refine sn (qs ?_)
     refine qb ?_
     refine sr (am (am ?_))
     obtain ⟨h12,hF⟩:=gd hF
     refine aw (r_index_str underlying9 rfl rfl h12) ?_
     refine aw (r_conv underlying5 underlying31 rfl) ?_
     refine aw (r_isub rfl rfl) ?_
     refine aa (nwq [8,7,6,1,0] ?_)
     refine qs (sr (am (am ?_)))
     refine aw (r_iquo rfl rfl (by decide)) ?_
     refine aw (r_igtr rfl rfl) ?_
     refine am ?_
     obtain ⟨h13,hF⟩|⟨h13,hF⟩:=oi hF
     ·refine fx 44 h13 ?_
      refine gn ?_
      refine gn ?_
      refine gn ?_
      refine gn ?_
      refine gn ?_
      refine gn ?_
      refine gn ?_
      refine gn ?_
      refine aw xp (am ?_)
      refine gn ?_
      refine gn ?_
      refine gn ?_
      refine aw xp (nwq [58,8,7,6,1,0] ?_)
      refine ct rfl ?_
      refine sr (aa (aa (nwq [5,4] ?_)))
      refine qt ?_
      refine tr (br (tr (tr (br (tr ?_)))))
      obtain rfl:=os hF
      subst K
      exact at_return2 rfl rfl rfl (fun w1 hw=>⟨rfl,hw⟩)
     refine fx 44 h13 ?_
     refine gy ?_
     refine am ?_
     refine gy ?_
     refine aw (r_imul rfl rfl) ?_
     refine gy ?_
     refine am ?_
     refine gy ?_
     refine am ?_
     refine gy ?_
     refine am ?_
     refine gy ?_
     refine aw (r_min rfl rfl) ?_
     refine gy ?_
     refine aw (r_isub rfl rfl) ?_
     refine gy ?_
     refine aw (r_igtr rfl rfl) ?_
     refine aw xp (am ?_)
     obtain ⟨h14,hF⟩|⟨h14,hF⟩:=oi hF
     ·refine fx 54 h14 ?_
      refine gn ?_
      refine gn ?_
      refine gn ?_
      refine aw xp (nwq [58,8,7,6,1,0] ?_)
      refine ct rfl ?_
      refine sr (aa (aa (nwq [5,4] ?_)))
      refine qt ?_
      refine tr (br (tr (tr (br (tr ?_)))))
      obtain rfl:=os hF
      subst K
      exact at_return2 rfl rfl rfl (fun w1 hw=>⟨rfl,hw⟩)
     refine fx 54 h14 ?_
     refine gy ?_
     refine am ?_
     refine gy ?_
     refine am ?_
     refine gy ?_
     refine aw (r_igtr rfl rfl) ?_
     refine aw xp (nwq [58,8,7,6,1,0] ?_)
     obtain ⟨h15,hF⟩|⟨h15,hF⟩:=oi hF
     ·refine ct h15 ?_
      refine sr (aa (aa (nwq [5,4] ?_)))
      refine qt ?_
      refine tr (br (tr (tr (br (tr ?_)))))
      obtain rfl:=os hF
      subst K
      exact at_return2 rfl rfl rfl (fun w1 hw=>⟨rfl,hw⟩)
     refine cf h15 ?_
     refine sn (qr (am ?_))
     refine aw (r_imul rfl rfl) ?_
     refine am (aw xa (aa (qn (wq [7,6,1,0] ?_))))
     refine bm ?_
     refine qr (am (aw xa (aa (nwq [7,6,1,0] ?_))))
     exact at_weak_k (ih _ _ _ hF K) ⟨rfl,rfl,rfl,rfl,trivial⟩
    refine cf h11 ?_
    refine at_exit ?_
    refine te (te ?_)
    obtain rfl:=os hF
    exact at_weak_k K ⟨rfl,trivial⟩
  cases q7 with
  | ret r'=>exact os hF
  | nx sq7 =>
   skip
   refine at_blk_same ?_
   refine tn (sr (am (aa (aa (nwq [5,4] ?_)))))
   refine qt ?_
   have K:=os hF
   subst K
   exact at_return2 rfl rfl rfl (fun w1 hw=>⟨rfl,hw⟩)
 refine fx 23 h4 ?_
 refine gn ?_
 refine gn ?_
 refine gn ?_
 refine gy ?_
 refine aw xp (aw xp (nwq [28,1,0] ?_))
 refine cf rfl ?_
 refine sns (aa (nt (qs (sr (aa (nwq [7,6,1,0] ?_))))))
 refine qb ?_
 obtain ⟨q16,hq16,hF⟩:=bM hF
 refine wq [7,6,1,0] ?_
 refine at_loop_r (B:=0) (r:=r) (q:=q16) (A:=fun sq16 Y=>At 64 [(6,.int .u64 sq16)] (fun w'=>w'=w) Y) ?_ ?_
 ·intro K
  refine crawlwayref03_Read.l1.partial_correctness x0 x1 (motive:=fun i17 i18 x=>KR (fun sq16 Y=>At 64 [(6,.int .u64 sq16)] (fun w'=>w'=w) Y) _ 0 r x→Round (fun Y=>At 64 [(0,.string x0),(1,.int .u64 x1),(6,.int .u64 i17),(7,.int .i64 i18)] (fun w'=>w'=w) Y) _ _ _) ?_ _ _ _ hq16 K
  ·clear K hF
   intro g ih i17 i18 x hF K
   refine at_round ?_
   refine qs (sr (am (am ?_)))
   refine aw (r_len_str underlying9 rfl) ?_
   refine aw xl (nwq [32,7,6,1,0] ?_)
   obtain ⟨h19,hF⟩|⟨h19,hF⟩:=oi hF
   ·refine ct h19 ?_
    refine sn (qs ?_)
    refine qb ?_
    refine sr (am (am ?_))
    obtain ⟨h20,hF⟩:=gd hF
    refine aw (r_index_str underlying9 rfl rfl h20) ?_
    refine aw (r_conv underlying5 underlying31 rfl) ?_
    refine aw (r_isub rfl rfl) ?_
    refine aa (nwq [8,7,6,1,0] ?_)
    refine qs (sr (am (am ?_)))
    refine aw (r_iquo rfl rfl (by decide)) ?_
    refine aw (r_igtr rfl rfl) ?_
    refine am ?_
    obtain ⟨h21,hF⟩|⟨h21,hF⟩:=oi hF
    ·refine fx 44 h21 ?_
     refine gn ?_
     refine gn ?_
     refine gn ?_
     refine gn ?_
     refine gn ?_
     refine gn ?_
     refine gn ?_
     refine gn ?_
     refine aw xp (am ?_)
     refine gn ?_
     refine gn ?_
     refine gn ?_
     refine aw xp (nwq [58,8,7,6,1,0] ?_)
     refine ct rfl ?_
     refine sr (aa (aa (nwq [5,4] ?_)))
     refine qt ?_
     refine tr (br (tr (tr (br (tr ?_)))))
     obtain rfl:=os hF
     subst K
     exact at_return2 rfl rfl rfl (fun w1 hw=>⟨rfl,hw⟩)
    refine fx 44 h21 ?_
    refine gy ?_
    refine am ?_
    refine gy ?_
    refine aw (r_imul rfl rfl) ?_
    refine gy ?_
    refine am ?_
    refine gy ?_
    refine am ?_
    refine gy ?_
    refine am ?_
    refine gy ?_
    refine aw (r_min rfl rfl) ?_
    refine gy ?_
    refine aw (r_isub rfl rfl) ?_
    refine gy ?_
    refine aw (r_igtr rfl rfl) ?_
    refine aw xp (am ?_)
    obtain ⟨h22,hF⟩|⟨h22,hF⟩:=oi hF
    ·refine fx 54 h22 ?_
     refine gn ?_
     refine gn ?_
     refine gn ?_
     refine aw xp (nwq [58,8,7,6,1,0] ?_)
     refine ct rfl ?_
     refine sr (aa (aa (nwq [5,4] ?_)))
     refine qt ?_
     refine tr (br (tr (tr (br (tr ?_)))))
     obtain rfl:=os hF
     subst K
     exact at_return2 rfl rfl rfl (fun w1 hw=>⟨rfl,hw⟩)
    refine fx 54 h22 ?_
    refine gy ?_
    refine am ?_
    refine gy ?_
    refine am ?_
    refine gy ?_
    refine aw (r_igtr rfl rfl) ?_
    refine aw xp (nwq [58,8,7,6,1,0] ?_)
    obtain ⟨h23,hF⟩|⟨h23,hF⟩:=oi hF
    ·refine ct h23 ?_
     refine sr (aa (aa (nwq [5,4] ?_)))
     refine qt ?_
     refine tr (br (tr (tr (br (tr ?_)))))
     obtain rfl:=os hF
     subst K
     exact at_return2 rfl rfl rfl (fun w1 hw=>⟨rfl,hw⟩)
    refine cf h23 ?_
    refine sn (qr (am ?_))
    refine aw (r_imul rfl rfl) ?_
    refine am (aw xa (aa (qn (wq [7,6,1,0] ?_))))
    refine bm ?_
    refine qr (am (aw xa (aa (nwq [7,6,1,0] ?_))))
    exact at_weak_k (ih _ _ _ hF K) ⟨rfl,rfl,rfl,rfl,trivial⟩
   refine cf h19 ?_
   refine at_exit ?_
   refine te (te ?_)
   obtain rfl:=os hF
   exact at_weak_k K ⟨rfl,trivial⟩
 cases q16 with
 | ret r'=>exact os hF
 | nx sq16 =>
  skip
  refine at_blk_same ?_
  refine tn (sr (am (aa (aa (nwq [5,4] ?_)))))
  refine qt ?_
  have K:=os hF
  subst K
  exact at_return2 rfl rfl rfl (fun w1 hw=>⟨rfl,hw⟩)
end Go.Proofs.YtkkmmpofdcccmaaGreatDoor
namespace Go.Proofs.YtkkmmpofdcccmaaGreatDoor
open E Go.RowKit _root_.Go.Proofs.Tryz
theorem infoG29_is:(Tryz.prog.info? 9).isSome=true:=by kernel_rfl
noncomputable def infoG29_v:TypeInfo:=(Tryz.prog.info? 9).get infoG29_is
theorem infoG29:Tryz.prog.info? 9=some infoG29_v:=(Option.some_get _).symm
def quad_Text.l0(x0:(Vector Int 4))(i4:Int)(i5:(Vector ByteArray 4)):Option ((Vector ByteArray 4)) :=
 if (decide (i4<4))=true then (if (0:Int)≤i4∧i4<4 then decimal_Text (wr .u64 (vget x0 i4))>>=fun t8=>if (0:Int)≤i4∧i4<4 then quad_Text.l0 x0 (wr .i64 (i4+1)) (vset i5 i4 t8) else none else none) else (some i5)
 partial_fixpoint
def quad_Text(x0:(Vector Int 4)):Option (ByteArray) :=
 quad_Text.l0 x0 0 (Vector.replicate 4 (⟨#[]⟩:ByteArray):(Vector ByteArray 4))>>=fun q3=>if List.length (Vector.toList q3)≤140737488355328 then if (bjoin (Vector.toList q3) (⟨#[46]⟩:ByteArray)).size≤140737488355328 then some (bjoin (Vector.toList q3) (⟨#[46]⟩:ByteArray)) else none else none
theorem quad_Text_ok(x0:(Vector Int 4))(r:ByteArray)(hF:quad_Text x0=some r)(w:World)(hg_strconv_uint64pow10:GV_strconv_uint64pow10 w) :
    Calls Tryz.prog 183 #[.agg (Cd.cs (cVec (cInt .u8) 4 (by decide)) x0).toArray] w (fun e w'=>e=.returned (.string r)∧Below w.heap.size w w'):=by
 unfold quad_Text at hF
 refine ce (l:=[.agg (Cd.cs (cVec (cInt .u8) 4 (by decide)) x0).toArray]) func183 rfl rfl ?_
 refine at_start ?_
 refine sr ?_
 refine at_box (cs:=Cd.cs (cVec (cInt .u8) 4 (by decide)) x0) rfl rfl rfl ?_
 intro b1
 refine aa (ns ?_)
 refine al (cs:=Cd.cs (cVec cStr 4 (by decide)) (Vector.replicate 4 (⟨#[]⟩:ByteArray):(Vector ByteArray 4))) zeroValue213 ?_
 intro b2
 refine nt (qs (sr ?_))
 refine aw (r_load_aggc (c:=(cVec (cInt .u8) 4 (by decide))) (z:=x0) isAgg159 sizeOf159 rfl (lens_cell (.s .z) lw)) ?_
 refine am (qn ?_)
 refine at_drop (H:=_) (.s .z) ?_
 refine wq [7,6,3] ?_
 refine tn ?_
 refine qb ?_
 obtain ⟨q3,hq3,hF⟩:=bM hF
 refine wq [7,6,3] ?_
 refine at_loop_n (B:=0) (A:=fun Y=>At 19 [(3,.pointer (some ⟨b2,0,none⟩))] (Wd w [cellsE b2 (Cd.cs (cVec cStr 4 (by decide)) q3) 213]) Y) ?_ ?_
 ·intro K
  refine quad_Text.l0.partial_correctness x0 (motive:=fun i4 i5 x=>KN (fun Y=>At 19 [(3,.pointer (some ⟨b2,0,none⟩))] (Wd w [cellsE b2 (Cd.cs (cVec cStr 4 (by decide)) x) 213]) Y) _ 0→Round (fun Y=>At 19 [(3,.pointer (some ⟨b2,0,none⟩)),(6,.agg (Cd.cs (cVec (cInt .u8) 4 (by decide)) x0).toArray),(7,.int .i64 i4)] (Wd w [cellsE b2 (Cd.cs (cVec cStr 4 (by decide)) i5) 213]) Y) _ _ _) ?_ _ _ _ hq3 K
  ·clear K hF
   intro g ih i4 i5 x hF K
   refine at_round ?_
   refine sr (aw xl (nwq [8,7,6,3] ?_))
   refine qs ?_
   obtain ⟨h6,hF⟩|⟨h6,hF⟩:=oi hF
   ·refine ct h6 ?_
    refine sn (qs ?_)
    refine qb ?_
    refine sr (am ?_)
    obtain ⟨h7,hF⟩:=gd hF
    refine aw (r_idxVal underlying159 sizeOf5 rfl rfl h7 (part_vOf (Lens.vec (cInt .u8) (by decide) x0 i4 h7) isAgg5 sizeOf5 (.inr rfl))) ?_
    refine aa (aa (nt (qr (am (am ?_)))))
    refine aw (r_conv underlying5 underlying31 rfl) ?_
    obtain ⟨t8,ht8,hF⟩:=bM hF
    refine cB func113 rfl (fun w hw=>decimal_Text_ok _ _ ht8 w (hg_strconv_uint64pow10.on hw.below)) ?_
    obtain ⟨h9,hF⟩:=gd hF
    refine aw (r_idxArr underlying213 sizeOf9 rfl rfl h9) ?_
    refine at_store (c:=cStr) (z:=t8) .z (Lens.comp lw (fun z=>vset i5 i4 z) (Lens.vec cStr (by decide) i5 i4 h9)) sizeOf9 rfl rfl rfl ?_
    refine qn (wq [7,6,3] ?_)
    refine bm ?_
    refine qr (aw xa (am (nwq [7,6,3] ?_)))
    exact at_weak_k (ih _ _ _ hF K) ⟨rfl,rfl,rfl,trivial⟩
   refine cf h6 ?_
   refine at_exit ?_
   refine te (te ?_)
   obtain rfl:=os hF
   exact at_weak_k K ⟨rfl,trivial⟩
 skip
 skip
 refine at_blk_same ?_
 refine tn (sr ?_)
 refine aw (r_slice_vec q3 underlying213 sizeOf9 rfl) ?_
 obtain ⟨h10,hF⟩:=gd hF
 obtain ⟨h11,hF⟩:=gd hF
 refine cB func47 rfl (fun w1 hw=>join_ok _ _ h10 h11 _ _ w1 (vec_row (hw.ok (Upd.mem .z)))) ?_
 refine aa (qn (dz (wq [2] ?_)))
 refine tn (qt ?_)
 have K:=os hF
 subst K
 exact r1 wb
def lines_Cut(x0:ByteArray)(x1:Int):Option (ByteArray×ByteArray×Bool) :=
 if (decide (Lib.indexByte x0.data.toList (Nat.toUInt8 (Int.toNat x1))<0))=true then (some (x0,⟨#[]⟩,false)) else (if (0:Int)≤0∧0≤Lib.indexByte x0.data.toList (Nat.toUInt8 (Int.toNat x1))∧Lib.indexByte x0.data.toList (Nat.toUInt8 (Int.toNat x1))≤(x0.size:Int) then if (0:Int)≤wr .i64 ((Lib.indexByte x0.data.toList (Nat.toUInt8 (Int.toNat x1)))+1)∧wr .i64 ((Lib.indexByte x0.data.toList (Nat.toUInt8 (Int.toNat x1)))+1)≤(x0.size:Int)∧(x0.size:Int)≤(x0.size:Int) then some (x0.extract (Int.toNat 0) (Int.toNat (Lib.indexByte x0.data.toList (Nat.toUInt8 (Int.toNat x1)))),x0.extract (Int.toNat (wr .i64 ((Lib.indexByte x0.data.toList (Nat.toUInt8 (Int.toNat x1)))+1))) (Int.toNat (x0.size:Int)),true) else none else none)
theorem lines_Cut_ok(x0:ByteArray)(x1:Int)(r:ByteArray×ByteArray×Bool)(hF:lines_Cut x0 x1=some r)(w:World) :
    Calls Tryz.prog 86 #[.string x0,.int .u8 x1] w (fun e w'=>e=.returned (.tuple #[.string r.1,.string r.2.1,.bool r.2.2])∧Below w.heap.size w w'):=by
 unfold lines_Cut at hF
 refine ce (l:=[.string x0,.int .u8 x1]) func86 rfl rfl ?_
 refine at_start ?_
 refine sr (aa (aa (aa (ns (am (am ?_))))))
 refine at_call0 func144 rfl (by kernel_rfl) rfl rfl (fun w=>Tryz.strings_IndexByte _ _ w) ?_
 refine aa (nt (qs (sr (am (aw xl (nwq [12,7,0] ?_))))))
 obtain ⟨h1,hF⟩|⟨h1,hF⟩:=oi hF
 ·refine ct h1 ?_
  refine sr (am (aa (aa (aa (nwq [6,5,4] ?_)))))
  refine rt ?_
  have K:=os hF
  subst K
  exact at_return3 rfl rfl rfl rfl wb
 refine cf h1 ?_
 refine sn (qs ?_)
 refine at_draw (by kernel_rfl) (by kernel_rfl) (fun _ h=>h.drew) ?_
 refine atq_val rfl rfl rfl (r_move rfl) ?_
 refine atq_val rfl rfl rfl (r_move rfl) ?_
 obtain ⟨h2,hF⟩:=gd hF
 refine atq_val rfl rfl rfl (r_slice_str underlying9 rfl rfl ⟨_,rfl⟩ h2) ?_
 refine atq_val rfl rfl rfl (r_move rfl) ?_
 refine atq_val rfl rfl rfl (r_move rfl) ?_
 refine atq_val rfl rfl rfl (r_iadd rfl rfl) ?_
 obtain ⟨h3,hF⟩:=gd hF
 refine atq_val rfl rfl rfl (r_slice_str underlying9 rfl ⟨_,rfl⟩ rfl h3) ?_
 refine atq_val rfl rfl rfl (r_assign rfl) ?_
 refine atq_val rfl rfl rfl (r_assign rfl) ?_
 refine atq_val rfl rfl rfl (r_assign rfl) ?_
 refine atq_nil ?_
 refine wq [6,5,4] ?_
 refine tn (qt ?_)
 have K:=os hF
 subst K
 exact at_return3 rfl rfl rfl rfl wb
def lines_Parts.l0(x1:Int)(i4:ByteArray)(i5:List ByteArray):Option (List ByteArray) :=
 lines_Cut i4 x1>>=fun t8=>if (i5.length+1)*16≤140737488355328 then if (!t8.2.2)=true then (some (i5++[t8.1])) else (lines_Parts.l0 x1 t8.2.1 (i5++[t8.1])) else none
 partial_fixpoint
def lines_Parts(x0:ByteArray)(x1:Int):Option (List ByteArray) :=
 lines_Parts.l0 x1 x0 ([]:List ByteArray)>>=fun q3=>some q3
theorem lines_Parts_ok(x0:ByteArray)(x1:Int)(r:List ByteArray)(hF:lines_Parts x0 x1=some r)(w:World) :
    Calls Tryz.prog 48 #[.string x0,.int .u8 x1] w (fun e w'=>∃ p cap,e=.returned (.slice p r.length cap)∧Own cStr 9 w.heap.size w' p cap r∧Below w.heap.size w w'):=by
 unfold lines_Parts at hF
 refine ce (l:=[.string x0,.int .u8 x1]) func48 rfl rfl ?_
 refine at_start ?_
 refine sr (aa (ns (aa (nwq [5,1,0] ?_))))
 refine qb ?_
 refine at_own_nil cStr 9 ?_
 obtain ⟨q3,hq3,hF⟩:=bM hF
 refine wq [5,1,0] ?_
 refine at_loop_only (r:=r) (q:=q3) ?_ ?_
 ·intro K
  refine lines_Parts.l0.partial_correctness x1 (motive:=fun i4 i5 x=>x=r→Round (fun Y=>∀ (p6:Option Addr) (c7:Nat),At 24 [(0,.string i4),(1,.int .u8 x1),(5,.slice p6 i5.length c7)] (Wd w [rowE cStr 9 p6 c7 i5]) Y) _ _ _) ?_ _ _ _ hq3 K none 0
  ·clear K hF
   intro g ih i4 i5 x hF K p6 c7
   refine at_round ?_
   refine qb ?_
   refine sr (am (am ?_))
   obtain ⟨t8,ht8,hF⟩:=bM hF
   refine cB func86 rfl (fun w hw=>lines_Cut_ok _ _ _ ht8 w) ?_
   refine am ?_
   refine aw xe (aw xe (aw xe (aa (aa (aa (ns (am (am ?_))))))))
   refine at_lit (cs:=cStr.all ([t8.1]:List ByteArray)) underlying38 sizeOf9 zeroValue9 rfl rfl rfl (by kernel_rfl) rfl ?_
   intro b9
   obtain ⟨h10,hF⟩:=gd hF
   refine at_append (z:=.string ⟨#[]⟩) (c:=cStr) (ys:=([t8.1]:List ByteArray)) (.s .z) underlying38 infoG29 (by kernel_rfl) (by kernel_rfl) rfl rfl rfl rfl (fun _ hw=>cells_src (hw.ok (Upd.mem .z))) (by kernel_rfl) h10 (app_small h10) rfl ?_
   intro p11 c12
   refine aa (qn (dz (tn (qs (sr (am ?_))))))
   refine aw (r_not rfl) ?_
   refine nwq [21,7,5,1] ?_
   obtain ⟨h13,hF⟩|⟨h13,hF⟩:=oi hF
   ·refine ct h13 ?_
    refine sr (am (aa (nwq [4] ?_)))
    refine qt ?_
    refine tr (br (tr (br ?_)))
    obtain rfl:=os hF
    subst K
    exact r1 (fun w1 hw=>⟨p11,c12,rfl,hw.own .z,hw.below⟩)
   refine cf h13 ?_
   refine sn (qr (am (aa (qn (wq [5,1,0] ?_)))))
   refine bm ?_
   exact at_weak_k (ih _ _ _ hF K p11 c12) ⟨rfl,rfl,rfl,trivial⟩
 exact os hF
def crawlwayref06_Parts.l0(x0:ByteArray)(x1:Int)(i4:Int)(i5:List ByteArray)(i6:Int):Option (Int×List ByteArray) :=
 if (decide (i6<(x0.size:Int)))=true then (if (0:Int)≤i6∧i6<(x0.size:Int) then if (bt x0 i6==x1)=true then (if (0:Int)≤i4∧i4≤i6∧i6≤(x0.size:Int) then if (i5.length+1)*16≤140737488355328 then crawlwayref06_Parts.l0 x0 x1 (wr .i64 (i6+1)) (i5++[x0.extract (Int.toNat i4) (Int.toNat i6)]) (wr .i64 (i6+1)) else none else none) else (crawlwayref06_Parts.l0 x0 x1 i4 i5 (wr .i64 (i6+1))) else none) else (some (i4,i5))
 partial_fixpoint
def crawlwayref06_Parts(x0:ByteArray)(x1:Int):Option (List ByteArray) :=
 crawlwayref06_Parts.l0 x0 x1 0 ([]:List ByteArray) 0>>=fun q3=>if (0:Int)≤q3.1∧q3.1≤(x0.size:Int)∧(x0.size:Int)≤(x0.size:Int) then if (q3.2.length+1)*16≤140737488355328 then some (q3.2++[x0.extract (Int.toNat q3.1) (Int.toNat (x0.size:Int))]) else none else none
theorem crawlwayref06_Parts_ok(x0:ByteArray)(x1:Int)(r:List ByteArray)(hF:crawlwayref06_Parts x0 x1=some r)(w:World) :
    Calls Tryz.prog 56 #[.string x0,.int .u8 x1] w (fun e w'=>∃ p cap,e=.returned (.slice p r.length cap)∧Own cStr 9 w.heap.size w' p cap r∧Below w.heap.size w w'):=by
 unfold crawlwayref06_Parts at hF
 refine ce (l:=[.string x0,.int .u8 x1]) func56 rfl rfl ?_
 refine at_start ?_
 refine sr (aa (ns (aa (ns (aa (nt (qs (sr ?_))))))))
 refine aa (nwq [7,6,5,1,0] ?_)
 refine qb ?_
 refine at_own_nil cStr 9 ?_
 obtain ⟨q3,hq3,hF⟩:=bM hF
 refine wq [7,6,5,1,0] ?_
 refine at_loop_n (B:=0) (A:=fun Y=>∀ (p9:Option Addr) (c10:Nat),At 34 [(0,.string x0),(5,.int .i64 q3.1),(6,.slice p9 q3.2.length c10)] (Wd w [rowE cStr 9 p9 c10 q3.2]) Y) ?_ ?_
 ·intro K
  refine crawlwayref06_Parts.l0.partial_correctness x0 x1 (motive:=fun i4 i5 i6 x=>KN (fun Y=>∀ (p9:Option Addr) (c10:Nat),At 34 [(0,.string x0),(5,.int .i64 x.1),(6,.slice p9 x.2.length c10)] (Wd w [rowE cStr 9 p9 c10 x.2]) Y) _ 0→Round (fun Y=>∀ (p7:Option Addr) (c8:Nat),At 34 [(0,.string x0),(1,.int .u8 x1),(5,.int .i64 i4),(6,.slice p7 i5.length c8),(7,.int .i64 i6)] (Wd w [rowE cStr 9 p7 c8 i5]) Y) _ _ _) ?_ _ _ _ _ hq3 K none 0
  ·clear K hF
   intro g ih i4 i5 i6 x hF K p7 c8
   refine at_round ?_
   refine qs (sr (am (am ?_)))
   refine aw (r_len_str underlying9 rfl) ?_
   refine aw xl (nwq [11,7,6,5,1,0] ?_)
   obtain ⟨h11,hF⟩|⟨h11,hF⟩:=oi hF
   ·refine ct h11 ?_
    refine sn (qs ?_)
    refine qb ?_
    refine sr (am (am ?_))
    obtain ⟨h12,hF⟩:=gd hF
    refine aw (r_index_str underlying9 rfl rfl h12) ?_
    refine am (aw xq (nwq [18,7,6,5,1,0] ?_))
    obtain ⟨h13,hF⟩|⟨h13,hF⟩:=oi hF
    ·refine ct h13 ?_
     refine sr (am (am (am (am ?_))))
     obtain ⟨h14,hF⟩:=gd hF
     refine aw (r_slice_str underlying9 rfl ⟨_,rfl⟩ ⟨_,rfl⟩ h14) ?_
     refine at_lit (cs:=cStr.all ([x0.extract (Int.toNat i4) (Int.toNat i6)]:List ByteArray)) underlying38 sizeOf9 zeroValue9 rfl rfl rfl (by kernel_rfl) rfl ?_
     intro b15
     obtain ⟨h16,hF⟩:=gd hF
     refine at_append (z:=.string ⟨#[]⟩) (c:=cStr) (ys:=([x0.extract (Int.toNat i4) (Int.toNat i6)]:List ByteArray)) (.s .z) underlying38 infoG29 (by kernel_rfl) (by kernel_rfl) rfl rfl rfl rfl (fun _ hw=>cells_src (hw.ok (Upd.mem .z))) (by kernel_rfl) h16 (app_small h16) rfl ?_
     intro p17 c18
     refine aa (qn (dz (tn (qr (am (aw xa (aa (qn ?_))))))))
     refine wq [7,6,5,1,0] ?_
     refine bm ?_
     refine qr (am (aw xa (aa (nwq [7,6,5,1,0] ?_))))
     exact at_weak_k (ih _ _ _ _ hF K p17 c18) ⟨rfl,rfl,rfl,rfl,rfl,trivial⟩
    refine cf h13 ?_
    refine at_skip ?_
    refine bm ?_
    refine qr (am (aw xa (aa (nwq [7,6,5,1,0] ?_))))
    exact at_weak_k (ih _ _ _ _ hF K p7 c8) ⟨rfl,rfl,rfl,rfl,rfl,trivial⟩
   refine cf h11 ?_
   refine at_exit ?_
   refine te (te ?_)
   obtain rfl:=os hF
   exact at_weak_k (K p7 c8) ⟨rfl,rfl,rfl,trivial⟩
 skip
 intro p9 c10
 refine at_blk_same ?_
 refine tn (sr (am (am (am ?_))))
 obtain ⟨h19,hF⟩:=gd hF
 refine aw (r_slice_str underlying9 rfl ⟨_,rfl⟩ rfl h19) ?_
 refine at_lit (cs:=cStr.all ([x0.extract (Int.toNat q3.1) (Int.toNat (x0.size:Int))]:List ByteArray)) underlying38 sizeOf9 zeroValue9 rfl rfl rfl (by kernel_rfl) rfl ?_
 intro b20
 obtain ⟨h21,hF⟩:=gd hF
 refine at_append (z:=.string ⟨#[]⟩) (c:=cStr) (ys:=([x0.extract (Int.toNat q3.1) (Int.toNat (x0.size:Int))]:List ByteArray)) (.s .z) underlying38 infoG29 (by kernel_rfl) (by kernel_rfl) rfl rfl rfl rfl (fun _ hw=>cells_src (hw.ok (Upd.mem .z))) (by kernel_rfl) h21 (app_small h21) rfl ?_
 intro p22 c23
 refine aa (qn (dz (wq [4] ?_)))
 refine tn (qt ?_)
 have K:=os hF
 subst K
 exact r1 (fun w1 hw=>⟨p22,c23,rfl,hw.own .z,hw.below⟩)
def quad_Parse.l0(t2:List ByteArray)(i9:Int)(i10:(Vector Int 4)):Option (Ctl ((Vector Int 4)×Int) ((Vector Int 4))) :=
 if (decide (i9<(t2.length:Int)))=true then (if (0:Int)≤i9∧i9<(t2.length:Int) then decimal_Read (lget t2 i9) 255>>=fun t16=>if (t16.2 != 0)=true then (some (.ret ((Vector.replicate 4 (0:Int):(Vector Int 4)),t16.2))) else (if (0:Int)≤i9∧i9<4 then quad_Parse.l0 t2 (wr .i64 (i9+1)) (vset i10 i9 (wr .u8 t16.1)) else none) else none) else (some (.nx i10))
 partial_fixpoint
def quad_Parse(x0:ByteArray):Option ((Vector Int 4)×Int) :=
 lines_Parts x0 46>>=fun t2=>if ((t2.length:Int) != 4)=true then (some ((Vector.replicate 4 (0:Int):(Vector Int 4)),5)) else (quad_Parse.l0 t2 0 (Vector.replicate 4 (0:Int):(Vector Int 4))>>=fun q7=>match q7 with | .ret r'=>some r' | .nx sq7=>(some (sq7,0)))
theorem quad_Parse_ok(x0:ByteArray)(r:(Vector Int 4)×Int)(hF:quad_Parse x0=some r)(w:World)(hg_strconv_ErrRange:GV_strconv_ErrRange w)(hg_strconv_ErrSyntax:GV_strconv_ErrSyntax w) :
    Calls Tryz.prog 181 #[.string x0] w (fun e w'=>e=.returned (.tuple #[.agg (Cd.cs (cVec (cInt .u8) 4 (by decide)) r.1).toArray,.int .i64 r.2])∧Below w.heap.size w w'):=by
 unfold quad_Parse at hF
 refine ce (l:=[.string x0]) func181 rfl rfl ?_
 refine at_start ?_
 refine sr ?_
 refine al (cs:=Cd.cs (cVec (cInt .u8) 4 (by decide)) zv4) zeroValue159 ?_
 intro b1
 refine aa (ns (am ?_))
 obtain ⟨t2,ht2,hF⟩:=bM hF
 refine at_callO (c:=cStr) (e:=9) (ys:=t2) (V:=fun p cap=>.slice p t2.length cap) func48 rfl (by kernel_rfl) rfl rfl (fun w hw=>lines_Parts_ok _ _ _ ht2 w) ?_
 intro p3 c4
 refine aa (ns ?_)
 refine al (cs:=Cd.cs (cVec (cInt .u8) 4 (by decide)) zv4) zeroValue159 ?_
 intro b5
 refine nt (qs (sr (am ?_)))
 refine aw (r_len_sl underlying38 rfl) ?_
 refine aw xn (nwq [14,5,4,2] ?_)
 obtain ⟨h6,hF⟩|⟨h6,hF⟩:=oi hF
 ·refine ct h6 ?_
  refine sr ?_
  refine aw (r_load_aggc (c:=(cVec (cInt .u8) 4 (by decide))) (z:=zv4) isAgg159 sizeOf159 rfl (lens_cell .z lw)) ?_
  refine at_store (c:=(cVec (cInt .u8) 4 (by decide))) (z:=zv4) (.s (.s .z)) lw sizeOf159 rfl rfl rfl ?_
  refine aa (qn (dz (dz (wq [3,2] ?_))))
  refine tn (rt ?_)
  have K:=os hF
  subst K
  exact at_res2 rfl (res_cell (c:=(cVec (cInt .u8) 4 (by decide))) (y:=zv4) rfl .z lw isAgg159 sizeOf159 (.inl rfl)) (res_tmp rfl) wb
 refine cf h6 ?_
 refine sn (qs (sr (am ?_)))
 refine aw (r_len_sl underlying38 rfl) ?_
 refine am (nwq [18,17,16,5,2] ?_)
 refine qb ?_
 obtain ⟨q7,hq7,hF⟩:=bM hF
 refine wq [18,17,16,5,2] ?_
 refine at_loop_r (B:=0) (r:=r) (q:=q7) (A:=fun sq7 Y=>At 38 [(2,.pointer (some ⟨b1,0,none⟩)),(5,.pointer (some ⟨b5,0,none⟩))] (Wd w [cellsE b5 (Cd.cs (cVec (cInt .u8) 4 (by decide)) sq7) 159,cellsE b1 (Cd.cs (cVec (cInt .u8) 4 (by decide)) zv4) 159]) Y) ?_ ?_
 ·intro K
  refine quad_Parse.l0.partial_correctness t2 (motive:=fun i9 i10 x=>KR (fun sq7 Y=>At 38 [(2,.pointer (some ⟨b1,0,none⟩)),(5,.pointer (some ⟨b5,0,none⟩))] (Wd w [cellsE b5 (Cd.cs (cVec (cInt .u8) 4 (by decide)) sq7) 159,cellsE b1 (Cd.cs (cVec (cInt .u8) 4 (by decide)) zv4) 159]) Y) _ 0 r x→Round (fun Y=>At 38 [(2,.pointer (some ⟨b1,0,none⟩)),(5,.pointer (some ⟨b5,0,none⟩)),(16,.slice p3 t2.length c4),(17,.int .i64 (t2.length:Int)),(18,.int .i64 i9)] (Wd w [cellsE b5 (Cd.cs (cVec (cInt .u8) 4 (by decide)) i10) 159,rowE cStr 9 p3 c4 t2,cellsE b1 (Cd.cs (cVec (cInt .u8) 4 (by decide)) zv4) 159]) Y) _ _ _) ?_ _ _ _ hq7 K
  ·clear K hF
   intro g ih i9 i10 x hF K
   refine at_round ?_
   refine sr (aw xl (nwq [19,18,17,16,5,2] ?_))
   refine qs ?_
   obtain ⟨h11,hF⟩|⟨h11,hF⟩:=oi hF
   ·refine ct h11 ?_
    refine sn (qs ?_)
    refine qb ?_
    refine sr (am ?_)
    obtain ⟨h12,hF⟩:=gd hF
    refine at_pure (φ:=∃ b o,p3=some ⟨b,o,none⟩) (fun _ hw=>row_ptr (hw.own (.s .z)).row h12) ?_
    rintro ⟨b14,o15,hp13⟩
    refine aw (r_idx underlying38 sizeOf9 rfl rfl h12 hp13) ?_
    refine aw (r_load_cell isAgg9 rfl (fun _ hw=>row_cell0 (W:=fun w1=>w1=_) (fun w1 h=>by subst h;exact Below.refl _ _) (hw.own (.s .z)).row h12 hp13 rfl _ rfl)) ?_
    refine aa (aa (ns (am ?_)))
    obtain ⟨t16,ht16,hF⟩:=bM hF
    refine cB func111 rfl (fun w hw=>decimal_Read_ok _ _ _ ht16 w (hg_strconv_ErrRange.on hw.below) (hg_strconv_ErrSyntax.on hw.below)) ?_
    refine am ?_
    refine aw xe (aw xe (aa (aa (nt (qs (sr (am (aw xn ?_))))))))
    refine nwq [29,18,17,16,9,8,6,5,2] ?_
    obtain ⟨h17,hF⟩|⟨h17,hF⟩:=oi hF
    ·refine ct h17 ?_
     refine sr ?_
     refine aw (r_build_array (zs:=Cd.cs (cVec (cInt .u8) 4 (by decide)) zv4) (cs:=Cd.cs (cVec (cInt .u8) 4 (by decide)) zv4) underlying159 zeroValue159 rfl sizeOf5 rfl rfl) ?_
     refine am ?_
     refine at_store (c:=(cVec (cInt .u8) 4 (by decide))) (z:=zv4) (.s (.s .z)) lw sizeOf159 rfl rfl rfl ?_
     refine aa (qn (dz (dz (wq [3,2] ?_))))
     refine tn (qt ?_)
     refine tr (br (tr (tr (br (tr ?_)))))
     obtain rfl:=os hF
     subst K
     exact at_res2 rfl (res_cell (c:=(cVec (cInt .u8) 4 (by decide))) (y:=zv4) rfl .z lw isAgg159 sizeOf159 (.inl rfl)) (res_tmp rfl) wb
    refine cf h17 ?_
    refine sn (qr (am (am ?_)))
    refine aw (r_conv underlying31 underlying5 rfl) ?_
    obtain ⟨h18,hF⟩:=gd hF
    refine aw (r_idxArr underlying159 sizeOf5 rfl rfl h18) ?_
    refine at_store (c:=(cInt .u8)) (z:=wr .u8 t16.1) .z (Lens.comp lw (fun z=>vset i10 i9 z) (Lens.vec (cInt .u8) (by decide) i10 i9 h18)) sizeOf5 rfl rfl rfl ?_
    refine qn (wq [18,17,16,5,2] ?_)
    refine bm ?_
    refine qr (aw xa (am (nwq [18,17,16,5,2] ?_)))
    exact at_weak_k (ih _ _ _ hF K) ⟨rfl,rfl,rfl,rfl,rfl,trivial⟩
   refine cf h11 ?_
   refine at_exit ?_
   refine te (te ?_)
   refine at_drop (H:=_) (.s .z) ?_
   obtain rfl:=os hF
   exact at_weak_k K ⟨rfl,rfl,trivial⟩
 cases q7 with
 | ret r'=>exact os hF
 | nx sq7 =>
  skip
  refine at_blk_same ?_
  refine tn (sr ?_)
  refine aw (r_load_aggc (c:=(cVec (cInt .u8) 4 (by decide))) (z:=sq7) isAgg159 sizeOf159 rfl (lens_cell .z lw)) ?_
  refine at_store (c:=(cVec (cInt .u8) 4 (by decide))) (z:=sq7) (.s .z) lw sizeOf159 rfl rfl rfl ?_
  refine aa (qn (dz (wq [3,2] ?_)))
  refine tn (qt ?_)
  have K:=os hF
  subst K
  exact at_res2 rfl (res_cell (c:=(cVec (cInt .u8) 4 (by decide))) (y:=sq7) rfl .z lw isAgg159 sizeOf159 (.inl rfl)) (res_tmp rfl) wb
def crawlwayref08_Text.l0(x0:(Vector Int 4))(i4:ByteArray)(i5:Int):Option (ByteArray) :=
 if (decide (i5<4))=true then (if i4.size+(⟨#[46]⟩:ByteArray).size≤140737488355328 then if (0:Int)≤i5∧i5<4 then crawlwayref03_Text (wr .u64 (vget x0 i5))>>=fun t9=>if (i4++(⟨#[46]⟩:ByteArray)).size+t9.size≤140737488355328 then crawlwayref08_Text.l0 x0 ((i4++(⟨#[46]⟩:ByteArray))++t9) (wr .i64 (i5+1)) else none else none else none) else (some i4)
 partial_fixpoint
def crawlwayref08_Text(x0:(Vector Int 4)):Option (ByteArray) :=
 crawlwayref03_Text (wr .u64 (vget x0 0))>>=fun t2=>crawlwayref08_Text.l0 x0 t2 1>>=fun q3=>some q3
theorem crawlwayref08_Text_ok(x0:(Vector Int 4))(r:ByteArray)(hF:crawlwayref08_Text x0=some r)(w:World) :
    Calls Tryz.prog 146 #[.agg (Cd.cs (cVec (cInt .u8) 4 (by decide)) x0).toArray] w (fun e w'=>e=.returned (.string r)∧Below w.heap.size w w'):=by
 unfold crawlwayref08_Text at hF
 refine ce (l:=[.agg (Cd.cs (cVec (cInt .u8) 4 (by decide)) x0).toArray]) func146 rfl rfl ?_
 refine at_start ?_
 refine sr ?_
 refine at_box (cs:=Cd.cs (cVec (cInt .u8) 4 (by decide)) x0) rfl rfl rfl ?_
 intro b1
 refine aa (ns ?_)
 refine aw (r_idxArr underlying159 sizeOf5 rfl rfl (by decide)) ?_
 refine aw (r_load_cell isAgg5 rfl (lens_cell0 (c:=(cInt .u8)) (y:=vget x0 0) .z (Lens.comp lw (fun z=>vset x0 0 z) (Lens.vec (cInt .u8) (by decide) x0 0 (by decide))) rfl)) ?_
 refine aw (r_conv underlying5 underlying31 rfl) ?_
 obtain ⟨t2,ht2,hF⟩:=bM hF
 refine cB func55 rfl (fun w hw=>crawlwayref03_Text_ok _ _ ht2 w) ?_
 refine aa (nt (qs (sr (aa (nwq [4,3,1] ?_)))))
 refine qb ?_
 obtain ⟨q3,hq3,hF⟩:=bM hF
 refine wq [4,3,1] ?_
 refine at_loop_n (B:=0) (A:=fun Y=>At 22 [(3,.string q3)] (Wd w []) Y) ?_ ?_
 ·intro K
  refine crawlwayref08_Text.l0.partial_correctness x0 (motive:=fun i4 i5 x=>KN (fun Y=>At 22 [(3,.string x)] (Wd w []) Y) _ 0→Round (fun Y=>At 22 [(1,.pointer (some ⟨b1,0,none⟩)),(3,.string i4),(4,.int .i64 i5)] (Wd w [cellsE b1 (Cd.cs (cVec (cInt .u8) 4 (by decide)) x0) 159]) Y) _ _ _) ?_ _ _ _ hq3 K
  ·clear K hF
   intro g ih i4 i5 x hF K
   refine at_round ?_
   refine qs (sr (am (aw xl (nwq [10,4,3,1] ?_))))
   obtain ⟨h6,hF⟩|⟨h6,hF⟩:=oi hF
   ·refine ct h6 ?_
    refine sn (qs ?_)
    refine qb ?_
    refine qr (am ?_)
    obtain ⟨h7,hF⟩:=gd hF
    refine aw (r_concat rfl rfl h7) ?_
    refine am ?_
    obtain ⟨h8,hF⟩:=gd hF
    refine aw (r_idxArr underlying159 sizeOf5 rfl rfl h8) ?_
    refine aw (r_load_cell isAgg5 rfl (lens_cell0 (c:=(cInt .u8)) (y:=vget x0 i5) .z (Lens.comp lw (fun z=>vset x0 i5 z) (Lens.vec (cInt .u8) (by decide) x0 i5 h8)) rfl)) ?_
    refine aw (r_conv underlying5 underlying31 rfl) ?_
    obtain ⟨t9,ht9,hF⟩:=bM hF
    refine cB func55 rfl (fun w hw=>crawlwayref03_Text_ok _ _ ht9 w) ?_
    obtain ⟨h10,hF⟩:=gd hF
    refine aw (r_concat rfl rfl h10) ?_
    refine aa (qn (wq [4,3,1] ?_))
    refine bm ?_
    refine qr (am (aw xa (aa (nwq [4,3,1] ?_))))
    exact at_weak_k (ih _ _ _ hF K) ⟨rfl,rfl,rfl,trivial⟩
   refine cf h6 ?_
   refine at_exit ?_
   refine te (te ?_)
   refine dz ?_
   obtain rfl:=os hF
   exact at_weak_k K ⟨rfl,trivial⟩
 skip
 skip
 refine at_blk_same ?_
 refine tn (sr (am (aa (nwq [2] ?_))))
 refine qt ?_
 have K:=os hF
 subst K
 exact r1 wb
def crawlwayref08_Parse.l0(t3:List ByteArray)(i9:Int)(i10:(Vector Int 4)):Option (Ctl ((Vector Int 4)×Int) ((Vector Int 4))) :=
 if (decide (i9<4))=true then (if (0:Int)≤i9∧i9<(t3.length:Int) then crawlwayref03_Read (lget t3 i9) 255>>=fun t16=>if (t16.2 != 0)=true then (some (.ret ((Vector.replicate 4 (0:Int):(Vector Int 4)),t16.2))) else (if (0:Int)≤i9∧i9<4 then crawlwayref08_Parse.l0 t3 (wr .i64 (i9+1)) (vset i10 i9 (wr .u8 t16.1)) else none) else none) else (some (.nx i10))
 partial_fixpoint
def crawlwayref08_Parse(x0:ByteArray):Option ((Vector Int 4)×Int) :=
 crawlwayref06_Parts x0 46>>=fun t3=>if ((t3.length:Int) != 4)=true then (some ((Vector.replicate 4 (0:Int):(Vector Int 4)),5)) else (crawlwayref08_Parse.l0 t3 0 (Vector.replicate 4 (0:Int):(Vector Int 4))>>=fun q7=>match q7 with | .ret r'=>some r' | .nx sq7=>(some (sq7,0)))
theorem crawlwayref08_Parse_ok(x0:ByteArray)(r:(Vector Int 4)×Int)(hF:crawlwayref08_Parse x0=some r)(w:World) :
    Calls Tryz.prog 120 #[.string x0] w (fun e w'=>e=.returned (.tuple #[.agg (Cd.cs (cVec (cInt .u8) 4 (by decide)) r.1).toArray,.int .i64 r.2])∧Below w.heap.size w w'):=by
 unfold crawlwayref08_Parse at hF
 refine ce (l:=[.string x0]) func120 rfl rfl ?_
 refine at_start ?_
 refine sr ?_
 refine al (cs:=Cd.cs (cVec (cInt .u8) 4 (by decide)) zv4) zeroValue159 ?_
 intro b1
 refine aa (ns ?_)
 refine al (cs:=Cd.cs (cVec (cInt .u8) 4 (by decide)) zv4) zeroValue159 ?_
 intro b2
 refine ns (am ?_)
 obtain ⟨t3,ht3,hF⟩:=bM hF
 refine at_callO (c:=cStr) (e:=9) (ys:=t3) (V:=fun p cap=>.slice p t3.length cap) func56 rfl (by kernel_rfl) rfl rfl (fun w hw=>crawlwayref06_Parts_ok _ _ _ ht3 w) ?_
 intro p4 c5
 refine aa (nt (qs (sr (am ?_))))
 refine aw (r_len_sl underlying38 rfl) ?_
 refine aw xn (nwq [13,5,4,2] ?_)
 obtain ⟨h6,hF⟩|⟨h6,hF⟩:=oi hF
 ·refine ct h6 ?_
  refine sr ?_
  refine aw (r_build_array (zs:=Cd.cs (cVec (cInt .u8) 4 (by decide)) zv4) (cs:=Cd.cs (cVec (cInt .u8) 4 (by decide)) zv4) underlying159 zeroValue159 rfl sizeOf5 rfl rfl) ?_
  refine at_store (c:=(cVec (cInt .u8) 4 (by decide))) (z:=zv4) (.s (.s .z)) lw sizeOf159 rfl rfl rfl ?_
  refine aa (qn (dz (dz (wq [3,2] ?_))))
  refine tn (rt ?_)
  have K:=os hF
  subst K
  exact at_res2 rfl (res_cell (c:=(cVec (cInt .u8) 4 (by decide))) (y:=zv4) rfl .z lw isAgg159 sizeOf159 (.inl rfl)) (res_tmp rfl) wb
 refine cf h6 ?_
 refine sn (qs (sr (aa (nwq [6,5,4,2] ?_))))
 refine qb ?_
 obtain ⟨q7,hq7,hF⟩:=bM hF
 refine wq [6,5,4,2] ?_
 refine at_loop_r (B:=0) (r:=r) (q:=q7) (A:=fun sq7 Y=>At 36 [(2,.pointer (some ⟨b1,0,none⟩)),(4,.pointer (some ⟨b2,0,none⟩))] (Wd w [cellsE b2 (Cd.cs (cVec (cInt .u8) 4 (by decide)) sq7) 159,cellsE b1 (Cd.cs (cVec (cInt .u8) 4 (by decide)) zv4) 159]) Y) ?_ ?_
 ·intro K
  refine crawlwayref08_Parse.l0.partial_correctness t3 (motive:=fun i9 i10 x=>KR (fun sq7 Y=>At 36 [(2,.pointer (some ⟨b1,0,none⟩)),(4,.pointer (some ⟨b2,0,none⟩))] (Wd w [cellsE b2 (Cd.cs (cVec (cInt .u8) 4 (by decide)) sq7) 159,cellsE b1 (Cd.cs (cVec (cInt .u8) 4 (by decide)) zv4) 159]) Y) _ 0 r x→Round (fun Y=>At 36 [(2,.pointer (some ⟨b1,0,none⟩)),(4,.pointer (some ⟨b2,0,none⟩)),(5,.slice p4 t3.length c5),(6,.int .i64 i9)] (Wd w [rowE cStr 9 p4 c5 t3,cellsE b2 (Cd.cs (cVec (cInt .u8) 4 (by decide)) i10) 159,cellsE b1 (Cd.cs (cVec (cInt .u8) 4 (by decide)) zv4) 159]) Y) _ _ _) ?_ _ _ _ hq7 K
  ·clear K hF
   intro g ih i9 i10 x hF K
   refine at_round ?_
   refine qs (sr (am (aw xl (nwq [16,6,5,4,2] ?_))))
   obtain ⟨h11,hF⟩|⟨h11,hF⟩:=oi hF
   ·refine ct h11 ?_
    refine sn (qs ?_)
    refine qb ?_
    refine sr (am (am ?_))
    obtain ⟨h12,hF⟩:=gd hF
    refine at_pure (φ:=∃ b o,p4=some ⟨b,o,none⟩) (fun _ hw=>row_ptr (hw.own .z).row h12) ?_
    rintro ⟨b14,o15,hp13⟩
    refine aw (r_idx underlying38 sizeOf9 rfl rfl h12 hp13) ?_
    refine aw (r_load_cell isAgg9 rfl (fun _ hw=>row_cell0 (W:=fun w1=>w1=_) (fun w1 h=>by subst h;exact Below.refl _ _) (hw.own .z).row h12 hp13 rfl _ rfl)) ?_
    obtain ⟨t16,ht16,hF⟩:=bM hF
    refine at_call0 func43 rfl (by kernel_rfl) rfl rfl (fun w=>crawlwayref03_Read_ok _ _ _ ht16 w) ?_
    refine am ?_
    refine aw xe (aw xe (aa (aa (nt (qs (sr (am (aw xn ?_))))))))
    refine nwq [28,8,7,6,5,4,2] ?_
    obtain ⟨h17,hF⟩|⟨h17,hF⟩:=oi hF
    ·refine ct h17 ?_
     refine sr ?_
     refine aw (r_build_array (zs:=Cd.cs (cVec (cInt .u8) 4 (by decide)) zv4) (cs:=Cd.cs (cVec (cInt .u8) 4 (by decide)) zv4) underlying159 zeroValue159 rfl sizeOf5 rfl rfl) ?_
     refine am ?_
     refine at_store (c:=(cVec (cInt .u8) 4 (by decide))) (z:=zv4) (.s (.s .z)) lw sizeOf159 rfl rfl rfl ?_
     refine aa (qn (dz (dz (wq [3,2] ?_))))
     refine tn (qt ?_)
     refine tr (br (tr (tr (br (tr ?_)))))
     obtain rfl:=os hF
     subst K
     exact at_res2 rfl (res_cell (c:=(cVec (cInt .u8) 4 (by decide))) (y:=zv4) rfl .z lw isAgg159 sizeOf159 (.inl rfl)) (res_tmp rfl) wb
    refine cf h17 ?_
    refine sn (qr (am (am ?_)))
    refine aw (r_conv underlying31 underlying5 rfl) ?_
    obtain ⟨h18,hF⟩:=gd hF
    refine aw (r_idxArr underlying159 sizeOf5 rfl rfl h18) ?_
    refine at_store (c:=(cInt .u8)) (z:=wr .u8 t16.1) (.s .z) (Lens.comp lw (fun z=>vset i10 i9 z) (Lens.vec (cInt .u8) (by decide) i10 i9 h18)) sizeOf5 rfl rfl rfl ?_
    refine qn (wq [6,5,4,2] ?_)
    refine bm ?_
    refine qr (am (aw xa (aa (nwq [6,5,4,2] ?_))))
    exact at_weak_k (ih _ _ _ hF K) ⟨rfl,rfl,rfl,rfl,trivial⟩
   refine cf h11 ?_
   refine at_exit ?_
   refine te (te ?_)
   refine dz ?_
   obtain rfl:=os hF
   exact at_weak_k K ⟨rfl,rfl,trivial⟩
 cases q7 with
 | ret r'=>exact os hF
 | nx sq7 =>
  skip
  refine at_blk_same ?_
  refine tn (sr ?_)
  refine aw (r_load_aggc (c:=(cVec (cInt .u8) 4 (by decide))) (z:=sq7) isAgg159 sizeOf159 rfl (lens_cell .z lw)) ?_
  refine at_store (c:=(cVec (cInt .u8) 4 (by decide))) (z:=sq7) (.s .z) lw sizeOf159 rfl rfl rfl ?_
  refine aa (qn (dz (wq [3,2] ?_)))
  refine tn (qt ?_)
  have K:=os hF
  subst K
  exact at_res2 rfl (res_cell (c:=(cVec (cInt .u8) 4 (by decide))) (y:=sq7) rfl .z lw isAgg159 sizeOf159 (.inl rfl)) (res_tmp rfl) wb
theorem infoG39_is:(Tryz.prog.info? 9).isSome=true:=by kernel_rfl
noncomputable def infoG39_v:TypeInfo:=(Tryz.prog.info? 9).get infoG39_is
theorem infoG39:Tryz.prog.info? 9=some infoG39_v:=(Option.some_get _).symm
def stringslite_HasPrefix(x0:ByteArray)(x1:ByteArray):Option (Bool) :=
 if (decide ((x0.size:Int)≥(x1.size:Int)))=true then (if (0:Int)≤0∧0≤(x1.size:Int)∧(x1.size:Int)≤(x0.size:Int) then some (seq (x0.extract (Int.toNat 0) (Int.toNat (x1.size:Int))) x1) else none) else (some false)
theorem stringslite_HasPrefix_ok(x0:ByteArray)(x1:ByteArray)(r:Bool)(hF:stringslite_HasPrefix x0 x1=some r)(w:World) :
    Calls Tryz.prog 216 #[.string x0,.string x1] w (fun e w'=>e=.returned (.bool r)∧w'=w):=by
 unfold stringslite_HasPrefix at hF
 refine ce (l:=[.string x0,.string x1]) func216 rfl rfl ?_
 refine sr (aa (nwx [1,0] ?_))
 refine am ?_
 refine aw (r_len_str underlying9 rfl) ?_
 refine am ?_
 refine aw (r_len_str underlying9 rfl) ?_
 refine aw (r_igeq rfl rfl) ?_
 refine am ?_
 obtain ⟨h1,hF⟩|⟨h1,hF⟩:=oi hF
 ·refine fx 10 h1 ?_
  refine gy ?_
  refine am ?_
  refine gy ?_
  refine am ?_
  refine gy ?_
  refine aw (r_len_str underlying9 rfl) ?_
  refine gy ?_
  obtain ⟨h2,hF⟩:=gd hF
  refine aw (r_slice_str underlying9 rfl rfl ⟨_,rfl⟩ h2) ?_
  refine gy ?_
  refine am ?_
  refine gy ?_
  refine aw (r_seql rfl rfl) ?_
  refine aw xp (aa (nwq [4] ?_))
  refine qt ?_
  have K:=os hF
  subst K
  exact r1 (fun w1 hw=>⟨rfl,hw⟩)
 refine fx 10 h1 ?_
 refine gn ?_
 refine gn ?_
 refine gn ?_
 refine gn ?_
 refine gn ?_
 refine gn ?_
 refine aw xp (aa (nwq [4] ?_))
 refine qt ?_
 have K:=os hF
 subst K
 exact r1 (fun w1 hw=>⟨rfl,hw⟩)
def strings_HasPrefix(x0:ByteArray)(x1:ByteArray):Option (Bool) :=
 stringslite_HasPrefix x0 x1>>=fun t1=>some t1
theorem strings_HasPrefix_ok(x0:ByteArray)(x1:ByteArray)(r:Bool)(hF:strings_HasPrefix x0 x1=some r)(w:World) :
    Calls Tryz.prog 217 #[.string x0,.string x1] w (fun e w'=>e=.returned (.bool r)∧w'=w):=by
 unfold strings_HasPrefix at hF
 refine ce (l:=[.string x0,.string x1]) func217 rfl rfl ?_
 refine sr (aa (ns (am (am ?_))))
 obtain ⟨t1,ht1,hF⟩:=bM hF
 refine at_call0 func216 rfl (by kernel_rfl) rfl rfl (fun w=>stringslite_HasPrefix_ok _ _ _ ht1 w) ?_
 refine aa (nwq [4] ?_)
 refine qt ?_
 have K:=os hF
 subst K
 exact r1 (fun w1 hw=>⟨rfl,hw⟩)
def hexes_value(x0:Int):Option (Int×Bool) :=
 some (wr .u16 (Lib.indexByte (⟨#[48,49,50,51,52,53,54,55,56,57,97,98,99,100,101,102]⟩:ByteArray).data.toList (Nat.toUInt8 (Int.toNat x0))),decide (Lib.indexByte (⟨#[48,49,50,51,52,53,54,55,56,57,97,98,99,100,101,102]⟩:ByteArray).data.toList (Nat.toUInt8 (Int.toNat x0))≥0))
theorem hexes_value_ok(x0:Int)(r:Int×Bool)(hF:hexes_value x0=some r)(w:World) :
    Calls Tryz.prog 174 #[.int .u8 x0] w (fun e w'=>e=.returned (.tuple #[.int .u16 r.1,.bool r.2])∧w'=w):=by
 unfold hexes_value at hF
 refine ce (l:=[.int .u8 x0]) func174 rfl rfl ?_
 refine sr (aa (aa (ns (am ?_))))
 refine at_call0 func144 rfl (by kernel_rfl) rfl rfl (fun w=>Tryz.strings_IndexByte _ _ w) ?_
 refine aa (ns (am ?_))
 refine aw (r_conv underlying3 underlying191 rfl) ?_
 refine am ?_
 refine aw (r_igeq rfl rfl) ?_
 refine aa (aa (nwq [3,2] ?_))
 refine qt ?_
 have K:=os hF
 subst K
 exact at_return2 rfl rfl rfl (fun w1 hw=>⟨rfl,hw⟩)
def hexes_small(x0:Int):Option (Int) :=
 if (decide (x0≥65))=true then (if (decide (x0≤70))=true then (some (ior .u8 x0 32)) else (some x0)) else (some x0)
theorem hexes_small_ok(x0:Int)(r:Int)(hF:hexes_small x0=some r)(w:World) :
    Calls Tryz.prog 235 #[.int .u8 x0] w (fun e w'=>e=.returned (.int .u8 r)∧w'=w):=by
 unfold hexes_small at hF
 refine ce (l:=[.int .u8 x0]) func235 rfl rfl ?_
 refine sr (aa (nwq [0] ?_))
 refine qs (sr (am ?_))
 refine aw (r_igeq rfl rfl) ?_
 refine am ?_
 obtain ⟨h1,hF⟩|⟨h1,hF⟩:=oi hF
 ·refine fx 5 h1 ?_
  refine gy ?_
  refine am ?_
  refine gy ?_
  refine aw (r_ileq rfl rfl) ?_
  refine aw xp (nwq [8,0] ?_)
  obtain ⟨h2,hF⟩|⟨h2,hF⟩:=oi hF
  ·refine ct h2 ?_
   refine sr (am ?_)
   refine aw (r_ior rfl rfl) ?_
   refine aa (nwq [2] ?_)
   refine rt ?_
   have K:=os hF
   subst K
   exact r1 (fun w1 hw=>⟨rfl,hw⟩)
  refine cf h2 ?_
  refine sns (am (aa (nwq [2] ?_)))
  refine qt ?_
  have K:=os hF
  subst K
  exact r1 (fun w1 hw=>⟨rfl,hw⟩)
 refine fx 5 h1 ?_
 refine gn ?_
 refine gn ?_
 refine aw xp (nwq [8,0] ?_)
 refine cf rfl ?_
 refine sns (am (aa (nwq [2] ?_)))
 refine qt ?_
 have K:=os hF
 subst K
 exact r1 (fun w1 hw=>⟨rfl,hw⟩)
def hexes_ReadGroup.l0(x0:ByteArray)(i4:Int)(i5:Int):Option (Ctl (Int×Int) (Int)) :=
 if (decide (i5<(x0.size:Int)))=true then (if (0:Int)≤i5∧i5<(x0.size:Int) then hexes_small (bt x0 i5)>>=fun t8=>hexes_value t8>>=fun t9=>if (!t9.2)=true then (some (.ret (0,5))) else (hexes_ReadGroup.l0 x0 (ior .u16 (ishl .u16 i4 4) t9.1) (wr .i64 (i5+1))) else none) else (some (.nx i4))
 partial_fixpoint
def hexes_ReadGroup(x0:ByteArray):Option (Int×Int) :=
 if (decide ((x0.size:Int)<1))=true then (some (0,5)) else (if (decide ((x0.size:Int)>4))=true then (some (0,5)) else (hexes_ReadGroup.l0 x0 0 0>>=fun q3=>match q3 with | .ret r'=>some r' | .nx sq3=>(some (sq3,0))))
theorem hexes_ReadGroup_ok(x0:ByteArray)(r:Int×Int)(hF:hexes_ReadGroup x0=some r)(w:World) :
    Calls Tryz.prog 219 #[.string x0] w (fun e w'=>e=.returned (.tuple #[.int .u16 r.1,.int .i64 r.2])∧w'=w):=by
 unfold hexes_ReadGroup at hF
 refine ce (l:=[.string x0]) func219 rfl rfl ?_
 refine sr (aa (aa (nwq [0] ?_)))
 refine qs (sr (am ?_))
 refine aw (r_len_str underlying9 rfl) ?_
 refine aw xl (am ?_)
 obtain ⟨h1,hF⟩|⟨h1,hF⟩:=oi hF
 ·refine fx 11 h1 ?_
  refine gn ?_
  refine gn ?_
  refine gn ?_
  refine aw xp (nwq [15,0] ?_)
  refine ct rfl ?_
  refine sr (aa (aa (nwq [3,2] ?_)))
  refine rt ?_
  have K:=os hF
  subst K
  exact at_return2 rfl rfl rfl (fun w1 hw=>⟨rfl,hw⟩)
 refine fx 11 h1 ?_
 refine gy ?_
 refine am ?_
 refine gy ?_
 refine aw (r_len_str underlying9 rfl) ?_
 refine gy ?_
 refine aw (r_igtr rfl rfl) ?_
 refine aw xp (nwq [15,0] ?_)
 obtain ⟨h2,hF⟩|⟨h2,hF⟩:=oi hF
 ·refine ct h2 ?_
  refine sr (aa (aa (nwq [3,2] ?_)))
  refine rt ?_
  have K:=os hF
  subst K
  exact at_return2 rfl rfl rfl (fun w1 hw=>⟨rfl,hw⟩)
 refine cf h2 ?_
 refine sns (aa (nt (qs (sr (am ?_)))))
 refine aw (r_len_str underlying9 rfl) ?_
 refine am (nwq [18,17,4,0] ?_)
 refine qb ?_
 obtain ⟨q3,hq3,hF⟩:=bM hF
 refine wq [18,17,4,0] ?_
 refine at_loop_r (B:=0) (r:=r) (q:=q3) (A:=fun sq3 Y=>At 37 [(4,.int .u16 sq3)] (fun w'=>w'=w) Y) ?_ ?_
 ·intro K
  refine hexes_ReadGroup.l0.partial_correctness x0 (motive:=fun i4 i5 x=>KR (fun sq3 Y=>At 37 [(4,.int .u16 sq3)] (fun w'=>w'=w) Y) _ 0 r x→Round (fun Y=>At 37 [(0,.string x0),(4,.int .u16 i4),(17,.int .i64 (x0.size:Int)),(18,.int .i64 i5)] (fun w'=>w'=w) Y) _ _ _) ?_ _ _ _ hq3 K
  ·clear K hF
   intro g ih i4 i5 x hF K
   refine at_round ?_
   refine sr (aw xl (nwq [19,18,17,4,0] ?_))
   refine qs ?_
   obtain ⟨h6,hF⟩|⟨h6,hF⟩:=oi hF
   ·refine ct h6 ?_
    refine sn (qs ?_)
    refine qb ?_
    refine sr (am (aa (ns (am (am ?_)))))
    obtain ⟨h7,hF⟩:=gd hF
    refine aw (r_index_str underlying9 rfl rfl h7) ?_
    obtain ⟨t8,ht8,hF⟩:=bM hF
    refine at_call0 func235 rfl (by kernel_rfl) rfl rfl (fun w=>hexes_small_ok _ _ ht8 w) ?_
    obtain ⟨t9,ht9,hF⟩:=bM hF
    refine at_call0 func174 rfl (by kernel_rfl) rfl rfl (fun w=>hexes_value_ok _ _ ht9 w) ?_
    refine am ?_
    refine aw xe (aw xe (aa (aa (nt (qs (sr (am ?_)))))))
    refine aw (r_not rfl) ?_
    refine nwq [30,18,17,6,4,0] ?_
    obtain ⟨h10,hF⟩|⟨h10,hF⟩:=oi hF
    ·refine ct h10 ?_
     refine sr (aa (aa (nwq [3,2] ?_)))
     refine qt ?_
     refine tr (br (tr (tr (br (tr ?_)))))
     obtain rfl:=os hF
     subst K
     exact at_return2 rfl rfl rfl (fun w1 hw=>⟨rfl,hw⟩)
    refine cf h10 ?_
    refine sn (qr (am ?_))
    refine aw (r_ishl rfl rfl (by decide)) ?_
    refine am ?_
    refine aw (r_ior rfl rfl) ?_
    refine aa (qn (wq [18,17,4,0] ?_))
    refine bm ?_
    refine qr (aw xa (am (nwq [18,17,4,0] ?_)))
    exact at_weak_k (ih _ _ _ hF K) ⟨rfl,rfl,rfl,rfl,trivial⟩
   refine cf h6 ?_
   refine at_exit ?_
   refine te (te ?_)
   obtain rfl:=os hF
   exact at_weak_k K ⟨rfl,trivial⟩
 cases q3 with
 | ret r'=>exact os hF
 | nx sq3 =>
  skip
  refine at_blk_same ?_
  refine tn (sr (am (aa (aa (nwq [3,2] ?_)))))
  refine qt ?_
  have K:=os hF
  subst K
  exact at_return2 rfl rfl rfl (fun w1 hw=>⟨rfl,hw⟩)
def colon_reader_put(x0:S_colon_reader)(x1:Int):Option (Bool×S_colon_reader) :=
 if (x0.f_n==8)=true then (some (false,x0)) else (if (0:Int)≤x0.f_n∧x0.f_n<8 then some (true,{ { x0 with f_g:=vset x0.f_g x0.f_n x1 } with f_n:=wr .i64 ((({ x0 with f_g:=vset x0.f_g x0.f_n x1 }).f_n)+1) }) else none)
set_option maxHeartbeats 3200000 in
theorem colon_reader_put_ok(x0:S_colon_reader)(b0_:Nat)(x1:Int)(r:Bool×S_colon_reader)(hF:colon_reader_put x0 x1=some r)(w:World){w0:World}{H_ G_:List Ent}{f_:Ent→List Ent}(hu_:Upd H_ (cellsE b0_ (Cd.cs c_colon_reader x0) 210) f_ G_)(hw_:Wd w0 H_ w) :
    Calls Tryz.prog 220 #[.pointer (some ⟨b0_,0,none⟩),.int .u16 x1] w (fun e w'=>e=.returned (.bool r.1)∧Wd w0 (f_ (cellsE b0_ (Cd.cs c_colon_reader r.2) 210)) w'):=by
 unfold colon_reader_put at hF
 refine ce (l:=[.pointer (some ⟨b0_,0,none⟩),.int .u16 x1]) func220 rfl rfl ?_
 refine at_enter_ptr hu_ hw_ ?_
 refine sr (aa (nt (qs (sr (am ?_)))))
 refine aw (r_nilCheck rfl) ?_
 refine fa 8 underlying210 rfl sizeOf3 ?_
 refine aw (r_load_cell isAgg3 rfl (lens_cell0 (c:=(cInt .i64)) (y:=x0.f_n) (Upd.again hu_ _) (Lens.comp lw (fun z=>{ x0 with f_n:=z }) (c_colon_reader_f_n x0)) rfl)) ?_
 refine aw xq (nwq [9,1,0] ?_)
 obtain ⟨h1,hF⟩|⟨h1,hF⟩:=oi hF
 ·refine ct h1 ?_
  refine sr (aa (nwq [4] ?_))
  refine rt ?_
  have K:=os hF
  subst K
  exact r1 (fun w1 hw=>⟨rfl,hw⟩)
 refine cf h1 ?_
 refine sn (qs (wq [1,0] ?_))
 obtain ⟨h2,hF⟩:=gd hF
 refine at_inv [.q 10 (fun g3=>.pointer (some ⟨b0_,0,none⟩)) [] 0 0,.q 11 (fun g3=>.pointer (some ⟨b0_,0,none⟩)) [] 0 0,.q 12 (fun g3=>.pointer (some ⟨b0_,0,none⟩)) [1] 0 0,.q 13 (fun g3=>.pointer (some ⟨b0_,0+8,none⟩)) [2] 0 0,.q 14 (fun g3=>.int .i64 x0.f_n) [3] 0 0,.q 15 (fun g3=>.int .u16 x1) [] 0 0,.q 16 (fun g3=>.pointer (some ⟨b0_,0,none⟩)) [0] 0 0,.q 17 (fun g3=>.pointer (some ⟨b0_,0+0,none⟩)) [6] 0 0,.q 18 (fun g3=>.pointer (some ⟨b0_,0+0+Int.toNat x0.f_n*1,none⟩)) [4,7] 0 0,.st 0 none [5,8]] (fun g3 s=>match s with | 0=>(Wd w0 (f_ (cellsE b0_ (Cd.cs c_colon_reader x0) 210))) | _=>(Wd w0 (f_ (cellsE b0_ (Cd.cs c_colon_reader ({ x0 with f_g:=vset x0.f_g x0.f_n x1 })) 210)))) 1 (by kernel_rfl) (by kernel_rfl) (by kernel_rfl) (by kernel_rfl) (by kernel_rfl) ⟨fun _ _ _=>rfl,fun _ _ _=>rfl,fun _ _ _=>rfl,fun _ _ _=>rfl,fun _ _ _=>rfl,fun _ _ _=>rfl,fun _ _ _=>rfl,fun _ _ _=>rfl,fun _ _ _=>rfl,fun _ _ _=>rfl,trivial⟩ (by kernel_rfl) (fun w_ h=>⟨fun _=>g3 0 none 0 none w_,h.drew⟩) ⟨?_,?_,?_,?_,?_,?_,?_,?_,?_,?_,trivial⟩ ?_
 ·intro Lx g3 s K hl hh k
  show At 26 ((0,_)::(1,_)::Lx) _ _
  refine am ?_
  exact at_nil k
 ·intro Lx g3 s K hl hh k
  show At 26 ((0,_)::(1,_)::Lx) _ _
  refine am ?_
  exact at_nil k
 ·intro Lx g3 s K hl hh k
  show At 26 ((11,_)::(0,_)::(1,_)::Lx) _ _
  refine aw (r_nilCheck rfl) ?_
  exact at_nil k
 ·intro Lx g3 s K hl hh k
  show At 26 ((12,_)::(0,_)::(1,_)::Lx) _ _
  refine fa 8 underlying210 rfl sizeOf3 ?_
  exact at_nil k
 ·intro Lx g3 s K hl hh k
  show At 26 ((13,_)::(0,_)::(1,_)::Lx) _ _
  obtain rfl:s=0:=by omega
  refine aw (r_load_cell isAgg3 rfl (lens_cell0 (c:=(cInt .i64)) (y:=x0.f_n) (Upd.again hu_ _) (Lens.comp lw (fun z=>{ x0 with f_n:=z }) (c_colon_reader_f_n x0)) rfl)) ?_
  exact at_nil k
 ·intro Lx g3 s K hl hh k
  show At 26 ((0,_)::(1,_)::Lx) _ _
  refine am ?_
  exact at_nil k
 ·intro Lx g3 s K hl hh k
  show At 26 ((10,_)::(0,_)::(1,_)::Lx) _ _
  refine aw (r_nilCheck rfl) ?_
  exact at_nil k
 ·intro Lx g3 s K hl hh k
  show At 26 ((16,_)::(0,_)::(1,_)::Lx) _ _
  refine fa 0 underlying210 rfl sizeOf208 ?_
  exact at_nil k
 ·intro Lx g3 s K hl hh k
  show At 26 ((14,_)::(17,_)::(0,_)::(1,_)::Lx) _ _
  refine aw (r_idxArr underlying208 sizeOf191 rfl rfl h2) ?_
  exact at_nil k
 ·intro Lx g3 K k
  show At 26 ((15,_)::(18,_)::(0,_)::(1,_)::Lx) _ _
  refine at_store (c:=(cInt .u16)) (z:=x1) (Upd.again hu_ _) (Lens.comp (Lens.comp lw (fun z=>{ x0 with f_g:=z }) (c_colon_reader_f_g x0)) (fun z=>vset x0.f_g x0.f_n z) (Lens.vec (cInt .u16) (by decide) x0.f_g x0.f_n h2)) sizeOf191 rfl rfl rfl ?_
  exact at_nil k
 intro g3
 show At 26 [(10,_),(11,_),(12,_),(13,_),(14,_),(15,_),(16,_),(17,_),(18,_),(0,_),(1,_)] _ _
 refine tn (sr (am ?_))
 refine aw (r_nilCheck rfl) ?_
 refine fa 8 underlying210 rfl sizeOf3 ?_
 refine aw (r_load_cell isAgg3 rfl (lens_cell0 (c:=(cInt .i64)) (y:=({ x0 with f_g:=vset x0.f_g x0.f_n x1 }).f_n) (Upd.again hu_ _) (Lens.comp lw (fun z=>{ { x0 with f_g:=vset x0.f_g x0.f_n x1 } with f_n:=z }) (c_colon_reader_f_n ({ x0 with f_g:=vset x0.f_g x0.f_n x1 }))) rfl)) ?_
 refine aw xa ?_
 refine aw (r_nilCheck rfl) ?_
 refine fa 8 underlying210 rfl sizeOf3 ?_
 refine at_store (c:=(cInt .i64)) (z:=wr .i64 ((({ x0 with f_g:=vset x0.f_g x0.f_n x1 }).f_n)+1)) (Upd.again hu_ _) (Lens.comp lw (fun z=>{ { x0 with f_g:=vset x0.f_g x0.f_n x1 } with f_n:=z }) (c_colon_reader_f_n ({ x0 with f_g:=vset x0.f_g x0.f_n x1 }))) sizeOf3 rfl rfl rfl ?_
 refine nws [] trivial ?_
 refine aa (nwq [4] ?_)
 refine qt ?_
 have K:=os hF
 subst K
 exact r1 (fun w1 hw=>⟨rfl,hw⟩)
def colon_reader_tail(x0:S_colon_reader)(x1:ByteArray):Option (Bool×S_colon_reader) :=
 hexes_ReadGroup x1>>=fun t1=>if (t1.2==0)=true then (colon_reader_put x0 t1.1>>=fun t3=>some (t3.1,t3.2)) else (quad_Parse x1>>=fun t4=>if (t4.2==0)=true then (colon_reader_put x0 (ior .u16 (ishl .u16 (wr .u16 (vget t4.1 0)) 8) (wr .u16 (vget t4.1 1)))>>=fun t7=>if t7.1=true then (colon_reader_put t7.2 (ior .u16 (ishl .u16 (wr .u16 (vget t4.1 2)) 8) (wr .u16 (vget t4.1 3)))>>=fun t9=>some (t9.1,t9.2)) else (some (false,t7.2))) else (some (false,x0)))
theorem colon_reader_tail_ok(x0:S_colon_reader)(b0_:Nat)(x1:ByteArray)(r:Bool×S_colon_reader)(hF:colon_reader_tail x0 x1=some r)(w:World){w0:World}{H_ G_:List Ent}{f_:Ent→List Ent}(hu_:Upd H_ (cellsE b0_ (Cd.cs c_colon_reader x0) 210) f_ G_)(hw_:Wd w0 H_ w)(hg_strconv_ErrRange:GV_strconv_ErrRange w0)(hg_strconv_ErrSyntax:GV_strconv_ErrSyntax w0) :
    Calls Tryz.prog 218 #[.pointer (some ⟨b0_,0,none⟩),.string x1] w (fun e w'=>e=.returned (.bool r.1)∧Wd w0 (f_ (cellsE b0_ (Cd.cs c_colon_reader r.2) 210)) w'):=by
 unfold colon_reader_tail at hF
 refine ce (l:=[.pointer (some ⟨b0_,0,none⟩),.string x1]) func218 rfl rfl ?_
 refine at_enter_ptr hu_ hw_ ?_
 refine sr (aa (nt (qs (sr (am ?_)))))
 obtain ⟨t1,ht1,hF⟩:=bM hF
 refine at_call0 func219 rfl (by kernel_rfl) rfl rfl (fun w=>hexes_ReadGroup_ok _ _ ht1 w) ?_
 refine am ?_
 refine aw xe (aw xe (aa (aa (ns (am (aw xq (nwq [15,5,1,0] ?_)))))))
 obtain ⟨h2,hF⟩|⟨h2,hF⟩:=oi hF
 ·refine ct h2 ?_
  refine sr (am (am ?_))
  obtain ⟨t3,ht3,hF⟩:=bM hF
  refine at_callP (E':=cellsE b0_ (Cd.cs c_colon_reader t3.2) 210) func220 rfl (by kernel_rfl) rfl rfl (fun w hw=>colon_reader_put_ok _ _ _ _ ht3 w (Upd.again hu_ _) hw) ?_
  refine aa (nwq [4] ?_)
  refine rt ?_
  have K:=os hF
  subst K
  exact r1 (fun w1 hw=>⟨rfl,hw⟩)
 refine cf h2 ?_
 refine sns (am ?_)
 obtain ⟨t4,ht4,hF⟩:=bM hF
 refine cB func181 rfl (fun w hw=>quad_Parse_ok _ _ ht4 w (hg_strconv_ErrRange.on hw.below) (hg_strconv_ErrSyntax.on hw.below)) ?_
 refine am ?_
 refine aw xe (aw xe ?_)
 refine al (cs:=Cd.cs (cVec (cInt .u8) 4 (by decide)) zv4) zeroValue159 ?_
 intro b5
 refine at_store (c:=(cVec (cInt .u8) 4 (by decide))) (z:=t4.1) .z lw sizeOf159 rfl rfl rfl ?_
 refine aa (nwx [8,7,0] ?_)
 refine am (aw xq (am ?_))
 obtain ⟨h6,hF⟩|⟨h6,hF⟩:=oi hF
 ·refine fx 26 h6 ?_
  refine gy ?_
  refine am ?_
  refine gy ?_
  refine aw (r_idxArr underlying159 sizeOf5 rfl rfl (by decide)) ?_
  refine gy ?_
  refine aw (r_load_cell isAgg5 rfl (lens_cell0 (c:=(cInt .u8)) (y:=vget t4.1 0) .z (Lens.comp lw (fun z=>vset t4.1 0 z) (Lens.vec (cInt .u8) (by decide) t4.1 0 (by decide))) rfl)) ?_
  refine gy ?_
  refine aw (r_conv underlying5 underlying191 rfl) ?_
  refine gy ?_
  refine aw (r_ishl rfl rfl (by decide)) ?_
  refine gy ?_
  refine aw (r_idxArr underlying159 sizeOf5 rfl rfl (by decide)) ?_
  refine gy ?_
  refine aw (r_load_cell isAgg5 rfl (lens_cell0 (c:=(cInt .u8)) (y:=vget t4.1 1) .z (Lens.comp lw (fun z=>vset t4.1 1 z) (Lens.vec (cInt .u8) (by decide) t4.1 1 (by decide))) rfl)) ?_
  refine gy ?_
  refine aw (r_conv underlying5 underlying191 rfl) ?_
  refine gy ?_
  refine aw (r_ior rfl rfl) ?_
  refine gy ?_
  obtain ⟨t7,ht7,hF⟩:=bM hF
  refine at_callP (E':=cellsE b0_ (Cd.cs c_colon_reader t7.2) 210) func220 rfl (by kernel_rfl) rfl rfl (fun w hw=>colon_reader_put_ok _ _ _ _ ht7 w (.s (Upd.again hu_ _)) hw) ?_
  refine aw xp (am ?_)
  obtain ⟨h8,hF⟩|⟨h8,hF⟩:=oi hF
  ·refine fx 38 h8 ?_
   refine gy ?_
   refine am ?_
   refine gy ?_
   refine aw (r_idxArr underlying159 sizeOf5 rfl rfl (by decide)) ?_
   refine gy ?_
   refine aw (r_load_cell isAgg5 rfl (lens_cell0 (c:=(cInt .u8)) (y:=vget t4.1 2) .z (Lens.comp lw (fun z=>vset t4.1 2 z) (Lens.vec (cInt .u8) (by decide) t4.1 2 (by decide))) rfl)) ?_
   refine gy ?_
   refine aw (r_conv underlying5 underlying191 rfl) ?_
   refine gy ?_
   refine aw (r_ishl rfl rfl (by decide)) ?_
   refine gy ?_
   refine aw (r_idxArr underlying159 sizeOf5 rfl rfl (by decide)) ?_
   refine gy ?_
   refine aw (r_load_cell isAgg5 rfl (lens_cell0 (c:=(cInt .u8)) (y:=vget t4.1 3) .z (Lens.comp lw (fun z=>vset t4.1 3 z) (Lens.vec (cInt .u8) (by decide) t4.1 3 (by decide))) rfl)) ?_
   refine gy ?_
   refine aw (r_conv underlying5 underlying191 rfl) ?_
   refine gy ?_
   refine aw (r_ior rfl rfl) ?_
   refine gy ?_
   obtain ⟨t9,ht9,hF⟩:=bM hF
   refine at_callP (E':=cellsE b0_ (Cd.cs c_colon_reader t9.2) 210) func220 rfl (by kernel_rfl) rfl rfl (fun w hw=>colon_reader_put_ok _ _ _ _ ht9 w (.s (Upd.again hu_ _)) hw) ?_
   refine aw xp (aa (qn (dz (wq [4] ?_))))
   refine tn (qt ?_)
   have K:=os hF
   subst K
   exact r1 (fun w1 hw=>⟨rfl,hw⟩)
  refine fx 38 h8 ?_
  refine gn ?_
  refine gn ?_
  refine gn ?_
  refine gn ?_
  refine gn ?_
  refine gn ?_
  refine gn ?_
  refine gn ?_
  refine gn ?_
  refine gn ?_
  refine aw xp (aa (qn (dz (wq [4] ?_))))
  refine tn (qt ?_)
  have K:=os hF
  subst K
  exact r1 (fun w1 hw=>⟨rfl,hw⟩)
 refine fx 26 h6 ?_
 refine gn ?_
 refine gn ?_
 refine gn ?_
 refine gn ?_
 refine gn ?_
 refine gn ?_
 refine gn ?_
 refine gn ?_
 refine gn ?_
 refine gn ?_
 refine aw xp (am ?_)
 refine gn ?_
 refine gn ?_
 refine gn ?_
 refine gn ?_
 refine gn ?_
 refine gn ?_
 refine gn ?_
 refine gn ?_
 refine gn ?_
 refine gn ?_
 refine aw xp (aa (qn (dz (wq [4] ?_))))
 refine tn (qt ?_)
 have K:=os hF
 subst K
 exact r1 (fun w1 hw=>⟨rfl,hw⟩)
def colon_reader_read.l0(i6:ByteArray)(i7:S_colon_reader):Option (Bool×S_colon_reader) :=
 lines_Cut i6 58>>=fun t8=>if (!t8.2.2)=true then (colon_reader_tail i7 t8.1>>=fun t10=>some (t10.1,t10.2)) else (hexes_ReadGroup t8.1>>=fun t11=>if (t11.2 != 0)=true then (some (false,i7)) else (colon_reader_put i7 t11.1>>=fun t13=>if (!t13.1)=true then (some (false,t13.2)) else (strings_HasPrefix t8.2.1 (⟨#[58]⟩:ByteArray)>>=fun t15=>if (!t15)=true then (colon_reader_read.l0 t8.2.1 t13.2) else (if (decide (t13.2.f_gap≥0))=true then (some (false,t13.2)) else (if (0:Int)≤1∧1≤(t8.2.1.size:Int)∧(t8.2.1.size:Int)≤(t8.2.1.size:Int) then if (seq (t8.2.1.extract (Int.toNat 1) (Int.toNat (t8.2.1.size:Int))) (⟨#[]⟩:ByteArray))=true then (some (true,{ t13.2 with f_gap:=t13.2.f_n })) else (colon_reader_read.l0 (t8.2.1.extract (Int.toNat 1) (Int.toNat (t8.2.1.size:Int))) ({ t13.2 with f_gap:=t13.2.f_n })) else none)))))
 partial_fixpoint
def colon_reader_read.l1(i21:ByteArray)(i22:S_colon_reader):Option (Bool×S_colon_reader) :=
 lines_Cut i21 58>>=fun t23=>if (!t23.2.2)=true then (colon_reader_tail i22 t23.1>>=fun t25=>some (t25.1,t25.2)) else (hexes_ReadGroup t23.1>>=fun t26=>if (t26.2 != 0)=true then (some (false,i22)) else (colon_reader_put i22 t26.1>>=fun t28=>if (!t28.1)=true then (some (false,t28.2)) else (strings_HasPrefix t23.2.1 (⟨#[58]⟩:ByteArray)>>=fun t30=>if (!t30)=true then (colon_reader_read.l1 t23.2.1 t28.2) else (if (decide (t28.2.f_gap≥0))=true then (some (false,t28.2)) else (if (0:Int)≤1∧1≤(t23.2.1.size:Int)∧(t23.2.1.size:Int)≤(t23.2.1.size:Int) then if (seq (t23.2.1.extract (Int.toNat 1) (Int.toNat (t23.2.1.size:Int))) (⟨#[]⟩:ByteArray))=true then (some (true,{ t28.2 with f_gap:=t28.2.f_n })) else (colon_reader_read.l1 (t23.2.1.extract (Int.toNat 1) (Int.toNat (t23.2.1.size:Int))) ({ t28.2 with f_gap:=t28.2.f_n })) else none)))))
 partial_fixpoint
def colon_reader_read(x0:S_colon_reader)(x1:ByteArray):Option (Bool×S_colon_reader) :=
 strings_HasPrefix x1 (⟨#[58,58]⟩:ByteArray)>>=fun t1=>if t1=true then (if (0:Int)≤2∧2≤(x1.size:Int)∧(x1.size:Int)≤(x1.size:Int) then if (seq (x1.extract (Int.toNat 2) (Int.toNat (x1.size:Int))) (⟨#[]⟩:ByteArray))=true then (some (true,{ x0 with f_gap:=0 })) else (colon_reader_read.l0 (x1.extract (Int.toNat 2) (Int.toNat (x1.size:Int))) ({ x0 with f_gap:=0 })>>=fun q5=>some q5) else none) else (colon_reader_read.l1 x1 x0>>=fun q20=>some q20)
theorem colon_reader_read_ok(x0:S_colon_reader)(b0_:Nat)(x1:ByteArray)(r:Bool×S_colon_reader)(hF:colon_reader_read x0 x1=some r)(w:World){w0:World}{H_ G_:List Ent}{f_:Ent→List Ent}(hu_:Upd H_ (cellsE b0_ (Cd.cs c_colon_reader x0) 210) f_ G_)(hw_:Wd w0 H_ w)(hg_strconv_ErrRange:GV_strconv_ErrRange w0)(hg_strconv_ErrSyntax:GV_strconv_ErrSyntax w0) :
    Calls Tryz.prog 197 #[.pointer (some ⟨b0_,0,none⟩),.string x1] w (fun e w'=>e=.returned (.bool r.1)∧Wd w0 (f_ (cellsE b0_ (Cd.cs c_colon_reader r.2) 210)) w'):=by
 unfold colon_reader_read at hF
 refine ce (l:=[.pointer (some ⟨b0_,0,none⟩),.string x1]) func197 rfl rfl ?_
 refine at_enter_ptr hu_ hw_ ?_
 refine sr (aa (nt (qs (sr (am ?_)))))
 obtain ⟨t1,ht1,hF⟩:=bM hF
 refine at_call0 func217 rfl (by kernel_rfl) rfl rfl (fun w=>strings_HasPrefix_ok _ _ _ ht1 w) ?_
 refine nwq [11,1,0] ?_
 obtain ⟨h2,hF⟩|⟨h2,hF⟩:=oi hF
 ·refine ct h2 ?_
  refine sr (am ?_)
  refine aw (r_nilCheck rfl) ?_
  refine fa 9 underlying210 rfl sizeOf3 ?_
  refine at_store (c:=(cInt .i64)) (z:=0) (Upd.again hu_ _) (Lens.comp lw (fun z=>{ x0 with f_gap:=z }) (c_colon_reader_f_gap x0)) sizeOf3 rfl rfl rfl ?_
  refine ns (am ?_)
  obtain ⟨h3,hF⟩:=gd hF
  refine aw (r_slice_str underlying9 rfl ⟨_,rfl⟩ rfl h3) ?_
  refine aa (ns (am ?_))
  refine aw (r_seql rfl rfl) ?_
  refine nwq [18,1,0] ?_
  obtain ⟨h4,hF⟩|⟨h4,hF⟩:=oi hF
  ·refine ct h4 ?_
   refine sr (aa (nwq [4] ?_))
   refine rt ?_
   have K:=os hF
   subst K
   exact r1 (fun w1 hw=>⟨rfl,hw⟩)
  refine cf h4 ?_
  refine sn ?_
  refine qb ?_
  obtain ⟨q5,hq5,hF⟩:=bM hF
  refine wq [1,0] ?_
  refine at_loop_only (r:=r) (q:=q5) ?_ ?_
  ·intro K
   refine colon_reader_read.l0.partial_correctness  (motive:=fun i6 i7 x=>x=r→Round (fun Y=>At 63 [(0,.pointer (some ⟨b0_,0,none⟩)),(1,.string i6)] (Wd w0 (f_ (cellsE b0_ (Cd.cs c_colon_reader i7) 210))) Y) _ _ _) ?_ _ _ _ hq5 K
   ·clear K hF
    intro g ih i6 i7 x hF K
    refine at_round ?_
    refine qb ?_
    refine sr (am ?_)
    obtain ⟨t8,ht8,hF⟩:=bM hF
    refine cB func86 rfl (fun w hw=>lines_Cut_ok _ _ _ ht8 w) ?_
    refine am ?_
    refine aw xe (aw xe (aw xe (aa (aa (aa (nt (qs (sr ?_))))))))
    refine am ?_
    refine aw (r_not rfl) ?_
    refine nwq [26,6,5,0] ?_
    obtain ⟨h9,hF⟩|⟨h9,hF⟩:=oi hF
    ·refine ct h9 ?_
     refine sr (am (am ?_))
     obtain ⟨t10,ht10,hF⟩:=bM hF
     refine at_callP (E':=cellsE b0_ (Cd.cs c_colon_reader t10.2) 210) func218 rfl (by kernel_rfl) rfl rfl (fun w hw=>colon_reader_tail_ok _ _ _ _ ht10 w (Upd.again hu_ _) hw hg_strconv_ErrRange hg_strconv_ErrSyntax) ?_
     refine aa (nwq [4] ?_)
     refine qt ?_
     refine tr (br (tr (br ?_)))
     obtain rfl:=os hF
     subst K
     exact r1 (fun w1 hw=>⟨rfl,hw⟩)
    refine cf h9 ?_
    refine sns (am ?_)
    obtain ⟨t11,ht11,hF⟩:=bM hF
    refine at_call0 func219 rfl (by kernel_rfl) rfl rfl (fun w=>hexes_ReadGroup_ok _ _ ht11 w) ?_
    refine am ?_
    refine aw xe (aw xe (aa (aa (nwq [9,8,6,0] ?_))))
    refine qs (sr (am (aw xn (am ?_))))
    obtain ⟨h12,hF⟩|⟨h12,hF⟩:=oi hF
    ·refine fx 37 h12 ?_
     refine gn ?_
     refine gn ?_
     refine gn ?_
     refine gn ?_
     refine aw xp (nwq [42,6,0] ?_)
     refine ct rfl ?_
     refine sr (aa (nwq [4] ?_))
     refine qt ?_
     refine tr (br (tr (br ?_)))
     obtain rfl:=os hF
     subst K
     exact r1 (fun w1 hw=>⟨rfl,hw⟩)
    refine fx 37 h12 ?_
    refine gy ?_
    refine am ?_
    refine gy ?_
    refine am ?_
    refine gy ?_
    obtain ⟨t13,ht13,hF⟩:=bM hF
    refine at_callP (E':=cellsE b0_ (Cd.cs c_colon_reader t13.2) 210) func220 rfl (by kernel_rfl) rfl rfl (fun w hw=>colon_reader_put_ok _ _ _ _ ht13 w (Upd.again hu_ _) hw) ?_
    refine gy ?_
    refine aw (r_not rfl) ?_
    refine aw xp (nwq [42,6,0] ?_)
    obtain ⟨h14,hF⟩|⟨h14,hF⟩:=oi hF
    ·refine ct h14 ?_
     refine sr (aa (nwq [4] ?_))
     refine qt ?_
     refine tr (br (tr (br ?_)))
     obtain rfl:=os hF
     subst K
     exact r1 (fun w1 hw=>⟨rfl,hw⟩)
    refine cf h14 ?_
    refine sns (am (aa (nt (qs (sr (am ?_))))))
    obtain ⟨t15,ht15,hF⟩:=bM hF
    refine at_call0 func217 rfl (by kernel_rfl) rfl rfl (fun w=>strings_HasPrefix_ok _ _ _ ht15 w) ?_
    refine aw (r_not rfl) ?_
    refine nwq [46,1,0] ?_
    obtain ⟨h16,hF⟩|⟨h16,hF⟩:=oi hF
    ·refine ct h16 ?_
     refine at_exit ?_
     refine te (at_blk_same (tn ?_))
     exact at_weak_k (ih _ _ _ hF K) ⟨rfl,rfl,trivial⟩
    refine cf h16 ?_
    refine sn (qs (sr (am ?_)))
    refine aw (r_nilCheck rfl) ?_
    refine fa 9 underlying210 rfl sizeOf3 ?_
    refine aw (r_load_cell isAgg3 rfl (lens_cell0 (c:=(cInt .i64)) (y:=t13.2.f_gap) (Upd.again hu_ _) (Lens.comp lw (fun z=>{ t13.2 with f_gap:=z }) (c_colon_reader_f_gap t13.2)) rfl)) ?_
    refine aw (r_igeq rfl rfl) ?_
    refine nwq [51,1,0] ?_
    obtain ⟨h17,hF⟩|⟨h17,hF⟩:=oi hF
    ·refine ct h17 ?_
     refine sr (aa (nwq [4] ?_))
     refine qt ?_
     refine tr (br (tr (br ?_)))
     obtain rfl:=os hF
     subst K
     exact r1 (fun w1 hw=>⟨rfl,hw⟩)
    refine cf h17 ?_
    refine sns (am (am ?_))
    refine aw (r_nilCheck rfl) ?_
    refine fa 8 underlying210 rfl sizeOf3 ?_
    refine aw (r_load_cell isAgg3 rfl (lens_cell0 (c:=(cInt .i64)) (y:=t13.2.f_n) (Upd.again hu_ _) (Lens.comp lw (fun z=>{ t13.2 with f_n:=z }) (c_colon_reader_f_n t13.2)) rfl)) ?_
    refine aw (r_nilCheck rfl) ?_
    refine fa 9 underlying210 rfl sizeOf3 ?_
    refine at_store (c:=(cInt .i64)) (z:=t13.2.f_n) (Upd.again hu_ _) (Lens.comp lw (fun z=>{ t13.2 with f_gap:=z }) (c_colon_reader_f_gap t13.2)) sizeOf3 rfl rfl rfl ?_
    refine ns (am ?_)
    obtain ⟨h18,hF⟩:=gd hF
    refine aw (r_slice_str underlying9 rfl ⟨_,rfl⟩ rfl h18) ?_
    refine aa (ns (am ?_))
    refine aw (r_seql rfl rfl) ?_
    refine nwq [62,1,0] ?_
    obtain ⟨h19,hF⟩|⟨h19,hF⟩:=oi hF
    ·refine ct h19 ?_
     refine sr (aa (nwq [4] ?_))
     refine qt ?_
     refine br (tr (br ?_))
     obtain rfl:=os hF
     subst K
     exact r1 (fun w1 hw=>⟨rfl,hw⟩)
    refine cf h19 ?_
    refine at_skip ?_
    refine bm ?_
    exact at_weak_k (ih _ _ _ hF K) ⟨rfl,rfl,trivial⟩
  exact os hF
 refine cf h2 ?_
 refine sn ?_
 refine qb ?_
 obtain ⟨q20,hq20,hF⟩:=bM hF
 refine wq [1,0] ?_
 refine at_loop_only (r:=r) (q:=q20) ?_ ?_
 ·intro K
  refine colon_reader_read.l1.partial_correctness  (motive:=fun i21 i22 x=>x=r→Round (fun Y=>At 63 [(0,.pointer (some ⟨b0_,0,none⟩)),(1,.string i21)] (Wd w0 (f_ (cellsE b0_ (Cd.cs c_colon_reader i22) 210))) Y) _ _ _) ?_ _ _ _ hq20 K
  ·clear K hF
   intro g ih i21 i22 x hF K
   refine at_round ?_
   refine qb ?_
   refine sr (am ?_)
   obtain ⟨t23,ht23,hF⟩:=bM hF
   refine cB func86 rfl (fun w hw=>lines_Cut_ok _ _ _ ht23 w) ?_
   refine am ?_
   refine aw xe (aw xe (aw xe (aa (aa (aa (nt (qs (sr ?_))))))))
   refine am ?_
   refine aw (r_not rfl) ?_
   refine nwq [26,6,5,0] ?_
   obtain ⟨h24,hF⟩|⟨h24,hF⟩:=oi hF
   ·refine ct h24 ?_
    refine sr (am (am ?_))
    obtain ⟨t25,ht25,hF⟩:=bM hF
    refine at_callP (E':=cellsE b0_ (Cd.cs c_colon_reader t25.2) 210) func218 rfl (by kernel_rfl) rfl rfl (fun w hw=>colon_reader_tail_ok _ _ _ _ ht25 w (Upd.again hu_ _) hw hg_strconv_ErrRange hg_strconv_ErrSyntax) ?_
    refine aa (nwq [4] ?_)
    refine qt ?_
    refine tr (br (tr (br ?_)))
    obtain rfl:=os hF
    subst K
    exact r1 (fun w1 hw=>⟨rfl,hw⟩)
   refine cf h24 ?_
   refine sns (am ?_)
   obtain ⟨t26,ht26,hF⟩:=bM hF
   refine at_call0 func219 rfl (by kernel_rfl) rfl rfl (fun w=>hexes_ReadGroup_ok _ _ ht26 w) ?_
   refine am ?_
   refine aw xe (aw xe (aa (aa (nwq [9,8,6,0] ?_))))
   refine qs (sr (am (aw xn (am ?_))))
   obtain ⟨h27,hF⟩|⟨h27,hF⟩:=oi hF
   ·refine fx 37 h27 ?_
    refine gn ?_
    refine gn ?_
    refine gn ?_
    refine gn ?_
    refine aw xp (nwq [42,6,0] ?_)
    refine ct rfl ?_
    refine sr (aa (nwq [4] ?_))
    refine qt ?_
    refine tr (br (tr (br ?_)))
    obtain rfl:=os hF
    subst K
    exact r1 (fun w1 hw=>⟨rfl,hw⟩)
   refine fx 37 h27 ?_
   refine gy ?_
   refine am ?_
   refine gy ?_
   refine am ?_
   refine gy ?_
   obtain ⟨t28,ht28,hF⟩:=bM hF
   refine at_callP (E':=cellsE b0_ (Cd.cs c_colon_reader t28.2) 210) func220 rfl (by kernel_rfl) rfl rfl (fun w hw=>colon_reader_put_ok _ _ _ _ ht28 w (Upd.again hu_ _) hw) ?_
   refine gy ?_
   refine aw (r_not rfl) ?_
   refine aw xp (nwq [42,6,0] ?_)
   obtain ⟨h29,hF⟩|⟨h29,hF⟩:=oi hF
   ·refine ct h29 ?_
    refine sr (aa (nwq [4] ?_))
    refine qt ?_
    refine tr (br (tr (br ?_)))
    obtain rfl:=os hF
    subst K
    exact r1 (fun w1 hw=>⟨rfl,hw⟩)
   refine cf h29 ?_
   refine sns (am (aa (nt (qs (sr (am ?_))))))
   obtain ⟨t30,ht30,hF⟩:=bM hF
   refine at_call0 func217 rfl (by kernel_rfl) rfl rfl (fun w=>strings_HasPrefix_ok _ _ _ ht30 w) ?_
   refine aw (r_not rfl) ?_
   refine nwq [46,1,0] ?_
   obtain ⟨h31,hF⟩|⟨h31,hF⟩:=oi hF
   ·refine ct h31 ?_
    refine at_exit ?_
    refine te (at_blk_same (tn ?_))
    exact at_weak_k (ih _ _ _ hF K) ⟨rfl,rfl,trivial⟩
   refine cf h31 ?_
   refine sn (qs (sr (am ?_)))
   refine aw (r_nilCheck rfl) ?_
   refine fa 9 underlying210 rfl sizeOf3 ?_
   refine aw (r_load_cell isAgg3 rfl (lens_cell0 (c:=(cInt .i64)) (y:=t28.2.f_gap) (Upd.again hu_ _) (Lens.comp lw (fun z=>{ t28.2 with f_gap:=z }) (c_colon_reader_f_gap t28.2)) rfl)) ?_
   refine aw (r_igeq rfl rfl) ?_
   refine nwq [51,1,0] ?_
   obtain ⟨h32,hF⟩|⟨h32,hF⟩:=oi hF
   ·refine ct h32 ?_
    refine sr (aa (nwq [4] ?_))
    refine qt ?_
    refine tr (br (tr (br ?_)))
    obtain rfl:=os hF
    subst K
    exact r1 (fun w1 hw=>⟨rfl,hw⟩)
   refine cf h32 ?_
   refine sns (am (am ?_))
   refine aw (r_nilCheck rfl) ?_
   refine fa 8 underlying210 rfl sizeOf3 ?_
   refine aw (r_load_cell isAgg3 rfl (lens_cell0 (c:=(cInt .i64)) (y:=t28.2.f_n) (Upd.again hu_ _) (Lens.comp lw (fun z=>{ t28.2 with f_n:=z }) (c_colon_reader_f_n t28.2)) rfl)) ?_
   refine aw (r_nilCheck rfl) ?_
   refine fa 9 underlying210 rfl sizeOf3 ?_
   refine at_store (c:=(cInt .i64)) (z:=t28.2.f_n) (Upd.again hu_ _) (Lens.comp lw (fun z=>{ t28.2 with f_gap:=z }) (c_colon_reader_f_gap t28.2)) sizeOf3 rfl rfl rfl ?_
   refine ns (am ?_)
   obtain ⟨h33,hF⟩:=gd hF
   refine aw (r_slice_str underlying9 rfl ⟨_,rfl⟩ rfl h33) ?_
   refine aa (ns (am ?_))
   refine aw (r_seql rfl rfl) ?_
   refine nwq [62,1,0] ?_
   obtain ⟨h34,hF⟩|⟨h34,hF⟩:=oi hF
   ·refine ct h34 ?_
    refine sr (aa (nwq [4] ?_))
    refine qt ?_
    refine br (tr (br ?_))
    obtain rfl:=os hF
    subst K
    exact r1 (fun w1 hw=>⟨rfl,hw⟩)
   refine cf h34 ?_
   refine at_skip ?_
   refine bm ?_
   exact at_weak_k (ih _ _ _ hF K) ⟨rfl,rfl,trivial⟩
 exact os hF
def colon_reader_spread(x0:S_colon_reader):Option ((Vector Int 8)×Bool×S_colon_reader) :=
 if (decide (x0.f_gap<0))=true then (some (x0.f_g,(x0.f_n==8),x0)) else (if (x0.f_n==8)=true then (some (x0.f_g,false,x0)) else (if (0:Int)≤0∧0≤x0.f_gap∧x0.f_gap≤(8:Int) then if (0:Int)≤wr .i64 ((wr .i64 (8-x0.f_n))+x0.f_gap)∧wr .i64 ((wr .i64 (8-x0.f_n))+x0.f_gap)≤8∧8≤(8:Int) then if (0:Int)≤x0.f_gap∧x0.f_gap≤x0.f_n∧x0.f_n≤(8:Int) then some (vcopy (vcopy (Vector.replicate 8 (0:Int):(Vector Int 8)) (Int.toNat 0) (List.take (Int.toNat (8-0)) (lsub (Vector.toList x0.f_g) 0 x0.f_gap))) (Int.toNat (wr .i64 ((wr .i64 (8-x0.f_n))+x0.f_gap))) (List.take (Int.toNat (8-wr .i64 ((wr .i64 (8-x0.f_n))+x0.f_gap))) (lsub (Vector.toList x0.f_g) x0.f_gap x0.f_n)),true,x0) else none else none else none))
set_option maxHeartbeats 3200000 in
theorem colon_reader_spread_ok(x0:S_colon_reader)(b0_:Nat)(r:(Vector Int 8)×Bool×S_colon_reader)(hF:colon_reader_spread x0=some r)(w:World){w0:World}{H_ G_:List Ent}{f_:Ent→List Ent}(hu_:Upd H_ (cellsE b0_ (Cd.cs c_colon_reader x0) 210) f_ G_)(hw_:Wd w0 H_ w) :
    Calls Tryz.prog 198 #[.pointer (some ⟨b0_,0,none⟩)] w (fun e w'=>e=.returned (.tuple #[.agg (Cd.cs (cVec (cInt .u16) 8 (by decide)) r.1).toArray,.bool r.2.1])∧Wd w0 (f_ (cellsE b0_ (Cd.cs c_colon_reader r.2.2) 210)) w'):=by
 unfold colon_reader_spread at hF
 refine ce (l:=[.pointer (some ⟨b0_,0,none⟩)]) func198 rfl rfl ?_
 refine at_enter_ptr hu_ hw_ ?_
 refine sr ?_
 refine al (cs:=Cd.cs (cVec (cInt .u16) 8 (by decide)) zv5) zeroValue208 ?_
 intro b1
 refine aa (nt (qs (sr (am ?_))))
 refine aw (r_nilCheck rfl) ?_
 refine fa 9 underlying210 rfl sizeOf3 ?_
 refine aw (r_load_cell isAgg3 rfl (lens_cell0 (c:=(cInt .i64)) (y:=x0.f_gap) (.s (Upd.again hu_ _)) (Lens.comp lw (fun z=>{ x0 with f_gap:=z }) (c_colon_reader_f_gap x0)) rfl)) ?_
 refine aw xl (nwq [9,2,0] ?_)
 obtain ⟨h2,hF⟩|⟨h2,hF⟩:=oi hF
 ·refine ct h2 ?_
  refine qs (wq [2,0] ?_)
  refine at_inv [.q 10 (fun g3=>.pointer (some ⟨b0_,0,none⟩)) [] 0 0,.q 11 (fun g3=>.pointer (some ⟨b0_,0,none⟩)) [0] 0 0,.q 12 (fun g3=>.pointer (some ⟨b0_,0+0,none⟩)) [1] 0 0,.q 13 (fun g3=>.agg (Cd.cs (cVec (cInt .u16) 8 (by decide)) x0.f_g).toArray) [2] 0 0,.q 14 (fun g3=>.pointer (some ⟨b0_,0,none⟩)) [] 0 1,.q 15 (fun g3=>.pointer (some ⟨b0_,0,none⟩)) [4] 0 1,.q 16 (fun g3=>.pointer (some ⟨b0_,0+8,none⟩)) [5] 0 1,.q 17 (fun g3=>.int .i64 x0.f_n) [6] 0 1,.q 18 (fun g3=>.bool (x0.f_n==8)) [7] 0 1,.st 0 none [3],.q 3 (fun g3=>.bool (x0.f_n==8)) [8] 1 1] (fun g3 s=>match s with | 0=>(Wd w0 (cellsE b1 (Cd.cs (cVec (cInt .u16) 8 (by decide)) zv5) 208::f_ (cellsE b0_ (Cd.cs c_colon_reader x0) 210))) | _=>(Wd w0 (cellsE b1 (Cd.cs (cVec (cInt .u16) 8 (by decide)) x0.f_g) 208::f_ (cellsE b0_ (Cd.cs c_colon_reader x0) 210)))) 1 (by kernel_rfl) (by kernel_rfl) (by kernel_rfl) (by kernel_rfl) (by kernel_rfl) ⟨fun _ _ _=>rfl,fun _ _ _=>rfl,fun _ _ _=>rfl,fun _ _ _=>rfl,fun _ _ _=>rfl,fun _ _ _=>rfl,fun _ _ _=>rfl,fun _ _ _=>rfl,fun _ _ _=>rfl,fun _ _ _=>rfl,fun _ _ _=>rfl,trivial⟩ (by kernel_rfl) (fun w_ h=>⟨fun _=>g3 0 none 0 none w_,h.drew⟩) ⟨?_,?_,?_,?_,?_,?_,?_,?_,?_,?_,?_,trivial⟩ ?_
  ·intro Lx g3 s K hl hh k
   show At 63 ((0,_)::(2,_)::Lx) _ _
   refine am ?_
   exact at_nil k
  ·intro Lx g3 s K hl hh k
   show At 63 ((10,_)::(0,_)::(2,_)::Lx) _ _
   refine aw (r_nilCheck rfl) ?_
   exact at_nil k
  ·intro Lx g3 s K hl hh k
   show At 63 ((11,_)::(0,_)::(2,_)::Lx) _ _
   refine fa 0 underlying210 rfl sizeOf208 ?_
   exact at_nil k
  ·intro Lx g3 s K hl hh k
   show At 63 ((12,_)::(0,_)::(2,_)::Lx) _ _
   obtain rfl:s=0:=by omega
   refine aw (r_load_aggc (c:=(cVec (cInt .u16) 8 (by decide))) (z:=x0.f_g) isAgg208 sizeOf208 rfl (lens_cell (.s (Upd.again hu_ _)) (Lens.comp lw (fun z=>{ x0 with f_g:=z }) (c_colon_reader_f_g x0)))) ?_
   exact at_nil k
  ·intro Lx g3 s K hl hh k
   show At 63 ((0,_)::(2,_)::Lx) _ _
   refine am ?_
   exact at_nil k
  ·intro Lx g3 s K hl hh k
   show At 63 ((14,_)::(0,_)::(2,_)::Lx) _ _
   refine aw (r_nilCheck rfl) ?_
   exact at_nil k
  ·intro Lx g3 s K hl hh k
   show At 63 ((15,_)::(0,_)::(2,_)::Lx) _ _
   refine fa 8 underlying210 rfl sizeOf3 ?_
   exact at_nil k
  ·intro Lx g3 s K hl hh k
   show At 63 ((16,_)::(0,_)::(2,_)::Lx) _ _
   rcases (by omega:s=0∨s=1) with rfl | rfl
   ·skip
    refine aw (r_load_cell isAgg3 rfl (lens_cell0 (c:=(cInt .i64)) (y:=x0.f_n) (.s (Upd.again hu_ _)) (Lens.comp lw (fun z=>{ x0 with f_n:=z }) (c_colon_reader_f_n x0)) rfl)) ?_
    exact at_nil k
   skip
   refine aw (r_load_cell isAgg3 rfl (lens_cell0 (c:=(cInt .i64)) (y:=x0.f_n) (.s (Upd.again hu_ _)) (Lens.comp lw (fun z=>{ x0 with f_n:=z }) (c_colon_reader_f_n x0)) rfl)) ?_
   exact at_nil k
  ·intro Lx g3 s K hl hh k
   show At 63 ((17,_)::(0,_)::(2,_)::Lx) _ _
   refine aw xq ?_
   exact at_nil k
  ·intro Lx g3 K k
   show At 63 ((13,_)::(0,_)::(2,_)::Lx) _ _
   refine at_store (c:=(cVec (cInt .u16) 8 (by decide))) (z:=x0.f_g) .z lw sizeOf208 rfl rfl rfl ?_
   exact at_nil k
  ·intro Lx g3 s K hl hh k
   show At 63 ((18,_)::(0,_)::(2,_)::Lx) _ _
   refine aa ?_
   exact at_nil k
  intro g3
  show At 63 [(10,_),(11,_),(12,_),(13,_),(14,_),(15,_),(16,_),(17,_),(18,_),(3,_),(0,_),(2,_)] _ _
  refine wq [3,2] ?_
  refine tn (rt ?_)
  have K:=os hF
  subst K
  exact at_res2 rfl (res_cell (c:=(cVec (cInt .u16) 8 (by decide))) (y:=x0.f_g) rfl .z lw isAgg208 sizeOf208 (.inl rfl)) (res_tmp rfl) (fun w1 hw=>⟨rfl,hw.pop⟩)
 refine cf h2 ?_
 refine sn (qs (sr (am ?_)))
 refine aw (r_nilCheck rfl) ?_
 refine fa 8 underlying210 rfl sizeOf3 ?_
 refine aw (r_load_cell isAgg3 rfl (lens_cell0 (c:=(cInt .i64)) (y:=x0.f_n) (.s (Upd.again hu_ _)) (Lens.comp lw (fun z=>{ x0 with f_n:=z }) (c_colon_reader_f_n x0)) rfl)) ?_
 refine aw xq (nwq [23,2,0] ?_)
 obtain ⟨h4,hF⟩|⟨h4,hF⟩:=oi hF
 ·refine ct h4 ?_
  refine sr (am ?_)
  refine aw (r_nilCheck rfl) ?_
  refine fa 0 underlying210 rfl sizeOf208 ?_
  refine aw (r_load_aggc (c:=(cVec (cInt .u16) 8 (by decide))) (z:=x0.f_g) isAgg208 sizeOf208 rfl (lens_cell (.s (Upd.again hu_ _)) (Lens.comp lw (fun z=>{ x0 with f_g:=z }) (c_colon_reader_f_g x0)))) ?_
  refine at_store (c:=(cVec (cInt .u16) 8 (by decide))) (z:=x0.f_g) .z lw sizeOf208 rfl rfl rfl ?_
  refine aa (nwq [3,2] ?_)
  refine rt ?_
  have K:=os hF
  subst K
  exact at_res2 rfl (res_cell (c:=(cVec (cInt .u16) 8 (by decide))) (y:=x0.f_g) rfl .z lw isAgg208 sizeOf208 (.inl rfl)) (res_tmp rfl) (fun w1 hw=>⟨rfl,hw.pop⟩)
 refine cf h4 ?_
 refine sns ?_
 refine al (cs:=Cd.cs (cVec (cInt .u16) 8 (by decide)) zv5) zeroValue208 ?_
 intro b5
 refine nt (qs (wq [4,2,0] ?_))
 obtain ⟨h6,hF⟩:=gd hF
 refine at_inv [.q 28 (fun g7=>.slice (some ⟨b5,0,none⟩) (Vector.toList zv5).length 8) [] 0 0,.q 29 (fun g7=>.pointer (some ⟨b0_,0,none⟩)) [] 0 0,.q 30 (fun g7=>.pointer (some ⟨b0_,0,none⟩)) [1] 0 0,.q 31 (fun g7=>.pointer (some ⟨b0_,0+0,none⟩)) [2] 0 0,.q 32 (fun g7=>.pointer (some ⟨b0_,0,none⟩)) [] 0 0,.q 33 (fun g7=>.pointer (some ⟨b0_,0,none⟩)) [4] 0 0,.q 34 (fun g7=>.pointer (some ⟨b0_,0+9,none⟩)) [5] 0 0,.q 35 (fun g7=>.int .i64 x0.f_gap) [6] 0 0,.q 36 (fun g7=>.slice (rsp (some ⟨b0_,0+0,none⟩) 8 0 (Cd.sz (cInt .u16))) (lsub (Vector.toList x0.f_g) 0 x0.f_gap).length (8-Int.toNat 0)) [3,7] 0 0,.st 0 (some (37,fun g7=>.int .i64 (min (List.length (lsub (Vector.toList x0.f_g) 0 x0.f_gap)) (Int.toNat (8-0)):Nat))) [0,8]] (fun g7 s=>match s with | 0=>(Wd w0 (cellsE b5 (Cd.cs (cVec (cInt .u16) 8 (by decide)) zv5) 208::cellsE b1 (Cd.cs (cVec (cInt .u16) 8 (by decide)) zv5) 208::f_ (cellsE b0_ (Cd.cs c_colon_reader x0) 210))) | _=>(Wd w0 (cellsE b5 (Cd.cs (cVec (cInt .u16) 8 (by decide)) (vcopy zv5 (Int.toNat 0) (List.take (Int.toNat (8-0)) (lsub (Vector.toList x0.f_g) 0 x0.f_gap)))) 208::cellsE b1 (Cd.cs (cVec (cInt .u16) 8 (by decide)) zv5) 208::f_ (cellsE b0_ (Cd.cs c_colon_reader x0) 210)))) 1 (by kernel_rfl) (by kernel_rfl) (by kernel_rfl) (by kernel_rfl) (by kernel_rfl) ⟨fun _ _ _=>rfl,fun _ _ _=>rfl,fun _ _ _=>rfl,fun _ _ _=>rfl,fun _ _ _=>rfl,fun _ _ _=>rfl,fun _ _ _=>rfl,fun _ _ _=>rfl,fun _ _ _=>rfl,fun _ _ _=>rfl,trivial⟩ (by kernel_rfl) (fun w_ h=>⟨fun _=>g3 0 none 0 none w_,h.drew⟩) ⟨?_,?_,?_,?_,?_,?_,?_,?_,?_,?_,trivial⟩ ?_
 ·intro Lx g7 s K hl hh k
  show At 63 ((0,_)::(2,_)::(4,_)::Lx) _ _
  obtain rfl:s=0:=by omega
  refine aw (r_slice_vec zv5 underlying208 sizeOf191 rfl) ?_
  exact at_nil k
 ·intro Lx g7 s K hl hh k
  show At 63 ((0,_)::(2,_)::(4,_)::Lx) _ _
  refine am ?_
  exact at_nil k
 ·intro Lx g7 s K hl hh k
  show At 63 ((29,_)::(0,_)::(2,_)::(4,_)::Lx) _ _
  refine aw (r_nilCheck rfl) ?_
  exact at_nil k
 ·intro Lx g7 s K hl hh k
  show At 63 ((30,_)::(0,_)::(2,_)::(4,_)::Lx) _ _
  refine fa 0 underlying210 rfl sizeOf208 ?_
  exact at_nil k
 ·intro Lx g7 s K hl hh k
  show At 63 ((0,_)::(2,_)::(4,_)::Lx) _ _
  refine am ?_
  exact at_nil k
 ·intro Lx g7 s K hl hh k
  show At 63 ((32,_)::(0,_)::(2,_)::(4,_)::Lx) _ _
  refine aw (r_nilCheck rfl) ?_
  exact at_nil k
 ·intro Lx g7 s K hl hh k
  show At 63 ((33,_)::(0,_)::(2,_)::(4,_)::Lx) _ _
  refine fa 9 underlying210 rfl sizeOf3 ?_
  exact at_nil k
 ·intro Lx g7 s K hl hh k
  show At 63 ((34,_)::(0,_)::(2,_)::(4,_)::Lx) _ _
  obtain rfl:s=0:=by omega
  refine aw (r_load_cell isAgg3 rfl (lens_cell0 (c:=(cInt .i64)) (y:=x0.f_gap) (.s (.s (Upd.again hu_ _))) (Lens.comp lw (fun z=>{ x0 with f_gap:=z }) (c_colon_reader_f_gap x0)) rfl)) ?_
  exact at_nil k
 ·intro Lx g7 s K hl hh k
  show At 63 ((31,_)::(35,_)::(0,_)::(2,_)::(4,_)::Lx) _ _
  obtain rfl:s=0:=by omega
  refine aw (r_view (c:=(cInt .u16)) (v:=x0.f_g) (l:=0) (h:=x0.f_gap) underlying208 sizeOf191 rfl rfl ⟨_,rfl⟩ h6) ?_
  exact at_nil k
 ·intro Lx g7 K k
  show At 63 ((28,_)::(36,_)::(0,_)::(2,_)::(4,_)::Lx) _ _
  refine at_copy (lo:=0) (hi:=8) (xs:=lsub (Vector.toList x0.f_g) 0 x0.f_gap) .z lw rfl (by decide) underlying218 (by kernel_rfl) rfl (rsp_zero (by decide)) (by simp) rfl rsp_some (fun w1 hw=>(Row.sub (lens_row (.s (.s (Upd.again hu_ _))) (Lens.comp lw (fun z=>{ x0 with f_g:=z }) (c_colon_reader_f_g x0)) hw) (vbnd h6))) rfl ?_
  exact at_nil k
 intro g7
 show At 63 [(28,_),(29,_),(30,_),(31,_),(32,_),(33,_),(34,_),(35,_),(36,_),(37,_),(0,_),(2,_),(4,_)] _ _
 refine tn (qs (wq [4,2,0] ?_))
 obtain ⟨h8,hF⟩:=gd hF
 obtain ⟨h9,hF⟩:=gd hF
 refine at_inv [.q 38 (fun g10=>.pointer (some ⟨b0_,0,none⟩)) [] 0 1,.q 39 (fun g10=>.pointer (some ⟨b0_,0,none⟩)) [0] 0 1,.q 40 (fun g10=>.pointer (some ⟨b0_,0+8,none⟩)) [1] 0 0,.q 41 (fun g10=>.int .i64 x0.f_n) [2] 0 0,.q 42 (fun g10=>.int .i64 (wr .i64 (8-x0.f_n))) [3] 0 0,.q 43 (fun g10=>.pointer (some ⟨b0_,0,none⟩)) [] 0 1,.q 44 (fun g10=>.pointer (some ⟨b0_,0,none⟩)) [5] 0 0,.q 45 (fun g10=>.pointer (some ⟨b0_,0+9,none⟩)) [6] 0 0,.q 46 (fun g10=>.int .i64 x0.f_gap) [7] 0 0,.q 47 (fun g10=>.int .i64 (wr .i64 ((wr .i64 (8-x0.f_n))+x0.f_gap))) [4,8] 0 0,.q 48 (fun g10=>.slice (rsp (some ⟨b5,0,none⟩) 8 (wr .i64 ((wr .i64 (8-x0.f_n))+x0.f_gap)) (Cd.sz (cInt .u16))) (lsub (Vector.toList (vcopy zv5 (Int.toNat 0) (List.take (Int.toNat (8-0)) (lsub (Vector.toList x0.f_g) 0 x0.f_gap)))) (wr .i64 ((wr .i64 (8-x0.f_n))+x0.f_gap)) 8).length (8-Int.toNat (wr .i64 ((wr .i64 (8-x0.f_n))+x0.f_gap)))) [9] 0 0,.q 49 (fun g10=>.pointer (some ⟨b0_,0,none⟩)) [] 0 0,.q 50 (fun g10=>.pointer (some ⟨b0_,0,none⟩)) [11] 0 0,.q 51 (fun g10=>.pointer (some ⟨b0_,0+0,none⟩)) [12] 0 0,.q 52 (fun g10=>.pointer (some ⟨b0_,0,none⟩)) [] 0 0,.q 53 (fun g10=>.pointer (some ⟨b0_,0,none⟩)) [14] 0 0,.q 54 (fun g10=>.pointer (some ⟨b0_,0+9,none⟩)) [15] 0 0,.q 55 (fun g10=>.int .i64 x0.f_gap) [16] 0 0,.q 56 (fun g10=>.pointer (some ⟨b0_,0,none⟩)) [] 0 0,.q 57 (fun g10=>.pointer (some ⟨b0_,0,none⟩)) [18] 0 0,.q 58 (fun g10=>.pointer (some ⟨b0_,0+8,none⟩)) [19] 0 0,.q 59 (fun g10=>.int .i64 x0.f_n) [20] 0 0,.q 60 (fun g10=>.slice (rsp (some ⟨b0_,0+0,none⟩) 8 x0.f_gap (Cd.sz (cInt .u16))) (lsub (Vector.toList x0.f_g) x0.f_gap x0.f_n).length (8-Int.toNat x0.f_gap)) [13,17,21] 0 0,.st 0 (some (61,fun g10=>.int .i64 (min (List.length (lsub (Vector.toList x0.f_g) x0.f_gap x0.f_n)) (Int.toNat (8-wr .i64 ((wr .i64 (8-x0.f_n))+x0.f_gap))):Nat))) [10,22]] (fun g10 s=>match s with | 0=>(Wd w0 (cellsE b5 (Cd.cs (cVec (cInt .u16) 8 (by decide)) (vcopy zv5 (Int.toNat 0) (List.take (Int.toNat (8-0)) (lsub (Vector.toList x0.f_g) 0 x0.f_gap)))) 208::cellsE b1 (Cd.cs (cVec (cInt .u16) 8 (by decide)) zv5) 208::f_ (cellsE b0_ (Cd.cs c_colon_reader x0) 210))) | _=>(Wd w0 (cellsE b5 (Cd.cs (cVec (cInt .u16) 8 (by decide)) (vcopy (vcopy zv5 (Int.toNat 0) (List.take (Int.toNat (8-0)) (lsub (Vector.toList x0.f_g) 0 x0.f_gap))) (Int.toNat (wr .i64 ((wr .i64 (8-x0.f_n))+x0.f_gap))) (List.take (Int.toNat (8-wr .i64 ((wr .i64 (8-x0.f_n))+x0.f_gap))) (lsub (Vector.toList x0.f_g) x0.f_gap x0.f_n)))) 208::cellsE b1 (Cd.cs (cVec (cInt .u16) 8 (by decide)) zv5) 208::f_ (cellsE b0_ (Cd.cs c_colon_reader x0) 210)))) 1 (by kernel_rfl) (by kernel_rfl) (by kernel_rfl) (by kernel_rfl) (by kernel_rfl) ⟨fun _ _ _=>rfl,fun _ _ _=>rfl,fun _ _ _=>rfl,fun _ _ _=>rfl,fun _ _ _=>rfl,fun _ _ _=>rfl,fun _ _ _=>rfl,fun _ _ _=>rfl,fun _ _ _=>rfl,fun _ _ _=>rfl,fun _ _ _=>rfl,fun _ _ _=>rfl,fun _ _ _=>rfl,fun _ _ _=>rfl,fun _ _ _=>rfl,fun _ _ _=>rfl,fun _ _ _=>rfl,fun _ _ _=>rfl,fun _ _ _=>rfl,fun _ _ _=>rfl,fun _ _ _=>rfl,fun _ _ _=>rfl,fun _ _ _=>rfl,fun _ _ _=>rfl,trivial⟩ (by kernel_rfl) (fun w_ h=>⟨fun _=>g3 0 none 0 none w_,h.drew⟩) ⟨?_,?_,?_,?_,?_,?_,?_,?_,?_,?_,?_,?_,?_,?_,?_,?_,?_,?_,?_,?_,?_,?_,?_,?_,trivial⟩ ?_
 ·intro Lx g10 s K hl hh k
  show At 63 ((0,_)::(2,_)::(4,_)::Lx) _ _
  refine am ?_
  exact at_nil k
 ·intro Lx g10 s K hl hh k
  show At 63 ((38,_)::(0,_)::(2,_)::(4,_)::Lx) _ _
  refine aw (r_nilCheck rfl) ?_
  exact at_nil k
 ·intro Lx g10 s K hl hh k
  show At 63 ((39,_)::(0,_)::(2,_)::(4,_)::Lx) _ _
  refine fa 8 underlying210 rfl sizeOf3 ?_
  exact at_nil k
 ·intro Lx g10 s K hl hh k
  show At 63 ((40,_)::(0,_)::(2,_)::(4,_)::Lx) _ _
  obtain rfl:s=0:=by omega
  refine aw (r_load_cell isAgg3 rfl (lens_cell0 (c:=(cInt .i64)) (y:=x0.f_n) (.s (.s (Upd.again hu_ _))) (Lens.comp lw (fun z=>{ x0 with f_n:=z }) (c_colon_reader_f_n x0)) rfl)) ?_
  exact at_nil k
 ·intro Lx g10 s K hl hh k
  show At 63 ((41,_)::(0,_)::(2,_)::(4,_)::Lx) _ _
  refine aw (r_isub rfl rfl) ?_
  exact at_nil k
 ·intro Lx g10 s K hl hh k
  show At 63 ((0,_)::(2,_)::(4,_)::Lx) _ _
  refine am ?_
  exact at_nil k
 ·intro Lx g10 s K hl hh k
  show At 63 ((43,_)::(0,_)::(2,_)::(4,_)::Lx) _ _
  refine aw (r_nilCheck rfl) ?_
  exact at_nil k
 ·intro Lx g10 s K hl hh k
  show At 63 ((44,_)::(0,_)::(2,_)::(4,_)::Lx) _ _
  refine fa 9 underlying210 rfl sizeOf3 ?_
  exact at_nil k
 ·intro Lx g10 s K hl hh k
  show At 63 ((45,_)::(0,_)::(2,_)::(4,_)::Lx) _ _
  obtain rfl:s=0:=by omega
  refine aw (r_load_cell isAgg3 rfl (lens_cell0 (c:=(cInt .i64)) (y:=x0.f_gap) (.s (.s (Upd.again hu_ _))) (Lens.comp lw (fun z=>{ x0 with f_gap:=z }) (c_colon_reader_f_gap x0)) rfl)) ?_
  exact at_nil k
 ·intro Lx g10 s K hl hh k
  show At 63 ((42,_)::(46,_)::(0,_)::(2,_)::(4,_)::Lx) _ _
  refine aw xa ?_
  exact at_nil k
 ·intro Lx g10 s K hl hh k
  show At 63 ((47,_)::(0,_)::(2,_)::(4,_)::Lx) _ _
  obtain rfl:s=0:=by omega
  refine aw (r_view (c:=(cInt .u16)) (v:=vcopy zv5 (Int.toNat 0) (List.take (Int.toNat (8-0)) (lsub (Vector.toList x0.f_g) 0 x0.f_gap))) (l:=wr .i64 ((wr .i64 (8-x0.f_n))+x0.f_gap)) (h:=8) underlying208 sizeOf191 rfl ⟨_,rfl⟩ rfl h8) ?_
  exact at_nil k
 ·intro Lx g10 s K hl hh k
  show At 63 ((0,_)::(2,_)::(4,_)::Lx) _ _
  refine am ?_
  exact at_nil k
 ·intro Lx g10 s K hl hh k
  show At 63 ((49,_)::(0,_)::(2,_)::(4,_)::Lx) _ _
  refine aw (r_nilCheck rfl) ?_
  exact at_nil k
 ·intro Lx g10 s K hl hh k
  show At 63 ((50,_)::(0,_)::(2,_)::(4,_)::Lx) _ _
  refine fa 0 underlying210 rfl sizeOf208 ?_
  exact at_nil k
 ·intro Lx g10 s K hl hh k
  show At 63 ((0,_)::(2,_)::(4,_)::Lx) _ _
  refine am ?_
  exact at_nil k
 ·intro Lx g10 s K hl hh k
  show At 63 ((52,_)::(0,_)::(2,_)::(4,_)::Lx) _ _
  refine aw (r_nilCheck rfl) ?_
  exact at_nil k
 ·intro Lx g10 s K hl hh k
  show At 63 ((53,_)::(0,_)::(2,_)::(4,_)::Lx) _ _
  refine fa 9 underlying210 rfl sizeOf3 ?_
  exact at_nil k
 ·intro Lx g10 s K hl hh k
  show At 63 ((54,_)::(0,_)::(2,_)::(4,_)::Lx) _ _
  obtain rfl:s=0:=by omega
  refine aw (r_load_cell isAgg3 rfl (lens_cell0 (c:=(cInt .i64)) (y:=x0.f_gap) (.s (.s (Upd.again hu_ _))) (Lens.comp lw (fun z=>{ x0 with f_gap:=z }) (c_colon_reader_f_gap x0)) rfl)) ?_
  exact at_nil k
 ·intro Lx g10 s K hl hh k
  show At 63 ((0,_)::(2,_)::(4,_)::Lx) _ _
  refine am ?_
  exact at_nil k
 ·intro Lx g10 s K hl hh k
  show At 63 ((56,_)::(0,_)::(2,_)::(4,_)::Lx) _ _
  refine aw (r_nilCheck rfl) ?_
  exact at_nil k
 ·intro Lx g10 s K hl hh k
  show At 63 ((57,_)::(0,_)::(2,_)::(4,_)::Lx) _ _
  refine fa 8 underlying210 rfl sizeOf3 ?_
  exact at_nil k
 ·intro Lx g10 s K hl hh k
  show At 63 ((58,_)::(0,_)::(2,_)::(4,_)::Lx) _ _
  obtain rfl:s=0:=by omega
  refine aw (r_load_cell isAgg3 rfl (lens_cell0 (c:=(cInt .i64)) (y:=x0.f_n) (.s (.s (Upd.again hu_ _))) (Lens.comp lw (fun z=>{ x0 with f_n:=z }) (c_colon_reader_f_n x0)) rfl)) ?_
  exact at_nil k
 ·intro Lx g10 s K hl hh k
  show At 63 ((51,_)::(55,_)::(59,_)::(0,_)::(2,_)::(4,_)::Lx) _ _
  obtain rfl:s=0:=by omega
  refine aw (r_view (c:=(cInt .u16)) (v:=x0.f_g) (l:=x0.f_gap) (h:=x0.f_n) underlying208 sizeOf191 rfl ⟨_,rfl⟩ ⟨_,rfl⟩ h9) ?_
  exact at_nil k
 ·intro Lx g10 K k
  show At 63 ((48,_)::(60,_)::(0,_)::(2,_)::(4,_)::Lx) _ _
  refine at_copy (lo:=wr .i64 ((wr .i64 (8-x0.f_n))+x0.f_gap)) (hi:=8) (xs:=lsub (Vector.toList x0.f_g) x0.f_gap x0.f_n) .z lw rfl h8 underlying218 (by kernel_rfl) rfl rfl (lsub_length (vbnd h8)) rfl rsp_some (fun w1 hw=>(Row.sub (lens_row (.s (.s (Upd.again hu_ _))) (Lens.comp lw (fun z=>{ x0 with f_g:=z }) (c_colon_reader_f_g x0)) hw) (vbnd h9))) rfl ?_
  exact at_nil k
 intro g10
 show At 63 [(38,_),(39,_),(40,_),(41,_),(42,_),(43,_),(44,_),(45,_),(46,_),(47,_),(48,_),(49,_),(50,_),(51,_),(52,_),(53,_),(54,_),(55,_),(56,_),(57,_),(58,_),(59,_),(60,_),(61,_),(0,_),(2,_),(4,_)] _ _
 refine tn (sr ?_)
 refine aw (r_load_aggc (c:=(cVec (cInt .u16) 8 (by decide))) (z:=vcopy (vcopy zv5 (Int.toNat 0) (List.take (Int.toNat (8-0)) (lsub (Vector.toList x0.f_g) 0 x0.f_gap))) (Int.toNat (wr .i64 ((wr .i64 (8-x0.f_n))+x0.f_gap))) (List.take (Int.toNat (8-wr .i64 ((wr .i64 (8-x0.f_n))+x0.f_gap))) (lsub (Vector.toList x0.f_g) x0.f_gap x0.f_n))) isAgg208 sizeOf208 rfl (lens_cell .z lw)) ?_
 refine at_store (c:=(cVec (cInt .u16) 8 (by decide))) (z:=vcopy (vcopy zv5 (Int.toNat 0) (List.take (Int.toNat (8-0)) (lsub (Vector.toList x0.f_g) 0 x0.f_gap))) (Int.toNat (wr .i64 ((wr .i64 (8-x0.f_n))+x0.f_gap))) (List.take (Int.toNat (8-wr .i64 ((wr .i64 (8-x0.f_n))+x0.f_gap))) (lsub (Vector.toList x0.f_g) x0.f_gap x0.f_n))) (.s .z) lw sizeOf208 rfl rfl rfl ?_
 refine aa (qn (dz (wq [3,2] ?_)))
 refine tn (qt ?_)
 have K:=os hF
 subst K
 exact at_res2 rfl (res_cell (c:=(cVec (cInt .u16) 8 (by decide))) (y:=vcopy (vcopy zv5 (Int.toNat 0) (List.take (Int.toNat (8-0)) (lsub (Vector.toList x0.f_g) 0 x0.f_gap))) (Int.toNat (wr .i64 ((wr .i64 (8-x0.f_n))+x0.f_gap))) (List.take (Int.toNat (8-wr .i64 ((wr .i64 (8-x0.f_n))+x0.f_gap))) (lsub (Vector.toList x0.f_g) x0.f_gap x0.f_n))) rfl .z lw isAgg208 sizeOf208 (.inl rfl)) (res_tmp rfl) (fun w1 hw=>⟨rfl,hw.pop⟩)
def colon_Parse.l0(t5:(Vector Int 8)×Bool×S_colon_reader)(i10:Int)(i11:(Vector Int 16)):Option ((Vector Int 16)) :=
 if (decide (i10<8))=true then (if (0:Int)≤i10∧i10<8 then if (0:Int)≤wr .i64 (2*i10)∧wr .i64 (2*i10)<16 then if (0:Int)≤wr .i64 ((wr .i64 (2*i10))+1)∧wr .i64 ((wr .i64 (2*i10))+1)<16 then colon_Parse.l0 t5 (wr .i64 (i10+1)) (vset (vset i11 (wr .i64 (2*i10)) (wr .u8 (ishr .u16 (vget t5.1 i10) 8))) (wr .i64 ((wr .i64 (2*i10))+1)) (wr .u8 (vget t5.1 i10))) else none else none else none) else (some i11)
 partial_fixpoint
def colon_Parse(x0:ByteArray):Option ((Vector Int 16)×Int) :=
 colon_reader_read ({ ({ f_g:=(Vector.replicate 8 (0:Int):(Vector Int 8)),f_n:=(0:Int),f_gap:=(0:Int) }:S_colon_reader) with f_gap:=(-1) }) x0>>=fun t3=>if (!t3.1)=true then (some ((Vector.replicate 16 (0:Int):(Vector Int 16)),5)) else (colon_reader_spread t3.2>>=fun t5=>if (!t5.2.1)=true then (some ((Vector.replicate 16 (0:Int):(Vector Int 16)),5)) else (colon_Parse.l0 t5 0 (Vector.replicate 16 (0:Int):(Vector Int 16))>>=fun q9=>some (q9,0)))
theorem colon_Parse_ok(x0:ByteArray)(r:(Vector Int 16)×Int)(hF:colon_Parse x0=some r)(w:World)(hg_strconv_ErrRange:GV_strconv_ErrRange w)(hg_strconv_ErrSyntax:GV_strconv_ErrSyntax w) :
    Calls Tryz.prog 179 #[.string x0] w (fun e w'=>e=.returned (.tuple #[.agg (Cd.cs (cVec (cInt .u8) 16 (by decide)) r.1).toArray,.int .i64 r.2])∧Below w.heap.size w w'):=by
 unfold colon_Parse at hF
 refine ce (l:=[.string x0]) func179 rfl rfl ?_
 refine at_start ?_
 refine sr ?_
 refine al (cs:=Cd.cs (cVec (cInt .u8) 16 (by decide)) zv2) zeroValue23 ?_
 intro b1
 refine aa (ns ?_)
 refine aw (r_build_struct (zs:=Cd.cs c_colon_reader zv0) (cs:=Cd.cs c_colon_reader ({ zv0 with f_gap:=(-1) })) underlying210 zeroValue210 rfl (places_colon_reader_210) rfl (fill_step (c:=(cInt .i64)) (z:=(-1)) rfl (c_colon_reader_f_gap zv0) rfl rfl)) ?_
 refine at_box (cs:=Cd.cs c_colon_reader ({ zv0 with f_gap:=(-1) })) rfl rfl rfl ?_
 intro b2
 refine aa (nt (qs (sr (am (am ?_)))))
 obtain ⟨t3,ht3,hF⟩:=bM hF
 refine at_callP (E':=cellsE b2 (Cd.cs c_colon_reader t3.2) 210) func197 rfl (by kernel_rfl) rfl rfl (fun w hw=>colon_reader_read_ok _ _ _ _ ht3 w .z hw hg_strconv_ErrRange hg_strconv_ErrSyntax) ?_
 refine aw (r_not rfl) ?_
 refine nwq [15,4,2] ?_
 obtain ⟨h4,hF⟩|⟨h4,hF⟩:=oi hF
 ·refine ct h4 ?_
  refine sr ?_
  refine aw (r_build_array (zs:=Cd.cs (cVec (cInt .u8) 16 (by decide)) zv2) (cs:=Cd.cs (cVec (cInt .u8) 16 (by decide)) zv2) underlying23 zeroValue23 rfl sizeOf5 rfl rfl) ?_
  refine at_store (c:=(cVec (cInt .u8) 16 (by decide))) (z:=zv2) (.s .z) lw sizeOf23 rfl rfl rfl ?_
  refine aa (qn (dz (wq [3,2] ?_)))
  refine tn (rt ?_)
  have K:=os hF
  subst K
  exact at_res2 rfl (res_cell (c:=(cVec (cInt .u8) 16 (by decide))) (y:=zv2) rfl .z lw isAgg23 sizeOf23 (.inl rfl)) (res_tmp rfl) wb
 refine cf h4 ?_
 refine sns (am ?_)
 obtain ⟨t5,ht5,hF⟩:=bM hF
 refine at_callP (E':=cellsE b2 (Cd.cs c_colon_reader t5.2.2) 210) func198 rfl (by kernel_rfl) rfl rfl (fun w hw=>colon_reader_spread_ok _ _ _ ht5 w .z hw) ?_
 refine am ?_
 refine aw xe (aw xe ?_)
 refine al (cs:=Cd.cs (cVec (cInt .u16) 8 (by decide)) zv5) zeroValue208 ?_
 intro b6
 refine at_store (c:=(cVec (cInt .u16) 8 (by decide))) (z:=t5.1) .z lw sizeOf208 rfl rfl rfl ?_
 refine aa (qn ?_)
 refine at_drop (H:=_) (.s .z) ?_
 refine tn (qs (sr (am ?_)))
 refine aw (r_not rfl) ?_
 refine nwq [23,5,2] ?_
 obtain ⟨h7,hF⟩|⟨h7,hF⟩:=oi hF
 ·refine ct h7 ?_
  refine sr ?_
  refine aw (r_build_array (zs:=Cd.cs (cVec (cInt .u8) 16 (by decide)) zv2) (cs:=Cd.cs (cVec (cInt .u8) 16 (by decide)) zv2) underlying23 zeroValue23 rfl sizeOf5 rfl rfl) ?_
  refine at_store (c:=(cVec (cInt .u8) 16 (by decide))) (z:=zv2) (.s .z) lw sizeOf23 rfl rfl rfl ?_
  refine aa (qn (dz (wq [3,2] ?_)))
  refine tn (rt ?_)
  have K:=os hF
  subst K
  exact at_res2 rfl (res_cell (c:=(cVec (cInt .u8) 16 (by decide))) (y:=zv2) rfl .z lw isAgg23 sizeOf23 (.inl rfl)) (res_tmp rfl) wb
 refine cf h7 ?_
 refine sns ?_
 refine al (cs:=Cd.cs (cVec (cInt .u8) 16 (by decide)) zv2) zeroValue23 ?_
 intro b8
 refine nt (qs (sr ?_))
 refine aw (r_load_aggc (c:=(cVec (cInt .u16) 8 (by decide))) (z:=t5.1) isAgg208 sizeOf208 rfl (lens_cell (.s .z) lw)) ?_
 refine am (qn ?_)
 refine at_drop (H:=_) (.s .z) ?_
 refine wq [26,25,7,2] ?_
 refine tn ?_
 refine qb ?_
 obtain ⟨q9,hq9,hF⟩:=bM hF
 refine wq [26,25,7,2] ?_
 refine at_loop_n (B:=0) (A:=fun Y=>At 44 [(2,.pointer (some ⟨b1,0,none⟩)),(7,.pointer (some ⟨b8,0,none⟩))] (Wd w [cellsE b8 (Cd.cs (cVec (cInt .u8) 16 (by decide)) q9) 23,cellsE b1 (Cd.cs (cVec (cInt .u8) 16 (by decide)) zv2) 23]) Y) ?_ ?_
 ·intro K
  refine colon_Parse.l0.partial_correctness t5 (motive:=fun i10 i11 x=>KN (fun Y=>At 44 [(2,.pointer (some ⟨b1,0,none⟩)),(7,.pointer (some ⟨b8,0,none⟩))] (Wd w [cellsE b8 (Cd.cs (cVec (cInt .u8) 16 (by decide)) x) 23,cellsE b1 (Cd.cs (cVec (cInt .u8) 16 (by decide)) zv2) 23]) Y) _ 0→Round (fun Y=>At 44 [(2,.pointer (some ⟨b1,0,none⟩)),(7,.pointer (some ⟨b8,0,none⟩)),(25,.agg (Cd.cs (cVec (cInt .u16) 8 (by decide)) t5.1).toArray),(26,.int .i64 i10)] (Wd w [cellsE b8 (Cd.cs (cVec (cInt .u8) 16 (by decide)) i11) 23,cellsE b1 (Cd.cs (cVec (cInt .u8) 16 (by decide)) zv2) 23]) Y) _ _ _) ?_ _ _ _ hq9 K
  ·clear K hF
   intro g ih i10 i11 x hF K
   refine at_round ?_
   refine sr (aw xl (nwq [27,26,25,7,2] ?_))
   refine qs ?_
   obtain ⟨h12,hF⟩|⟨h12,hF⟩:=oi hF
   ·refine ct h12 ?_
    refine sn (qs ?_)
    refine qb ?_
    refine sr (am ?_)
    obtain ⟨h13,hF⟩:=gd hF
    refine aw (r_idxVal underlying208 sizeOf191 rfl rfl h13 (part_vOf (Lens.vec (cInt .u16) (by decide) t5.1 i10 h13) isAgg191 sizeOf191 (.inr rfl))) ?_
    refine aa (aa (nt (qr (am ?_))))
    refine aw (r_imul rfl rfl) ?_
    refine am ?_
    refine aw (r_imul rfl rfl) ?_
    refine aw xa (am ?_)
    refine aw (r_ishr rfl rfl (by decide)) ?_
    refine aw (r_conv underlying191 underlying5 rfl) ?_
    refine am ?_
    refine aw (r_conv underlying191 underlying5 rfl) ?_
    obtain ⟨h14,hF⟩:=gd hF
    refine aw (r_idxArr underlying23 sizeOf5 rfl rfl h14) ?_
    refine at_store (c:=(cInt .u8)) (z:=wr .u8 (ishr .u16 (vget t5.1 i10) 8)) .z (Lens.comp lw (fun z=>vset i11 (wr .i64 (2*i10)) z) (Lens.vec (cInt .u8) (by decide) i11 (wr .i64 (2*i10)) h14)) sizeOf5 rfl rfl rfl ?_
    obtain ⟨h15,hF⟩:=gd hF
    refine aw (r_idxArr underlying23 sizeOf5 rfl rfl h15) ?_
    refine at_store (c:=(cInt .u8)) (z:=wr .u8 (vget t5.1 i10)) .z (Lens.comp lw (fun z=>vset (vset i11 (wr .i64 (2*i10)) (wr .u8 (ishr .u16 (vget t5.1 i10) 8))) (wr .i64 ((wr .i64 (2*i10))+1)) z) (Lens.vec (cInt .u8) (by decide) (vset i11 (wr .i64 (2*i10)) (wr .u8 (ishr .u16 (vget t5.1 i10) 8))) (wr .i64 ((wr .i64 (2*i10))+1)) h15)) sizeOf5 rfl rfl rfl ?_
    refine qn (wq [26,25,7,2] ?_)
    refine bm ?_
    refine qr (aw xa (am (nwq [26,25,7,2] ?_)))
    exact at_weak_k (ih _ _ _ hF K) ⟨rfl,rfl,rfl,rfl,trivial⟩
   refine cf h12 ?_
   refine at_exit ?_
   refine te (te ?_)
   obtain rfl:=os hF
   exact at_weak_k K ⟨rfl,rfl,trivial⟩
 skip
 skip
 refine at_blk_same ?_
 refine tn (sr ?_)
 refine aw (r_load_aggc (c:=(cVec (cInt .u8) 16 (by decide))) (z:=q9) isAgg23 sizeOf23 rfl (lens_cell .z lw)) ?_
 refine at_store (c:=(cVec (cInt .u8) 16 (by decide))) (z:=q9) (.s .z) lw sizeOf23 rfl rfl rfl ?_
 refine aa (qn (dz (wq [3,2] ?_)))
 refine tn (qt ?_)
 have K:=os hF
 subst K
 exact at_res2 rfl (res_cell (c:=(cVec (cInt .u8) 16 (by decide))) (y:=q9) rfl .z lw isAgg23 sizeOf23 (.inl rfl)) (res_tmp rfl) wb
def endian_sized(x0:List Int):Option (Bool) :=
 if (decide ((x0.length:Int)≥1))=true then (some (decide ((x0.length:Int)≤8))) else (some false)
theorem endian_sized_ok(x0:List Int)(p0_:Option Addr)(c0_:Nat)(r:Bool)(hF:endian_sized x0=some r)(w:World)(hr0:Row (cInt .u8) w p0_ c0_ x0) :
    Calls Tryz.prog 236 #[.slice p0_ x0.length c0_] w (fun e w'=>e=.returned (.bool r)∧w'=w):=by
 unfold endian_sized at hF
 refine ce (l:=[.slice p0_ x0.length c0_]) func236 rfl rfl ?_
 refine sr (aa (nwx [0] ?_))
 refine am ?_
 refine aw (r_len_sl underlying22 rfl) ?_
 refine aw (r_igeq rfl rfl) ?_
 refine am ?_
 obtain ⟨h1,hF⟩|⟨h1,hF⟩:=oi hF
 ·refine fx 6 h1 ?_
  refine gy ?_
  refine am ?_
  refine gy ?_
  refine aw (r_len_sl underlying22 rfl) ?_
  refine gy ?_
  refine aw (r_ileq rfl rfl) ?_
  refine aw xp (aa (nwq [2] ?_))
  refine qt ?_
  have K:=os hF
  subst K
  exact r1 (fun w1 hw=>⟨rfl,hw⟩)
 refine fx 6 h1 ?_
 refine gn ?_
 refine gn ?_
 refine gn ?_
 refine aw xp (aa (nwq [2] ?_))
 refine qt ?_
 have K:=os hF
 subst K
 exact r1 (fun w1 hw=>⟨rfl,hw⟩)
def endian_OfBig.l0(x0:List Int)(i4:Int)(i5:Int):Option (Int) :=
 if (decide (i5<(x0.length:Int)))=true then (if (0:Int)≤i5∧i5<(x0.length:Int) then endian_OfBig.l0 x0 (ior .u64 (ishl .u64 i4 8) (wr .u64 (lget x0 i5))) (wr .i64 (i5+1)) else none) else (some i4)
 partial_fixpoint
def endian_OfBig(x0:List Int):Option (Int×Int) :=
 endian_sized x0>>=fun t1=>if (!t1)=true then (some (0,1)) else (endian_OfBig.l0 x0 0 0>>=fun q3=>some (q3,0))
theorem endian_OfBig_ok(x0:List Int)(p0_:Option Addr)(c0_:Nat)(r:Int×Int)(hF:endian_OfBig x0=some r)(w:World)(hr0:Row (cInt .u8) w p0_ c0_ x0) :
    Calls Tryz.prog 221 #[.slice p0_ x0.length c0_] w (fun e w'=>e=.returned (.tuple #[.int .u64 r.1,.int .i64 r.2])∧w'=w):=by
 unfold endian_OfBig at hF
 refine ce (l:=[.slice p0_ x0.length c0_]) func221 rfl rfl ?_
 refine sr (aa (aa (nt (qs (sr (am ?_))))))
 obtain ⟨t1,ht1,hF⟩:=bM hF
 refine at_call0w func236 rfl (by kernel_rfl) rfl rfl (fun w hw=>endian_sized_ok _ _ _ _ ht1 w (hr0.below (by subst hw;exact Below.refl _ _))) ?_
 refine aw (r_not rfl) ?_
 refine nwq [9,0] ?_
 obtain ⟨h2,hF⟩|⟨h2,hF⟩:=oi hF
 ·refine ct h2 ?_
  refine sr (aa (aa (nwq [3,2] ?_)))
  refine rt ?_
  have K:=os hF
  subst K
  exact at_return2 rfl rfl rfl (fun w1 hw=>⟨rfl,hw⟩)
 refine cf h2 ?_
 refine sns (aa (nt (qs (sr (am ?_)))))
 refine aw (r_len_sl underlying22 rfl) ?_
 refine am (nwq [12,11,10,4] ?_)
 refine qb ?_
 obtain ⟨q3,hq3,hF⟩:=bM hF
 refine wq [12,11,10,4] ?_
 refine at_loop_n (B:=0) (A:=fun Y=>At 23 [(4,.int .u64 q3)] (fun w'=>w'=w) Y) ?_ ?_
 ·intro K
  refine endian_OfBig.l0.partial_correctness x0 (motive:=fun i4 i5 x=>KN (fun Y=>At 23 [(4,.int .u64 x)] (fun w'=>w'=w) Y) _ 0→Round (fun Y=>At 23 [(4,.int .u64 i4),(10,.slice p0_ x0.length c0_),(11,.int .i64 (x0.length:Int)),(12,.int .i64 i5)] (fun w'=>w'=w) Y) _ _ _) ?_ _ _ _ hq3 K
  ·clear K hF
   intro g ih i4 i5 x hF K
   refine at_round ?_
   refine sr (aw xl (nwq [13,12,11,10,4] ?_))
   refine qs ?_
   obtain ⟨h6,hF⟩|⟨h6,hF⟩:=oi hF
   ·refine ct h6 ?_
    refine sn (qs ?_)
    refine qb ?_
    refine sr ?_
    obtain ⟨h7,hF⟩:=gd hF
    obtain ⟨b9,o10,hp8⟩:=row_ptr hr0 h7
    refine aw (r_idx underlying22 sizeOf5 rfl rfl h7 hp8) ?_
    refine aw (r_load_cell isAgg5 rfl (row_cell0 (fun w1 (h:w1=w)=>by subst h;exact Below.refl _ _) hr0 h7 hp8 rfl)) ?_
    refine aa (nt (qr (am ?_)))
    refine aw (r_ishl rfl rfl (by decide)) ?_
    refine am ?_
    refine aw (r_conv underlying5 underlying31 rfl) ?_
    refine aw (r_ior rfl rfl) ?_
    refine aa (qn (wq [12,11,10,4] ?_))
    refine bm ?_
    refine qr (aw xa (am (nwq [12,11,10,4] ?_)))
    exact at_weak_k (ih _ _ _ hF K) ⟨rfl,rfl,rfl,rfl,trivial⟩
   refine cf h6 ?_
   refine at_exit ?_
   refine te (te ?_)
   obtain rfl:=os hF
   exact at_weak_k K ⟨rfl,trivial⟩
 skip
 skip
 refine at_blk_same ?_
 refine tn (sr (am (aa (aa (nwq [3,2] ?_)))))
 refine qt ?_
 have K:=os hF
 subst K
 exact at_return2 rfl rfl rfl (fun w1 hw=>⟨rfl,hw⟩)
def colon_groups.l0(x0:(Vector Int 16))(i5:Int)(i6:(Vector Int 8)):Option ((Vector Int 8)) :=
 if (decide (i5<8))=true then (if (0:Int)≤wr .i64 (2*i5)∧wr .i64 (2*i5)≤wr .i64 ((wr .i64 (2*i5))+2)∧wr .i64 ((wr .i64 (2*i5))+2)≤(16:Int) then endian_OfBig (lsub (Vector.toList x0) (wr .i64 (2*i5)) (wr .i64 ((wr .i64 (2*i5))+2)))>>=fun t9=>if (0:Int)≤i5∧i5<8 then colon_groups.l0 x0 (wr .i64 (i5+1)) (vset i6 i5 (wr .u16 t9.1)) else none else none) else (some i6)
 partial_fixpoint
def colon_groups(x0:(Vector Int 16)):Option ((Vector Int 8)) :=
 colon_groups.l0 x0 0 (Vector.replicate 8 (0:Int):(Vector Int 8))>>=fun q4=>some q4
theorem colon_groups_ok(x0:(Vector Int 16))(r:(Vector Int 8))(hF:colon_groups x0=some r)(w:World) :
    Calls Tryz.prog 199 #[.agg (Cd.cs (cVec (cInt .u8) 16 (by decide)) x0).toArray] w (fun e w'=>e=.returned (.agg (Cd.cs (cVec (cInt .u16) 8 (by decide)) r).toArray)∧Below w.heap.size w w'):=by
 unfold colon_groups at hF
 refine ce (l:=[.agg (Cd.cs (cVec (cInt .u8) 16 (by decide)) x0).toArray]) func199 rfl rfl ?_
 refine at_start ?_
 refine sr ?_
 refine at_box (cs:=Cd.cs (cVec (cInt .u8) 16 (by decide)) x0) rfl rfl rfl ?_
 intro b1
 refine al (cs:=Cd.cs (cVec (cInt .u16) 8 (by decide)) zv5) zeroValue208 ?_
 intro b2
 refine ns ?_
 refine al (cs:=Cd.cs (cVec (cInt .u16) 8 (by decide)) zv5) zeroValue208 ?_
 intro b3
 refine nt (qs (sr (am (nwq [7,3,2,1] ?_))))
 refine qb ?_
 obtain ⟨q4,hq4,hF⟩:=bM hF
 refine wq [7,3,2,1] ?_
 refine at_loop_n (B:=0) (A:=fun Y=>At 26 [(2,.pointer (some ⟨b2,0,none⟩)),(3,.pointer (some ⟨b3,0,none⟩))] (Wd w [cellsE b3 (Cd.cs (cVec (cInt .u16) 8 (by decide)) q4) 208,cellsE b2 (Cd.cs (cVec (cInt .u16) 8 (by decide)) zv5) 208]) Y) ?_ ?_
 ·intro K
  refine colon_groups.l0.partial_correctness x0 (motive:=fun i5 i6 x=>KN (fun Y=>At 26 [(2,.pointer (some ⟨b2,0,none⟩)),(3,.pointer (some ⟨b3,0,none⟩))] (Wd w [cellsE b3 (Cd.cs (cVec (cInt .u16) 8 (by decide)) x) 208,cellsE b2 (Cd.cs (cVec (cInt .u16) 8 (by decide)) zv5) 208]) Y) _ 0→Round (fun Y=>At 26 [(1,.pointer (some ⟨b1,0,none⟩)),(2,.pointer (some ⟨b2,0,none⟩)),(3,.pointer (some ⟨b3,0,none⟩)),(7,.int .i64 i5)] (Wd w [cellsE b3 (Cd.cs (cVec (cInt .u16) 8 (by decide)) i6) 208,cellsE b2 (Cd.cs (cVec (cInt .u16) 8 (by decide)) zv5) 208,cellsE b1 (Cd.cs (cVec (cInt .u8) 16 (by decide)) x0) 23]) Y) _ _ _) ?_ _ _ _ hq4 K
  ·clear K hF
   intro g ih i5 i6 x hF K
   refine at_round ?_
   refine sr (aw xl (nwq [8,7,3,2,1] ?_))
   refine qs ?_
   obtain ⟨h7,hF⟩|⟨h7,hF⟩:=oi hF
   ·refine ct h7 ?_
    refine sn (qs ?_)
    refine qb ?_
    refine sr (am (aa (ns (am ?_))))
    refine aw (r_imul rfl rfl) ?_
    refine am ?_
    refine aw (r_imul rfl rfl) ?_
    refine aw xa ?_
    obtain ⟨h8,hF⟩:=gd hF
    refine aw (r_view (c:=(cInt .u8)) (v:=x0) (l:=wr .i64 (2*i5)) (h:=wr .i64 ((wr .i64 (2*i5))+2)) underlying23 sizeOf5 rfl ⟨_,rfl⟩ ⟨_,rfl⟩ h8) ?_
    obtain ⟨t9,ht9,hF⟩:=bM hF
    refine cB func221 rfl (fun w hw=>callB_of_call0 (endian_OfBig_ok _ _ _ _ ht9 w (Row.sub (lens_row (.s (.s .z)) lw hw) (vbnd h8)))) ?_
    refine am ?_
    refine aw xe (aw xe (aa (aa (nt (qr (am (am ?_)))))))
    refine aw (r_conv underlying31 underlying191 rfl) ?_
    obtain ⟨h10,hF⟩:=gd hF
    refine aw (r_idxArr underlying208 sizeOf191 rfl rfl h10) ?_
    refine at_store (c:=(cInt .u16)) (z:=wr .u16 t9.1) .z (Lens.comp lw (fun z=>vset i6 i5 z) (Lens.vec (cInt .u16) (by decide) i6 i5 h10)) sizeOf191 rfl rfl rfl ?_
    refine qn (wq [7,3,2,1] ?_)
    refine bm ?_
    refine qr (aw xa (am (nwq [7,3,2,1] ?_)))
    exact at_weak_k (ih _ _ _ hF K) ⟨rfl,rfl,rfl,rfl,trivial⟩
   refine cf h7 ?_
   refine at_exit ?_
   refine te (te ?_)
   refine at_drop (H:=_) (.s (.s .z)) ?_
   obtain rfl:=os hF
   exact at_weak_k K ⟨rfl,rfl,trivial⟩
 skip
 skip
 refine at_blk_same ?_
 refine tn (sr ?_)
 refine aw (r_load_aggc (c:=(cVec (cInt .u16) 8 (by decide))) (z:=q4) isAgg208 sizeOf208 rfl (lens_cell .z lw)) ?_
 refine at_store (c:=(cVec (cInt .u16) 8 (by decide))) (z:=q4) (.s .z) lw sizeOf208 rfl rfl rfl ?_
 refine qn (dz (wq [2] ?_))
 refine tn (qt ?_)
 have K:=os hF
 subst K
 exact at_res1 rfl (res_cell (c:=(cVec (cInt .u16) 8 (by decide))) (y:=q4) rfl .z lw isAgg208 sizeOf208 (.inl rfl)) wb
def colon_longest.l0(x0:(Vector Int 8))(i3:Int)(i4:Int)(i5:Int)(i6:Int):Option (Int×Int) :=
 if (decide (i6<8))=true then (if (0:Int)≤i6∧i6<8 then if (vget x0 i6 != 0)=true then (colon_longest.l0 x0 i3 i4 0 (wr .i64 (i6+1))) else (if (decide (wr .i64 (i5+1)>i4))=true then (colon_longest.l0 x0 (wr .i64 ((wr .i64 (i6+1))-(wr .i64 (i5+1)))) (wr .i64 (i5+1)) (wr .i64 (i5+1)) (wr .i64 (i6+1))) else (colon_longest.l0 x0 i3 i4 (wr .i64 (i5+1)) (wr .i64 (i6+1)))) else none) else (some (i3,i4))
 partial_fixpoint
def colon_longest(x0:(Vector Int 8)):Option (Int×Int) :=
 colon_longest.l0 x0 0 0 0 0>>=fun q2=>some (q2.1,q2.2)
theorem colon_longest_ok(x0:(Vector Int 8))(r:Int×Int)(hF:colon_longest x0=some r)(w:World) :
    Calls Tryz.prog 200 #[.agg (Cd.cs (cVec (cInt .u16) 8 (by decide)) x0).toArray] w (fun e w'=>e=.returned (.tuple #[.int .i64 r.1,.int .i64 r.2])∧Below w.heap.size w w'):=by
 unfold colon_longest at hF
 refine ce (l:=[.agg (Cd.cs (cVec (cInt .u16) 8 (by decide)) x0).toArray]) func200 rfl rfl ?_
 refine at_start ?_
 refine sr ?_
 refine at_box (cs:=Cd.cs (cVec (cInt .u16) 8 (by decide)) x0) rfl rfl rfl ?_
 intro b1
 refine aa (aa (ns (aa (nt (qs (sr ?_))))))
 refine aw (r_load_aggc (c:=(cVec (cInt .u16) 8 (by decide))) (z:=x0) isAgg208 sizeOf208 rfl (lens_cell .z lw)) ?_
 refine am (qn (dz (wq [8,7,4,3,2] ?_)))
 refine tn ?_
 refine qb ?_
 obtain ⟨q2,hq2,hF⟩:=bM hF
 refine wq [8,7,4,3,2] ?_
 refine at_loop_n (B:=0) (A:=fun Y=>At 27 [(2,.int .i64 q2.1),(3,.int .i64 q2.2)] (Wd w []) Y) ?_ ?_
 ·intro K
  refine colon_longest.l0.partial_correctness x0 (motive:=fun i3 i4 i5 i6 x=>KN (fun Y=>At 27 [(2,.int .i64 x.1),(3,.int .i64 x.2)] (Wd w []) Y) _ 0→Round (fun Y=>At 27 [(2,.int .i64 i3),(3,.int .i64 i4),(4,.int .i64 i5),(7,.agg (Cd.cs (cVec (cInt .u16) 8 (by decide)) x0).toArray),(8,.int .i64 i6)] (Wd w []) Y) _ _ _) ?_ _ _ _ _ _ hq2 K
  ·clear K hF
   intro g ih i3 i4 i5 i6 x hF K
   refine at_round ?_
   refine sr (aw xl (nwq [9,8,7,4,3,2] ?_))
   refine qs ?_
   obtain ⟨h7,hF⟩|⟨h7,hF⟩:=oi hF
   ·refine ct h7 ?_
    refine sn (qs ?_)
    refine qb ?_
    refine sr (am ?_)
    obtain ⟨h8,hF⟩:=gd hF
    refine aw (r_idxVal underlying208 sizeOf191 rfl rfl h8 (part_vOf (Lens.vec (cInt .u16) (by decide) x0 i6 h8) isAgg191 sizeOf191 (.inr rfl))) ?_
    refine aa (aa (nt (qs (sr (am (aw xn (nwq [13,8,7,5,4,3,2] ?_)))))))
    obtain ⟨h9,hF⟩|⟨h9,hF⟩:=oi hF
    ·refine ct h9 ?_
     refine sr (aa (nwq [8,7,4,3,2] ?_))
     refine at_exit ?_
     refine te (at_blk_same (tn ?_))
     refine qr (aw xa (am (nwq [8,7,4,3,2] ?_)))
     exact at_weak_k (ih _ _ _ _ _ hF K) ⟨rfl,rfl,rfl,rfl,rfl,trivial⟩
    refine cf h9 ?_
    refine sns (am (aw xa (aa (ns (am (am ?_))))))
    refine aw (r_igtr rfl rfl) ?_
    refine nwq [18,8,7,5,4,3,2] ?_
    obtain ⟨h10,hF⟩|⟨h10,hF⟩:=oi hF
    ·refine ct h10 ?_
     refine qr (am (aw xa (am ?_)))
     refine aw (r_isub rfl rfl) ?_
     refine am (aa (aa (qn (wq [8,7,4,3,2] ?_))))
     refine bm ?_
     refine qr (aw xa (am (nwq [8,7,4,3,2] ?_)))
     exact at_weak_k (ih _ _ _ _ _ hF K) ⟨rfl,rfl,rfl,rfl,rfl,trivial⟩
    refine cf h10 ?_
    refine at_skip ?_
    refine bm ?_
    refine qr (aw xa (am (nwq [8,7,4,3,2] ?_)))
    exact at_weak_k (ih _ _ _ _ _ hF K) ⟨rfl,rfl,rfl,rfl,rfl,trivial⟩
   refine cf h7 ?_
   refine at_exit ?_
   refine te (te ?_)
   obtain rfl:=os hF
   exact at_weak_k K ⟨rfl,rfl,trivial⟩
 skip
 skip
 refine at_blk_same ?_
 refine tn (sr (am (am (aa (aa (nwq [3,2] ?_))))))
 refine qt ?_
 have K:=os hF
 subst K
 exact at_return2 rfl rfl rfl wb
def hexes_Group.l0(i2:Int)(i3:ByteArray):Option (ByteArray) :=
 if (0:Int)≤iand .u16 i2 15∧iand .u16 i2 15<((⟨#[48,49,50,51,52,53,54,55,56,57,97,98,99,100,101,102]⟩:ByteArray).size:Int) then if (Utf8.encode (bt (⟨#[48,49,50,51,52,53,54,55,56,57,97,98,99,100,101,102]⟩:ByteArray) (iand .u16 i2 15))).size+i3.size≤140737488355328 then if (ishr .u16 i2 4==0)=true then (some ((Utf8.encode (bt (⟨#[48,49,50,51,52,53,54,55,56,57,97,98,99,100,101,102]⟩:ByteArray) (iand .u16 i2 15)))++i3)) else (hexes_Group.l0 (ishr .u16 i2 4) ((Utf8.encode (bt (⟨#[48,49,50,51,52,53,54,55,56,57,97,98,99,100,101,102]⟩:ByteArray) (iand .u16 i2 15)))++i3)) else none else none
 partial_fixpoint
def hexes_Group(x0:Int):Option (ByteArray) :=
 hexes_Group.l0 x0 (⟨#[]⟩)>>=fun q1=>some q1
theorem hexes_Group_ok(x0:Int)(r:ByteArray)(hF:hexes_Group x0=some r)(w:World) :
    Calls Tryz.prog 222 #[.int .u16 x0] w (fun e w'=>e=.returned (.string r)∧w'=w):=by
 unfold hexes_Group at hF
 refine ce (l:=[.int .u16 x0]) func222 rfl rfl ?_
 refine sr (aa (ns (aa (nwq [3,0] ?_))))
 refine qb ?_
 obtain ⟨q1,hq1,hF⟩:=bM hF
 refine wq [3,0] ?_
 refine at_loop_only (r:=r) (q:=q1) ?_ ?_
 ·intro K
  refine hexes_Group.l0.partial_correctness  (motive:=fun i2 i3 x=>x=r→Round (fun Y=>At 15 [(0,.int .u16 i2),(3,.string i3)] (fun w'=>w'=w) Y) _ _ _) ?_ _ _ _ hq1 K
  ·clear K hF
   intro g ih i2 i3 x hF K
   refine at_round ?_
   refine qb ?_
   refine sr (am ?_)
   refine aw (r_iand rfl rfl) ?_
   obtain ⟨h4,hF⟩:=gd hF
   refine aw (r_index_str underlying9 rfl rfl h4) ?_
   refine aw (r_conv_str underlying5 underlying9 rfl) ?_
   refine am ?_
   obtain ⟨h5,hF⟩:=gd hF
   refine aw (r_concat rfl rfl h5) ?_
   refine aa (ns (am ?_))
   refine aw (r_ishr rfl rfl (by decide)) ?_
   refine aa (ns (am (aw xq (nwq [13,3,0] ?_))))
   obtain ⟨h6,hF⟩|⟨h6,hF⟩:=oi hF
   ·refine ct h6 ?_
    refine sr (am (aa (nwq [2] ?_)))
    refine qt ?_
    refine br (tr (br ?_))
    obtain rfl:=os hF
    subst K
    exact r1 (fun w1 hw=>⟨rfl,hw⟩)
   refine cf h6 ?_
   refine at_skip ?_
   refine bm ?_
   exact at_weak_k (ih _ _ _ hF K) ⟨rfl,rfl,trivial⟩
 exact os hF
def colon_row.l0(x0:List Int)(i4:List ByteArray)(i5:Int):Option (List ByteArray) :=
 if (decide (i5<(x0.length:Int)))=true then (if (0:Int)≤i5∧i5<(x0.length:Int) then hexes_Group (lget x0 i5)>>=fun t15=>if (i4.length+1)*16≤140737488355328 then colon_row.l0 x0 (i4++[t15]) (wr .i64 (i5+1)) else none else none) else (some i4)
 partial_fixpoint
def colon_row(x0:List Int):Option (ByteArray) :=
 colon_row.l0 x0 ([]:List ByteArray) 0>>=fun q3=>if List.length q3≤140737488355328 then if (bjoin q3 (⟨#[58]⟩:ByteArray)).size≤140737488355328 then some (bjoin q3 (⟨#[58]⟩:ByteArray)) else none else none
theorem colon_row_ok(x0:List Int)(p0_:Option Addr)(c0_:Nat)(r:ByteArray)(hF:colon_row x0=some r)(w:World)(hr0:Row (cInt .u16) w p0_ c0_ x0) :
    Calls Tryz.prog 201 #[.slice p0_ x0.length c0_] w (fun e w'=>e=.returned (.string r)∧Below w.heap.size w w'):=by
 unfold colon_row at hF
 refine ce (l:=[.slice p0_ x0.length c0_]) func201 rfl rfl ?_
 refine at_start ?_
 refine sr (aa (ns (aa (nt (qs (sr (am ?_)))))))
 refine aw (r_len_sl underlying218 rfl) ?_
 refine am (nwq [8,7,6,3] ?_)
 refine qb ?_
 refine at_own_nil cStr 9 ?_
 obtain ⟨q3,hq3,hF⟩:=bM hF
 refine wq [8,7,6,3] ?_
 refine at_loop_n (B:=0) (A:=fun Y=>∀ (p8:Option Addr) (c9:Nat),At 20 [(3,.slice p8 q3.length c9)] (Wd w [rowE cStr 9 p8 c9 q3]) Y) ?_ ?_
 ·intro K
  refine colon_row.l0.partial_correctness x0 (motive:=fun i4 i5 x=>KN (fun Y=>∀ (p8:Option Addr) (c9:Nat),At 20 [(3,.slice p8 x.length c9)] (Wd w [rowE cStr 9 p8 c9 x]) Y) _ 0→Round (fun Y=>∀ (p6:Option Addr) (c7:Nat),At 20 [(3,.slice p6 i4.length c7),(6,.slice p0_ x0.length c0_),(7,.int .i64 (x0.length:Int)),(8,.int .i64 i5)] (Wd w [rowE cStr 9 p6 c7 i4]) Y) _ _ _) ?_ _ _ _ hq3 K none 0
  ·clear K hF
   intro g ih i4 i5 x hF K p6 c7
   refine at_round ?_
   refine sr (aw xl (nwq [9,8,7,6,3] ?_))
   refine qs ?_
   obtain ⟨h10,hF⟩|⟨h10,hF⟩:=oi hF
   ·refine ct h10 ?_
    refine sn (qs ?_)
    refine qb ?_
    refine sr ?_
    obtain ⟨h11,hF⟩:=gd hF
    obtain ⟨b13,o14,hp12⟩:=row_ptr hr0 h11
    refine aw (r_idx underlying218 sizeOf191 rfl rfl h11 hp12) ?_
    refine aw (r_load_cell isAgg191 rfl (row_cell0 (fun _ h=>h.below) hr0 h11 hp12 rfl)) ?_
    refine aa (nt (qr (am (am ?_))))
    obtain ⟨t15,ht15,hF⟩:=bM hF
    refine at_call0 func222 rfl (by kernel_rfl) rfl rfl (fun w=>hexes_Group_ok _ _ ht15 w) ?_
    refine at_lit (cs:=cStr.all ([t15]:List ByteArray)) underlying38 sizeOf9 zeroValue9 rfl rfl rfl (by kernel_rfl) rfl ?_
    intro b16
    obtain ⟨h17,hF⟩:=gd hF
    refine at_append (z:=.string ⟨#[]⟩) (c:=cStr) (ys:=([t15]:List ByteArray)) (.s .z) underlying38 infoG39 (by kernel_rfl) (by kernel_rfl) rfl rfl rfl rfl (fun _ hw=>cells_src (hw.ok (Upd.mem .z))) (by kernel_rfl) h17 (app_small h17) rfl ?_
    intro p18 c19
    refine aa (qn (dz (wq [8,7,6,3] ?_)))
    refine bm ?_
    refine qr (aw xa (am (nwq [8,7,6,3] ?_)))
    exact at_weak_k (ih _ _ _ hF K p18 c19) ⟨rfl,rfl,rfl,rfl,trivial⟩
   refine cf h10 ?_
   refine at_exit ?_
   refine te (te ?_)
   obtain rfl:=os hF
   exact at_weak_k (K p6 c7) ⟨rfl,trivial⟩
 skip
 intro p8 c9
 refine at_blk_same ?_
 refine tn (sr (am ?_))
 obtain ⟨h20,hF⟩:=gd hF
 obtain ⟨h21,hF⟩:=gd hF
 refine cB func47 rfl (fun w1 hw=>join_ok _ _ h20 h21 _ _ w1 (hw.own .z).row) ?_
 refine aa (qn (dz (wq [2] ?_)))
 refine tn (qt ?_)
 have K:=os hF
 subst K
 exact r1 wb
def colon_Text(x0:(Vector Int 16)):Option (ByteArray) :=
 colon_groups x0>>=fun t2=>colon_longest t2>>=fun t4=>if (decide (t4.2<2))=true then (colon_row (Vector.toList t2)>>=fun t6=>some t6) else (if (0:Int)≤0∧0≤t4.1∧t4.1≤(8:Int) then colon_row (lsub (Vector.toList t2) 0 t4.1)>>=fun t8=>if t8.size+(⟨#[58,58]⟩:ByteArray).size≤140737488355328 then if (0:Int)≤wr .i64 (t4.1+t4.2)∧wr .i64 (t4.1+t4.2)≤8∧8≤(8:Int) then colon_row (lsub (Vector.toList t2) (wr .i64 (t4.1+t4.2)) 8)>>=fun t11=>if (t8++(⟨#[58,58]⟩:ByteArray)).size+t11.size≤140737488355328 then some ((t8++(⟨#[58,58]⟩:ByteArray))++t11) else none else none else none else none)
theorem colon_Text_ok(x0:(Vector Int 16))(r:ByteArray)(hF:colon_Text x0=some r)(w:World) :
    Calls Tryz.prog 184 #[.agg (Cd.cs (cVec (cInt .u8) 16 (by decide)) x0).toArray] w (fun e w'=>e=.returned (.string r)∧Below w.heap.size w w'):=by
 unfold colon_Text at hF
 refine ce (l:=[.agg (Cd.cs (cVec (cInt .u8) 16 (by decide)) x0).toArray]) func184 rfl rfl ?_
 refine at_start ?_
 refine sr ?_
 refine at_box (cs:=Cd.cs (cVec (cInt .u8) 16 (by decide)) x0) rfl rfl rfl ?_
 intro b1
 refine aa (ns ?_)
 refine aw (r_load_aggc (c:=(cVec (cInt .u8) 16 (by decide))) (z:=x0) isAgg23 sizeOf23 rfl (lens_cell .z lw)) ?_
 obtain ⟨t2,ht2,hF⟩:=bM hF
 refine cB func199 rfl (fun w hw=>colon_groups_ok _ _ ht2 w) ?_
 refine al (cs:=Cd.cs (cVec (cInt .u16) 8 (by decide)) zv5) zeroValue208 ?_
 intro b3
 refine at_store (c:=(cVec (cInt .u16) 8 (by decide))) (z:=t2) .z lw sizeOf208 rfl rfl rfl ?_
 refine qn ?_
 refine at_drop (H:=_) (.s .z) ?_
 refine tn (sr ?_)
 refine aw (r_load_aggc (c:=(cVec (cInt .u16) 8 (by decide))) (z:=t2) isAgg208 sizeOf208 rfl (lens_cell .z lw)) ?_
 obtain ⟨t4,ht4,hF⟩:=bM hF
 refine cB func200 rfl (fun w hw=>colon_longest_ok _ _ ht4 w) ?_
 refine am ?_
 refine aw xe (aw xe (aa (aa (nt (qs (sr (am (aw xl ?_))))))))
 refine nwq [14,5,4,3] ?_
 obtain ⟨h5,hF⟩|⟨h5,hF⟩:=oi hF
 ·refine ct h5 ?_
  refine sr ?_
  refine aw (r_slice_vec t2 underlying208 sizeOf191 rfl) ?_
  obtain ⟨t6,ht6,hF⟩:=bM hF
  refine cB func201 rfl (fun w hw=>colon_row_ok _ _ _ _ ht6 w (vec_row (hw.ok (Upd.mem .z)))) ?_
  refine aa (qn (dz (wq [2] ?_)))
  refine tn (rt ?_)
  have K:=os hF
  subst K
  exact r1 wb
 refine cf h5 ?_
 refine sn (qs ?_)
 refine at_draw (by kernel_rfl) (by kernel_rfl) (fun _ h=>h.drew) ?_
 refine atq_val rfl rfl rfl (r_move rfl) ?_
 obtain ⟨h7,hF⟩:=gd hF
 refine atq_val rfl rfl rfl (r_view (c:=(cInt .u16)) (v:=t2) (l:=0) (h:=t4.1) underlying208 sizeOf191 rfl rfl ⟨_,rfl⟩ h7) ?_
 obtain ⟨t8,ht8,hF⟩:=bM hF
 refine atq_call func201 rfl (by kernel_rfl) rfl rfl (fun w hw=>(colon_row_ok _ _ _ _ ht8 w (Row.sub (lens_row .z lw hw) (vbnd h7))).mono fun _ _ h=>⟨h.1,hw.call h.2⟩) ?_
 obtain ⟨h9,hF⟩:=gd hF
 refine atq_val rfl rfl rfl (r_concat rfl rfl h9) ?_
 refine atq_val rfl rfl rfl (r_move rfl) ?_
 refine atq_val rfl rfl rfl (r_move rfl) ?_
 refine atq_val rfl rfl rfl (r_iadd rfl rfl) ?_
 obtain ⟨h10,hF⟩:=gd hF
 refine atq_val rfl rfl rfl (r_view (c:=(cInt .u16)) (v:=t2) (l:=wr .i64 (t4.1+t4.2)) (h:=8) underlying208 sizeOf191 rfl ⟨_,rfl⟩ rfl h10) ?_
 obtain ⟨t11,ht11,hF⟩:=bM hF
 refine atq_call func201 rfl (by kernel_rfl) rfl rfl (fun w hw=>(colon_row_ok _ _ _ _ ht11 w (Row.sub (lens_row .z lw hw) (vbnd h10))).mono fun _ _ h=>⟨h.1,hw.call h.2⟩) ?_
 obtain ⟨h12,hF⟩:=gd hF
 refine atq_val rfl rfl rfl (r_concat rfl rfl h12) ?_
 refine atq_val rfl rfl rfl (r_assign rfl) ?_
 refine atq_nil ?_
 refine dz (wq [2] ?_)
 refine tn (qt ?_)
 have K:=os hF
 subst K
 exact r1 wb
end Go.Proofs.YtkkmmpofdcccmaaGreatDoor
