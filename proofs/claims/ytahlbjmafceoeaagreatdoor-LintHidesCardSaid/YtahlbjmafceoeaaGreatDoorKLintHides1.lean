/- Texts of this claim, those in one that belong together; printed by a program of this project. -/
import Derived.Shelf.Strings.Builder1
import Derived.Shelf.Strings.Builder2
import Derived.Shelf.Strings.OnBuilder
import Derived.Shelf.Small.Bits
import Derived.Shelf.Strings.BuilderF
import Derived.Shelf.Strings.BuilderK
import Derived.Shelf.Strings.Builder2Cap
import Derived.Shelf.Strconv.Itoa0
import Derived.Shelf.Strconv.Itoa1
import Derived.Shelf.LaysM
import Derived.Shelf.Strconv.Itoa2
import Derived.Shelf.Strings.Prefix
import Derived.Shelf.Bits.Mul64
import Derived.Shelf.Strings.Repeat
import Derived.Shelf.Strings.BuilderCap
import Derived.Test.YtahlbjmafceoeaaGreatDoorProg
import Derived.Test.YtahlbjmafceoeaaGreatDoorRows
import Derived.Lib.Walk
import Derived.Lib.ItoaWalk
import Derived.Lib.ItoaMem
import Derived.Lib.AppendIntMem
import Derived.Lib.Hide
import Derived.WalkKit
import Derived.BigCall
import Derived.BigGuard
import Derived.CellFam
import Derived.Lib.SliceRun
import GoSem.Step
import Derived.Calls
import Derived.Shelf.SlSortCmp.NoneTotal
import Derived.Shelf.SlGeneric
import Derived.Ground.SlsfProg
import Derived.Test.YtahlbjmafceoeaaGreatDoorKLintHides0
set_option linter.unusedVariables false
set_option linter.unusedSimpArgs false
set_option maxRecDepth 20000
namespace Go.Proofs
open Go.Shelf
def Tryz.lays169_ren:Go.Shelf.Ren:=⟨fun | 169=>59 | n=>n,fun | 70=>95 | 9=>9 | 0=>0 | 72=>97 | 37=>74 | 127=>118 | 3=>3 | 5=>5 | n=>n,fun | n=>n⟩
theorem Tryz.lays169:Go.Proofs.Lays.n169 Tryz.prog Tryz.lays169_ren:={
 mixed:=by kernel_rfl
 f169:=Tryz.func59.trans (congrArg some (by kernel_rfl))
 t0:=Tryz.underlying0
 a0:=Tryz.isAgg0
 z0:=Tryz.sizeOf0
 v0:=Tryz.zeroValue0
 t3:=Tryz.underlying3
 a3:=Tryz.isAgg3
 z3:=Tryz.sizeOf3
 v3:=Tryz.zeroValue3
 t9:=Tryz.underlying9
 a9:=Tryz.isAgg9
 z9:=Tryz.sizeOf9
 v9:=Tryz.zeroValue9
 t37:=Tryz.underlying74
 a37:=Tryz.isAgg74
 z37:=Tryz.sizeOf74
 v37:=Tryz.zeroValue74
 t70:=Tryz.underlying95
 a70:=Tryz.isAgg95
 z70:=Tryz.sizeOf95
 v70:=Tryz.zeroValue95
 t72:=Tryz.underlying97
 a72:=Tryz.isAgg97
 z72:=Tryz.sizeOf97
 v72:=Tryz.zeroValue97
 t127:=Tryz.underlying118
 a127:=Tryz.isAgg118
 z127:=Tryz.sizeOf118
 v127:=Tryz.zeroValue118 }
theorem Tryz.Builder_Extra_169:Builder.Extra Tryz.prog Tryz.lays169_ren:={
 sizeBuilder:=by kernel_rfl
 liesBuilder:=by kernel_rfl
 t5:=Tryz.underlying5
 a5:=Tryz.isAgg5
 z5:=Tryz.sizeOf5
 v5:=Tryz.zeroValue5
 infoByte:=by kernel_rfl
 cellsByte:=by kernel_rfl
 sizeByte:=by kernel_rfl
 neB5:=by decide }
def Tryz.lays156_ren:Go.Shelf.Ren:=⟨fun | 156=>37 | 165=>64 | 166=>58 | 169=>59 | 240=>83 | 241=>90 | 276=>114 | 277=>123 | n=>n,fun | 31=>72 | 9=>9 | 3=>3 | 4=>4 | 0=>0 | 20=>20 | 72=>97 | 76=>100 | 70=>95 | 37=>74 | 75=>99 | 127=>118 | 164=>149 | 5=>5 | 80=>92 | n=>n,fun | n=>n⟩
theorem Tryz.lays156:Go.Proofs.Lays.n156 Tryz.prog Tryz.lays156_ren:={
 mixed:=by kernel_rfl
 f156:=Tryz.func37.trans (congrArg some (by kernel_rfl))
 f165:=Tryz.func64.trans (congrArg some (by kernel_rfl))
 f166:=Tryz.func58.trans (congrArg some (by kernel_rfl))
 f169:=Tryz.func59.trans (congrArg some (by kernel_rfl))
 f240:=Tryz.func83.trans (congrArg some (by kernel_rfl))
 f241:=Tryz.func90.trans (congrArg some (by kernel_rfl))
 f276:=Tryz.func114.trans (congrArg some (by kernel_rfl))
 f277:=Tryz.func123.trans (congrArg some (by kernel_rfl))
 t0:=Tryz.underlying0
 a0:=Tryz.isAgg0
 z0:=Tryz.sizeOf0
 v0:=Tryz.zeroValue0
 t3:=Tryz.underlying3
 a3:=Tryz.isAgg3
 z3:=Tryz.sizeOf3
 v3:=Tryz.zeroValue3
 t4:=Tryz.underlying4
 a4:=Tryz.isAgg4
 z4:=Tryz.sizeOf4
 v4:=Tryz.zeroValue4
 t9:=Tryz.underlying9
 a9:=Tryz.isAgg9
 z9:=Tryz.sizeOf9
 v9:=Tryz.zeroValue9
 t20:=Tryz.underlying20
 a20:=Tryz.isAgg20
 z20:=Tryz.sizeOf20
 v20:=Tryz.zeroValue20
 t31:=Tryz.underlying72
 a31:=Tryz.isAgg72
 z31:=Tryz.sizeOf72
 v31:=Tryz.zeroValue72
 t37:=Tryz.underlying74
 a37:=Tryz.isAgg74
 z37:=Tryz.sizeOf74
 v37:=Tryz.zeroValue74
 t70:=Tryz.underlying95
 a70:=Tryz.isAgg95
 z70:=Tryz.sizeOf95
 v70:=Tryz.zeroValue95
 t72:=Tryz.underlying97
 a72:=Tryz.isAgg97
 z72:=Tryz.sizeOf97
 v72:=Tryz.zeroValue97
 t75:=Tryz.underlying99
 a75:=Tryz.isAgg99
 z75:=Tryz.sizeOf99
 v75:=Tryz.zeroValue99
 t76:=Tryz.underlying100
 a76:=Tryz.isAgg100
 z76:=Tryz.sizeOf100
 v76:=Tryz.zeroValue100
 t127:=Tryz.underlying118
 a127:=Tryz.isAgg118
 z127:=Tryz.sizeOf118
 v127:=Tryz.zeroValue118
 t164:=Tryz.underlying149
 a164:=Tryz.isAgg149
 z164:=Tryz.sizeOf149
 v164:=Tryz.zeroValue149 }
theorem Tryz.Builder_Extra_156:Builder.Extra Tryz.prog Tryz.lays156_ren:={
 sizeBuilder:=by kernel_rfl
 liesBuilder:=by kernel_rfl
 t5:=Tryz.underlying5
 a5:=Tryz.isAgg5
 z5:=Tryz.sizeOf5
 v5:=Tryz.zeroValue5
 infoByte:=by kernel_rfl
 cellsByte:=by kernel_rfl
 sizeByte:=by kernel_rfl
 neB5:=by decide }
open Go.RowKit in
theorem Tryz.strings_Join_none(a:Option Addr)(c:Nat)(sep:ByteArray)(w:World) :
  Calls Tryz.prog 37 #[.slice a 0 c,.string sep] w fun e w'=>e=.returned (.string ⟨#[]⟩)∧w'=w:=Any.strings_Join_none Tryz.lays156 Tryz.Builder_Extra_156 a c sep w
open Go.RowKit in
theorem Tryz.strings_Join(bk o c:Nat)(xs:List ByteArray)(sep:ByteArray)(w:World)(hcells:∀ (j:Nat) x,xs[j]? = some x→w.cell? ⟨bk,o+j,none⟩=some (.string x))(hbk:bk<w.heap.size)(hN:xs.length≤140737488355328)(hcap:xs.length≤c)(hlen:(Lib.join (xs.map (·.data.toList)) sep.data.toList).length≤140737488355328) :
  Calls Tryz.prog 37 #[.slice (some ⟨bk,o,none⟩) xs.length c,.string sep] w fun e w'=>e=.returned (.string ⟨(Lib.join (xs.map (·.data.toList)) sep.data.toList).toArray⟩)∧Below w.heap.size w w':=Any.strings_Join Tryz.lays156 Tryz.Builder_Extra_156 bk o c xs sep w hcells hbk hN hcap hlen
open Go.RowKit in
theorem Tryz.Builder_String_any_k(B b:Nat)(l:List UInt8)(w:World)(h:Lib.IsBuilderF 97 5 B b (Lib.byteCells l) w)(hBw:B≤w.heap.size) :
  Calls Tryz.prog 59 #[.pointer (some ⟨b,0,none⟩)] w fun e w'=>e=.returned (.string ⟨l.toArray⟩)∧(Lib.IsBuilderF 97 5 B b (Lib.byteCells l) w'∧Below B w w'∧Lib.OthersKept 5 (some b) w w'):=Any.Builder_String_any_k Tryz.lays169 Tryz.Builder_Extra_169 B b l w h hBw
def Tryz.lays283_ren:Go.Shelf.Ren:=⟨fun | 283=>141 | n=>n,fun | 3=>3 | 9=>9 | 4=>4 | n=>n,fun | n=>n⟩
theorem Tryz.lays283:Go.Proofs.Lays.n283 Tryz.prog Tryz.lays283_ren:={
 mixed:=by kernel_rfl
 f283:=Tryz.func141.trans (congrArg some (by kernel_rfl))
 t3:=Tryz.underlying3
 a3:=Tryz.isAgg3
 z3:=Tryz.sizeOf3
 v3:=Tryz.zeroValue3
 t4:=Tryz.underlying4
 a4:=Tryz.isAgg4
 z4:=Tryz.sizeOf4
 v4:=Tryz.zeroValue4
 t9:=Tryz.underlying9
 a9:=Tryz.isAgg9
 z9:=Tryz.sizeOf9
 v9:=Tryz.zeroValue9 }
open Go.Lib in
theorem Tryz.internal_strconv_small(i:Nat)(h:i<100)(w:World) :
  Calls Tryz.prog 141 #[.int .i64 i] w fun e w'=>e=.returned (.string ⟨(Lib.decDigits i).toArray⟩)∧w'=w:=Any.internal_strconv_small Tryz.lays283 i h w
def Tryz.laysM284_ren:Go.Shelf.Ren:=⟨fun | 284=>142 | 129=>155 | 317=>167 | 318=>168 | n=>n,fun | 53=>57 | 3=>3 | 212=>200 | 0=>0 | 4=>4 | 46=>119 | 5=>5 | 9=>9 | n=>n,fun | 17=>2 | n=>n⟩
theorem Tryz.laysM284:Go.Proofs.LaysM.n284 Tryz.prog Tryz.laysM284_ren:={
 mixed:=by kernel_rfl
 f129:=Tryz.func155.trans (congrArg some (by kernel_rfl))
 f284:=Tryz.func142.trans (congrArg some (by kernel_rfl))
 f317:=Tryz.func167.trans (congrArg some (by kernel_rfl))
 f318:=Tryz.func168.trans (congrArg some (by kernel_rfl))
 t0:=Tryz.underlying0
 a0:=Tryz.isAgg0
 z0:=Tryz.sizeOf0
 v0:=Tryz.zeroValue0
 t3:=Tryz.underlying3
 a3:=Tryz.isAgg3
 z3:=Tryz.sizeOf3
 v3:=Tryz.zeroValue3
 t4:=Tryz.underlying4
 a4:=Tryz.isAgg4
 z4:=Tryz.sizeOf4
 v4:=Tryz.zeroValue4
 t5:=Tryz.underlying5
 a5:=Tryz.isAgg5
 z5:=Tryz.sizeOf5
 v5:=Tryz.zeroValue5
 t9:=Tryz.underlying9
 a9:=Tryz.isAgg9
 z9:=Tryz.sizeOf9
 v9:=Tryz.zeroValue9
 t46:=Tryz.underlying119
 a46:=Tryz.isAgg119
 z46:=Tryz.sizeOf119
 v46:=Tryz.zeroValue119
 t53:=Tryz.underlying57
 a53:=Tryz.isAgg57
 z53:=Tryz.sizeOf57
 v53:=Tryz.zeroValue57
 t212:=Tryz.underlying200
 a212:=Tryz.isAgg200
 z212:=Tryz.sizeOf200
 v212:=Tryz.zeroValue200
 g17:=by kernel_rfl
 i0:=by kernel_rfl
 i3:=by kernel_rfl
 i4:=by kernel_rfl
 i5:=by kernel_rfl
 i9:=by kernel_rfl
 i46:=by kernel_rfl
 i53:=by kernel_rfl
 i212:=by kernel_rfl
 m17:=by kernel_rfl }
open Go.Lib in
theorem Tryz.internal_strconv_numDigits(u : Nat)(h1 : 1 ≤ u)(h2 : u < 18446744073709551616)(w : World)(htab : Lib.TabIs Tryz.prog w "internal/strconv.uint64pow10" .u64 Lib.pow10Tab) :
  Calls Tryz.prog 142 #[.int .u64 u] w fun e w'=>e=.returned (.int .i64 (Lib.nDigits u))∧w'=w:=Any.internal_strconv_numDigits Tryz.laysM284 u h1 h2 w htab
def Tryz.lays285_ren:Go.Shelf.Ren:=⟨fun | 285=>143 | n=>n,fun | 37=>74 | 53=>57 | 3=>3 | 4=>4 | 51=>24 | 9=>9 | 5=>5 | 0=>0 | n=>n,fun | n=>n⟩
theorem Tryz.lays285:Go.Proofs.Lays.n285 Tryz.prog Tryz.lays285_ren:={
 mixed:=by kernel_rfl
 f285:=Tryz.func143.trans (congrArg some (by kernel_rfl))
 t0:=Tryz.underlying0
 a0:=Tryz.isAgg0
 z0:=Tryz.sizeOf0
 v0:=Tryz.zeroValue0
 t3:=Tryz.underlying3
 a3:=Tryz.isAgg3
 z3:=Tryz.sizeOf3
 v3:=Tryz.zeroValue3
 t4:=Tryz.underlying4
 a4:=Tryz.isAgg4
 z4:=Tryz.sizeOf4
 v4:=Tryz.zeroValue4
 t5:=Tryz.underlying5
 a5:=Tryz.isAgg5
 z5:=Tryz.sizeOf5
 v5:=Tryz.zeroValue5
 t9:=Tryz.underlying9
 a9:=Tryz.isAgg9
 z9:=Tryz.sizeOf9
 v9:=Tryz.zeroValue9
 t37:=Tryz.underlying74
 a37:=Tryz.isAgg74
 z37:=Tryz.sizeOf74
 v37:=Tryz.zeroValue74
 t51:=Tryz.underlying24
 a51:=Tryz.isAgg24
 z51:=Tryz.sizeOf24
 v51:=Tryz.zeroValue24
 t53:=Tryz.underlying57
 a53:=Tryz.isAgg57
 z53:=Tryz.sizeOf57
 v53:=Tryz.zeroValue57 }
open Go.RowKit Go.Sort Go.Lib in
theorem Tryz.internal_strconv_formatBase10(blk off cap:Nat)(u:Nat)(d:Array UInt8)(w:World)(hH:Holds (fun (b:UInt8)=>Value.int .u8 (b.toNat:Int)) w blk off d)(hu:u<10 ^ d.size)(hu64:u<18446744073709551616)(hsz:d.size<4611686018427387904) :
  Calls Tryz.prog 143 #[.slice (some ⟨blk,off,none⟩) d.size cap,.int .u64 u] w fun e w' =>
   e=.returned (.tuple #[])∧∃ (n v':Nat) (dk:Array UInt8),w'=(putRow (fun (b:UInt8)=>Value.int .u8 (b.toNat:Int)) w blk off dk).drewN n∧FmtInv d.size u 0 v' dk:=Any.internal_strconv_formatBase10 Tryz.lays285 blk off cap u d w hH hu hu64 hsz
def Tryz.lays105_ren:Go.Shelf.Ren:=⟨fun | 105=>85 | 212=>115 | 99=>116 | 165=>64 | 166=>58 | 170=>117 | 169=>59 | 263=>136 | 264=>137 | 206=>138 | 240=>83 | 241=>90 | 276=>114 | 277=>123 | n=>n,fun | 9=>9 | 3=>3 | 4=>4 | 20=>20 | 0=>0 | 46=>119 | 109=>151 | 5=>5 | 72=>97 | 76=>100 | 51=>24 | 146=>171 | 53=>57 | 148=>173 | 70=>95 | 37=>74 | 75=>99 | 127=>118 | 164=>149 | 80=>92 | n=>n,fun | n=>n⟩
theorem Tryz.lays105:Go.Proofs.Lays.n105 Tryz.prog Tryz.lays105_ren:={
 mixed:=by kernel_rfl
 f99:=Tryz.func116.trans (congrArg some (by kernel_rfl))
 f105:=Tryz.func85.trans (congrArg some (by kernel_rfl))
 f165:=Tryz.func64.trans (congrArg some (by kernel_rfl))
 f166:=Tryz.func58.trans (congrArg some (by kernel_rfl))
 f169:=Tryz.func59.trans (congrArg some (by kernel_rfl))
 f170:=Tryz.func117.trans (congrArg some (by kernel_rfl))
 f206:=Tryz.func138.trans (congrArg some (by kernel_rfl))
 f212:=Tryz.func115.trans (congrArg some (by kernel_rfl))
 f240:=Tryz.func83.trans (congrArg some (by kernel_rfl))
 f241:=Tryz.func90.trans (congrArg some (by kernel_rfl))
 f263:=Tryz.func136.trans (congrArg some (by kernel_rfl))
 f264:=Tryz.func137.trans (congrArg some (by kernel_rfl))
 f276:=Tryz.func114.trans (congrArg some (by kernel_rfl))
 f277:=Tryz.func123.trans (congrArg some (by kernel_rfl))
 t0:=Tryz.underlying0
 a0:=Tryz.isAgg0
 z0:=Tryz.sizeOf0
 v0:=Tryz.zeroValue0
 t3:=Tryz.underlying3
 a3:=Tryz.isAgg3
 z3:=Tryz.sizeOf3
 v3:=Tryz.zeroValue3
 t4:=Tryz.underlying4
 a4:=Tryz.isAgg4
 z4:=Tryz.sizeOf4
 v4:=Tryz.zeroValue4
 t5:=Tryz.underlying5
 a5:=Tryz.isAgg5
 z5:=Tryz.sizeOf5
 v5:=Tryz.zeroValue5
 t9:=Tryz.underlying9
 a9:=Tryz.isAgg9
 z9:=Tryz.sizeOf9
 v9:=Tryz.zeroValue9
 t20:=Tryz.underlying20
 a20:=Tryz.isAgg20
 z20:=Tryz.sizeOf20
 v20:=Tryz.zeroValue20
 t37:=Tryz.underlying74
 a37:=Tryz.isAgg74
 z37:=Tryz.sizeOf74
 v37:=Tryz.zeroValue74
 t46:=Tryz.underlying119
 a46:=Tryz.isAgg119
 z46:=Tryz.sizeOf119
 v46:=Tryz.zeroValue119
 t51:=Tryz.underlying24
 a51:=Tryz.isAgg24
 z51:=Tryz.sizeOf24
 v51:=Tryz.zeroValue24
 t53:=Tryz.underlying57
 a53:=Tryz.isAgg57
 z53:=Tryz.sizeOf57
 v53:=Tryz.zeroValue57
 t70:=Tryz.underlying95
 a70:=Tryz.isAgg95
 z70:=Tryz.sizeOf95
 v70:=Tryz.zeroValue95
 t72:=Tryz.underlying97
 a72:=Tryz.isAgg97
 z72:=Tryz.sizeOf97
 v72:=Tryz.zeroValue97
 t75:=Tryz.underlying99
 a75:=Tryz.isAgg99
 z75:=Tryz.sizeOf99
 v75:=Tryz.zeroValue99
 t76:=Tryz.underlying100
 a76:=Tryz.isAgg100
 z76:=Tryz.sizeOf100
 v76:=Tryz.zeroValue100
 t109:=Tryz.underlying151
 a109:=Tryz.isAgg151
 z109:=Tryz.sizeOf151
 v109:=Tryz.zeroValue151
 t127:=Tryz.underlying118
 a127:=Tryz.isAgg118
 z127:=Tryz.sizeOf118
 v127:=Tryz.zeroValue118
 t146:=Tryz.underlying171
 a146:=Tryz.isAgg171
 z146:=Tryz.sizeOf171
 v146:=Tryz.zeroValue171
 t148:=Tryz.underlying173
 a148:=Tryz.isAgg173
 z148:=Tryz.sizeOf173
 v148:=Tryz.zeroValue173
 t164:=Tryz.underlying149
 a164:=Tryz.isAgg149
 z164:=Tryz.sizeOf149
 v164:=Tryz.zeroValue149 }
theorem Tryz.Builder_Extra_105:Builder.Extra Tryz.prog Tryz.lays105_ren:={
 sizeBuilder:=by kernel_rfl
 liesBuilder:=by kernel_rfl
 t5:=Tryz.underlying5
 a5:=Tryz.isAgg5
 z5:=Tryz.sizeOf5
 v5:=Tryz.zeroValue5
 infoByte:=by kernel_rfl
 cellsByte:=by kernel_rfl
 sizeByte:=by kernel_rfl
 neB5:=by decide }
open Go.RowKit Go.Lib in
theorem Tryz.strings_Repeat(s:ByteArray)(c:Nat)(w:World)(hc:c≤9223372036854775807)(hlen:s.size*c≤140737488355328) :
  Calls Tryz.prog 85 #[.string s,.int .i64 c] w fun e w'=>e=.returned (.string ⟨(Lib.repeatL s.data.toList c).toArray⟩)∧Below w.heap.size w w':=Any.strings_Repeat Tryz.lays105 Tryz.Builder_Extra_105 s c w hc hlen
def Tryz.renAll:Go.Shelf.Ren:=⟨fun | 0=>0 | 1=>1 | 2=>2 | 99=>116 | 105=>85 | 125=>127 | 128=>154 | 129=>155 | 156=>37 | 165=>64 | 166=>58 | 167=>84 | 169=>59 | 170=>117 | 206=>138 | 212=>115 | 240=>83 | 241=>90 | 263=>136 | 264=>137 | 276=>114 | 277=>123 | 283=>141 | 284=>142 | 285=>143 | 286=>144 | 317=>167 | 318=>168 | 319=>169 | 320=>170 | 329=>172 | 330=>173 | 337=>179 | 338=>180 | 347=>183 | 348=>184 | 349=>185 | 350=>186 | 351=>187 | 352=>188 | 353=>189 | 354=>190 | 355=>191 | 356=>192 | 357=>193 | 358=>194 | 359=>195 | 360=>196 | 361=>197 | 362=>198 | 366=>200 | 367=>207 | n=>n,fun | 0=>0 | 1=>1 | 2=>2 | 3=>3 | 4=>4 | 5=>5 | 6=>6 | 7=>7 | 8=>8 | 9=>9 | 10=>10 | 11=>11 | 12=>12 | 13=>13 | 14=>14 | 15=>15 | 16=>16 | 17=>17 | 18=>18 | 19=>19 | 20=>20 | 21=>21 | 22=>153 | 26=>121 | 31=>72 | 37=>74 | 46=>119 | 47=>167 | 49=>156 | 51=>24 | 52=>191 | 53=>57 | 54=>179 | 67=>80 | 70=>95 | 71=>96 | 72=>97 | 73=>102 | 74=>98 | 75=>99 | 76=>100 | 77=>101 | 78=>120 | 80=>92 | 81=>154 | 83=>170 | 97=>164 | 109=>151 | 110=>152 | 111=>66 | 114=>198 | 127=>118 | 131=>189 | 146=>171 | 147=>172 | 148=>173 | 149=>174 | 164=>149 | 165=>150 | 166=>163 | 171=>178 | 172=>180 | 173=>181 | 174=>182 | 182=>184 | 183=>185 | 211=>199 | 212=>200 | 213=>201 | 218=>202 | 219=>203 | 220=>204 | 222=>206 | 228=>210 | 229=>159 | 232=>22 | 233=>213 | 234=>162 | 238=>214 | 239=>215 | 240=>216 | 241=>217 | 242=>218 | 243=>219 | 244=>220 | 245=>221 | 246=>222 | 247=>223 | 248=>224 | 249=>225 | n=>n,fun | 1=>1 | 17=>2 | 18=>3 | 19=>4 | n=>n⟩
def Tryz.lays167_ren:Go.Shelf.Ren:=Tryz.renAll
theorem Tryz.lays167:Go.Proofs.Lays.n167 Tryz.prog Tryz.renAll:={
 mixed:=by kernel_rfl
 f167:=Tryz.func84.trans (congrArg some (by kernel_rfl))
 f240:=Tryz.func83.trans (congrArg some (by kernel_rfl))
 f276:=Tryz.func114.trans (congrArg some (by kernel_rfl))
 t0:=Tryz.underlying0
 a0:=Tryz.isAgg0
 z0:=Tryz.sizeOf0
 v0:=Tryz.zeroValue0
 t4:=Tryz.underlying4
 a4:=Tryz.isAgg4
 z4:=Tryz.sizeOf4
 v4:=Tryz.zeroValue4
 t5:=Tryz.underlying5
 a5:=Tryz.isAgg5
 z5:=Tryz.sizeOf5
 v5:=Tryz.zeroValue5
 t9:=Tryz.underlying9
 a9:=Tryz.isAgg9
 z9:=Tryz.sizeOf9
 v9:=Tryz.zeroValue9
 t20:=Tryz.underlying20
 a20:=Tryz.isAgg20
 z20:=Tryz.sizeOf20
 v20:=Tryz.zeroValue20
 t37:=Tryz.underlying74
 a37:=Tryz.isAgg74
 z37:=Tryz.sizeOf74
 v37:=Tryz.zeroValue74
 t70:=Tryz.underlying95
 a70:=Tryz.isAgg95
 z70:=Tryz.sizeOf95
 v70:=Tryz.zeroValue95
 t72:=Tryz.underlying97
 a72:=Tryz.isAgg97
 z72:=Tryz.sizeOf97
 v72:=Tryz.zeroValue97
 t75:=Tryz.underlying99
 a75:=Tryz.isAgg99
 z75:=Tryz.sizeOf99
 v75:=Tryz.zeroValue99
 t164:=Tryz.underlying149
 a164:=Tryz.isAgg149
 z164:=Tryz.sizeOf149
 v164:=Tryz.zeroValue149 }
theorem Tryz.Builder_Extra_167:Builder.Extra Tryz.prog Tryz.lays167_ren where
 sizeBuilder:=by kernel_rfl
 liesBuilder:=by kernel_rfl
 t5:=Tryz.underlying5
 a5:=Tryz.isAgg5
 z5:=Tryz.sizeOf5
 v5:=Tryz.zeroValue5
 infoByte:=by kernel_rfl
 cellsByte:=by kernel_rfl
 sizeByte:=by kernel_rfl
 neB5:=by decide
def Tryz.lays166_ren:Go.Shelf.Ren:=Tryz.renAll
theorem Tryz.lays166:Go.Proofs.Lays.n166 Tryz.prog Tryz.renAll:={
 mixed:=by kernel_rfl
 f166:=Tryz.func58.trans (congrArg some (by kernel_rfl))
 f240:=Tryz.func83.trans (congrArg some (by kernel_rfl))
 f276:=Tryz.func114.trans (congrArg some (by kernel_rfl))
 t0:=Tryz.underlying0
 a0:=Tryz.isAgg0
 z0:=Tryz.sizeOf0
 v0:=Tryz.zeroValue0
 t3:=Tryz.underlying3
 a3:=Tryz.isAgg3
 z3:=Tryz.sizeOf3
 v3:=Tryz.zeroValue3
 t4:=Tryz.underlying4
 a4:=Tryz.isAgg4
 z4:=Tryz.sizeOf4
 v4:=Tryz.zeroValue4
 t9:=Tryz.underlying9
 a9:=Tryz.isAgg9
 z9:=Tryz.sizeOf9
 v9:=Tryz.zeroValue9
 t20:=Tryz.underlying20
 a20:=Tryz.isAgg20
 z20:=Tryz.sizeOf20
 v20:=Tryz.zeroValue20
 t37:=Tryz.underlying74
 a37:=Tryz.isAgg74
 z37:=Tryz.sizeOf74
 v37:=Tryz.zeroValue74
 t70:=Tryz.underlying95
 a70:=Tryz.isAgg95
 z70:=Tryz.sizeOf95
 v70:=Tryz.zeroValue95
 t72:=Tryz.underlying97
 a72:=Tryz.isAgg97
 z72:=Tryz.sizeOf97
 v72:=Tryz.zeroValue97
 t75:=Tryz.underlying99
 a75:=Tryz.isAgg99
 z75:=Tryz.sizeOf99
 v75:=Tryz.zeroValue99
 t164:=Tryz.underlying149
 a164:=Tryz.isAgg149
 z164:=Tryz.sizeOf149
 v164:=Tryz.zeroValue149 }
theorem Tryz.Builder_Extra_166:Builder.Extra Tryz.prog Tryz.lays166_ren where
 sizeBuilder:=by kernel_rfl
 liesBuilder:=by kernel_rfl
 t5:=Tryz.underlying5
 a5:=Tryz.isAgg5
 z5:=Tryz.sizeOf5
 v5:=Tryz.zeroValue5
 infoByte:=by kernel_rfl
 cellsByte:=by kernel_rfl
 sizeByte:=by kernel_rfl
 neB5:=by decide
open Go.RowKit in
theorem Tryz.Builder_WriteByte_k(B b:Nat)(bs:List Value)(c:Int)(w:World)(h:Lib.IsBuilderF 97 5 B b bs w)(hlen:bs.length+1≤140737488355328)(hBw:B≤w.heap.size) :
  Calls Tryz.prog 84 #[.pointer (some ⟨b,0,none⟩),.int .u8 c] w fun e w'=>e=.returned .nilIface∧(Lib.BuilderAtF 97 5 B b (.pointer (some ⟨b,0,none⟩)) (bs++[.int .u8 c]) w'∧Below B w w'∧Lib.OthersKept 5 (some b) w w'):=Any.Builder_WriteByte_k Tryz.lays167 Tryz.Builder_Extra_167 B b bs c w h hlen hBw
open Go.RowKit in
theorem Tryz.Builder_WriteString_k(B b:Nat)(bs:List Value)(s:ByteArray)(w:World)(h:Lib.IsBuilderF 97 5 B b bs w)(hlen:bs.length+s.size≤140737488355328)(hBw:B≤w.heap.size) :
  Calls Tryz.prog 58 #[.pointer (some ⟨b,0,none⟩),.string s] w fun e w'=>e=.returned (.tuple #[.int .i64 s.size,.nilIface])∧(Lib.BuilderAtF 97 5 B b (.pointer (some ⟨b,0,none⟩)) (bs++Lib.strCells s) w'∧Below B w w'∧Lib.OthersKept 5 (some b) w w'):=Any.Builder_WriteString_k Tryz.lays166 Tryz.Builder_Extra_166 B b bs s w h hlen hBw
end Go.Proofs
namespace Go.Proofs.YtahlbjmafceoeaaGreatDoor
open E Go.RowKit
theorem g_bits_deBruijn32tab: Tryz.prog.globalNamed "math/bits.deBruijn32tab" = some 3 := by kernel_rfl
theorem gt_bits_deBruijn32tab:(Tryz.prog.globals[3]?).map (·.type)=some 22:=by kernel_rfl
def GV_bits_deBruijn32tab(w : World) : Prop := Lib.TabIs Tryz.prog w "math/bits.deBruijn32tab" .u8 [0, 1, 28, 2, 29, 14, 24, 3, 30, 22, 20, 15, 25, 17, 4, 8, 31, 27, 13, 23, 21, 19, 16, 7, 26, 12, 18, 6, 11, 5, 10, 9]
theorem GV_bits_deBruijn32tab.of_laid{l : List (String × DataW Unit)}{w : World}(h : laidMet Tryz.prog l w)(hm : ("math/bits.deBruijn32tab", Rows.laid_math_bits_deBruijn32tab) ∈ l) : GV_bits_deBruijn32tab w := tab_of_reads g_bits_deBruijn32tab gt_bits_deBruijn32tab Tryz.underlying22 Tryz.underlying5 (by kernel_rfl) (by kernel_rfl) (reads_of h hm)
theorem g_bits_deBruijn64tab: Tryz.prog.globalNamed "math/bits.deBruijn64tab" = some 4 := by kernel_rfl
theorem gt_bits_deBruijn64tab:(Tryz.prog.globals[4]?).map (·.type)=some 213:=by kernel_rfl
def GV_bits_deBruijn64tab(w : World) : Prop := Lib.TabIs Tryz.prog w "math/bits.deBruijn64tab" .u8 [0, 1, 56, 2, 57, 49, 28, 3, 61, 58, 42, 50, 38, 29, 17, 4, 62, 47, 59, 36, 45, 43, 51, 22, 53, 39, 33, 30, 24, 18, 12, 5, 63, 55, 48, 27, 60, 41, 37, 16, 46, 35, 44, 21, 52, 32, 23, 11, 54, 26, 40, 15, 34, 20, 31, 10, 25, 14, 19, 9, 13, 8, 7, 6]
theorem GV_bits_deBruijn64tab.of_laid{l : List (String × DataW Unit)}{w : World}(h : laidMet Tryz.prog l w)(hm : ("math/bits.deBruijn64tab", Rows.laid_math_bits_deBruijn64tab) ∈ l) : GV_bits_deBruijn64tab w := tab_of_reads g_bits_deBruijn64tab gt_bits_deBruijn64tab Tryz.underlying213 Tryz.underlying5 (by kernel_rfl) (by kernel_rfl) (reads_of h hm)
theorem g_strconv_uint64pow10: Tryz.prog.globalNamed "internal/strconv.uint64pow10" = some 2 := by kernel_rfl
theorem gt_strconv_uint64pow10:(Tryz.prog.globals[2]?).map (·.type)=some 200:=by kernel_rfl
def GV_strconv_uint64pow10(w : World) : Prop := Lib.TabIs Tryz.prog w "internal/strconv.uint64pow10" .u64 Lib.pow10Tab
theorem GV_strconv_uint64pow10.on{w w':World}(h:GV_strconv_uint64pow10 w)(hb:Below w.heap.size w w'):GV_strconv_uint64pow10 w':=var_on h hb
theorem GV_strconv_uint64pow10.of_laid{l : List (String × DataW Unit)}{w : World}(h : laidMet Tryz.prog l w)(hm : ("internal/strconv.uint64pow10", Rows.laid_internal_strconv_uint64pow10) ∈ l) : GV_strconv_uint64pow10 w := tab_of_reads g_strconv_uint64pow10 gt_strconv_uint64pow10 Tryz.underlying200 Tryz.underlying57 (by kernel_rfl) (by kernel_rfl) (reads_of h hm)
theorem g_lint_words: Tryz.prog.globalNamed "crawlway/lint.words" = some 0 := by kernel_rfl
theorem gt_lint_words:(Tryz.prog.globals[0]?).map (·.type)=some 78:=by kernel_rfl
def gval_lint_words:Vector ByteArray 7:=#v[⟨#[]⟩,⟨#[107,101,121,108,101,115,115]⟩,⟨#[105,100,108,101]⟩,⟨#[100,111,117,98,108,101]⟩,⟨#[115,104,97,114,101,100]⟩,⟨#[115,112,97,114,101]⟩,⟨#[104,105,100,100,101,110]⟩]
def GV_lint_words(w : World) : Prop := Gv Tryz.prog w "crawlway/lint.words" (cVec cStr 7 (by decide)) gval_lint_words
theorem GV_lint_words.on{w w':World}(h:GV_lint_words w)(hb:Below w.heap.size w w'):GV_lint_words w':=Gv.on h hb
theorem GV_lint_words.of_laid{l : List (String × DataW Unit)}{w : World}(h : laidMet Tryz.prog l w)(hm : ("crawlway/lint.words", Rows.laid_crawlway_lint_words) ∈ l) : GV_lint_words w := gv_of_strs g_lint_words gt_lint_words Tryz.underlying78 Tryz.underlying9 (by kernel_rfl) (by kernel_rfl) (reads_of h hm)
end Go.Proofs.YtahlbjmafceoeaaGreatDoor
namespace Go.Proofs.YtahlbjmafceoeaaGreatDoor
open E Go.RowKit Go.Sort
set_option maxHeartbeats 6400000 in
set_option maxRecDepth 100000 in
theorem intFormatUint_small(u:Nat)(hu:u<100)(w:World) :
  Calls Tryz.prog 122 #[.int .u64 u,.int .i64 10] w fun e w'=>e=.returned (.string ⟨(Lib.decDigits u).toArray⟩)∧w'=w:=by
 have hw:IntKind.i64.wrap (u:Int)=(u:Int):=by rw [IntKind.wrap_i64];omega
 have iu:(u:Int)<100:=by omega
 go_enter Tryz.func122,Tryz.ntmps122
 go_wp2_with (go_at_call 141;refine (Tryz.internal_strconv_small u hu _).mono ?_;rintro e w' ⟨rfl,rfl⟩)
 go_ret
 exact ⟨rfl,rfl⟩
set_option maxHeartbeats 12800000 in
set_option maxRecDepth 100000 in
theorem intFormatUint_big(u : Nat)(hu : 100 ≤ u)(hu64 : u < 18446744073709551616)(w : World)(htab : Lib.TabIs Tryz.prog w "internal/strconv.uint64pow10" .u64 Lib.pow10Tab) :
  Calls Tryz.prog 122 #[.int .u64 u,.int .i64 10] w fun e w'=>e=.returned (.string ⟨(Lib.decDigits u).toArray⟩)∧Below w.heap.size w w':=by
 have hu1:1≤u:=by omega
 have hnd20:Lib.nDigits u≤20:=by have:=Lib.numDigits_eq u hu1 hu64;split at this<;>omega
 have hal:Tryz.prog.arrayLen 178=24:=by simp [Program.arrayLen,Tryz.underlying178]
 have hsl:∀ W,(Instr.sliceAt 178 (.pointer (some ⟨w.heap.size,0,none⟩)) none (some (.int .i64 (Lib.nDigits u:Int))) none).run Tryz.prog W=.ok (.slice (some ⟨w.heap.size,0,none⟩) (Lib.nDigits u) 24) W:=fun W=>by
  rw [run_sliceAt_array_h W 178 ⟨w.heap.size,0,none⟩ (by simp [Program.arrayLen,Program.elem,Tryz.underlying178]) .i64 (Lib.nDigits u:Int) (by omega) (by rw [hal];omega)]
  go_simp
 have hH0:=Lib.holds_zero0 w 178 (Lib.nDigits u) (by omega)
 have hfmt:=Tryz.internal_strconv_formatBase10 w.heap.size 0 24 u (Array.replicate (Lib.nDigits u) 0) (w.alloc (.cells Lib.zeros24 178)) hH0 (by rw [Array.size_replicate];exact Lib.lt_pow_nDigits u) hu64 (by rw [Array.size_replicate];omega)
 rw [Array.size_replicate] at hfmt
 have HH0:=Lib.hid hH0
 have iu:(100:Int)≤(u:Int):=by omega
 clear hH0 hal
 go_enter Tryz.func122,Tryz.ntmps122
 go_wp2_with (first
  | (go_at_call 142;refine (Tryz.internal_strconv_numDigits u hu1 hu64 _ (Lib.tabIs_alloc htab _)).mono ?_;rintro e w' ⟨rfl,rfl⟩))
 go_at_call 143
 refine hfmt.mono ?_
 rintro e w' ⟨rfl,k,v',dk,rfl,hF⟩
 have hcv:(convert 74 9 (.slice (some ⟨w.heap.size,0,none⟩) (Lib.nDigits u) 24)).run Tryz.prog ((putRow (fun (b:UInt8)=>Value.int .u8 (b.toNat:Int)) (w.alloc (.cells Lib.zeros24 178)) w.heap.size 0 dk).drewN k)=.ok (.string ⟨(Lib.decDigits u).toArray⟩) ((putRow (fun (b:UInt8)=>Value.int .u8 (b.toNat:Int)) (w.alloc (.cells Lib.zeros24 178)) w.heap.size 0 dk).drewN k):=by
  have h:=run_convert_bytes_back (P:=Tryz.prog) ((putRow (fun (b:UInt8)=>Value.int .u8 (b.toNat:Int)) (w.alloc (.cells Lib.zeros24 178)) w.heap.size 0 dk).drewN k) 74 9 5 ⟨w.heap.size,0,none⟩ 24 (Lib.decDigits u) Tryz.underlying74 Tryz.underlying5 Tryz.underlying9 (fun j hj=>by
   rw [Lib.row_is_numeral hF j hj,Lib.add_plain,World.cell?_drewN]
   exact cell?_putRow (fun (b:UInt8)=>Value.int .u8 (b.toNat:Int)) _ w.heap.size 0 _ dk HH0.out (by rw [hF.size,Array.size_replicate]) j (by rw [hF.size];rw [Lib.decDigits_length] at hj;exact hj))
  rw [Lib.decDigits_length] at h
  exact h
 go_wp2
 go_ret
 obtain ⟨os,eo⟩:=Lib.fin_at w (.cells Lib.zeros24 178) dk k 0
 refine ⟨rfl,?_⟩
 rw [eo]
 exact Lib.below_grow w.heap.size w (Nat.le_refl _) k os
theorem formatUint_ok(n:Int)(h:0≤n∧n<18446744073709551616)(w:World)(hg:GV_strconv_uint64pow10 w) :
  Calls Tryz.prog 89 #[.int .u64 n,.int .i64 10] w fun e w'=>e=.returned (.string (fmtU n))∧Below w.heap.size w w':=by
 obtain ⟨u,rfl⟩:=Int.eq_ofNat_of_zero_le h.1
 have hu64:u<18446744073709551616:=by omega
 have hin:Calls Tryz.prog 122 #[.int .u64 u,.int .i64 10] w fun e w'=>e=.returned (.string (fmtU u))∧Below w.heap.size w w':=by
  by_cases hs:u<100
  ·exact (intFormatUint_small u hs w).mono fun e w' ⟨he,hw⟩=>⟨he,hw▸Below.refl _ _⟩
  ·exact intFormatUint_big u (by omega) hu64 w hg
 refine calls_enter (l:=[.int .u64 u,.int .i64 10]) Tryz.func89 rfl rfl rfl ?_
 refine at_seq ?_
 refine at_region ?_
 refine at_val rfl rfl rfl (r_assign rfl) ?_
 refine at_nil ?_
 refine at_then_normal ?_
 refine at_seq ?_
 refine at_region ?_
 refine at_val rfl rfl rfl (r_move rfl) ?_
 refine at_val rfl rfl rfl (r_move rfl) ?_
 refine at_call (W':=fun v w'=>v=.string (fmtU u)∧Below w.heap.size w w') Tryz.func122 rfl (by kernel_rfl) rfl rfl (fun w1 hw1=>?_) ?_
 ·obtain rfl:w1=w:=hw1
  exact hin.mono fun e w' ⟨he,hw⟩=>⟨_,he,rfl,hw⟩
 ·intro v
  refine at_pure (φ:=v=.string (fmtU u)) (fun _ h=>h.1) ?_
  rintro rfl
  refine at_val rfl rfl rfl (r_assign rfl) ?_
  refine at_nil ?_
  refine at_then_normal ?_
  refine at_ret ?_
  exact at_return1 rfl rfl (fun w1 hw=>⟨rfl,hw.2⟩)
end Go.Proofs.YtahlbjmafceoeaaGreatDoor
namespace Go.Proofs.YtahlbjmafceoeaaGreatDoor
open E Go.RowKit
def bjoin(xs:List ByteArray)(sep:ByteArray):ByteArray:=⟨(Lib.join (xs.map (·.data.toList)) sep.data.toList).toArray⟩
theorem join_ok(xs:List ByteArray)(sep:ByteArray)(h:xs.length≤140737488355328)(hs:(bjoin xs sep).size≤140737488355328)(p:Option Addr)(cap:Nat)(w:World)(hr:Row cStr w p cap xs) :
  Calls Tryz.prog 37 #[.slice p xs.length cap,.string sep] w fun e w'=>e=.returned (.string (bjoin xs sep))∧Below w.heap.size w w':=by
 rcases hr.2 with h0 | ⟨b,o,hp,hc⟩
 ·subst h0
  exact (Tryz.strings_Join_none p cap sep w).mono fun e w' ⟨he,hw⟩=>⟨he,hw▸Below.refl _ _⟩
 ·cases xs with
  | nil=>exact (Tryz.strings_Join_none p cap sep w).mono fun e w' ⟨he,hw⟩=>⟨he,hw▸Below.refl _ _⟩
  | cons x r =>
   subst hp
   have hcell:∀ (j:Nat) y,(x::r)[j]? = some y→w.cell? ⟨b,o+j,none⟩=some (.string y):=fun j y hj=>by
    have:=Cd.all_get cStr (x::r) j 0 y hj (by decide)
    refine hc j _ ?_
    have e:j*cStr.sz+0=j:=by show j*1+0=j;omega
    rw [e] at this
    rw [this];rfl
   have hb:b<w.heap.size:=World.block_lt_of_cell? w _ (hcell 0 x rfl)
   have hlen:(Lib.join ((x::r).map (·.data.toList)) sep.data.toList).length≤140737488355328:=by
    have:(bjoin (x::r) sep).size=(Lib.join ((x::r).map (·.data.toList)) sep.data.toList).length:=by
     show (bjoin (x::r) sep).data.size=_
     simp [bjoin]
    omega
   exact Tryz.strings_Join b o cap (x::r) sep w hcell hb h hr.1 hlen
end Go.Proofs.YtahlbjmafceoeaaGreatDoor
namespace Go.Proofs.YtahlbjmafceoeaaGreatDoor.E
open Go.RowKit
variable {n : Nat} {L : List (Nat × Value)} {P : Program} {ops : Array Oper} {Q : Exit → Act → World → Prop} {rest : List Oper} {w0 : World} {H : List Ent}
theorem at_litL{α:Type}{d:Nat}{ty:TypeId}{pos:String}{aft:Array Edge}{t e:TypeId}{m sz:Nat}{parts:List (Nat×Operand)}{vs:List (Nat×Value)}{z:Value}{c:Cd α}(zs xs:List α)(ht:P.underlying t=some (.slice e))(hz:∀ w,(sizeOf e).run P w=.ok sz w)(hzv:∀ w,(zeroValue e).run P w=.ok z w)(hx:evp L parts=some vs)(hm:Nat.ble (m*sz) 16777216=true)(h0:Nat.beq (m*sz) 0=false)
  (hi:((Array.range (m*sz)).map (z.cells[·%z.cells.size]!))=(c.all zs).toArray)
  (hf:Instr.fill (fun i=>some (i*sz,sz)) (c.all zs).toArray vs=some (c.all xs).toArray) (hdn:Nat.blt d n=true)
  (k:∀ b,At n ((d,.slice (some ⟨b,0,none⟩) m m)::L) (Wd w0 (cellsE b (c.all xs) e::H)) (wpList P ops Q rest)) :
  At n L (Wd w0 H) (wpList P ops Q (⟨some d,.buildSlice t m parts.toArray,ty,pos,aft,none⟩::rest)) :=
 at_litG ht hz hzv hx hm h0 (by rw [hi];exact hf) hdn k
end Go.Proofs.YtahlbjmafceoeaaGreatDoor.E
namespace Go.Proofs.YtahlbjmafceoeaaGreatDoor.E
open Go.RowKit
variable {n : Nat} {L : List (Nat × Value)} {W : World → Prop} {P : Program} {ops : Array Oper} {Q : Exit → Act → World → Prop}
theorem updG_same{g:Gh}{k:Nat}{x:G3}:updG g k x k=x:=by unfold updG;simp
theorem updG_ne{g:Gh}{k j:Nat}{x:G3}(h:j≠k):updG g k x j=g j:=by
 unfold updG
 have:Nat.beq j k=false:=by
  cases hb:Nat.beq j k
  ·rfl
  ·exact absurd (Nat.eq_of_beq_eq_true hb) h
 rw [this];rfl
def optE(fl b:Nat)(cs:List Value)(t:TypeId):Ent:=if fl=1 then cellsE b cs t else ⟨[],fun _=>True,fun _ _ _ _=>trivial⟩
theorem optE_up{fl b:Nat}{cs:List Value}{t:TypeId}(h:fl=1):optE fl b cs t=cellsE b cs t:=if_pos h
theorem at_optIn{X:Act→World→Prop}{w0:World}{H G:List Ent}{f:Ent→List Ent}{fl b:Nat}{cs:List Value}{t:TypeId}(hu:Upd H (optE fl b cs t) f G)(h:fl=1)(k:At n L (Wd w0 (f (cellsE b cs t))) X):At n L (Wd w0 H) X:=by
 rw [←optE_up h,hu.same] at k;exact k
theorem opt_down{fl b:Nat}{cs:List Value}{t:TypeId}(h:fl≠1):optE fl b cs t=⟨[],fun _=>True,fun _ _ _ _=>trivial⟩:=if_neg h
theorem at_optPush{X:Act→World→Prop}{w0:World}{H:List Ent}{b:Nat}{cs:List Value}{t:TypeId}(k:At n L (Wd w0 (optE 0 b cs t::H)) X):At n L (Wd w0 H) X :=
 at_world (fun w hw=>hw.push (E:=optE 0 b cs t) (Below.refl _ _) (by rw [opt_down (by decide)];trivial) (by intro k hk;rw [opt_down (by decide)] at hk;simp at hk)) k
theorem at_optNew{X:Act→World→Prop}{w0:World}{H G:List Ent}{f:Ent→List Ent}{fl b0 b fl':Nat}{cs:List Value}{t:TypeId}(hu:Upd H (optE fl b0 cs t) f G)(h:fl≠1)(h':fl'=1)(k:At n L (Wd w0 (f (optE fl' b cs t))) X):At n L (Wd w0 (cellsE b cs t::H)) X:=fun a w he hw=>by
 rw [opt_down h] at hu
 rw [optE_up h'] at k
 have hb:=hw.sep.2.1 b (by simp [cellsE])
 refine k a w he ⟨hw.below,hw.pop.sep.swap hu (hw.ok (List.mem_cons_self ..)) fun j hj=>?_⟩
 simp [cellsE] at hj
 subst hj
 exact .inr ⟨hb.1,hb.2.1,hb.2.2⟩
def fixesF(flL:List Bool)(dpL:List (List Nat))(tot:Nat):Nat→List Kd→Prop
 | _,[]=>True
 | i,kd::r=>(∀ g g':Gh,(∀ k,k<kd.bound→g k=g' k)→(∀ j∈dpL.getD i [],g (tot+j)=g' (tot+j))→(flL.getD i false=true→g (tot+i)=g' (tot+i))→kd.val g=kd.val g')∧fixesF flL dpL tot (i+1) r
theorem fixesF_get{flL:List Bool}{dpL:List (List Nat)}{tot:Nat}:∀ {kds:List Kd} {m:Nat},fixesF flL dpL tot m kds→∀ {i:Nat} {kd:Kd},kds[i]? = some kd→∀ g g':Gh,(∀ k,k<kd.bound→g k=g' k)→(∀ j∈dpL.getD (m+i) [],g (tot+j)=g' (tot+j))→(flL.getD (m+i) false=true→g (tot+(m+i))=g' (tot+(m+i)))→kd.val g=kd.val g'
 | _::_,m,h,0,kd,hi=>by simp at hi;subst hi;exact h.1
 | _::_,m,h,i+1,kd,hi=>by
  have:=fixesF_get h.2 (i:=i) (by simpa using hi)
  rw [show m+(i+1)=m+1+i by omega];exact this
 | [],_,_,_,_,hi=>by simp at hi
def depsB(l:List Oper)(flL:List Bool)(dpL:List (List Nat)):Bool:=(List.range dpL.length).all fun i=>(dpL.getD i []).all fun j=>flL.getD j false&&reach l 8 i j
theorem depsB_spec{l:List Oper}{flL:List Bool}{dpL:List (List Nat)}(h:depsB l flL dpL=true){i j:Nat}(hj:j∈dpL.getD i []):flL.getD j false=true∧reach l 8 i j=true:=by
 unfold depsB at h
 have hi:i<dpL.length:=by
  rcases Nat.lt_or_ge i dpL.length with hh | hh
  ·exact hh
  ·rw [List.getD_eq_getElem?_getD,List.getElem?_eq_none hh] at hj;simp at hj
 have h1:=List.all_eq_true.1 (List.all_eq_true.1 h i (List.mem_range.2 hi)) j hj
 rw [Bool.and_eq_true] at h1
 exact h1
def ObF(n:Nat)(L:List (Nat×Value))(P:Program)(ops:Array Oper)(kds:List Kd)(Wm:Gh→Nat→World→Prop)(tot:Nat)(isf:Bool)(dp:List Nat)(i:Nat)(kd:Kd)(o:Oper):Prop :=
 match isf,kd with
 | true,.q d v need lo hi=>∀ (Lx:List (Nat×Value)) (b:Gh) (s:Nat) (K:Act→World→Prop),s≤hi→(b (tot+i)).2.2.1≠1→(∀ x:G3,x.2.2.1=1→At n ((d,v (updG b (tot+i) x))::(facOf kds b need++(L++Lx))) (Wm (updG b (tot+i) x) s) K)→At n (facOf kds b need++(L++Lx)) (Wm b s) (wpList P ops (QK K) [o])
 | true,_=>False
 | false,.q d v need lo hi=>∀ (Lx:List (Nat×Value)) (b:Gh) (s:Nat) (K:Act→World→Prop),(∀ j∈dp,(b (tot+j)).2.2.1=1)→lo≤s→s≤hi→At n ((d,v b)::(facOf kds b need++(L++Lx))) (Wm b s) K→At n (facOf kds b need++(L++Lx)) (Wm b s) (wpList P ops (QK K) [o])
 | false,.st k dv need=>∀ (Lx:List (Nat×Value)) (b:Gh) (K:Act→World→Prop),(∀ j∈dp,(b (tot+j)).2.2.1=1)→At n (Kd.add b (.st k dv need) (facOf kds b need++(L++Lx))) (Wm b (k+1)) K→At n (facOf kds b need++(L++Lx)) (Wm b k) (wpList P ops (QK K) [o])
 | false,.al k d v need=>∀ (Lx:List (Nat×Value)) (b:Gh) (K:Act→World→Prop),(∀ j∈dp,(b (tot+j)).2.2.1=1)→(∀ x,At n ((d,v (updG b k x))::(facOf kds b need++(L++Lx))) (Wm (updG b k x) (k+1)) K)→At n (facOf kds b need++(L++Lx)) (Wm b k) (wpList P ops (QK K) [o])
def ObsF(n:Nat)(L:List (Nat×Value))(P:Program)(ops:Array Oper)(kds:List Kd)(Wm:Gh→Nat→World→Prop)(tot:Nat)(flL:List Bool)(dpL:List (List Nat)):Nat→List Kd→List Oper→Prop
 | i,kd::r,o::l=>ObF n L P ops kds Wm tot (flL.getD i false) (dpL.getD i []) i kd o∧ObsF n L P ops kds Wm tot flL dpL (i+1) r l
 | _,[],[]=>True
 | _,_,_=>False
theorem obsF_get{kds0:List Kd}{Wm:Gh→Nat→World→Prop}{tot:Nat}{flL:List Bool}{dpL:List (List Nat)}:∀ {kds:List Kd} {l:List Oper} {m:Nat},ObsF n L P ops kds0 Wm tot flL dpL m kds l→∀ {i:Nat} {o:Oper},l[i]? = some o→∃ kd,kds[i]? = some kd∧ObF n L P ops kds0 Wm tot (flL.getD (m+i) false) (dpL.getD (m+i) []) (m+i) kd o
 | kd::r,o'::l,m,h,0,o,hi=>by
  simp at hi;subst hi
  exact ⟨kd,rfl,h.1⟩
 | kd::r,o'::l,m,h,i+1,o,hi=>by
  obtain ⟨kd',h1,h2⟩:=obsF_get h.2 (i:=i) (o:=o) (by simpa using hi)
  rw [show m+(i+1)=m+1+i by omega]
  exact ⟨kd',by simpa using h1,h2⟩
 | [],[],_,_,i,o,hi=>by simp at hi
 | [],_::_,_,h,_,_,_=>h.elim
 | _::_,[],_,h,_,_,_=>h.elim
def inStF(n:Nat)(L:List (Nat×Value))(l:List Oper)(kds:List Kd)(Wm:Gh→Nat→World→Prop)(tot:Nat)(flL:List Bool)(S:Array Bool)(a:Act)(w:World):Prop :=
 ∃ b s,a.tmps.size=n∧a.defers=[]∧(∀ t v,lk L t=some v→a.tmps.getD t undef=v) ∧
  (∀ j kd d,S.getD j false=true→kds[j]? = some kd→kd.dst=some d→a.tmps.getD d undef=kd.val b) ∧
  (∀ j kd k,kds[j]? = some kd→kd.rank=some k→(S.getD j false=true↔k<s))∧s≤tot∧Wm b s w∧(∀ j o i,S.getD j false=true→l[j]? = some o→edge o i=true→S.getD i false=true) ∧
  ∀ j,flL.getD j false=true→(S.getD j false=true↔(b (tot+j)).2.2.1=1)
theorem inv_goF{l:List Oper}{kds:List Kd}{Wm:Gh→Nat→World→Prop}{tot:Nat}{flL:List Bool}{dpL:List (List Nat)}(hb:backB l=true)(ha:allB n kds kds l=true)(hap:apartB (L.map (·.1)) kds=true)(hr:ranksB kds tot=true)(hfx:fixesF flL dpL tot 0 kds)(hdp:depsB l flL dpL=true)(hbo:boundB kds l tot=true)
  (hO:ObsF n L P l.toArray kds Wm tot flL dpL 0 kds l) (fin:∀ b,(∀ j,j<l.length→flL.getD j false=true→(b (tot+j)).2.2.1=1)→At n (facOf kds b (List.range l.length)++L) (Wm b tot) (Q .normal)) :
  ∀ (fuel:Nat) (S:Array Bool) (a:Act) (w:World),S.size=l.length→open_ S l.length≤fuel→inStF n L l kds Wm tot flL S a w→wpAny P .any l.toArray Q fuel S a w:=by
 have done:∀ (S:Array Bool) (a:Act) (w:World),(∀ j,j<l.length→S.getD j false=true)→inStF n L l kds Wm tot flL S a w→Q .normal a w:=by
  intro S a w hall ⟨b,s,h1,h2,h3,h4,h5,h6,h7,_,h9⟩
  have hs:s=tot:=by
   rcases Nat.lt_or_ge s tot with hlt | hge
   ·obtain ⟨j,kd,hj,hk⟩:=ranksB_cover hr hlt
    have hjl:j<l.length:=by rw [←allB_len ha];exact (List.getElem?_eq_some_iff.1 hj).1
    exact absurd ((h5 j kd s hj hk).1 (hall j hjl)) (Nat.lt_irrefl _)
   ·omega
  subst hs
  refine fin b (fun j hj hf=>(h9 j hf).1 (hall j hj)) a w ⟨h1,h2,fun t v hv=>?_⟩ h7
  rcases lk_append hv with hv | hv
  ·exact facOf_vals h4 (fun j hj=>hall j (List.mem_range.1 hj)) t v hv
  ·exact h3 t v hv
 intro fuel
 induction fuel with
 | zero =>
  intro S a w hS ho hi
  have hall:=fun j (hj:j<l.length)=>open_zero (Nat.le_zero.1 ho) hj
  refine ⟨?_,done S a w hall hi⟩
  cases hrd:Region.ready .any l.toArray S with
  | nil=>rfl
  | cons x r =>
   exfalso
   obtain ⟨hx1,o,hx2,_⟩:=mem_ready.1 (show x∈Region.ready .any l.toArray S by rw [hrd];exact List.mem_cons_self ..)
   have hxl:x<l.length:=by simpa using (Array.getElem?_eq_some_iff.1 hx2).1
   have hx3:=hall x hxl
   have hxs:x<S.size:=by omega
   rw [Array.getD_eq_getD_getElem?] at hx1 hx3
   simp [hxs] at hx1 hx3
   rw [hx1] at hx3;cases hx3
 | succ fuel ih =>
  intro S a w hS ho hi
  refine ⟨fun hrd=>done S a w (ready_nil hS hb hrd) hi,fun i hir=>?_⟩
  obtain ⟨hx1,o,hx2,hx3⟩:=mem_ready.1 hir
  have hil:i<l.length:=by simpa using (Array.getElem?_eq_some_iff.1 hx2).1
  have his:i<S.size:=by omega
  have hx0:S.getD i false=false:=by
   rw [Array.getD_eq_getD_getElem?] at hx1 ⊢
   simpa [his] using hx1
  have hlo:l[i]? = some o:=by simpa using hx2
  obtain ⟨kd,hk,hob⟩:=obsF_get hO hlo
  rw [Nat.zero_add] at hob
  have hneed:=oneB_spec (allB_get ha hlo hk)
  obtain ⟨b,s,h1,h2,h3,h4,h5,h6,h7,h8,h9⟩:=hi
  have hdf:∀ j∈dpL.getD i [],(b (tot+j)).2.2.1=1:=fun j hj=>by
   obtain ⟨hfj,hre⟩:=depsB_spec hdp hj
   exact (h9 j hfj).1 (reach_listed h8 hlo hx3 hre)
  have flags:∀ b':Gh,flL.getD i false=false→(∀ j,b (tot+j)=b' (tot+j))→∀ j,flL.getD j false=true→((S.setIfInBounds i true).getD j false=true↔(b' (tot+j)).2.2.1=1):=fun b' hfi hbb j hfj=>by
   have hji:i≠j:=fun e=>by subst e;rw [hfi] at hfj;cases hfj
   rw [getD_set_other hji,h9 j hfj,hbb j]
  have hcnt:open_ (S.setIfInBounds i true) l.length≤fuel:=by have:=open_set hil his hx0;omega
  have hsz:(S.setIfInBounds i true).size=l.length:=by simpa using hS
  have env:Env n (facOf kds b kd.need++(L++fullL a)) a:=by
   refine ⟨h1,h2,fun t v hv=>?_⟩
   rcases lk_append hv with hv | hv
   ·exact facOf_vals h4 (fun j hj=>edge_listed hx3 (hneed j hj)) t v hv
   ·rcases lk_append hv with hv | hv
    ·exact h3 t v hv
    ·exact lk_full_val hv
  have out:∀ (a':Act),a'.tmps.size=n→∀ t,¬ t<a.tmps.size→a'.tmps.getD t undef=a.tmps.getD t undef:=by
   intro a' hz t hts
   have:¬ t<a'.tmps.size:=by rw [hz,←h1];exact hts
   rw [Array.getD_eq_getD_getElem?,Array.getD_eq_getD_getElem?]
   simp [hts,this]
  have kp:∀ (a':Act) (d:Nat) (v:Value),Env n ((d,v)::(facOf kds b kd.need++(L++fullL a))) a'→∀ t,t≠d→a'.tmps.getD t undef=a.tmps.getD t undef:=by
   intro a' d v he t htd
   by_cases hts:t<a.tmps.size
   ·obtain ⟨u,hu⟩:=lk_cover (A:=facOf kds b kd.need) (lk_cover (A:=L) ⟨_,lk_full a t hts⟩)
    rw [env.vals t u hu]
    refine he.vals t _ ?_
    rw [lk_cons,if_neg (fun e=>htd e.symm)]
    exact hu
   ·exact out a' he.size t hts
  have kp0:∀ (a':Act),Env n (facOf kds b kd.need++(L++fullL a)) a'→∀ t,a'.tmps.getD t undef=a.tmps.getD t undef:=by
   intro a' he t
   by_cases hts:t<a.tmps.size
   ·obtain ⟨u,hu⟩:=lk_cover (A:=facOf kds b kd.need) (lk_cover (A:=L) ⟨_,lk_full a t hts⟩)
    rw [env.vals t u hu]
    exact he.vals t _ hu
   ·exact out a' he.size t hts
  have other:∀ j,j≠i→(S.setIfInBounds i true).getD j false=S.getD j false:=fun j hj=>getD_set_other (fun e=>hj e.symm)
  have closed:∀ j o' i',(S.setIfInBounds i true).getD j false=true→l[j]? = some o'→edge o' i'=true→(S.setIfInBounds i true).getD i' false=true:=by
   intro j o' i' hj hjo he
   refine getD_set_true ?_
   by_cases hji:j=i
   ·subst hji
    rw [hlo] at hjo;cases hjo
    exact edge_listed hx3 he
   ·rw [other j hji] at hj
    exact h8 j o' i' hj hjo he
  have hsk:∀ k,kd.rank=some k→s=k:=by
   intro k hkk
   have hle:¬ k<s:=fun hlt=>by have:=(h5 i kd k hk hkk).2 hlt;rw [hx0] at this;cases this
   cases k with
   | zero=>omega
   | succ k =>
    obtain ⟨j,hje,hjr⟩:=boundB_rank hbo hk hlo hkk
    obtain ⟨kd',hj1,hj2⟩:=rankAt_of hjr
    have:=(h5 j kd' k hj1 hj2).1 (reach_listed h8 hlo hx3 hje)
    omega
  have ranks:∀ k,kd.rank=some k→∀ j kd' k',kds[j]? = some kd'→kd'.rank=some k'→((S.setIfInBounds i true).getD j false=true↔k'<k+1):=by
   intro k hkk j kd' k' hj hk'
   by_cases hji:j=i
   ·subst hji
    rw [hk] at hj;cases hj
    rw [hkk] at hk';cases hk'
    rw [getD_set_same his];simp
   ·rw [other j hji,h5 j kd' k' hj hk']
    have hs:=hsk k hkk
    have hne:k'≠k:=fun e=>by subst e;exact hji (ranksB_one hr hj hk' hk hkk)
    omega
  have ranks0:kd.rank=none→∀ j kd' k',kds[j]? = some kd'→kd'.rank=some k'→((S.setIfInBounds i true).getD j false=true↔k'<s):=by
   intro hkn j kd' k' hj hk'
   have hji:j≠i:=fun e=>by subst e;rw [hk] at hj;cases hj;rw [hkn] at hk';cases hk'
   rw [other j hji];exact h5 j kd' k' hj hk'
  have below:∀ j kd',S.getD j false=true→kds[j]? = some kd'→kd'.bound≤s:=by
   intro j kd' hj hj'
   have rk:∀ k,kd'.rank=some k→k+1≤s:=fun k hkk=>(h5 j kd' k hj' hkk).1 hj
   cases kd' with
   | st k dv need=>exact rk k rfl
   | al k d v need=>exact rk k rfl
   | q d v need lo hi =>
    have hjl:j<l.length:=by rw [←allB_len ha];exact (List.getElem?_eq_some_iff.1 hj').1
    have hjo:l[j]? = some l[j]:=List.getElem?_eq_getElem hjl
    cases lo with
    | zero=>exact Nat.zero_le _
    | succ k =>
     obtain ⟨i',hie,hir'⟩:=(boundB_spec hbo hj' hjo).1 k rfl
     obtain ⟨kd2,hi1,hi2⟩:=rankAt_of hir'
     exact (h5 i' kd2 k hi1 hi2).1 (reach_closed h8 _ _ _ hie hj)
  have putL:∀ (b':Gh) (d:Nat) (v:Value) (a':Act),kd.dst=some d→kd.val b'=v→(∀ k,k<s→b k=b' k)→(∀ j,S.getD j false=true→b (tot+j)=b' (tot+j))→Env n ((d,v)::(facOf kds b kd.need++(L++fullL a))) a' →
    (∀ t u,lk L t=some u→a'.tmps.getD t undef=u)∧(∀ j kd' d',(S.setIfInBounds i true).getD j false=true→kds[j]? = some kd'→kd'.dst=some d'→a'.tmps.getD d' undef=kd'.val b'):=by
   intro b' d v a' hd hv hbb hbf he
   refine ⟨fun t u hu=>?_,fun j kd' d' hj hj' hd'=>?_⟩
   ·rw [kp a' d v he t (apartB_keys hap hk hd t (lk_mem_keys hu))];exact h3 t u hu
   ·by_cases hji:j=i
    ·subst hji
     rw [hk] at hj';cases hj'
     rw [hd] at hd';cases hd'
     rw [hv]
     exact he.vals _ _ (by rw [lk_cons,if_pos rfl])
    ·rw [other j hji] at hj
     rw [kp a' d v he d' (apartB_dst hap hj' hd' hk hd hji),h4 j kd' d' hj hj' hd']
     have hbd:=below j kd' hj hj'
     have hfg:=fixesF_get hfx hj'
     rw [Nat.zero_add] at hfg
     exact hfg b b' (fun k hkl=>hbb k (by omega)) (fun j2 hj2=>hbf j2 (reach_closed h8 _ _ _ (depsB_spec hdp hj2).2 hj)) fun _=>hbf j hj
  refine wpOp_of hx2 ?_
  cases hff:flL.getD i false with
  | true =>
   rw [hff] at hob
   cases kd with
   | st k dv need=>exact hob.elim
   | al k d v need=>exact hob.elim
   | q d v need lo hi =>
   have hfl0:(b (tot+i)).2.2.1≠1:=fun e=>by have:=(h9 i hff).2 e;rw [hx0] at this;cases this
   obtain ⟨_,hhi1⟩:=boundB_spec hbo hk hlo
   have hsh:s≤hi:=by
    rcases hhi1 with h | ⟨j,hjr,hje⟩
    ·omega
    ·obtain ⟨kd',hj1,hj2⟩:=rankAt_of hjr
     have:¬ hi<s:=fun hlt=>by
      have hc:=reach_closed h8 _ _ _ hje ((h5 j kd' hi hj1 hj2).2 hlt)
      rw [hx0] at hc;cases hc
     omega
   refine hob (fullL a) b s _ hsh hfl0 (fun x hxf a' w' he hw'=>ih _ a' w' hsz hcnt ?_) a w env h7
   have hne:∀ j,S.getD j false=true→b (tot+j)=updG b (tot+i) x (tot+j):=fun j hj=>(updG_ne (fun e=>by
    have:j=i:=by omega
    subst this;rw [hx0] at hj;cases hj)).symm
   obtain ⟨p1,p2⟩:=putL (updG b (tot+i) x) d _ a' rfl rfl (fun j hj=>(updG_ne (by omega)).symm) hne he
   refine ⟨updG b (tot+i) x,s,he.size,he.defs,p1,p2,ranks0 rfl,h6,hw',closed,fun j hfj=>?_⟩
   by_cases hji:j=i
   ·subst hji
    rw [getD_set_same his,updG_same];simp [hxf]
   ·rw [getD_set_other (fun e=>hji e.symm),h9 j hfj,updG_ne (by omega)]
  | false =>
  rw [hff] at hob
  cases kd with
  | q d v need lo hi =>
   obtain ⟨hlo1,hhi1⟩:=boundB_spec hbo hk hlo
   have hls:lo≤s:=by
    cases lo with
    | zero=>exact Nat.zero_le _
    | succ k =>
     obtain ⟨j,hje,hjr⟩:=hlo1 k rfl
     obtain ⟨kd',hj1,hj2⟩:=rankAt_of hjr
     exact (h5 j kd' k hj1 hj2).1 (reach_listed h8 hlo hx3 hje)
   have hsh:s≤hi:=by
    rcases hhi1 with h | ⟨j,hjr,hje⟩
    ·omega
    ·obtain ⟨kd',hj1,hj2⟩:=rankAt_of hjr
     have:¬ hi<s:=fun hlt=>by
      have hc:=reach_closed h8 _ _ _ hje ((h5 j kd' hi hj1 hj2).2 hlt)
      rw [hx0] at hc;cases hc
     omega
   refine hob (fullL a) b s _ hdf hls hsh (fun a' w' he hw'=>ih _ a' w' hsz hcnt ?_) a w env h7
   obtain ⟨p1,p2⟩:=putL b d _ a' rfl rfl (fun _ _=>rfl) (fun _ _=>rfl) he
   exact ⟨b,s,he.size,he.defs,p1,p2,ranks0 rfl,h6,hw',closed,flags b hff fun _=>rfl⟩
  | st k dv need =>
   have hs:=hsk k rfl
   subst hs
   refine hob (fullL a) b _ hdf (fun a' w' he hw'=>ih _ a' w' hsz hcnt ?_) a w env h7
   cases dv with
   | none=>exact ⟨b,_,he.size,he.defs,fun t u hu=>by rw [kp0 a' he];exact h3 t u hu,fun j kd' d' hj hj' hd'=>by
     have hji:j≠i:=fun e=>by subst e;rw [hk] at hj';cases hj';cases hd'
     rw [other j hji] at hj
     rw [kp0 a' he];exact h4 j kd' d' hj hj' hd',ranks _ rfl,ranksB_lt hr hk rfl,hw',closed,flags b hff fun _=>rfl⟩
   | some x =>
    obtain ⟨d,v⟩:=x
    obtain ⟨p1,p2⟩:=putL b d _ a' rfl rfl (fun _ _=>rfl) (fun _ _=>rfl) he
    exact ⟨b,_,he.size,he.defs,p1,p2,ranks _ rfl,ranksB_lt hr hk rfl,hw',closed,flags b hff fun _=>rfl⟩
  | al k d v need =>
   have hs:=hsk k rfl
   subst hs
   refine hob (fullL a) b _ hdf (fun x a' w' he hw'=>ih _ a' w' hsz hcnt ?_) a w env h7
   have hst:=ranksB_lt hr hk rfl
   have hne:∀ j,b (tot+j)=updG b s x (tot+j):=fun j=>(updG_ne (by omega)).symm
   obtain ⟨p1,p2⟩:=putL (updG b s x) d _ a' rfl rfl (fun j hj=>(updG_lt hj).symm) (fun j _=>hne j) he
   exact ⟨updG b s x,_,he.size,he.defs,p1,p2,ranks _ rfl,ranksB_lt hr hk rfl,hw',closed,flags _ hff hne⟩
theorem at_invF{id:Nat}{l:List Oper}(kds:List Kd)(Wm:Gh→Nat→World→Prop)(tot:Nat)(flL:List Bool)(dpL:List (List Nat))(hm:P.follows .mixedOrders=true)
  (hb:backB l=true) (ha:allB n kds kds l=true) (hap:apartB (L.map (·.1)) kds=true) (hr:ranksB kds tot=true) (hfx:fixesF flL dpL tot 0 kds) (hdp:depsB l flL dpL=true) (hbo:boundB kds l tot=true)
  (hW:∀ w,W w→∃ b:Gh,(∀ j,(b (tot+j)).2.2.1≠1)∧Wm b 0 { w with drawn:=w.drawn+1 }) (hO:ObsF n L P l.toArray kds Wm tot flL dpL 0 kds l)
  (fin:∀ b,(∀ j,j<l.length→flL.getD j false=true→(b (tot+j)).2.2.1=1)→At n (facOf kds b (List.range l.length)++L) (Wm b tot) (Q .normal)):At n L W ((Code.region id l.toArray true).wp P Q):=fun a w h hw=>by
 obtain ⟨b,hfl,hw0⟩:=hW w hw
 have hrep:∀ j,(Array.replicate l.toArray.size false).getD j false=false:=fun j=>by
  rw [Array.getD_eq_getD_getElem?,Array.getElem?_replicate];split<;>rfl
 refine wp_region_any hm (inv_goF hb ha hap hr hfx hdp hbo hO fin _ _ a _ (by simp) ?_ ⟨b,0,h.size,h.defs,h.vals,fun j kd d hj=>?_,fun j kd k _ _=>?_,Nat.zero_le _,hw0,fun j o i hj=>?_,fun j _=>?_⟩)
 ·unfold open_
  exact Nat.le_trans (List.length_filter_le ..) (by simp)
 ·rw [hrep] at hj;cases hj
 ·rw [hrep];simp
 ·rw [hrep] at hj;cases hj
 ·rw [hrep];simp [hfl j]
end Go.Proofs.YtahlbjmafceoeaaGreatDoor.E
namespace Go.Proofs.YtahlbjmafceoeaaGreatDoor.E
open Go.RowKit
section
variable {n d : Nat} {L : List (Nat × Value)} {P : Program} {ops : Array Oper} {Q : Exit → Act → World → Prop} {rest : List Oper} {w0 : World} {H : List Ent} {ty : TypeId} {pos : String} {aft : Array Edge} {α : Type} {t e : TypeId} {f : Ent → List Ent} {G : List Ent}
theorem rowE_take{c:Cd α}{p:Option Addr}{cap:Nat}{xs:List α}{k:Nat}{w:World}(hk:k≤xs.length)(hp:p.isSome=true∨k=xs.length)(h:w.ownsRow 0 e c.sz (.slice p xs.length cap) xs.length (c.all xs)) :
  w.ownsRow 0 e c.sz (.slice p (xs.take k).length cap) (xs.take k).length (c.all (xs.take k)):=by
 have hl:(xs.take k).length=k:=by rw [List.length_take];omega
 rw [hl]
 refine ⟨by rw [c.all_len,hl],?_⟩
 rcases h.2 with ⟨h1,h0⟩ | ⟨g,cap',cur,hv,hg,hh,h1,h2,h3,h4⟩
 ·refine .inl ⟨?_,by omega⟩
  injection h1 with e1 e2 e3
  subst e1;subst e3
  rw [show k=0 by omega]
 ·injection hv with e1 e2 e3
  subst e1;subst e3
  refine .inr ⟨g,cap,cur,rfl,hg,hh,by omega,h2,h3,?_⟩
  have:=congrArg (List.take (k*c.sz)) h4
  rw [List.take_take,Nat.min_eq_left (Nat.mul_le_mul_right _ hk)] at this
  rw [this]
  have hs:c.all xs=c.all (xs.take k)++c.all (xs.drop k):=by rw [←c.all_append,List.take_append_drop]
  rw [hs,List.take_append_of_le_length (by rw [c.all_len,hl];exact Nat.le_refl _),List.take_of_length_le (by rw [c.all_len,hl];exact Nat.le_refl _)]
theorem at_cutOwn{c:Cd α}{x hi:Operand}{k:IntKind}{h:Int}{p:Option Addr}{cap:Nat}{xs:List α}(hu:Upd H (rowE c e p cap xs) f G)(ht:P.underlying t=some (.slice e))(hz:∀ w,(sizeOf e).run P w=.ok c.sz w)(hx:ev L x=some (.slice p xs.length cap))(hy:ev L hi=some (.int k h))(hb:(0:Int)≤h∧h≤(xs.length:Int))(hdn:Nat.blt d n=true)
  (kk:At n ((d,.slice p (List.take h.toNat xs).length cap)::L) (Wd w0 (f (rowE c e p cap (List.take h.toNat xs)))) (wpList P ops Q rest)) :
  At n L (Wd w0 H) (wpList P ops Q (⟨some d,.slice t x none (some hi) none,ty,pos,aft,none⟩::rest)):=by
 refine at_pure (φ:=xs.length≤cap∧(p=none∧cap=0∨∃ g,p=some ⟨g,0,none⟩)) (fun w hw=>?_) fun hf=>?_
 ·rcases (hw.ok hu.mem).2 with ⟨h1,h0⟩ | ⟨g,cap',cur,hv,_,_,h1,_⟩
  ·injection h1 with e1 e2 e3
   exact ⟨by omega,.inl ⟨e1,e3⟩⟩
  ·injection hv with e1 e2 e3
   exact ⟨by omega,.inr ⟨g,e1⟩⟩
 ·have hr:=r_reslice (n:=n) (d:=d) (W:=Wd w0 H) (ty:=ty) (pos:=pos) (aft:=aft) (lo:=none) (hi:=some hi) (l:=0) (h:=h) ht hz hx hf.1 rfl ⟨k,hy⟩ ⟨Int.le_refl _,hb.1,hb.2⟩
  have e1:rsp p cap 0 c.sz=p:=by
   rcases hf.2 with ⟨rfl,_⟩ | ⟨g,rfl⟩
   ·simp [rsp]
   ·simp [rsp,Addr.add_lit]
  have e2:lsub xs 0 h=List.take h.toNat xs:=by simp [lsub]
  rw [e1,e2,Int.toNat_zero,Nat.sub_zero] at hr
  refine at_val rfl rfl hdn hr (at_world (fun w hw=>?_) kk)
  refine hw.swap hu (rowE_take (by omega) ?_ (hw.ok hu.mem)) fun j hj=>.inl ?_
  ·rcases hf.2 with ⟨rfl,h0⟩ | ⟨g,rfl⟩
   ·right;omega
   ·left;rfl
  ·rcases hf.2 with ⟨rfl,_⟩ | ⟨g,rfl⟩
   ·simp [rowE,Value.ownBlock] at hj
   ·simpa [rowE,Value.ownBlock] using hj
end
end Go.Proofs.YtahlbjmafceoeaaGreatDoor.E
namespace Go.Proofs.YtahlbjmafceoeaaGreatDoor.E
open Go.RowKit
def lset{α:Type}(xs:List α)(i:Int)(y:α):List α:=xs.set i.toNat y
theorem lset_length{α:Type}(xs:List α)(i:Int)(y:α):(lset xs i y).length=xs.length:=by simp [lset]
theorem list_at{α:Type}(xs:List α)(k:Nat)(x:α)(h:xs[k]? = some x):xs=xs.take k++x::xs.drop (k+1):=by
 obtain ⟨hk,rfl⟩:=List.getElem?_eq_some_iff.1 h
 rw [←List.drop_eq_getElem_cons hk,List.take_append_drop]
theorem list_set{α:Type}(xs:List α)(k:Nat)(x y:α)(h:xs[k]? = some x):xs.set k y=xs.take k++y::xs.drop (k+1):=by
 obtain ⟨hk,rfl⟩:=List.getElem?_eq_some_iff.1 h
 rw [List.set_eq_take_append_cons_drop,if_pos hk]
section
variable {n d : Nat} {L : List (Nat × Value)} {P : Program} {ops : Array Oper} {Q : Exit → Act → World → Prop} {rest : List Oper} {w0 : World} {H : List Ent} {ty : TypeId} {pos : String} {aft : Array Edge} {α β : Type} {t e : TypeId} {f : Ent → List Ent} {G : List Ent}
theorem at_storeRow[Inhabited α]{c:Cd α}{c':Cd β}{xo yo:Operand}{p:Option Addr}{cap:Nat}{xs:List α}{i:Int}{b o fo:Nat}{u z:β}{y:α}{v:Value}{put:β→List Value}(hu:Upd H (rowE c e p cap xs) f G)(hi:0≤i∧i<(xs.length:Int))(hp:p=some ⟨b,o,none⟩)
  (l:Lens (c.cs (lget xs i)) fo c' u put) (hy:put z=c.cs y) (hz:∀ w,(sizeOf t).run P w=.ok c'.sz w) (hx:ev L xo=some (.pointer (some ⟨b,o+i.toNat*c.sz+fo,none⟩))) (hyv:ev L yo=some v) (hv:v.cells=(c'.cs z).toArray)
  (k:At n L (Wd w0 (f (rowE c e p cap (lset xs i y)))) (wpList P ops Q rest)) :
  At n L (Wd w0 H) (wpList P ops Q (⟨none,.store t xo yo,ty,pos,aft,none⟩::rest)) :=
 at_unit (W':=Wd w0 (f (rowE c e p cap (lset xs i y)))) rfl rfl (fun a w h hw=>by
  have hg:=lget_some hi
  have ht:i.toNat<xs.length:=by omega
  rcases (hw.ok hu.mem).2 with ⟨_,h0⟩ | ⟨g,cap',cur,hs,hg0,hh,h1,h2,h3,h4⟩
  ·omega
  ·rw [hp] at hs
   injection hs with e1 e2 e3
   injection e1 with e1
   injection e1 with e1 e4 e5
   subst e1;subst e4;subst e3
   have hsz:=l.size
   rw [c.len] at hsz
   have hcap:(i.toNat+1)*c.sz≤cap*c.sz:=Nat.mul_le_mul_right _ (by omega)
   have hm:(i.toNat+1)*c.sz=i.toNat*c.sz+c.sz:=by rw [Nat.add_mul];omega
   have hst:=run_storeCells_at P b (0+i.toNat*c.sz+fo) e (c'.cs z) 0 cur w hh (by rw [c'.len];omega) (c'.one z)
   have hxs:=list_at xs i.toNat _ hg
   have hset:=list_set xs i.toNat _ y hg
   have hA:(c.all (xs.take i.toNat)).length=i.toNat*c.sz:=by rw [c.all_len,List.length_take];congr 1;omega
   have hall:c.all xs=c.all (xs.take i.toNat)++(c.cs (lget xs i)++c.all (xs.drop (i.toNat+1))):=by
    conv=>lhs;rw [hxs]
    rw [c.all_append,c.all_cons]
   have hcur:cur.toList=c.all (xs.take i.toNat)++(c.cs (lget xs i)++(c.all (xs.drop (i.toNat+1))++cur.toList.drop (xs.length*c.sz))):=by
    conv=>lhs;rw [←List.take_append_drop (xs.length*c.sz) cur.toList,h4,hall]
    simp only [List.append_assoc]
   have hnew:(cur.toList.take (0+i.toNat*c.sz+fo+0)++c'.cs z++cur.toList.drop (0+i.toNat*c.sz+fo+0+(c'.cs z).length))=c.all (xs.take i.toNat)++(c.cs y++(c.all (xs.drop (i.toNat+1))++cur.toList.drop (xs.length*c.sz))):=by
    generalize hR:c.all (xs.drop (i.toNat+1))++cur.toList.drop (xs.length*c.sz)=R at hcur ⊢
    rw [hcur,c'.len,←hy,l.splice z]
    have hl:(c.cs (lget xs i)).length=c.sz:=c.len _
    rw [show 0+i.toNat*c.sz+fo+0=(c.all (xs.take i.toNat)).length+fo by omega,List.take_append,List.drop_append,
     show (c.all (xs.take i.toNat)).length+fo-(c.all (xs.take i.toNat)).length=fo by omega,
     show (c.all (xs.take i.toNat)).length+fo+c'.sz-(c.all (xs.take i.toNat)).length=fo+c'.sz by omega,
     List.take_of_length_le (by omega),List.drop_of_length_le (by omega),
     List.take_append_of_le_length (by omega),List.drop_append_of_le_length (by omega)]
    simp only [List.nil_append,List.append_assoc]
   rw [hnew] at hst
   refine ⟨w.setRow b (c.all (xs.take i.toNat)++(c.cs y++(c.all (xs.drop (i.toNat+1))++cur.toList.drop (xs.length*c.sz)))).toArray,?_,hw.upd (E':=rowE c e p cap (lset xs i y)) hu ?_ rfl rfl rfl (fun k hk hk'=>?_) ?_ fun k hk=>.inl ?_⟩
   ·simp only [execOp,h.eval hx,h.eval hyv]
    simp only [Nat.zero_add] at hst ⊢
    simp [Instr.storeAt,Instr.sureAddr,storeVar,hz,hv,c'.len,hst]
   ·exact Nat.le_of_eq (by simp [World.setRow])
   ·exact setRow_other w b k _ (by intro e;exact hk' (by rw [e];simp [rowE,hp,Value.ownBlock]))
   ·refine ⟨by rw [c.all_len],.inr ⟨b,cap,_,by rw [hp],Nat.zero_le _,setRow_heap w b cur _ e _ hh,by rw [lset_length];omega,h2,?_,?_⟩⟩
    ·have e1:=congrArg List.length hcur
     simp only [List.length_append,c.len,Array.length_toList] at e1
     simp only [List.size_toArray,List.length_append,c.len]
     omega
    ·have e1:c.all (lset xs i y)=c.all (xs.take i.toNat)++(c.cs y++c.all (xs.drop (i.toNat+1))):=by
      unfold lset
      rw [hset,c.all_append,c.all_cons]
     have e2:(c.all (lset xs i y)).length=(lset xs i y).length*c.sz:=c.all_len _
     rw [←e2,e1]
     simp only [←List.append_assoc]
     exact List.take_left ..
   ·simpa [rowE,hp,Value.ownBlock] using hk) k
theorem zero_all(c:Cd α)(z:α)(n:Nat):(Builtin.zeroCells (c.cs z).toArray n).toList=c.all (List.replicate n z):=by
 have hl:(c.all (List.replicate n z)).length=n*c.sz:=by rw [c.all_len,List.length_replicate]
 apply List.ext_getElem?
 intro t
 by_cases ht:t<n*c.sz
 ·have hk:=c.pos
  have hq:t/c.sz<n:=Nat.div_lt_of_lt_mul (by rw [Nat.mul_comm];exact ht)
  have hm:t%c.sz<c.sz:=Nat.mod_lt _ hk
  have:=c.all_get (List.replicate n z) (t/c.sz) (t%c.sz) z (by simp [hq]) hm
  rw [Nat.div_add_mod'] at this
  rw [this]
  have h2:t%c.sz<(c.cs z).length:=by rw [c.len];exact hm
  simp [Builtin.zeroCells,c.len,ht,List.getElem?_eq_getElem h2,h2]
 ·have h9:(Builtin.zeroCells (c.cs z).toArray n).toList.length=n*c.sz:=by simp [Builtin.zeroCells,c.len]
  rw [List.getElem?_eq_none (by omega),List.getElem?_eq_none (by omega)]
theorem at_any0{o:Oper}{W W':World→Prop}(hg:o.guard=none)(hd:o.dst=none)
  (hr:∀ a w,Env n L a→W w→∃ v w',(execOp a.eval o).run P w=.ok (.value v) w'∧W' w')
  (k:At n L W' (wpList P ops Q rest)):At n L W (wpList P ops Q (o::rest)):=fun a w h hw =>
 wpList_plain hg fun K hK=>by
  obtain ⟨v,w',hrun,hw'⟩:=hr a w h hw
  unfold Oper.wp
  rw [hrun]
  simp only [Oper.upon,hd]
  exact hK _ _ (k _ _ (h.put_none _) hw')
theorem clear_length{xs:List α}{lo:Int}{z:α}(hb:(0:Int)≤lo∧lo≤(xs.length:Int)∧(xs.length:Int)≤(xs.length:Int)):(List.take lo.toNat xs++List.replicate (xs.length-lo.toNat) z).length=xs.length:=by simp;omega
theorem at_clearRow{c:Cd α}{x:Operand}{z:α}{zv:Value}{lo:Int}{p:Option Addr}{cap:Nat}{xs:List α}(hu:Upd H (rowE c e p cap xs) f G)(ht:P.underlying t=some (.slice e))(hz:∀ w,(sizeOf e).run P w=.ok c.sz w)(hzv:∀ w,(zeroValue e).run P w=.ok zv w)(hzc:zv.cells=(c.cs z).toArray)
  (hb:(0:Int)≤lo∧lo≤(xs.length:Int)∧(xs.length:Int)≤(xs.length:Int)) (hx:ev L x=some (.slice (rsp p cap lo c.sz) (lsub xs lo (xs.length:Int)).length (cap-lo.toNat)))
  (k:At n L (Wd w0 (f (rowE c e p cap (List.take lo.toNat xs++List.replicate (xs.length-lo.toNat) z)))) (wpList P ops Q rest)) :
  At n L (Wd w0 H) (wpList P ops Q (⟨none,.call { callee:=.builtin .clear,args:=#[x],argTypes:=#[t] },ty,pos,aft,none⟩::rest)) :=
 at_any0 (W':=fun w'=>Wd w0 (f (rowE c e p cap (List.take lo.toNat xs++List.replicate (xs.length-lo.toNat) z))) w') rfl rfl (fun a w h hw=>by
  have hlen:(lsub xs lo (xs.length:Int)).length=xs.length-lo.toNat:=by rw [lsub_length hb];omega
  have hlo:lo.toNat≤xs.length:=by omega
  by_cases h0:xs.length-lo.toNat=0
  ·refine ⟨.tuple #[],w,?_,?_⟩
   ·simp only [execOp,resolve,invoke,builtin,Sem.run_bind,Sem.run_pure,Result.andThen_ok,List.map_toArray,List.map_cons,List.map_nil,h.eval hx]
    rw [hlen,h0]
    cases rsp p cap lo c.sz<;>simp [Builtin.clear_,run_underlying ht]
   ·rw [h0,List.replicate_zero,List.append_nil,List.take_of_length_le (by omega),hu.same];exact hw
  ·rcases (hw.ok hu.mem).2 with ⟨_,h9⟩ | ⟨g,cap',cur,hs,hg0,hh,h1,h2,h3,h4⟩
   ·omega
   ·injection hs with e1 e2 e3
    subst e1;subst e3
    have hr:rsp (some ⟨g,0,none⟩) cap lo c.sz=some ⟨g,lo.toNat*c.sz,none⟩:=by
     unfold rsp
     rw [if_neg (by omega)]
     simp [Addr.add_lit]
    have hm:(xs.length-lo.toNat)*c.sz+lo.toNat*c.sz=xs.length*c.sz:=by rw [←Nat.add_mul];congr 1;omega
    have hcap:xs.length*c.sz≤cap*c.sz:=Nat.mul_le_mul_right _ h1
    have hal:(c.all (List.replicate (xs.length-lo.toNat) z)).length=(xs.length-lo.toNat)*c.sz:=by rw [c.all_len,List.length_replicate]
    have hst:=run_storeCells_at P g (lo.toNat*c.sz) e (c.all (List.replicate (xs.length-lo.toNat) z)) 0 cur w hh (by rw [hal];omega) (c.all_one _)
    refine ⟨.tuple #[],w.setRow g (cur.toList.take (lo.toNat*c.sz+0)++c.all (List.replicate (xs.length-lo.toNat) z)++cur.toList.drop (lo.toNat*c.sz+0+(c.all (List.replicate (xs.length-lo.toNat) z)).length)).toArray,?_,hw.upd (E':=rowE c e (some ⟨g,0,none⟩) cap _) hu ?_ rfl rfl rfl (fun k hk hk'=>?_) ?_ fun k hk=>.inl ?_⟩
    ·simp only [execOp,resolve,invoke,builtin,Sem.run_bind,Sem.run_pure,Result.andThen_ok,List.map_toArray,List.map_cons,List.map_nil,h.eval hx]
     rw [hlen,hr]
     obtain ⟨m,hm'⟩:∃ m,xs.length-lo.toNat=m+1:=⟨xs.length-lo.toNat-1,by omega⟩
     rw [hm'] at hst ⊢
     simp [Builtin.clear_,run_underlying ht,hzv,hzc,zero_all] at hst ⊢
     rw [hst]
     rfl
    ·exact Nat.le_of_eq (by simp [World.setRow])
    ·exact setRow_other w g k _ (by intro e;exact hk' (by rw [e];simp [rowE,Value.ownBlock]))
    ·have hl2:(List.take lo.toNat xs++List.replicate (xs.length-lo.toNat) z).length=xs.length:=by simp;omega
     have htk:cur.toList.take (lo.toNat*c.sz)=c.all (xs.take lo.toNat):=by
      have h5:(cur.toList.take (xs.length*c.sz)).take (lo.toNat*c.sz)=(c.all xs).take (lo.toNat*c.sz):=by rw [h4]
      rw [List.take_take,Nat.min_eq_left (by omega)] at h5
      rw [h5]
      have e1:c.all xs=c.all (xs.take lo.toNat)++c.all (xs.drop lo.toNat):=by rw [←c.all_append,List.take_append_drop]
      have e2:(c.all (xs.take lo.toNat)).length=lo.toNat*c.sz:=by rw [c.all_len,List.length_take];congr 1;omega
      rw [e1,←e2,List.take_left]
     have hcl:cur.toList.length=cap*c.sz:=by rw [Array.length_toList,h3]
     refine ⟨c.all_len _,.inr ⟨g,cap,_,rfl,Nat.zero_le _,setRow_heap w g cur _ e _ hh,by omega,h2,?_,?_⟩⟩
     ·simp only [List.size_toArray,List.length_append,List.length_take,List.length_drop,hal,hcl]
      omega
     ·rw [Nat.add_zero,htk,hl2,←c.all_append]
      have e3:(c.all (List.take lo.toNat xs++List.replicate (xs.length-lo.toNat) z)).length=xs.length*c.sz:=by rw [c.all_len,hl2]
      show List.take (xs.length*c.sz) (c.all _++_)=_
      rw [←e3,List.take_left]
    ·simpa [rowE,Value.ownBlock] using hk) k
end
theorem one_in{α:Type}{x:α}:(0:Int)≤0∧(0:Int)<(([x]:List α).length:Int):=⟨Int.le_refl _,by simp⟩
theorem cells_row1{α:Type}{c:Cd α}{b:Nat}{x:α}{t:TypeId}{w:World}(h:(cellsE b (c.cs x) t).ok w):Row c w (some ⟨b,0,none⟩) 1 [x]:=by
 have e:c.all [x]=c.cs x:=by simp [Cd.all]
 rw [←e] at h
 exact cells_row h
end Go.Proofs.YtahlbjmafceoeaaGreatDoor.E
namespace Go.Proofs.YtahlbjmafceoeaaGreatDoor.E
def ins{α:Type}(lt:α→α→Bool)(x:α):List α→List α
 | []=>[x]
 | y::r=>if lt x y=true then x::y::r else y::ins lt x r
def isort{α:Type}(lt:α→α→Bool)(xs:List α):List α:=xs.foldl (fun o x=>ins lt x o) []
theorem ins_perm{α:Type}(lt:α→α→Bool)(x:α):∀ l:List α,(ins lt x l).Perm (x::l)
 | []=>.refl _
 | y::r=>by
  unfold ins
  split
  ·exact .refl _
  ·exact ((ins_perm lt x r).cons y).trans (.swap x y r)
theorem isort_perm_from{α:Type}(lt:α→α→Bool):∀ (xs o:List α),(xs.foldl (fun o x=>ins lt x o) o).Perm (o++xs)
 | [],o=>by simp
 | x::r,o=>by
  refine (isort_perm_from lt r (ins lt x o)).trans ?_
  refine ((ins_perm lt x o).append_right r).trans ?_
  exact List.perm_middle.symm
theorem isort_perm{α:Type}(lt:α→α→Bool)(xs:List α):(isort lt xs).Perm xs:=isort_perm_from lt xs []
theorem isort_length{α:Type}(lt:α→α→Bool)(xs:List α):(isort lt xs).length=xs.length:=(isort_perm lt xs).length_eq
structure SWOn {α:Type} (K:α→Prop) (lt:α→α→Bool):Prop where
 irrefl:∀ x,K x→lt x x=false
 trans:∀ x y z,K x→K y→K z→lt x y=true→lt y z=true→lt x z=true
 ntrans:∀ x y z,K x→K y→K z→lt x y=false→lt y z=false→lt x z=false
theorem SWOn.asymm{α:Type}{K:α→Prop}{lt:α→α→Bool}(h:SWOn K lt){x y:α}(hx:K x)(hy:K y)(e:lt x y=true):lt y x=false:=by
 cases h2:lt y x with
 | false=>rfl
 | true=>have:=h.trans x y x hx hy hx e h2;rw [h.irrefl x hx] at this;cases this
def Up{α:Type}(lt:α→α→Bool)(l:List α):Prop:=l.Pairwise fun x y=>lt y x=false
theorem ins_up{α:Type}{K:α→Prop}{lt:α→α→Bool}(h:SWOn K lt){x:α}(hx:K x):∀ {l:List α},(∀ y∈l,K y)→Up lt l→Up lt (ins lt x l)
 | [],_,_=>by simp [ins,Up]
 | y::r,hk,hl=>by
  have hy:=hk y (List.mem_cons_self ..)
  obtain ⟨h1,h2⟩:=List.pairwise_cons.1 hl
  unfold ins
  split
  ·next e =>
   refine List.pairwise_cons.2 ⟨fun z hz=>?_,hl⟩
   rcases List.mem_cons.1 hz with rfl | hz
   ·exact h.asymm hx hy e
   ·exact h.ntrans z y x (hk z (List.mem_cons_of_mem _ hz)) hy hx (h1 z hz) (h.asymm hx hy e)
  ·next e =>
   refine List.pairwise_cons.2 ⟨fun z hz=>?_,ins_up h hx (fun z hz=>hk z (List.mem_cons_of_mem _ hz)) h2⟩
   rcases List.mem_cons.1 ((ins_perm lt x r).mem_iff.1 hz) with rfl | hz
   ·cases h3:lt z y with
    | true=>exact absurd h3 e
    | false=>rfl
   ·exact h1 z hz
theorem isort_up_from{α:Type}{K:α→Prop}{lt:α→α→Bool}(h:SWOn K lt):∀ (xs o:List α),(∀ y∈xs,K y)→(∀ y∈o,K y)→Up lt o→Up lt (xs.foldl (fun o x=>ins lt x o) o)
 | [],o,_,_,ho=>ho
 | x::r,o,hk,hko,ho=>by
  have hx:=hk x (List.mem_cons_self ..)
  refine isort_up_from h r (ins lt x o) (fun y hy=>hk y (List.mem_cons_of_mem _ hy)) (fun y hy=>?_) (ins_up h hx hko ho)
  rcases List.mem_cons.1 ((ins_perm lt x o).mem_iff.1 hy) with rfl | hy
  ·exact hx
  ·exact hko y hy
theorem isort_up{α:Type}{K:α→Prop}{lt:α→α→Bool}(h:SWOn K lt)(xs:List α)(hk:∀ y∈xs,K y):Up lt (isort lt xs):=isort_up_from h xs [] hk (fun _ hy=>by cases hy) List.Pairwise.nil
theorem up_unique{α:Type}{lt:α→α→Bool}:∀ {l l':List α},l.Perm l'→Up lt l→Up lt l'→(∀ x∈l,∀ y∈l,lt x y=false→lt y x=false→x=y)→l=l'
 | [],l',hp,_,_,_=>by rw [List.nil_perm.1 hp]
 | x::r,l',hp,h1,h2,ha=>by
  cases l' with
  | nil=>exact absurd (List.Perm.length_eq hp) (by simp)
  | cons y s =>
   obtain ⟨a1,a2⟩:=List.pairwise_cons.1 h1
   obtain ⟨b1,b2⟩:=List.pairwise_cons.1 h2
   have hxy:x=y:=by
    have hy:y∈x::r:=hp.mem_iff.2 (List.mem_cons_self ..)
    have hx:x∈y::s:=hp.mem_iff.1 (List.mem_cons_self ..)
    rcases List.mem_cons.1 hy with e | hy
    ·exact e.symm
    ·rcases List.mem_cons.1 hx with e | hx
     ·exact e
     ·exact ha x (List.mem_cons_self ..) y (List.mem_cons_of_mem _ hy) (b1 x hx) (a1 y hy)
   subst hxy
   rw [up_unique ((List.perm_cons x).1 hp) a2 b2 fun z hz u hu=>ha z (List.mem_cons_of_mem _ hz) u (List.mem_cons_of_mem _ hu)]
end Go.Proofs.YtahlbjmafceoeaaGreatDoor.E
namespace Go.Proofs.YtahlbjmafceoeaaGreatDoor.E
theorem dr_ask{α:Type}:∀ (x:Ask α) (w:World),w.drawn≤(w.ask x).2.drawn
 | .done a,w=>Nat.le_refl _
 | .ask what range k,w=>by
  unfold World.ask
  dsimp only
  split
  ·exact dr_ask _ w
  ·exact Nat.le_trans (Nat.le_succ _) (dr_ask _ { w with drawn:=w.drawn+1 })
theorem dr_sys(w:World)(c:Sys):w.drawn≤(w.sys c).2.drawn:=by
 have h:=dr_ask (Kernel.perform c w.os) w
 unfold World.sys
 split
 ·exact Nat.le_refl _
 ·next h1 h2=>rw [h2] at h;exact h
theorem dr_freeze(w:World)(a:Addr)(n:Nat):(w.freeze a n).drawn=w.drawn:=by unfold World.freeze;split<;>rfl
theorem dr_viewStore{p:Program}{w:World}{a:Addr}{u:TypeId}{k:Addr}{v:Value}{b:Bool}{r:World×List Addr}(h:w.viewStore p a u k v b=.ok r):r.1.drawn=w.drawn:=by
 unfold World.viewStore at h
 simp only [bind,Except.bind,pure,Except.pure,throw,throwThe,MonadExceptOf.throw] at h
 repeat' first
  | (cases h;done)
  | (cases h;rfl)
  | split at h
theorem dr_farStore{p:Program}{w:World}{a:Addr}{v:Value}{b:Bool}{r:World×List Addr}(h:w.farStore p a v b=.ok r):r.1.drawn=w.drawn:=by
 unfold World.farStore at h
 split at h
 ·split at h
  ·next h1=>cases h;exact dr_viewStore h1
  ·cases h
 ·cases h
def rw_{α:Type}:Result α→World
 | .ok _ w=>w
 | .halt _ w=>w
theorem dr_run{α:Type}(p:Program):∀ (s:Sem α) (w:World),w.drawn≤(rw_ (s.run p w)).drawn
  | .pure a,w=>Nat.le_refl _
  | .load m a k,w=>by
    unfold Sem.run
    split
    · exact dr_run p _ w
    · split
      · exact dr_run p _ w
      · exact Nat.le_refl _
  | .store m a v k,w=>by
    cases v
    all_goals first
      | exact Nat.le_refl _
      | (unfold Sem.run
         split
         · split
           · exact Nat.le_refl _
           · exact dr_run p k (w.setCell a _)
         · split
           · next h=>exact Nat.le_trans (Nat.le_of_eq (dr_farStore h).symm) (dr_run p k _)
           · exact Nat.le_refl _)
  | .new o k,w=>by unfold Sem.run;exact dr_run p (k w.heap.size) { w with heap:=w.heap.push o }
  | .shape r k,w=>by unfold Sem.run;exact dr_run p _ w
  | .freeze a n k,w=>by unfold Sem.run;exact Nat.le_trans (Nat.le_of_eq (dr_freeze w a n).symm) (dr_run p k _)
  | .frozen a k,w=>by unfold Sem.run;exact dr_run p _ w
  | .getObj r k,w=>by
    unfold Sem.run
    split
    · exact Nat.le_refl _
    · exact dr_run p _ w
    · exact Nat.le_refl _
  | .setObj r o k,w=>by
    unfold Sem.run
    split
    · exact Nat.le_refl _
    · exact dr_run p k { w with heap:=w.heap.setIfInBounds r o }
    · exact Nat.le_refl _
  | .choose q k,w=>by
    unfold Sem.run
    split
    · exact dr_run p _ w
    · exact Nat.le_trans (Nat.le_succ _) (dr_run p (k (q.cut (w.tape w.drawn q))) { w with drawn:=w.drawn+1 })
  | .sys c k,w=>by unfold Sem.run;exact Nat.le_trans (dr_sys w c) (dr_run p _ _)
  | .program k,w=>by unfold Sem.run;exact dr_run p _ w
  | .mark _ k,w=>by unfold Sem.run;exact dr_run p k w
  | .halt h,w=>Nat.le_refl _
theorem dr_runT{α:Type}(p:Program):∀ (s:Sem α) (w:World) (es:Array Event),w.drawn≤(rw_ (s.runT p w es).1).drawn
  | .pure a,w,es=>Nat.le_refl _
  | .load m a k,w,es=>by
    unfold Sem.runT
    split
    · exact dr_runT p _ w _
    · split
      · exact dr_runT p _ w _
      · exact Nat.le_refl _
  | .store m a v k,w,es=>by
    cases v
    all_goals first
      | exact Nat.le_refl _
      | (unfold Sem.runT
         split
         · split
           · exact Nat.le_refl _
           · exact dr_runT p k (w.setCell a _) _
         · split
           · next h=>exact Nat.le_trans (Nat.le_of_eq (dr_farStore h).symm) (dr_runT p k _ _)
           · exact Nat.le_refl _)
  | .new o k,w,es=>by unfold Sem.runT;exact dr_runT p (k w.heap.size) { w with heap:=w.heap.push o } _
  | .shape r k,w,es=>by unfold Sem.runT;exact dr_runT p _ w _
  | .freeze a n k,w,es=>by unfold Sem.runT;exact Nat.le_trans (Nat.le_of_eq (dr_freeze w a n).symm) (dr_runT p k _ _)
  | .frozen a k,w,es=>by unfold Sem.runT;exact dr_runT p _ w _
  | .getObj r k,w,es=>by
    unfold Sem.runT
    split
    · exact Nat.le_refl _
    · exact dr_runT p _ w _
    · exact Nat.le_refl _
  | .setObj r o k,w,es=>by
    unfold Sem.runT
    split
    · exact Nat.le_refl _
    · exact dr_runT p k { w with heap:=w.heap.setIfInBounds r o } _
    · exact Nat.le_refl _
  | .choose q k,w,es=>by
    unfold Sem.runT
    split
    · exact dr_runT p _ w _
    · exact Nat.le_trans (Nat.le_succ _) (dr_runT p (k (q.cut (w.tape w.drawn q))) { w with drawn:=w.drawn+1 } _)
  | .sys c k,w,es=>by unfold Sem.runT;exact Nat.le_trans (dr_sys w c) (dr_runT p _ _ _)
  | .program k,w,es=>by unfold Sem.runT;exact dr_runT p _ w _
  | .mark _ k,w,es=>by unfold Sem.runT;exact dr_runT p k w _
  | .halt h,w,es=>Nat.le_refl _
theorem dr_ok{α:Type}{p:Program}{s:Sem α}{w w':World}{a:α}(h:s.run p w=.ok a w'):w.drawn≤w'.drawn:=by have:=dr_run p s w;rw [h] at this;exact this
theorem dr_halt{α:Type}{p:Program}{s:Sem α}{w w':World}{a:Halt}(h:s.run p w=.halt a w'):w.drawn≤w'.drawn:=by have:=dr_run p s w;rw [h] at this;exact this
def gw:GStep→World
 | .go _ w _=>w
 | .comm _ _ _ _ w _=>w
 | .spawn _ _ w _=>w
 | .count _ w _=>w
 | .timer _ _ w _=>w
 | .alone _ _ w _=>w
 | .newcoro _ _ _ w _=>w
 | .coroswitch _ _ _ w _=>w
 | .collect _ w _=>w
 | .watch _ w _=>w
 | .ended _ w _=>w
theorem gw_after(es:Array Event)(g:GStep):gw (g.after es)=gw g:=by cases g<;>rfl
theorem dr_doReturn(p:Program)(main:Bool)(fr:Frame)(cs:List Frame)(dy:Option Dying)(v:Value)(w:World):gw (doReturn p main fr cs dy v w)=w:=by
 unfold doReturn
 repeat' first
  | rfl
  | split
theorem dr_endWith(w:World)(fd:Nat)(t:ByteArray)(o:Outcome):w.drawn≤(gw (endWith w fd t o)).drawn:=by
 have h:=dr_sys w (.write fd t)
 unfold endWith
 dsimp only
 repeat' first
  | (rename_i h1;rw [h1] at h;exact h)
  | (rename_i h1 h2;rw [h1] at h;exact h)
  | split
theorem dr_endFatal(p:Program)(fr:Frame)(cs:List Frame)(dy:Option Dying)(m:String)(w:World):w.drawn≤(gw (endFatal p fr cs dy m w)).drawn:=by
 unfold endFatal
 dsimp only
 repeat' first
  | (rename_i h1;exact dr_ok h1)
  | (rename_i h1;exact dr_halt h1)
  | split
theorem dr_pair{α:Type}{p:Program}{s:Sem α}{w:World}{es:Array Event}{r:Result α}{es':Array Event}(h:s.runT p w es=(r,es')):w.drawn≤(rw_ r).drawn:=by have:=dr_runT p s w es;rw [h] at this;exact this
theorem dr_writeOn(p:Program)(fr:Frame)(d:Dying)(f:Fatal)(w:World):w.drawn≤(gw (writeOn p fr d f w)).drawn:=by
 unfold writeOn
 dsimp only
 repeat' first
  | exact Nat.le_refl _
  | (rename_i h1;exact dr_pair h1)
  | split
theorem dr_endPrinting(p:Program)(fr:Frame)(v:Value)(w:World):gw (endPrinting p fr v w)=w:=by
 unfold endPrinting
 dsimp only
 repeat' first
  | rfl
  | split
theorem dr_die(p:Program)(fr:Frame)(d:Dying)(w:World):w.drawn≤(gw (die p fr d w)).drawn:=by
 unfold die
 dsimp only
 split
 ·exact dr_writeOn p fr d _ w
 ·split
  ·split
   ·exact Nat.le_refl _
   ·exact dr_endWith w _ _ _
  ·split
   ·exact Nat.le_refl _
   ·split
    ·next h=>exact dr_ok h
    ·next h=>exact dr_halt h
   ·rw [gw_after]
    have h:=dr_runT p (invoke (.fn (.method ‹_›) #[]) #[.iface ‹_› ‹_›]) w #[]
    split
    all_goals first
     | exact Nat.le_refl _
     | (rename_i h1;rw [h1] at h;exact h)
     | (rename_i h1;rw [h1] at h;rw [dr_endPrinting];exact h)
   ·exact Nat.le_refl _
theorem dr_okT{α:Type}{p:Program}{s:Sem α}{w w':World}{es:Array Event}{a:α}(h:(s.runT p w es).1=.ok a w'):w.drawn≤w'.drawn:=by have:=dr_runT p s w es;rw [h] at this;exact this
theorem dr_haltT{α:Type}{p:Program}{s:Sem α}{w w':World}{es:Array Event}{a:Halt}(h:(s.runT p w es).1=.halt a w'):w.drawn≤w'.drawn:=by have:=dr_runT p s w es;rw [h] at this;exact this
theorem gw_ite{c:Prop}[Decidable c]{n:Nat}{A B:GStep}(a:n≤(gw A).drawn)(b:n≤(gw B).drawn):n≤(gw (if c then A else B)).drawn:=by
 split
 ·exact a
 ·exact b
theorem dr_callDeferred(p:Program)(fr:Frame)(cs:List Frame)(dy:Option Dying)(d:Deferred)(w:World):w.drawn≤(gw (callDeferred p fr cs dy d w)).drawn:=by
 unfold callDeferred
 dsimp only
 refine gw_ite (Nat.le_refl _) ?_
 rw [gw_after]
 have h:=dr_runT p (invoke d.target d.args) w #[]
 generalize (Sem.runT p (invoke d.target d.args) w #[]).1=r at h ⊢
 cases r with
 | ok a w' =>
  cases a
  all_goals first
   | exact h
   | (dsimp only;split<;>exact h)
   | (rename_i b _;cases b<;>exact h)
   | (rename_i b;cases b<;>exact h)
 | halt x w' =>
  cases x
  all_goals first
   | exact h
   | exact Nat.le_trans h (dr_endFatal ..)
theorem dr_unwind(p:Program)(main:Bool)(fr:Frame)(cs:List Frame)(dy:Option Dying)(w:World):w.drawn≤(gw (unwind p main fr cs dy w)).drawn:=by
 unfold unwind
 split
 ·dsimp only
  rw [gw_after]
  split
  ·next h=>exact dr_okT h
  ·next h=>exact dr_haltT h
 ·exact dr_callDeferred ..
 ·split
  ·exact Nat.le_refl _
  ·split
   ·exact Nat.le_refl _
   ·split
    ·exact Nat.le_refl _
    ·split
     ·split
      ·exact Nat.le_refl _
      ·split
       ·next h=>exact dr_ok h
       ·next h=>exact dr_halt h
       ·next h=>exact dr_halt h
     ·split
      ·rw [dr_endPrinting];exact Nat.le_refl _
      ·exact Nat.le_refl _
  ·split
   ·rw [dr_doReturn];exact Nat.le_refl _
   ·next fn _ =>
    dsimp only
    rw [gw_after]
    split
    all_goals (rename_i h1;first | exact dr_haltT h1 | (rw [dr_doReturn];exact dr_okT h1))
theorem dr_early(p:Program)(fr:Frame)(cs:List Frame)(dy:Option Dying)(g:Nat)(w:World):w.drawn≤(gw (early p fr cs dy g w)).drawn:=by
 unfold early
 dsimp only
 repeat' first
  | exact Nat.le_refl _
  | (rename_i h1;exact dr_ok h1)
  | (rename_i h1;exact dr_halt h1)
  | (rename_i h1 x c e h2;have h9:=dr_ok h1;exact h9)
  | (rename_i h1 x h2;have h9:=dr_ok h1;exact h9)
  | split
theorem dr_apply(p:Program)(listen:Bool)(fr:Frame)(cs:List Frame)(dy:Option Dying)(s:Sem Next)(w:World):w.drawn≤(gw (stepG.apply p listen fr cs dy s w)).drawn:=by
 unfold stepG.apply
 dsimp only
 rw [gw_after]
 have h:w.drawn≤(rw_ (if listen=true then s.runT p w #[] else (s.run p w,#[])).1).drawn:=by
  split
  ·exact dr_runT ..
  ·exact dr_run ..
 generalize (if listen=true then s.runT p w #[] else (s.run p w,#[])).1=r at h ⊢
 cases r with
 | ok a w' =>
  cases a
  all_goals first
   | exact h
   | (split<;>exact h)
   | (dsimp only;split<;>exact h)
   | exact gw_ite h h
 | halt x w' =>
  cases x
  all_goals first
   | exact h
   | exact Nat.le_trans h (dr_endFatal ..)
   | (rename_i u;cases u<;>first | exact h | exact Nat.le_trans h (dr_early ..))
theorem dr_oper(p:Program)(listen:Bool)(fr:Frame)(cs:List Frame)(dy:Option Dying)(w:World):w.drawn≤(gw (stepG.oper p listen fr cs dy w)).drawn:=by
 unfold stepG.oper
 split
 ·exact Nat.le_refl _
 ·split
  ·exact dr_apply ..
  ·exact dr_apply ..
theorem dr_exec(p:Program)(main:Bool)(listen:Bool)(fr:Frame)(cs:List Frame)(dy:Option Dying)(w:World):w.drawn≤(gw (stepG.exec p main listen fr cs dy w)).drawn:=by
 have lv:∀ (j:Option Code) (X:GStep),gw X=w→w.drawn≤(gw (match fr.roundOf with
   | none=>X
   | some l =>
    let (r,es):=(Instr.endRound l j).runT p w #[]
    GStep.after (seen p fr.fn es) <| match r with
    | .ok v w=>doReturn p main fr cs dy v w
    | .halt _ w => .ended (.stuck "range over a function: no such loop" (fr.pos p)) w)).drawn := by
  intro j X hX
  split
  ·rw [hX];exact Nat.le_refl _
  ·dsimp only
   rw [gw_after]
   split
   ·next h=>rw [dr_doReturn];exact dr_okT h
   ·next h=>exact dr_haltT h
 have hjump:∀ (o:Option (List Item)) (X:GStep) (Y:List Item→GStep),w.drawn≤(gw X).drawn→(∀ l,gw (Y l)=w)→w.drawn≤(gw (o.elim X Y)).drawn:=by
  intro o X Y h1 h2
  cases o with
  | none=>exact h1
  | some l=>show w.drawn≤(gw (Y l)).drawn;rw [h2];exact Nat.le_refl _
 obtain ⟨fn,tmps,todo,defers,mode,kind,ro⟩:=fr
 cases todo with
 | nil=>unfold stepG.exec;exact lv _ _ (by dsimp only;split<;>rfl)
 | cons i k =>
  cases i with
  | code c =>
   cases c with
   | skip=>exact Nat.le_refl _
   | label l=>exact Nat.le_refl _
   | seq a b=>exact Nat.le_refl _
   | block id b=>exact Nat.le_refl _
   | loop b=>exact Nat.le_refl _
   | scope b=>exact Nat.le_refl _
   | refuse why=>exact Nat.le_refl _
   | ret=>unfold stepG.exec;exact lv _ _ (by dsimp only;split<;>rfl)
   | cond c a b=>unfold stepG.exec;dsimp only;split<;>exact Nat.le_refl _
   | exit id=>unfold stepG.exec;exact hjump _ _ _ (lv _ _ (by dsimp only;split<;>rfl)) (fun _=>rfl)
   | goto l=>unfold stepG.exec;exact hjump _ _ _ (lv _ _ (by dsimp only;split<;>rfl)) (fun _=>rfl)
   | region id ops draw =>
    unfold stepG.exec
    dsimp only
    refine gw_ite (Nat.le_refl _) ?_
    split
    ·next h=>exact dr_ok h
    ·next h=>exact dr_halt h
   | rangeFunc f ps a b =>
    unfold stepG.exec
    dsimp only
    rw [gw_after]
    split
    ·next h=>exact Nat.le_trans (dr_okT h) (dr_apply ..)
    ·next h=>exact dr_haltT h
  | inBlock id=>exact Nat.le_refl _
  | inLoop b=>exact Nat.le_refl _
  | inScope b=>exact Nat.le_refl _
  | inRegion ops l =>
   cases l with
   | nil=>exact Nat.le_refl _
   | cons i l=>unfold stepG.exec;dsimp only;exact gw_ite (dr_oper ..) (Nat.le_refl _)
  | inRangeFunc l=>exact Nat.le_refl _
  | endRangeFunc l =>
   unfold stepG.exec
   dsimp only
   rw [gw_after]
   split
   ·next h=>exact dr_okT h
   ·next h=>exact dr_haltT h
   ·next h=>exact dr_haltT h
  | beginRound=>exact dr_apply ..
  | call d wr res sv=>exact dr_apply ..
  | extern row args =>
   unfold stepG.exec
   dsimp only
   cases Extern.next row with
   | none=>exact Nat.le_refl _
   | some e=>exact dr_apply ..
theorem dr_stepG(p:Program)(main:Bool)(g:Goroutine)(w:World)(listen:Bool):w.drawn≤(gw (stepG p main g w listen)).drawn:=by
 unfold stepG
 dsimp only
 split
 ·exact dr_die ..
 ·exact dr_exec ..
 ·exact dr_unwind ..
def sw(n:Nat):Stepped→Prop
 | .next m=>n≤m.world.drawn
 | _=>True
theorem sw_le{n k:Nat}{s:Stepped}(h:k≤n)(hs:sw n s):sw k s:=by
 cases s with
 | next m=>exact Nat.le_trans h hs
 | ended o w=>trivial
theorem dr_communicate(p:Program)(rest:Rest)(gs:Array Goroutine)(i:Nat)(g:Goroutine)(cases:Array CommCase)(b:Bool)(sh:CommShape)(w:World):sw w.drawn (communicate p rest gs i g cases b sh w).1:=by
 unfold communicate
 dsimp only
 split
 ·trivial
 ·split
  ·split
   ·split
    ·next h =>
     unfold waitingAt at h
     split at h
     ·split at h
      ·cases h;exact Nat.le_refl _
      ·cases h
     ·cases h;exact Nat.le_refl _
    ·trivial
   ·exact Nat.le_refl _
  ·split
   ·trivial
   ·next hr =>
    have h0:=dr_ok hr
    split
    ·split
     ·next h=>exact Nat.le_trans h0 (dr_halt h)
     ·trivial
    ·exact h0
    ·exact h0
    ·split
     ·exact h0
     ·split
      ·next h=>have h9:=Nat.le_trans h0 (dr_ok h);exact h9
      ·trivial
    ·exact h0
    ·exact h0
    ·trivial
theorem dr_look(p:Program)(gs:Array Goroutine)(rest:Rest)(w:World):sw w.drawn (look p gs rest w):=by
 unfold look
 dsimp only
 split
 ·split
  ·trivial
  ·split
   ·trivial
   ·split
    ·next h=>have h0:=dr_ok h;exact h0
    ·trivial
    ·trivial
 ·trivial
theorem dr_timerOp{m:Machine}{op:TimerOp}{v:Value}{m':Machine}(h:timerOp m op=.ok (v,m')):m.world.drawn≤m'.world.drawn:=by
 have hr:∀ (m:Machine) (k:Nat) (t:Timer) (a b:Nat),m.world.drawn≤(retime m k t a b).2.world.drawn:=by
  intro m k t a b
  unfold retime drain
  dsimp only
  repeat' first
   | exact Nat.le_refl _
   | split
 have hn:∀ (m:Machine) (var:Addr) (f:Nat→Timer→Value×Machine) (v:Value) (m':Machine),(∀ k t,m.world.drawn≤(f k t).2.world.drawn)→timerOp.named m var f=.ok (v,m')→m.world.drawn≤m'.world.drawn:=by
  intro m var f v m' hf h
  unfold timerOp.named at h
  split at h
  ·next k _=>have:=hf k (m.rest.timers.getD k default);injection h with h;rw [h] at this;exact this
  ·cases h
 cases op with
 | new t =>
  unfold timerOp at h
  dsimp only at h
  split at h
  ·cases h;exact Nat.le_refl _
  ·split at h
   ·split at h
    ·cases h
    ·cases h;exact Nat.le_refl _
   ·cases h
 | stop var=>exact hn _ _ _ _ _ (fun k t=>hr _ _ _ _ _) h
 | reset var a b =>
  unfold timerOp at h
  dsimp only at h
  split at h
  ·next m1 h1 =>
   have e:m1.world.drawn=m.world.drawn:=by
    unfold timerOp.opened at h1
    split at h1
    ·split at h1
     ·cases h1;rfl
     ·cases h1
    ·cases h1;rfl
   exact hn _ _ _ _ _ (fun k t=>by have:=hr m1 k t a b;omega) h
  ·cases h
 | deadline c r wr a=>unfold timerOp at h;dsimp only at h;cases h;exact Nat.le_refl _
theorem dr_runM(p:Program)(m:Machine)(i:Nat)(l:Bool):sw m.world.drawn (Go.runT p m i l).1:=by
 unfold Go.runT
 dsimp only
 generalize m.gs.swapAt! _ _=gg
 have h:=dr_stepG p (i==0) gg.1 m.world l
 generalize stepG p (i==0) gg.1 m.world l=s at h ⊢
 cases s with
 | ended o w es=>trivial
 | comm g cs b sh w es=>exact sw_le h (dr_communicate ..)
 | go g w es=>exact h
 | spawn g c w es=>exact h
 | count g w es=>dsimp only;split<;>first | trivial | exact h
 | alone g on w es=>exact h
 | collect g w es=>exact sw_le h (dr_look ..)
 | watch g w es=>exact h
 | newcoro g c d w es=>exact h
 | coroswitch g c e w es =>
  dsimp only
  split
  ·exact h
  ·split
   ·next hg=>simp only [endThrow,dieOf] at hg;cases hg;exact h
   ·trivial
  ·trivial
 | timer g op w es =>
  dsimp only
  split
  ·next hq=>have h9:=dr_timerOp hq;exact Nat.le_trans h h9
  ·split
   ·next hg=>simp only [endThrow,dieOf] at hg;cases hg;exact h
   ·trivial
  ·trivial
  ·trivial
theorem dr_serve(p:Program)(m:Machine)(k:Nat):sw m.world.drawn (serve p m k):=by
 unfold serve
 dsimp only
 split
 ·trivial
 ·exact Nat.le_refl _
 ·split
  ·trivial
  ·exact Nat.le_refl _
def mw(n:Nat):Move→Prop
 | .goroutine m _=>n≤m.world.drawn
 | .machine s _=>sw n s
theorem mw_le{n k:Nat}{s:Move}(h:k≤n)(hs:mw n s):mw k s:=by
 cases s with
 | goroutine m i=>exact Nat.le_trans h hs
 | machine s o=>exact sw_le h hs
theorem dr_askOn(p:Program)(m:Machine):mw m.world.drawn (askOn p m):=by
 have pick:∀ (rs:List Nat) (m:Machine),mw m.world.drawn (match (choose (.sched rs.length)).run p m.world with
   | .halt _ w => .machine (.ended (.stuck "sched" "") w)
   | .ok k world =>
    if rs.length≤1 then .goroutine { m with world } (rs.getD k 0) else
    match (choose (.extern "sched.slice" 65536)).run p world with
    | .halt _ w => .machine (.ended (.stuck "sched.slice" "") w)
    | .ok n world=>.goroutine { m with world,rest:={ m.rest with slice:=if n=0 then none else some (rs.getD k 0,n) } } (rs.getD k 0)):=by
  intro rs m
  split
  ·trivial
  ·next h =>
   have h0:=dr_ok h
   split
   ·exact h0
   ·split
    ·trivial
    ·next h=>have h1:=Nat.le_trans h0 (dr_ok h);exact h1
 unfold askOn
 dsimp only
 split
 ·trivial
 ·next h =>
  have h0:=dr_ok h
  split
  ·exact sw_le h0 (dr_serve p { m with world:=_ } _)
  ·split
   ·split
    ·exact h0
    ·split
     ·exact h0
     ·split
      ·trivial
      ·trivial
   ·split
    ·exact mw_le h0 (pick _ { m with world:=_ })
    ·split
     ·trivial
     ·next h=>exact mw_le (Nat.le_trans h0 (dr_ok h)) (pick _ { m with world:=_ })
     ·next h=>have h1:=Nat.le_trans h0 (dr_ok h);exact h1
     ·next h=>exact mw_le (Nat.le_trans h0 (dr_ok h)) (pick _ (Machine.advanceTo { m with world:=_ } _))
theorem dr_ask_(p:Program)(m:Machine):mw m.world.drawn (ask p m):=by
 unfold ask
 split
 ·split
  ·trivial
  ·next h =>
   have h0:=dr_ok h
   have h1:=sw_le h0 (dr_look p m.gs m.rest _)
   split
   ·next hl=>rw [hl] at h1;exact mw_le h1 (dr_askOn ..)
   ·exact h1
  ·next h=>exact mw_le (dr_ok h) (dr_askOn p { m with world:=_ })
 ·exact dr_askOn ..
theorem dr_move(p:Program)(m:Machine):mw m.world.drawn (move p m):=by
 unfold move
 split
 ·split
  ·exact Nat.le_refl _
  ·trivial
 ·split
  ·split
   ·exact Nat.le_refl _
   ·exact dr_ask_ p { m with rest:=_ }
  ·exact dr_ask_ ..
theorem dr_step{p:Program}{m m':Machine}(h:step p m=.next m'):m.world.drawn≤m'.world.drawn:=by
 have h1:=dr_move p m
 have h2:sw m.world.drawn (step p m):=by
  unfold step stepT
  split
  ·next hm=>rw [hm] at h1;exact sw_le h1 (dr_runM ..)
  ·next hm=>rw [hm] at h1;exact h1
 rw [h] at h2;exact h2
theorem dr_steps{p:Program}{m m':Machine}(h:Steps p m m'):m.world.drawn≤m'.world.drawn:=by
 obtain ⟨n,h⟩:=h
 induction n generalizing m with
 | zero=>cases h;exact Nat.le_refl _
 | succ n ih =>
  unfold runN at h
  split at h
  ·next h1=>exact Nat.le_trans (dr_step h1) (ih h)
  ·next h1=>exact absurd h (h1 _)
theorem calls_drawn{P:Program}{f:FuncId}{args:Array Value}{w:World}{R:Ending→World→Prop}(h:Calls P f args w R)(hR:∀ w',¬ R .outgrown w'):Calls P f args w fun e w'=>R e w'∧w.drawn≤w'.drawn:=by
 intro cs
 obtain ⟨e,w',fr,hr,hc,hf,hl⟩:=h cs
 refine ⟨e,w',fr,⟨hr,?_⟩,hc,hf,hl⟩
 cases e with
 | returned v=>exact dr_steps hc
 | panicked c=>exact dr_steps hc
 | outgrown=>exact absurd hr (hR _)
end Go.Proofs.YtahlbjmafceoeaaGreatDoor.E
namespace Go.Proofs.YtahlbjmafceoeaaGreatDoor.E
open Go.RowKit
theorem flat_all{α β:Type}[Inhabited α](c:Cd β)(v:α→β)(d:Array α):(Sort.flatK (fun x=>c.cs (v x)) c.sz d).toList=c.all (d.toList.map v):=by
 apply List.ext_getElem?
 intro t
 have hl:(c.all (d.toList.map v)).length=d.size*c.sz:=by rw [c.all_len];simp
 by_cases ht:t<d.size*c.sz
 ·have h1:(Sort.flatK (fun x=>c.cs (v x)) c.sz d).toList[t]? = some ((Sort.flatK (fun x=>c.cs (v x)) c.sz d)[t]!):=by
   rw [Array.getElem?_toList,getElem!_pos (Sort.flatK (fun x=>c.cs (v x)) c.sz d) t (by simpa using ht),Array.getElem?_eq_getElem (by simpa using ht)]
  rw [h1,Sort.get_flatK _ _ _ _ ht]
  have hk:=c.pos
  have hq:t/c.sz<d.size:=Nat.div_lt_of_lt_mul (by rw [Nat.mul_comm];exact ht)
  have hm:t%c.sz<c.sz:=Nat.mod_lt _ hk
  have hx:(d.toList.map v)[t/c.sz]? = some (v d[t/c.sz]!):=by
   rw [List.getElem?_map,Array.getElem?_toList,getElem!_pos d _ hq,Array.getElem?_eq_getElem hq];rfl
  have:=c.all_get _ _ (t%c.sz) _ hx hm
  rw [Nat.div_add_mod'] at this
  rw [this]
  have h2:t%c.sz<(c.cs (v d[t/c.sz]!)).length:=by rw [c.len];exact hm
  rw [List.getElem?_eq_getElem h2,getElem!_pos (c.cs (v d[t/c.sz]!)) (t%c.sz) h2]
 ·rw [List.getElem?_eq_none (by simpa using Nat.not_lt.1 ht),List.getElem?_eq_none (by omega)]
theorem put_take{F cur:Array Value}(h:F.size≤cur.size):(Sort.putCells id 0 F cur).toList.take F.size=F.toList∧(Sort.putCells id 0 F cur).size=cur.size:=by
 refine ⟨?_,by simp [Sort.putCells]⟩
 apply List.ext_getElem?
 intro t
 rw [List.getElem?_take]
 by_cases ht:t<F.size
 ·rw [if_pos ht,Array.getElem?_toList,Array.getElem?_toList]
  simp only [Sort.putCells,Array.getElem?_mapIdx]
  rw [Array.getElem?_eq_getElem (show t<cur.size by omega),Option.map_some,if_pos ⟨Nat.zero_le _,by omega⟩,Nat.sub_zero,getElem!_pos F t ht,Array.getElem?_eq_getElem ht];rfl
 ·rw [if_neg ht,Array.getElem?_toList,Array.getElem?_eq_none (by omega)]
section
variable {P : Program} {ρ : Shelf.Ren} {β : Type}
theorem grow_of{w w':World}(hb:Below w.heap.size w w')(hd:w.drawn≤w'.drawn):∃ q os,w'=Sort.grow (w.drewN q) os:=by
 refine ⟨w'.drawn-w.drawn,w'.heap.extract w.heap.size w'.heap.size,?_⟩
 obtain ⟨h,t,d,o,u⟩:=w
 obtain ⟨h',t',d',o',u'⟩:=w'
 obtain ⟨b1,b2,b3,b4,b5⟩:=hb
 simp only at b1 b2 b3 b4 b5 hd
 subst b1;subst b2;subst b3
 have hh:h'=h++h'.extract h.size h'.size:=by
  apply Array.ext_getElem?
  intro k
  rw [Array.getElem?_append]
  split
  ·next hk=>exact b5 k hk
  ·next hk =>
   rw [Array.getElem?_extract]
   split
   ·next h9=>rw [show h.size+(k-h.size)=k by omega]
   ·next h9=>rw [Array.getElem?_eq_none];omega
 unfold Sort.grow World.drewN
 simp only [World.mk.injEq,true_and,and_true]
 refine ⟨hh,?_⟩
 omega
theorem sort_calls(L:SlLaysF0.n6 P ρ)(c:Cd β)(K:β→Prop)(aE:∀ w,(isAgg (ρ.t 24)).run P w=.ok true w)(zE:∀ w,(Go.sizeOf (ρ.t 24)).run P w=.ok c.sz w)(cf:β→β→Int)(hO:SWOn K (ltOf cf))
  (g:Nat) (eg:∀ args w,(callFunc g args).run P w=.ok (.enter g args) w)
  (hcmp:∀ x y,K x→K y→∀ w,Calls P g #[.agg (c.cs x).toArray,.agg (c.cs y).toArray] w fun e w'=>e=.returned (.int .i64 (cf x y))∧Below w.heap.size w w')
  {w0 w:World} {H G:List Ent} {f:Ent→List Ent} {e cap:Nat} {p:Option Addr} {xs:List β} (hK:∀ x∈xs,K x) (hA:∀ x∈xs,∀ y∈xs,ltOf cf x y=false→ltOf cf y x=false→x=y) (hsz:xs.length<4611686018427387904)
  (hu:Upd H (rowE c e p cap xs) f G) (hw:Wd w0 H w) :
  Calls P (ρ.f 6) #[.slice p xs.length cap,.func (.func g) #[] #[]] w fun en w'=>en=.returned (.tuple #[])∧Wd w0 (f (rowE c e p cap (isort (ltOf cf) xs))) w':=by
 rcases hx:xs with _ | ⟨x0,xr⟩
 ·subst hx
  refine (AnyF.slices_SortFunc_none { L with } p cap _ w).mono fun en w' h=>⟨h.1,?_⟩
  rw [h.2]
  show Wd w0 (f (rowE c e p cap [])) w
  rw [hu.same];exact hw
 rw [←hx]
 have hx0:x0∈xs:=by rw [hx];exact List.mem_cons_self ..
 haveI:Inhabited { x // K x }:=⟨⟨x0,hK x0 hx0⟩⟩
 rcases (hw.ok hu.mem).2 with ⟨_,h0⟩ | ⟨g0,cap',cur,hs,hg0,hh,h1,h2,h3,h4⟩
 ·rw [hx] at h0;cases h0
 injection hs with e1 e2 e3
 subst e1;subst e3
 let d:Array { x // K x }:=(xs.attach.map fun x=>(⟨x.1,hK x.1 x.2⟩:{ x // K x })).toArray
 have hd:d.toList.map Subtype.val=xs:=by
  show List.map Subtype.val (xs.attach.map fun x=>(⟨x.1,hK x.1 x.2⟩:{ x // K x }))=xs
  rw [List.map_map]
  exact List.attach_map_subtype_val xs
 have hds:d.size=xs.length:=by rw [←hd];simp
 have hfl:=flat_all c Subtype.val d
 rw [hd] at hfl
 have hFs:(Sort.flatK (fun x:{ x // K x }=>c.cs x.1) c.sz d).size=xs.length*c.sz:=by rw [Sort.size_flatK,hds]
 have hH:Sort.HoldsK (fun x:{ x // K x }=>c.cs x.1) c.sz w g0 0 d:=by
  intro j hj
  have hcj:cur[j]? = some ((Sort.flatK (fun x:{ x // K x }=>c.cs x.1) c.sz d)[j]!):=by
   have a1:(cur.toList.take (xs.length*c.sz))[j]? = (Sort.flatK (fun x:{ x // K x }=>c.cs x.1) c.sz d).toList[j]?:=by rw [h4,hfl]
   rw [List.getElem?_take,if_pos (by rw [←hFs];exact hj),Array.getElem?_toList,Array.getElem?_toList,Array.getElem?_eq_getElem hj] at a1
   rw [a1,getElem!_pos _ j hj]
  refine ⟨?_,?_⟩
  ·simp [World.cell?,hh,hcj]
  ·simp [World.frozen?,hh]
 have hblk:g0<w.heap.size:=(Array.getElem?_eq_some_iff.1 hh).1
 have hcl:CmpLays P g #[] (fun x:{ x // K x }=>c.cs x.1) c.sz (fun x y=>cf x.1 y.1) g0 0 d.size w:=fun m os dk _ x y=>by
  rw [Array.append_empty]
  refine (calls_drawn (hcmp x.1 y.1 x.2 y.2 _) fun w' h=>by cases h.1).mono fun en w' h=>⟨h.1.1,grow_of h.1.2 h.2⟩
 have hO':Sort.SWO (ltOf fun x y:{ x // K x }=>cf x.1 y.1):=⟨fun x=>hO.irrefl x.1 x.2,fun x y z=>hO.trans x.1 y.1 z.1 x.2 y.2 z.2,fun x y z=>hO.ntrans x.1 y.1 z.1 x.2 y.2 z.2⟩
 have hS:=AnyQ.slices_SortFunc L c.sz aE zE (fun x:{ x // K x }=>c.cs x.1) (fun x=>c.len _) (fun x v hv=>c.one _ v hv) (fun x y=>cf x.1 y.1) hO' g #[] g0 0 cap d w eg hcl hH hblk (by rw [hds];exact hsz)
 rw [hds] at hS
 refine hS.mono fun en w' h=>⟨h.1,?_⟩
 obtain ⟨d',n,os,hp,hso,hw'⟩:=h.2
 rw [←hds] at hp hso
 have hys:d'.toList.map Subtype.val=isort (ltOf cf) xs:=by
  have hsz':d'.size=d.size:=hp.1
  have hperm:(d'.toList.map Subtype.val).Perm xs:=by
   have:=hp.2.2
   rw [Array.extract_size] at this
   rw [show d'.extract 0 d.size=d' by rw [←hsz'];exact Array.extract_size] at this
   have:=this.map Subtype.val
   rwa [hd] at this
  refine up_unique (lt:=ltOf cf) (hperm.trans (isort_perm _ xs).symm) ?_ (isort_up hO xs hK) ?_
  ·refine List.pairwise_iff_getElem.2 fun i j hi hj hij=>?_
   have hi':i<d'.size:=by simpa using hi
   have hj':j<d'.size:=by simpa using hj
   have:=hso i j (Nat.zero_le _) hij (by rw [←hsz'];exact hj')
   rw [getElem!_pos d' i hi',getElem!_pos d' j hj'] at this
   simp only [List.getElem_map,Array.getElem_toList]
   exact this
  ·intro x hx y hy
   exact hA x (hperm.mem_iff.1 hx) y (hperm.mem_iff.1 hy)
 have hfl':=flat_all c Subtype.val d'
 rw [hys] at hfl'
 have hFs':(Sort.flatK (fun x:{ x // K x }=>c.cs x.1) c.sz d').size=xs.length*c.sz:=by rw [Sort.size_flatK,hp.1,hds]
 have hput:=put_take (F:=Sort.flatK (fun x:{ x // K x }=>c.cs x.1) c.sz d') (cur:=cur) (by rw [hFs',h3];exact Nat.mul_le_mul_right _ h1)
 have hheap:∀ k,k<w.heap.size→w'.heap[k]? = if g0=k then (w.heap[k]?).map (Sort.onCells (Sort.putCells id 0 (Sort.flatK (fun x:{ x // K x }=>c.cs x.1) c.sz d'))) else w.heap[k]?:=by
  intro k hk
  rw [hw']
  unfold sortWorldK Sort.putRowK Sort.putRow
  rw [Sort.heap_grow_old _ _ (by simpa [Sort.mapBlock,Sort.ahead] using hk)]
  simp only [Sort.mapBlock,Sort.ahead,Array.getElem?_modify]
 have hlen:=isort_length (ltOf cf) xs
 refine hw.upd (E':=rowE c e (some ⟨g0,0,none⟩) cap (isort (ltOf cf) xs)) hu ?_ ?_ ?_ ?_ (fun k hk hk'=>?_) ?_ fun k hk=>.inl ?_
 ·rw [hw'];exact size_sortWorldK_c _ _ _ _ _ _ _ _
 ·rw [hw'];rfl
 ·rw [hw'];rfl
 ·rw [hw'];rfl
 ·rw [hheap k hk,if_neg]
  intro he
  exact hk' (by rw [←he];simp [rowE,Value.ownBlock])
 ·refine ⟨c.all_len _,.inr ⟨g0,cap,Sort.putCells id 0 (Sort.flatK (fun x:{ x // K x }=>c.cs x.1) c.sz d') cur,rfl,Nat.zero_le _,?_,by omega,h2,by rw [hput.2,h3],?_⟩⟩
  ·rw [hheap g0 hblk,if_pos rfl,hh];rfl
  ·rw [hlen,←hFs',hput.1,hfl']
 ·simpa [rowE,Value.ownBlock] using hk
end
end Go.Proofs.YtahlbjmafceoeaaGreatDoor.E
namespace Go.Proofs
open Go.Shelf
def Tryz.sortP_ren:Go.Shelf.Ren:=⟨fun | 6=>102 | 15=>127 | 14=>129 | 28=>154 | 29=>155 | 20=>156 | 21=>157 | 22=>158 | 23=>159 | 24=>160 | 25=>161 | 26=>162 | 27=>163 | 46=>176 | 47=>172 | 48=>173 | 49=>177 | 50=>178 | 57=>182 | n=>n,fun | 22=>58 | 24=>38 | 25=>134 | 3=>3 | 39=>119 | 0=>0 | 53=>24 | 55=>57 | 4=>4 | 46=>185 | 45=>184 | 50=>189 | 5=>5 | 9=>9 | 66=>202 | 70=>206 | 76=>210 | 77=>159 | n=>n,fun | n=>n⟩
theorem Tryz.sortP:Go.Proofs.SlLaysF0.n6 Tryz.prog Tryz.sortP_ren:={
 mixed:=by kernel_rfl
 f6:=⟨Tryz.f102.name,by decide,Tryz.func102.trans (congrArg some (by kernel_rfl))⟩
 f14:=⟨Tryz.f129.name,by decide,Tryz.func129.trans (congrArg some (by kernel_rfl))⟩
 f15:=Tryz.func127.trans (congrArg some (by kernel_rfl))
 f20:=⟨Tryz.f156.name,by decide,Tryz.func156.trans (congrArg some (by kernel_rfl))⟩
 f21:=⟨Tryz.f157.name,by decide,Tryz.func157.trans (congrArg some (by kernel_rfl))⟩
 f22:=⟨Tryz.f158.name,by decide,Tryz.func158.trans (congrArg some (by kernel_rfl))⟩
 f23:=⟨Tryz.f159.name,by decide,Tryz.func159.trans (congrArg some (by kernel_rfl))⟩
 f24:=⟨Tryz.f160.name,by decide,Tryz.func160.trans (congrArg some (by kernel_rfl))⟩
 f25:=⟨Tryz.f161.name,by decide,Tryz.func161.trans (congrArg some (by kernel_rfl))⟩
 f26:=⟨Tryz.f162.name,by decide,Tryz.func162.trans (congrArg some (by kernel_rfl))⟩
 f27:=⟨Tryz.f163.name,by decide,Tryz.func163.trans (congrArg some (by kernel_rfl))⟩
 f28:=Tryz.func154.trans (congrArg some (by kernel_rfl))
 f29:=Tryz.func155.trans (congrArg some (by kernel_rfl))
 f46:=⟨Tryz.f176.name,by decide,Tryz.func176.trans (congrArg some (by kernel_rfl))⟩
 f47:=Tryz.func172.trans (congrArg some (by kernel_rfl))
 f48:=Tryz.func173.trans (congrArg some (by kernel_rfl))
 f49:=⟨Tryz.f177.name,by decide,Tryz.func177.trans (congrArg some (by kernel_rfl))⟩
 f50:=⟨Tryz.f178.name,by decide,Tryz.func178.trans (congrArg some (by kernel_rfl))⟩
 f57:=⟨Tryz.f182.name,by decide,Tryz.func182.trans (congrArg some (by kernel_rfl))⟩
 t0:=Tryz.underlying0
 a0:=Tryz.isAgg0
 z0:=Tryz.sizeOf0
 v0:=Tryz.zeroValue0
 t3:=Tryz.underlying3
 a3:=Tryz.isAgg3
 z3:=Tryz.sizeOf3
 v3:=Tryz.zeroValue3
 t4:=Tryz.underlying4
 a4:=Tryz.isAgg4
 z4:=Tryz.sizeOf4
 v4:=Tryz.zeroValue4
 t5:=Tryz.underlying5
 a5:=Tryz.isAgg5
 z5:=Tryz.sizeOf5
 v5:=Tryz.zeroValue5
 t9:=Tryz.underlying9
 a9:=Tryz.isAgg9
 z9:=Tryz.sizeOf9
 v9:=Tryz.zeroValue9
 t22:=Tryz.underlying58
 a22:=Tryz.isAgg58
 z22:=Tryz.sizeOf58
 v22:=Tryz.zeroValue58
 t25:=Tryz.underlying134
 a25:=Tryz.isAgg134
 z25:=Tryz.sizeOf134
 v25:=Tryz.zeroValue134
 t39:=Tryz.underlying119
 a39:=Tryz.isAgg119
 z39:=Tryz.sizeOf119
 v39:=Tryz.zeroValue119
 t45:=Tryz.underlying184
 a45:=Tryz.isAgg184
 z45:=Tryz.sizeOf184
 v45:=Tryz.zeroValue184
 t46:=Tryz.underlying185
 a46:=Tryz.isAgg185
 z46:=Tryz.sizeOf185
 v46:=Tryz.zeroValue185
 t50:=Tryz.underlying189
 a50:=Tryz.isAgg189
 z50:=Tryz.sizeOf189
 v50:=Tryz.zeroValue189
 t53:=Tryz.underlying24
 a53:=Tryz.isAgg24
 z53:=Tryz.sizeOf24
 v53:=Tryz.zeroValue24
 t55:=Tryz.underlying57
 a55:=Tryz.isAgg57
 z55:=Tryz.sizeOf57
 v55:=Tryz.zeroValue57
 t66:=Tryz.underlying202
 a66:=Tryz.isAgg202
 z66:=Tryz.sizeOf202
 v66:=Tryz.zeroValue202
 t70:=Tryz.underlying206
 a70:=Tryz.isAgg206
 z70:=Tryz.sizeOf206
 v70:=Tryz.zeroValue206
 t76:=Tryz.underlying210
 a76:=Tryz.isAgg210
 z76:=Tryz.sizeOf210
 v76:=Tryz.zeroValue210
 t77:=Tryz.underlying159
 a77:=Tryz.isAgg159
 z77:=Tryz.sizeOf159
 v77:=Tryz.zeroValue159 }
def Tryz.sortE_ren:Go.Shelf.Ren:=⟨fun | 6=>96 | 15=>127 | 14=>126 | 28=>154 | 29=>155 | 20=>146 | 21=>147 | 22=>148 | 23=>149 | 24=>150 | 25=>151 | 26=>152 | 27=>153 | 46=>171 | 47=>172 | 48=>173 | 49=>174 | 50=>175 | 57=>181 | n=>n,fun | 22=>46 | 24=>49 | 25=>131 | 3=>3 | 39=>119 | 0=>0 | 53=>24 | 55=>57 | 4=>4 | 46=>185 | 45=>184 | 50=>189 | 5=>5 | 9=>9 | 66=>202 | 70=>206 | 76=>210 | 77=>159 | n=>n,fun | n=>n⟩
theorem Tryz.sortE:Go.Proofs.SlLaysF0.n6 Tryz.prog Tryz.sortE_ren:={
 mixed:=by kernel_rfl
 f6:=⟨Tryz.f96.name,by decide,Tryz.func96.trans (congrArg some (by kernel_rfl))⟩
 f14:=⟨Tryz.f126.name,by decide,Tryz.func126.trans (congrArg some (by kernel_rfl))⟩
 f15:=Tryz.func127.trans (congrArg some (by kernel_rfl))
 f20:=⟨Tryz.f146.name,by decide,Tryz.func146.trans (congrArg some (by kernel_rfl))⟩
 f21:=⟨Tryz.f147.name,by decide,Tryz.func147.trans (congrArg some (by kernel_rfl))⟩
 f22:=⟨Tryz.f148.name,by decide,Tryz.func148.trans (congrArg some (by kernel_rfl))⟩
 f23:=⟨Tryz.f149.name,by decide,Tryz.func149.trans (congrArg some (by kernel_rfl))⟩
 f24:=⟨Tryz.f150.name,by decide,Tryz.func150.trans (congrArg some (by kernel_rfl))⟩
 f25:=⟨Tryz.f151.name,by decide,Tryz.func151.trans (congrArg some (by kernel_rfl))⟩
 f26:=⟨Tryz.f152.name,by decide,Tryz.func152.trans (congrArg some (by kernel_rfl))⟩
 f27:=⟨Tryz.f153.name,by decide,Tryz.func153.trans (congrArg some (by kernel_rfl))⟩
 f28:=Tryz.func154.trans (congrArg some (by kernel_rfl))
 f29:=Tryz.func155.trans (congrArg some (by kernel_rfl))
 f46:=⟨Tryz.f171.name,by decide,Tryz.func171.trans (congrArg some (by kernel_rfl))⟩
 f47:=Tryz.func172.trans (congrArg some (by kernel_rfl))
 f48:=Tryz.func173.trans (congrArg some (by kernel_rfl))
 f49:=⟨Tryz.f174.name,by decide,Tryz.func174.trans (congrArg some (by kernel_rfl))⟩
 f50:=⟨Tryz.f175.name,by decide,Tryz.func175.trans (congrArg some (by kernel_rfl))⟩
 f57:=⟨Tryz.f181.name,by decide,Tryz.func181.trans (congrArg some (by kernel_rfl))⟩
 t0:=Tryz.underlying0
 a0:=Tryz.isAgg0
 z0:=Tryz.sizeOf0
 v0:=Tryz.zeroValue0
 t3:=Tryz.underlying3
 a3:=Tryz.isAgg3
 z3:=Tryz.sizeOf3
 v3:=Tryz.zeroValue3
 t4:=Tryz.underlying4
 a4:=Tryz.isAgg4
 z4:=Tryz.sizeOf4
 v4:=Tryz.zeroValue4
 t5:=Tryz.underlying5
 a5:=Tryz.isAgg5
 z5:=Tryz.sizeOf5
 v5:=Tryz.zeroValue5
 t9:=Tryz.underlying9
 a9:=Tryz.isAgg9
 z9:=Tryz.sizeOf9
 v9:=Tryz.zeroValue9
 t22:=Tryz.underlying46
 a22:=Tryz.isAgg46
 z22:=Tryz.sizeOf46
 v22:=Tryz.zeroValue46
 t25:=Tryz.underlying131
 a25:=Tryz.isAgg131
 z25:=Tryz.sizeOf131
 v25:=Tryz.zeroValue131
 t39:=Tryz.underlying119
 a39:=Tryz.isAgg119
 z39:=Tryz.sizeOf119
 v39:=Tryz.zeroValue119
 t45:=Tryz.underlying184
 a45:=Tryz.isAgg184
 z45:=Tryz.sizeOf184
 v45:=Tryz.zeroValue184
 t46:=Tryz.underlying185
 a46:=Tryz.isAgg185
 z46:=Tryz.sizeOf185
 v46:=Tryz.zeroValue185
 t50:=Tryz.underlying189
 a50:=Tryz.isAgg189
 z50:=Tryz.sizeOf189
 v50:=Tryz.zeroValue189
 t53:=Tryz.underlying24
 a53:=Tryz.isAgg24
 z53:=Tryz.sizeOf24
 v53:=Tryz.zeroValue24
 t55:=Tryz.underlying57
 a55:=Tryz.isAgg57
 z55:=Tryz.sizeOf57
 v55:=Tryz.zeroValue57
 t66:=Tryz.underlying202
 a66:=Tryz.isAgg202
 z66:=Tryz.sizeOf202
 v66:=Tryz.zeroValue202
 t70:=Tryz.underlying206
 a70:=Tryz.isAgg206
 z70:=Tryz.sizeOf206
 v70:=Tryz.zeroValue206
 t76:=Tryz.underlying210
 a76:=Tryz.isAgg210
 z76:=Tryz.sizeOf210
 v76:=Tryz.zeroValue210
 t77:=Tryz.underlying159
 a77:=Tryz.isAgg159
 z77:=Tryz.sizeOf159
 v77:=Tryz.zeroValue159 }
end Go.Proofs
namespace Go.Proofs.YtahlbjmafceoeaaGreatDoor
open E Go.RowKit _root_.Go.Proofs.Tryz
abbrev zv0 := ({ f_Private := (Vector.replicate 32 (0 : Int) : (Vector Int 32)), f_Port := (0 : Int), f_Mark := (0 : Int), f_Peers := ([] : List S_api_Peer) } : S_api_Conf)
abbrev zv1 := ({ f_V := (0 : Int), f_B := (Vector.replicate 16 (0 : Int) : (Vector Int 16)) } : S_api_Addr)
abbrev zv2 := (Vector.replicate 16 (0 : Int) : (Vector Int 16))
abbrev zv3 := (Vector.replicate 32 (0 : Int) : (Vector Int 32))
abbrev zv4 := (Vector.replicate 8 (0 : Int) : (Vector Int 8))
abbrev zv5 := ((none : Option Addr), (0 : Nat))
abbrev zv6 := ({ f_c := zv0, f_own := ([] : List S_api_Entry), f_out := ([] : List S_lint_Odd) } : S_lint_finder)
abbrev zv7 := ({ f_A := zv1, f_Port := (0 : Int) } : S_api_Endpoint)
abbrev zv8 := ({ f_A := zv1, f_Bits := (0 : Int) } : S_api_Prefix)
abbrev zv9 := ({ f_From := zv1, f_To := zv1 } : S_aggregate_Range)
abbrev zv10 := ({ f_Key := zv3, f_Psk := zv3, f_End := zv7, f_Keep := (0 : Int), f_Sent := (0 : Int), f_Got := (0 : Int), f_Allowed := ([] : List S_api_Prefix) } : S_api_Peer)
abbrev zv11 := ({ f_Kind := (0 : Int), f_Peer := (0 : Int), f_P := zv8 } : S_lint_Odd)
abbrev zv12 := ({ f_P := zv8, f_Owner := (0 : Int) } : S_api_Entry)
abbrev zv13 := (zv5, zv10)
section
variable {n d m : Nat} {L : List (Nat × Value)} {W : World → Prop} {P : Program} {ops : Array Oper} {Q : Exit → Act → World → Prop} {rest : List Oper} {w0 : World} {H : List Ent} {f : FuncId} {fn : Func} {xs : List Operand} {ats : Array TypeId} {ty : TypeId} {pos : String} {aft : Array Edge} {l : List Value}
theorem cB {v : Value} (hf : P.funcs[f]? = some fn) (hx : evs L xs = some l) (hc : ∀ w, Wd w0 H w → Calls P f l.toArray w fun e w' => e = .returned v ∧ Below w.heap.size w w') (kk : At n ((d, v) :: L) (Wd w0 H) (wpList P ops Q rest)) (hb : fn.body.isSome = true := by exact rfl) (hnm : (fn.name == "runtime.NumGoroutine") = false := by kernel_rfl) (hdn : Nat.blt d n = true := by exact rfl) : At n L (Wd w0 H) (wpList P ops Q (⟨some d, .call { callee := .value (.func f), args := xs.toArray, argTypes := ats }, ty, pos, aft, none⟩ :: rest)) := at_callB hf hb hnm hx hdn hc kk
end
theorem wb {β : Type} {v : β} {w0 : World} {H : List Ent} : ∀ w1, Wd w0 H w1 → v = v ∧ Below w0.heap.size w0 w1 := fun _ h => ⟨rfl, h.below⟩
theorem lw {α : Type} {c : Cd α} {x : α} : Lens (c.cs x) 0 c x c.cs := Lens.whole c x
def okc (k : Nat) (cs : List Value) : Bool := Nat.beq cs.length k && cs.all Value.oneCell'
theorem okc_ok {k : Nat} {cs : List Value} (h : okc k cs = true) : cs.length = k ∧ ∀ v ∈ cs, v.oneCell' = true := by
  unfold okc at h
  rw [Bool.and_eq_true] at h
  exact ⟨Nat.eq_of_beq_eq_true h.1, List.all_eq_true.1 h.2⟩
abbrev ck (k : Nat) (cs : List Value) (h : okc k cs = true) : {l : List Value // l.length = k ∧ ∀ v ∈ l, v.oneCell' = true} := ⟨cs, okc_ok h⟩
theorem fa {n d : Nat} {L : List (Nat × Value)} {W : World → Prop} {P : Program} {ops : Array Oper} {Q : Exit → Act → World → Prop} {rest : List Oper} {s : TypeId} {x : Operand} {ty : TypeId} {pos : String} {aft : Array Edge} {fs : Array Field} {f : Field} {j b o m : Nat} (fo : Nat) (hs : P.underlying s = some (.struct fs)) (hf : fs[j]? = some f) (hz : ∀ w, (sizeOf f.type).run P w = .ok (m + 1) w) (k : At n ((d, .pointer (some ⟨b, o + fo, none⟩)) :: L) W (wpList P ops Q rest)) (hfo : f.offset = fo := by exact rfl) (hdn : Nat.blt d n = true := by exact rfl) (hx : ev L x = some (.pointer (some ⟨b, o, none⟩)) := by exact rfl) : At n L W (wpList P ops Q (⟨some d, .fieldAddr s x j, ty, pos, aft, none⟩ :: rest)) :=
  av hdn (r_fieldAddr hs hf hfo (fun w => ⟨m, hz w⟩) hx) k
theorem sa {n : Nat} {L : List (Nat × Value)} {P : Program} {ops : Array Oper} {Q : Exit → Act → World → Prop} {rest : List Oper} {w0 : World} {H : List Ent} {b tb : Nat} {t : TypeId} {x y : Operand} {ty : TypeId} {pos : String} {aft : Array Edge} {cells : List Value} {v : Value} {f : Ent → List Ent} {G : List Ent} (k : Nat) (cs : List Value) (hu : Upd H (cellsE b cells tb) f G) (h1 : okc (k - 1 + 1) cells = true) (h2 : okc (k - 1 + 1) cs = true) (hz : ∀ w, (sizeOf t).run P w = .ok (k - 1 + 1) w) (hx : ev L x = some (.pointer (some ⟨b, 0, none⟩))) (hy : ev L y = some v) (hv : v.cells = cs.toArray) (kk : At n L (Wd w0 (f (cellsE b cs tb))) (wpList P ops Q rest)) : At n L (Wd w0 H) (wpList P ops Q (⟨none, .store t x y, ty, pos, aft, none⟩ :: rest)) :=
  at_storeAll hu (Nat.succ_pos _) (okc_ok h1) (okc_ok h2) hz hx hy hv kk
def decimal_Text(x0:Int):Option (ByteArray) :=
 if (0:Int)≤x0∧x0<18446744073709551616 then some (fmtU x0) else none
theorem decimal_Text_ok(x0:Int)(r:ByteArray)(hF:decimal_Text x0=some r)(w:World)(hg_strconv_uint64pow10:GV_strconv_uint64pow10 w) :
    Calls Tryz.prog 63 #[.int .u64 x0] w (fun e w'=>e=.returned (.string r)∧Below w.heap.size w w'):=by
 unfold decimal_Text at hF
 refine ce (l:=[.int .u64 x0]) func63 rfl rfl ?_
 refine at_start ?_
 refine sr (aa (ns (am ?_)))
 obtain ⟨h1,hF⟩:=gd hF
 refine cB func89 rfl (fun w1 hw=>formatUint_ok _ h1 w1 (hg_strconv_uint64pow10.on hw.below)) ?_
 refine aa (nwq [2] ?_)
 refine qt ?_
 have K:=os hF
 subst K
 exact r1 wb
end Go.Proofs.YtahlbjmafceoeaaGreatDoor
namespace Go.Proofs.YtahlbjmafceoeaaGreatDoor
open E Go.RowKit _root_.Go.Proofs.Tryz
def quad_Text.l0(x0:(Vector Int 4))(i4:Int)(i5:(Vector ByteArray 4)):Option ((Vector ByteArray 4)) :=
 if (decide (i4<4))=true then (if (0:Int)≤i4∧i4<4 then decimal_Text (wr .u64 (vget x0 i4))>>=fun t8=>if (0:Int)≤i4∧i4<4 then quad_Text.l0 x0 (wr .i64 (i4+1)) (vset i5 i4 t8) else none else none) else (some i5)
 partial_fixpoint
def quad_Text(x0:(Vector Int 4)):Option (ByteArray) :=
 quad_Text.l0 x0 0 (Vector.replicate 4 (⟨#[]⟩:ByteArray):(Vector ByteArray 4))>>=fun q3=>if List.length (Vector.toList q3)≤140737488355328 then if (bjoin (Vector.toList q3) (⟨#[46]⟩:ByteArray)).size≤140737488355328 then some (bjoin (Vector.toList q3) (⟨#[46]⟩:ByteArray)) else none else none
theorem quad_Text_ok(x0:(Vector Int 4))(r:ByteArray)(hF:quad_Text x0=some r)(w:World)(hg_strconv_uint64pow10:GV_strconv_uint64pow10 w) :
    Calls Tryz.prog 87 #[.agg (Cd.cs (cVec (cInt .u8) 4 (by decide)) x0).toArray] w (fun e w'=>e=.returned (.string r)∧Below w.heap.size w w'):=by
 unfold quad_Text at hF
 refine ce (l:=[.agg (Cd.cs (cVec (cInt .u8) 4 (by decide)) x0).toArray]) func87 rfl rfl ?_
 refine at_start ?_
 refine sr ?_
 refine at_box (cs:=Cd.cs (cVec (cInt .u8) 4 (by decide)) x0) rfl rfl rfl ?_
 intro b1
 refine aa (ns ?_)
 refine al (cs:=Cd.cs (cVec cStr 4 (by decide)) (Vector.replicate 4 (⟨#[]⟩:ByteArray):(Vector ByteArray 4))) zeroValue155 ?_
 intro b2
 refine nt (qs (sr ?_))
 refine aw (r_load_aggc (c:=(cVec (cInt .u8) 4 (by decide))) (z:=x0) isAgg117 sizeOf117 rfl (lens_cell (.s .z) lw)) ?_
 refine am (qn ?_)
 refine at_drop (H:=_) (.s .z) ?_
 refine wq [7,6,3] ?_
 refine tn ?_
 refine qb ?_
 obtain ⟨q3,hq3,hF⟩:=bM hF
 refine wq [7,6,3] ?_
 refine at_loop_n (B:=0) (A:=fun Y=>At 19 [(3,.pointer (some ⟨b2,0,none⟩))] (Wd w [cellsE b2 (Cd.cs (cVec cStr 4 (by decide)) q3) 155]) Y) ?_ ?_
 ·intro K
  refine quad_Text.l0.partial_correctness x0 (motive:=fun i4 i5 x=>KN (fun Y=>At 19 [(3,.pointer (some ⟨b2,0,none⟩))] (Wd w [cellsE b2 (Cd.cs (cVec cStr 4 (by decide)) x) 155]) Y) _ 0→Round (fun Y=>At 19 [(3,.pointer (some ⟨b2,0,none⟩)),(6,.agg (Cd.cs (cVec (cInt .u8) 4 (by decide)) x0).toArray),(7,.int .i64 i4)] (Wd w [cellsE b2 (Cd.cs (cVec cStr 4 (by decide)) i5) 155]) Y) _ _ _) ?_ _ _ _ hq3 K
  ·clear K hF
   intro g ih i4 i5 x hF K
   refine at_round ?_
   refine sr (aw xl (nwq [8,7,6,3] ?_))
   refine qs ?_
   obtain ⟨h6,hF⟩|⟨h6,hF⟩:=oi hF
   ·refine ct h6 ?_
    refine sn (qs ?_)
    refine qb ?_
    refine sr (am ?_)
    obtain ⟨h7,hF⟩:=gd hF
    refine aw (r_idxVal underlying117 sizeOf5 rfl rfl h7 (part_vOf (Lens.vec (cInt .u8) (by decide) x0 i4 h7) isAgg5 sizeOf5 (.inr rfl))) ?_
    refine aa (aa (nt (qr (am (am ?_)))))
    refine aw (r_conv underlying5 underlying57 rfl) ?_
    obtain ⟨t8,ht8,hF⟩:=bM hF
    refine cB func63 rfl (fun w hw=>decimal_Text_ok _ _ ht8 w (hg_strconv_uint64pow10.on hw.below)) ?_
    obtain ⟨h9,hF⟩:=gd hF
    refine aw (r_idxArr underlying155 sizeOf9 rfl rfl h9) ?_
    refine at_store (c:=cStr) (z:=t8) .z (Lens.comp lw (fun z=>vset i5 i4 z) (Lens.vec cStr (by decide) i5 i4 h9)) sizeOf9 rfl rfl rfl ?_
    refine qn (wq [7,6,3] ?_)
    refine bm ?_
    refine qr (aw xa (am (nwq [7,6,3] ?_)))
    exact at_weak_k (ih _ _ _ hF K) ⟨rfl,rfl,rfl,trivial⟩
   refine cf h6 ?_
   refine at_exit ?_
   refine te (te ?_)
   obtain rfl:=os hF
   exact at_weak_k K ⟨rfl,trivial⟩
 skip
 skip
 refine at_blk_same ?_
 refine tn (sr ?_)
 refine aw (r_slice_vec q3 underlying155 sizeOf9 rfl) ?_
 obtain ⟨h10,hF⟩:=gd hF
 obtain ⟨h11,hF⟩:=gd hF
 refine cB func37 rfl (fun w1 hw=>join_ok _ _ h10 h11 _ _ w1 (vec_row (hw.ok (Upd.mem .z)))) ?_
 refine aa (qn (dz (wq [2] ?_)))
 refine tn (qt ?_)
 have K:=os hF
 subst K
 exact r1 wb
end Go.Proofs.YtahlbjmafceoeaaGreatDoor
namespace Go.Proofs.YtahlbjmafceoeaaGreatDoor
open E Go.RowKit _root_.Go.Proofs.Tryz
theorem infoG39_is:(Tryz.prog.info? 9).isSome=true:=by kernel_rfl
noncomputable def infoG39_v:TypeInfo:=(Tryz.prog.info? 9).get infoG39_is
theorem infoG39:Tryz.prog.info? 9=some infoG39_v:=(Option.some_get _).symm
def endian_sized(x0:List Int):Option (Bool) :=
 if (decide ((x0.length:Int)≥1))=true then (some (decide ((x0.length:Int)≤8))) else (some false)
theorem endian_sized_ok(x0:List Int)(p0_:Option Addr)(c0_:Nat)(r:Bool)(hF:endian_sized x0=some r)(w:World)(hr0:Row (cInt .u8) w p0_ c0_ x0) :
    Calls Tryz.prog 166 #[.slice p0_ x0.length c0_] w (fun e w'=>e=.returned (.bool r)∧w'=w):=by
 unfold endian_sized at hF
 refine ce (l:=[.slice p0_ x0.length c0_]) func166 rfl rfl ?_
 refine sr (aa (nwx [0] ?_))
 refine am ?_
 refine aw (r_len_sl underlying74 rfl) ?_
 refine aw (r_igeq rfl rfl) ?_
 refine am ?_
 obtain ⟨h1,hF⟩|⟨h1,hF⟩:=oi hF
 ·refine fx 6 h1 ?_
  refine gy ?_
  refine am ?_
  refine gy ?_
  refine aw (r_len_sl underlying74 rfl) ?_
  refine gy ?_
  refine aw (r_ileq rfl rfl) ?_
  refine aw xp (aa (nwq [2] ?_))
  refine qt ?_
  have K:=os hF
  subst K
  exact r1 (fun w1 hw=>⟨rfl,hw⟩)
 refine fx 6 h1 ?_
 refine gn ?_
 refine gn ?_
 refine gn ?_
 refine aw xp (aa (nwq [2] ?_))
 refine qt ?_
 have K:=os hF
 subst K
 exact r1 (fun w1 hw=>⟨rfl,hw⟩)
def endian_OfBig.l0(x0:List Int)(i4:Int)(i5:Int):Option (Int) :=
 if (decide (i5<(x0.length:Int)))=true then (if (0:Int)≤i5∧i5<(x0.length:Int) then endian_OfBig.l0 x0 (ior .u64 (ishl .u64 i4 8) (wr .u64 (lget x0 i5))) (wr .i64 (i5+1)) else none) else (some i4)
 partial_fixpoint
def endian_OfBig(x0:List Int):Option (Int×Int) :=
 endian_sized x0>>=fun t1=>if (!t1)=true then (some (0,1)) else (endian_OfBig.l0 x0 0 0>>=fun q3=>some (q3,0))
theorem endian_OfBig_ok(x0:List Int)(p0_:Option Addr)(c0_:Nat)(r:Int×Int)(hF:endian_OfBig x0=some r)(w:World)(hr0:Row (cInt .u8) w p0_ c0_ x0) :
    Calls Tryz.prog 139 #[.slice p0_ x0.length c0_] w (fun e w'=>e=.returned (.tuple #[.int .u64 r.1,.int .i64 r.2])∧w'=w):=by
 unfold endian_OfBig at hF
 refine ce (l:=[.slice p0_ x0.length c0_]) func139 rfl rfl ?_
 refine sr (aa (aa (nt (qs (sr (am ?_))))))
 obtain ⟨t1,ht1,hF⟩:=bM hF
 refine at_call0w func166 rfl (by kernel_rfl) rfl rfl (fun w hw=>endian_sized_ok _ _ _ _ ht1 w (hr0.below (by subst hw;exact Below.refl _ _))) ?_
 refine aw (r_not rfl) ?_
 refine nwq [9,0] ?_
 obtain ⟨h2,hF⟩|⟨h2,hF⟩:=oi hF
 ·refine ct h2 ?_
  refine sr (aa (aa (nwq [3,2] ?_)))
  refine rt ?_
  have K:=os hF
  subst K
  exact at_return2 rfl rfl rfl (fun w1 hw=>⟨rfl,hw⟩)
 refine cf h2 ?_
 refine sns (aa (nt (qs (sr (am ?_)))))
 refine aw (r_len_sl underlying74 rfl) ?_
 refine am (nwq [12,11,10,4] ?_)
 refine qb ?_
 obtain ⟨q3,hq3,hF⟩:=bM hF
 refine wq [12,11,10,4] ?_
 refine at_loop_n (B:=0) (A:=fun Y=>At 23 [(4,.int .u64 q3)] (fun w'=>w'=w) Y) ?_ ?_
 ·intro K
  refine endian_OfBig.l0.partial_correctness x0 (motive:=fun i4 i5 x=>KN (fun Y=>At 23 [(4,.int .u64 x)] (fun w'=>w'=w) Y) _ 0→Round (fun Y=>At 23 [(4,.int .u64 i4),(10,.slice p0_ x0.length c0_),(11,.int .i64 (x0.length:Int)),(12,.int .i64 i5)] (fun w'=>w'=w) Y) _ _ _) ?_ _ _ _ hq3 K
  ·clear K hF
   intro g ih i4 i5 x hF K
   refine at_round ?_
   refine sr (aw xl (nwq [13,12,11,10,4] ?_))
   refine qs ?_
   obtain ⟨h6,hF⟩|⟨h6,hF⟩:=oi hF
   ·refine ct h6 ?_
    refine sn (qs ?_)
    refine qb ?_
    refine sr ?_
    obtain ⟨h7,hF⟩:=gd hF
    obtain ⟨b9,o10,hp8⟩:=row_ptr hr0 h7
    refine aw (r_idx underlying74 sizeOf5 rfl rfl h7 hp8) ?_
    refine aw (r_load_cell isAgg5 rfl (row_cell0 (fun w1 (h:w1=w)=>by subst h;exact Below.refl _ _) hr0 h7 hp8 rfl)) ?_
    refine aa (nt (qr (am ?_)))
    refine aw (r_ishl rfl rfl (by decide)) ?_
    refine am ?_
    refine aw (r_conv underlying5 underlying57 rfl) ?_
    refine aw (r_ior rfl rfl) ?_
    refine aa (qn (wq [12,11,10,4] ?_))
    refine bm ?_
    refine qr (aw xa (am (nwq [12,11,10,4] ?_)))
    exact at_weak_k (ih _ _ _ hF K) ⟨rfl,rfl,rfl,rfl,trivial⟩
   refine cf h6 ?_
   refine at_exit ?_
   refine te (te ?_)
   obtain rfl:=os hF
   exact at_weak_k K ⟨rfl,trivial⟩
 skip
 skip
 refine at_blk_same ?_
 refine tn (sr (am (aa (aa (nwq [3,2] ?_)))))
 refine qt ?_
 have K:=os hF
 subst K
 exact at_return2 rfl rfl rfl (fun w1 hw=>⟨rfl,hw⟩)
def colon_groups.l0(x0:(Vector Int 16))(i5:Int)(i6:(Vector Int 8)):Option ((Vector Int 8)) :=
 if (decide (i5<8))=true then (if (0:Int)≤wr .i64 (2*i5)∧wr .i64 (2*i5)≤wr .i64 ((wr .i64 (2*i5))+2)∧wr .i64 ((wr .i64 (2*i5))+2)≤(16:Int) then endian_OfBig (lsub (Vector.toList x0) (wr .i64 (2*i5)) (wr .i64 ((wr .i64 (2*i5))+2)))>>=fun t9=>if (0:Int)≤i5∧i5<8 then colon_groups.l0 x0 (wr .i64 (i5+1)) (vset i6 i5 (wr .u16 t9.1)) else none else none) else (some i6)
 partial_fixpoint
def colon_groups(x0:(Vector Int 16)):Option ((Vector Int 8)) :=
 colon_groups.l0 x0 0 (Vector.replicate 8 (0:Int):(Vector Int 8))>>=fun q4=>some q4
theorem colon_groups_ok(x0:(Vector Int 16))(r:(Vector Int 8))(hF:colon_groups x0=some r)(w:World) :
    Calls Tryz.prog 119 #[.agg (Cd.cs (cVec (cInt .u8) 16 (by decide)) x0).toArray] w (fun e w'=>e=.returned (.agg (Cd.cs (cVec (cInt .u16) 8 (by decide)) r).toArray)∧Below w.heap.size w w'):=by
 unfold colon_groups at hF
 refine ce (l:=[.agg (Cd.cs (cVec (cInt .u8) 16 (by decide)) x0).toArray]) func119 rfl rfl ?_
 refine at_start ?_
 refine sr ?_
 refine at_box (cs:=Cd.cs (cVec (cInt .u8) 16 (by decide)) x0) rfl rfl rfl ?_
 intro b1
 refine al (cs:=Cd.cs (cVec (cInt .u16) 8 (by decide)) zv4) zeroValue157 ?_
 intro b2
 refine ns ?_
 refine al (cs:=Cd.cs (cVec (cInt .u16) 8 (by decide)) zv4) zeroValue157 ?_
 intro b3
 refine nt (qs (sr (am (nwq [7,3,2,1] ?_))))
 refine qb ?_
 obtain ⟨q4,hq4,hF⟩:=bM hF
 refine wq [7,3,2,1] ?_
 refine at_loop_n (B:=0) (A:=fun Y=>At 26 [(2,.pointer (some ⟨b2,0,none⟩)),(3,.pointer (some ⟨b3,0,none⟩))] (Wd w [cellsE b3 (Cd.cs (cVec (cInt .u16) 8 (by decide)) q4) 157,cellsE b2 (Cd.cs (cVec (cInt .u16) 8 (by decide)) zv4) 157]) Y) ?_ ?_
 ·intro K
  refine colon_groups.l0.partial_correctness x0 (motive:=fun i5 i6 x=>KN (fun Y=>At 26 [(2,.pointer (some ⟨b2,0,none⟩)),(3,.pointer (some ⟨b3,0,none⟩))] (Wd w [cellsE b3 (Cd.cs (cVec (cInt .u16) 8 (by decide)) x) 157,cellsE b2 (Cd.cs (cVec (cInt .u16) 8 (by decide)) zv4) 157]) Y) _ 0→Round (fun Y=>At 26 [(1,.pointer (some ⟨b1,0,none⟩)),(2,.pointer (some ⟨b2,0,none⟩)),(3,.pointer (some ⟨b3,0,none⟩)),(7,.int .i64 i5)] (Wd w [cellsE b3 (Cd.cs (cVec (cInt .u16) 8 (by decide)) i6) 157,cellsE b2 (Cd.cs (cVec (cInt .u16) 8 (by decide)) zv4) 157,cellsE b1 (Cd.cs (cVec (cInt .u8) 16 (by decide)) x0) 34]) Y) _ _ _) ?_ _ _ _ hq4 K
  ·clear K hF
   intro g ih i5 i6 x hF K
   refine at_round ?_
   refine sr (aw xl (nwq [8,7,3,2,1] ?_))
   refine qs ?_
   obtain ⟨h7,hF⟩|⟨h7,hF⟩:=oi hF
   ·refine ct h7 ?_
    refine sn (qs ?_)
    refine qb ?_
    refine sr (am (aa (ns (am ?_))))
    refine aw (r_imul rfl rfl) ?_
    refine am ?_
    refine aw (r_imul rfl rfl) ?_
    refine aw xa ?_
    obtain ⟨h8,hF⟩:=gd hF
    refine aw (r_view (c:=(cInt .u8)) (v:=x0) (l:=wr .i64 (2*i5)) (h:=wr .i64 ((wr .i64 (2*i5))+2)) underlying34 sizeOf5 rfl ⟨_,rfl⟩ ⟨_,rfl⟩ h8) ?_
    obtain ⟨t9,ht9,hF⟩:=bM hF
    refine cB func139 rfl (fun w hw=>callB_of_call0 (endian_OfBig_ok _ _ _ _ ht9 w (Row.sub (lens_row (.s (.s .z)) lw hw) (vbnd h8)))) ?_
    refine am ?_
    refine aw xe (aw xe (aa (aa (nt (qr (am (am ?_)))))))
    refine aw (r_conv underlying57 underlying156 rfl) ?_
    obtain ⟨h10,hF⟩:=gd hF
    refine aw (r_idxArr underlying157 sizeOf156 rfl rfl h10) ?_
    refine at_store (c:=(cInt .u16)) (z:=wr .u16 t9.1) .z (Lens.comp lw (fun z=>vset i6 i5 z) (Lens.vec (cInt .u16) (by decide) i6 i5 h10)) sizeOf156 rfl rfl rfl ?_
    refine qn (wq [7,3,2,1] ?_)
    refine bm ?_
    refine qr (aw xa (am (nwq [7,3,2,1] ?_)))
    exact at_weak_k (ih _ _ _ hF K) ⟨rfl,rfl,rfl,rfl,trivial⟩
   refine cf h7 ?_
   refine at_exit ?_
   refine te (te ?_)
   refine at_drop (H:=_) (.s (.s .z)) ?_
   obtain rfl:=os hF
   exact at_weak_k K ⟨rfl,rfl,trivial⟩
 skip
 skip
 refine at_blk_same ?_
 refine tn (sr ?_)
 refine aw (r_load_aggc (c:=(cVec (cInt .u16) 8 (by decide))) (z:=q4) isAgg157 sizeOf157 rfl (lens_cell .z lw)) ?_
 refine at_store (c:=(cVec (cInt .u16) 8 (by decide))) (z:=q4) (.s .z) lw sizeOf157 rfl rfl rfl ?_
 refine qn (dz (wq [2] ?_))
 refine tn (qt ?_)
 have K:=os hF
 subst K
 exact at_res1 rfl (res_cell (c:=(cVec (cInt .u16) 8 (by decide))) (y:=q4) rfl .z lw isAgg157 sizeOf157 (.inl rfl)) wb
def colon_longest.l0(x0:(Vector Int 8))(i3:Int)(i4:Int)(i5:Int)(i6:Int):Option (Int×Int) :=
 if (decide (i6<8))=true then (if (0:Int)≤i6∧i6<8 then if (vget x0 i6 != 0)=true then (colon_longest.l0 x0 i3 i4 0 (wr .i64 (i6+1))) else (if (decide (wr .i64 (i5+1)>i4))=true then (colon_longest.l0 x0 (wr .i64 ((wr .i64 (i6+1))-(wr .i64 (i5+1)))) (wr .i64 (i5+1)) (wr .i64 (i5+1)) (wr .i64 (i6+1))) else (colon_longest.l0 x0 i3 i4 (wr .i64 (i5+1)) (wr .i64 (i6+1)))) else none) else (some (i3,i4))
 partial_fixpoint
def colon_longest(x0:(Vector Int 8)):Option (Int×Int) :=
 colon_longest.l0 x0 0 0 0 0>>=fun q2=>some (q2.1,q2.2)
theorem colon_longest_ok(x0:(Vector Int 8))(r:Int×Int)(hF:colon_longest x0=some r)(w:World) :
    Calls Tryz.prog 120 #[.agg (Cd.cs (cVec (cInt .u16) 8 (by decide)) x0).toArray] w (fun e w'=>e=.returned (.tuple #[.int .i64 r.1,.int .i64 r.2])∧Below w.heap.size w w'):=by
 unfold colon_longest at hF
 refine ce (l:=[.agg (Cd.cs (cVec (cInt .u16) 8 (by decide)) x0).toArray]) func120 rfl rfl ?_
 refine at_start ?_
 refine sr ?_
 refine at_box (cs:=Cd.cs (cVec (cInt .u16) 8 (by decide)) x0) rfl rfl rfl ?_
 intro b1
 refine aa (aa (ns (aa (nt (qs (sr ?_))))))
 refine aw (r_load_aggc (c:=(cVec (cInt .u16) 8 (by decide))) (z:=x0) isAgg157 sizeOf157 rfl (lens_cell .z lw)) ?_
 refine am (qn (dz (wq [8,7,4,3,2] ?_)))
 refine tn ?_
 refine qb ?_
 obtain ⟨q2,hq2,hF⟩:=bM hF
 refine wq [8,7,4,3,2] ?_
 refine at_loop_n (B:=0) (A:=fun Y=>At 27 [(2,.int .i64 q2.1),(3,.int .i64 q2.2)] (Wd w []) Y) ?_ ?_
 ·intro K
  refine colon_longest.l0.partial_correctness x0 (motive:=fun i3 i4 i5 i6 x=>KN (fun Y=>At 27 [(2,.int .i64 x.1),(3,.int .i64 x.2)] (Wd w []) Y) _ 0→Round (fun Y=>At 27 [(2,.int .i64 i3),(3,.int .i64 i4),(4,.int .i64 i5),(7,.agg (Cd.cs (cVec (cInt .u16) 8 (by decide)) x0).toArray),(8,.int .i64 i6)] (Wd w []) Y) _ _ _) ?_ _ _ _ _ _ hq2 K
  ·clear K hF
   intro g ih i3 i4 i5 i6 x hF K
   refine at_round ?_
   refine sr (aw xl (nwq [9,8,7,4,3,2] ?_))
   refine qs ?_
   obtain ⟨h7,hF⟩|⟨h7,hF⟩:=oi hF
   ·refine ct h7 ?_
    refine sn (qs ?_)
    refine qb ?_
    refine sr (am ?_)
    obtain ⟨h8,hF⟩:=gd hF
    refine aw (r_idxVal underlying157 sizeOf156 rfl rfl h8 (part_vOf (Lens.vec (cInt .u16) (by decide) x0 i6 h8) isAgg156 sizeOf156 (.inr rfl))) ?_
    refine aa (aa (nt (qs (sr (am (aw xn (nwq [13,8,7,5,4,3,2] ?_)))))))
    obtain ⟨h9,hF⟩|⟨h9,hF⟩:=oi hF
    ·refine ct h9 ?_
     refine sr (aa (nwq [8,7,4,3,2] ?_))
     refine at_exit ?_
     refine te (at_blk_same (tn ?_))
     refine qr (aw xa (am (nwq [8,7,4,3,2] ?_)))
     exact at_weak_k (ih _ _ _ _ _ hF K) ⟨rfl,rfl,rfl,rfl,rfl,trivial⟩
    refine cf h9 ?_
    refine sns (am (aw xa (aa (ns (am (am ?_))))))
    refine aw (r_igtr rfl rfl) ?_
    refine nwq [18,8,7,5,4,3,2] ?_
    obtain ⟨h10,hF⟩|⟨h10,hF⟩:=oi hF
    ·refine ct h10 ?_
     refine qr (am (aw xa (am ?_)))
     refine aw (r_isub rfl rfl) ?_
     refine am (aa (aa (qn (wq [8,7,4,3,2] ?_))))
     refine bm ?_
     refine qr (aw xa (am (nwq [8,7,4,3,2] ?_)))
     exact at_weak_k (ih _ _ _ _ _ hF K) ⟨rfl,rfl,rfl,rfl,rfl,trivial⟩
    refine cf h10 ?_
    refine at_skip ?_
    refine bm ?_
    refine qr (aw xa (am (nwq [8,7,4,3,2] ?_)))
    exact at_weak_k (ih _ _ _ _ _ hF K) ⟨rfl,rfl,rfl,rfl,rfl,trivial⟩
   refine cf h7 ?_
   refine at_exit ?_
   refine te (te ?_)
   obtain rfl:=os hF
   exact at_weak_k K ⟨rfl,rfl,trivial⟩
 skip
 skip
 refine at_blk_same ?_
 refine tn (sr (am (am (aa (aa (nwq [3,2] ?_))))))
 refine qt ?_
 have K:=os hF
 subst K
 exact at_return2 rfl rfl rfl wb
def hexes_Group.l0(i2:Int)(i3:ByteArray):Option (ByteArray) :=
 if (0:Int)≤iand .u16 i2 15∧iand .u16 i2 15<((⟨#[48,49,50,51,52,53,54,55,56,57,97,98,99,100,101,102]⟩:ByteArray).size:Int) then if (Utf8.encode (bt (⟨#[48,49,50,51,52,53,54,55,56,57,97,98,99,100,101,102]⟩:ByteArray) (iand .u16 i2 15))).size+i3.size≤140737488355328 then if (ishr .u16 i2 4==0)=true then (some ((Utf8.encode (bt (⟨#[48,49,50,51,52,53,54,55,56,57,97,98,99,100,101,102]⟩:ByteArray) (iand .u16 i2 15)))++i3)) else (hexes_Group.l0 (ishr .u16 i2 4) ((Utf8.encode (bt (⟨#[48,49,50,51,52,53,54,55,56,57,97,98,99,100,101,102]⟩:ByteArray) (iand .u16 i2 15)))++i3)) else none else none
 partial_fixpoint
def hexes_Group(x0:Int):Option (ByteArray) :=
 hexes_Group.l0 x0 (⟨#[]⟩)>>=fun q1=>some q1
theorem hexes_Group_ok(x0:Int)(r:ByteArray)(hF:hexes_Group x0=some r)(w:World) :
    Calls Tryz.prog 140 #[.int .u16 x0] w (fun e w'=>e=.returned (.string r)∧w'=w):=by
 unfold hexes_Group at hF
 refine ce (l:=[.int .u16 x0]) func140 rfl rfl ?_
 refine sr (aa (ns (aa (nwq [3,0] ?_))))
 refine qb ?_
 obtain ⟨q1,hq1,hF⟩:=bM hF
 refine wq [3,0] ?_
 refine at_loop_only (r:=r) (q:=q1) ?_ ?_
 ·intro K
  refine hexes_Group.l0.partial_correctness  (motive:=fun i2 i3 x=>x=r→Round (fun Y=>At 15 [(0,.int .u16 i2),(3,.string i3)] (fun w'=>w'=w) Y) _ _ _) ?_ _ _ _ hq1 K
  ·clear K hF
   intro g ih i2 i3 x hF K
   refine at_round ?_
   refine qb ?_
   refine sr (am ?_)
   refine aw (r_iand rfl rfl) ?_
   obtain ⟨h4,hF⟩:=gd hF
   refine aw (r_index_str underlying9 rfl rfl h4) ?_
   refine aw (r_conv_str underlying5 underlying9 rfl) ?_
   refine am ?_
   obtain ⟨h5,hF⟩:=gd hF
   refine aw (r_concat rfl rfl h5) ?_
   refine aa (ns (am ?_))
   refine aw (r_ishr rfl rfl (by decide)) ?_
   refine aa (ns (am (aw xq (nwq [13,3,0] ?_))))
   obtain ⟨h6,hF⟩|⟨h6,hF⟩:=oi hF
   ·refine ct h6 ?_
    refine sr (am (aa (nwq [2] ?_)))
    refine qt ?_
    refine br (tr (br ?_))
    obtain rfl:=os hF
    subst K
    exact r1 (fun w1 hw=>⟨rfl,hw⟩)
   refine cf h6 ?_
   refine at_skip ?_
   refine bm ?_
   exact at_weak_k (ih _ _ _ hF K) ⟨rfl,rfl,trivial⟩
 exact os hF
def colon_row.l0(x0:List Int)(i4:List ByteArray)(i5:Int):Option (List ByteArray) :=
 if (decide (i5<(x0.length:Int)))=true then (if (0:Int)≤i5∧i5<(x0.length:Int) then hexes_Group (lget x0 i5)>>=fun t15=>if (i4.length+1)*16≤140737488355328 then colon_row.l0 x0 (i4++[t15]) (wr .i64 (i5+1)) else none else none) else (some i4)
 partial_fixpoint
def colon_row(x0:List Int):Option (ByteArray) :=
 colon_row.l0 x0 ([]:List ByteArray) 0>>=fun q3=>if List.length q3≤140737488355328 then if (bjoin q3 (⟨#[58]⟩:ByteArray)).size≤140737488355328 then some (bjoin q3 (⟨#[58]⟩:ByteArray)) else none else none
theorem colon_row_ok(x0:List Int)(p0_:Option Addr)(c0_:Nat)(r:ByteArray)(hF:colon_row x0=some r)(w:World)(hr0:Row (cInt .u16) w p0_ c0_ x0) :
    Calls Tryz.prog 121 #[.slice p0_ x0.length c0_] w (fun e w'=>e=.returned (.string r)∧Below w.heap.size w w'):=by
 unfold colon_row at hF
 refine ce (l:=[.slice p0_ x0.length c0_]) func121 rfl rfl ?_
 refine at_start ?_
 refine sr (aa (ns (aa (nt (qs (sr (am ?_)))))))
 refine aw (r_len_sl underlying162 rfl) ?_
 refine am (nwq [8,7,6,3] ?_)
 refine qb ?_
 refine at_own_nil cStr 9 ?_
 obtain ⟨q3,hq3,hF⟩:=bM hF
 refine wq [8,7,6,3] ?_
 refine at_loop_n (B:=0) (A:=fun Y=>∀ (p8:Option Addr) (c9:Nat),At 20 [(3,.slice p8 q3.length c9)] (Wd w [rowE cStr 9 p8 c9 q3]) Y) ?_ ?_
 ·intro K
  refine colon_row.l0.partial_correctness x0 (motive:=fun i4 i5 x=>KN (fun Y=>∀ (p8:Option Addr) (c9:Nat),At 20 [(3,.slice p8 x.length c9)] (Wd w [rowE cStr 9 p8 c9 x]) Y) _ 0→Round (fun Y=>∀ (p6:Option Addr) (c7:Nat),At 20 [(3,.slice p6 i4.length c7),(6,.slice p0_ x0.length c0_),(7,.int .i64 (x0.length:Int)),(8,.int .i64 i5)] (Wd w [rowE cStr 9 p6 c7 i4]) Y) _ _ _) ?_ _ _ _ hq3 K none 0
  ·clear K hF
   intro g ih i4 i5 x hF K p6 c7
   refine at_round ?_
   refine sr (aw xl (nwq [9,8,7,6,3] ?_))
   refine qs ?_
   obtain ⟨h10,hF⟩|⟨h10,hF⟩:=oi hF
   ·refine ct h10 ?_
    refine sn (qs ?_)
    refine qb ?_
    refine sr ?_
    obtain ⟨h11,hF⟩:=gd hF
    obtain ⟨b13,o14,hp12⟩:=row_ptr hr0 h11
    refine aw (r_idx underlying162 sizeOf156 rfl rfl h11 hp12) ?_
    refine aw (r_load_cell isAgg156 rfl (row_cell0 (fun _ h=>h.below) hr0 h11 hp12 rfl)) ?_
    refine aa (nt (qr (am (am ?_))))
    obtain ⟨t15,ht15,hF⟩:=bM hF
    refine at_call0 func140 rfl (by kernel_rfl) rfl rfl (fun w=>hexes_Group_ok _ _ ht15 w) ?_
    refine at_lit (cs:=cStr.all ([t15]:List ByteArray)) underlying72 sizeOf9 zeroValue9 rfl rfl rfl (by kernel_rfl) rfl ?_
    intro b16
    obtain ⟨h17,hF⟩:=gd hF
    refine at_append (z:=.string ⟨#[]⟩) (c:=cStr) (ys:=([t15]:List ByteArray)) (.s .z) underlying72 infoG39 (by kernel_rfl) (by kernel_rfl) rfl rfl rfl rfl (fun _ hw=>cells_src (hw.ok (Upd.mem .z))) (by kernel_rfl) h17 (app_small h17) rfl ?_
    intro p18 c19
    refine aa (qn (dz (wq [8,7,6,3] ?_)))
    refine bm ?_
    refine qr (aw xa (am (nwq [8,7,6,3] ?_)))
    exact at_weak_k (ih _ _ _ hF K p18 c19) ⟨rfl,rfl,rfl,rfl,trivial⟩
   refine cf h10 ?_
   refine at_exit ?_
   refine te (te ?_)
   obtain rfl:=os hF
   exact at_weak_k (K p6 c7) ⟨rfl,trivial⟩
 skip
 intro p8 c9
 refine at_blk_same ?_
 refine tn (sr (am ?_))
 obtain ⟨h20,hF⟩:=gd hF
 obtain ⟨h21,hF⟩:=gd hF
 refine cB func37 rfl (fun w1 hw=>join_ok _ _ h20 h21 _ _ w1 (hw.own .z).row) ?_
 refine aa (qn (dz (wq [2] ?_)))
 refine tn (qt ?_)
 have K:=os hF
 subst K
 exact r1 wb
def colon_Text(x0:(Vector Int 16)):Option (ByteArray) :=
 colon_groups x0>>=fun t2=>colon_longest t2>>=fun t4=>if (decide (t4.2<2))=true then (colon_row (Vector.toList t2)>>=fun t6=>some t6) else (if (0:Int)≤0∧0≤t4.1∧t4.1≤(8:Int) then colon_row (lsub (Vector.toList t2) 0 t4.1)>>=fun t8=>if t8.size+(⟨#[58,58]⟩:ByteArray).size≤140737488355328 then if (0:Int)≤wr .i64 (t4.1+t4.2)∧wr .i64 (t4.1+t4.2)≤8∧8≤(8:Int) then colon_row (lsub (Vector.toList t2) (wr .i64 (t4.1+t4.2)) 8)>>=fun t11=>if (t8++(⟨#[58,58]⟩:ByteArray)).size+t11.size≤140737488355328 then some ((t8++(⟨#[58,58]⟩:ByteArray))++t11) else none else none else none else none)
theorem colon_Text_ok(x0:(Vector Int 16))(r:ByteArray)(hF:colon_Text x0=some r)(w:World) :
    Calls Tryz.prog 88 #[.agg (Cd.cs (cVec (cInt .u8) 16 (by decide)) x0).toArray] w (fun e w'=>e=.returned (.string r)∧Below w.heap.size w w'):=by
 unfold colon_Text at hF
 refine ce (l:=[.agg (Cd.cs (cVec (cInt .u8) 16 (by decide)) x0).toArray]) func88 rfl rfl ?_
 refine at_start ?_
 refine sr ?_
 refine at_box (cs:=Cd.cs (cVec (cInt .u8) 16 (by decide)) x0) rfl rfl rfl ?_
 intro b1
 refine aa (ns ?_)
 refine aw (r_load_aggc (c:=(cVec (cInt .u8) 16 (by decide))) (z:=x0) isAgg34 sizeOf34 rfl (lens_cell .z lw)) ?_
 obtain ⟨t2,ht2,hF⟩:=bM hF
 refine cB func119 rfl (fun w hw=>colon_groups_ok _ _ ht2 w) ?_
 refine al (cs:=Cd.cs (cVec (cInt .u16) 8 (by decide)) zv4) zeroValue157 ?_
 intro b3
 refine at_store (c:=(cVec (cInt .u16) 8 (by decide))) (z:=t2) .z lw sizeOf157 rfl rfl rfl ?_
 refine qn ?_
 refine at_drop (H:=_) (.s .z) ?_
 refine tn (sr ?_)
 refine aw (r_load_aggc (c:=(cVec (cInt .u16) 8 (by decide))) (z:=t2) isAgg157 sizeOf157 rfl (lens_cell .z lw)) ?_
 obtain ⟨t4,ht4,hF⟩:=bM hF
 refine cB func120 rfl (fun w hw=>colon_longest_ok _ _ ht4 w) ?_
 refine am ?_
 refine aw xe (aw xe (aa (aa (nt (qs (sr (am (aw xl ?_))))))))
 refine nwq [14,5,4,3] ?_
 obtain ⟨h5,hF⟩|⟨h5,hF⟩:=oi hF
 ·refine ct h5 ?_
  refine sr ?_
  refine aw (r_slice_vec t2 underlying157 sizeOf156 rfl) ?_
  obtain ⟨t6,ht6,hF⟩:=bM hF
  refine cB func121 rfl (fun w hw=>colon_row_ok _ _ _ _ ht6 w (vec_row (hw.ok (Upd.mem .z)))) ?_
  refine aa (qn (dz (wq [2] ?_)))
  refine tn (rt ?_)
  have K:=os hF
  subst K
  exact r1 wb
 refine cf h5 ?_
 refine sn (qs ?_)
 refine at_draw (by kernel_rfl) (by kernel_rfl) (fun _ h=>h.drew) ?_
 refine atq_val rfl rfl rfl (r_move rfl) ?_
 obtain ⟨h7,hF⟩:=gd hF
 refine atq_val rfl rfl rfl (r_view (c:=(cInt .u16)) (v:=t2) (l:=0) (h:=t4.1) underlying157 sizeOf156 rfl rfl ⟨_,rfl⟩ h7) ?_
 obtain ⟨t8,ht8,hF⟩:=bM hF
 refine atq_call func121 rfl (by kernel_rfl) rfl rfl (fun w hw=>(colon_row_ok _ _ _ _ ht8 w (Row.sub (lens_row .z lw hw) (vbnd h7))).mono fun _ _ h=>⟨h.1,hw.call h.2⟩) ?_
 obtain ⟨h9,hF⟩:=gd hF
 refine atq_val rfl rfl rfl (r_concat rfl rfl h9) ?_
 refine atq_val rfl rfl rfl (r_move rfl) ?_
 refine atq_val rfl rfl rfl (r_move rfl) ?_
 refine atq_val rfl rfl rfl (r_iadd rfl rfl) ?_
 obtain ⟨h10,hF⟩:=gd hF
 refine atq_val rfl rfl rfl (r_view (c:=(cInt .u16)) (v:=t2) (l:=wr .i64 (t4.1+t4.2)) (h:=8) underlying157 sizeOf156 rfl ⟨_,rfl⟩ rfl h10) ?_
 obtain ⟨t11,ht11,hF⟩:=bM hF
 refine atq_call func121 rfl (by kernel_rfl) rfl rfl (fun w hw=>(colon_row_ok _ _ _ _ ht11 w (Row.sub (lens_row .z lw hw) (vbnd h10))).mono fun _ _ h=>⟨h.1,hw.call h.2⟩) ?_
 obtain ⟨h12,hF⟩:=gd hF
 refine atq_val rfl rfl rfl (r_concat rfl rfl h12) ?_
 refine atq_val rfl rfl rfl (r_assign rfl) ?_
 refine atq_nil ?_
 refine dz (wq [2] ?_)
 refine tn (qt ?_)
 have K:=os hF
 subst K
 exact r1 wb
end Go.Proofs.YtahlbjmafceoeaaGreatDoor
namespace Go.Proofs.YtahlbjmafceoeaaGreatDoor
open E Go.RowKit _root_.Go.Proofs.Tryz
def addr_Four(x0:(Vector Int 4)):Option (S_api_Addr) :=
 some ({ { ({ f_V:=(0:Int),f_B:=(Vector.replicate 16 (0:Int):(Vector Int 16)) }:S_api_Addr) with f_V:=4 } with f_B:=vcopy (({ ({ f_V:=(0:Int),f_B:=(Vector.replicate 16 (0:Int):(Vector Int 16)) }:S_api_Addr) with f_V:=4 }).f_B) (Int.toNat 0) (List.take (Int.toNat (16-0)) (Vector.toList x0)) })
set_option maxHeartbeats 3200000 in
theorem addr_Four_ok(x0:(Vector Int 4))(r:S_api_Addr)(hF:addr_Four x0=some r)(w:World) :
    Calls Tryz.prog 93 #[.agg (Cd.cs (cVec (cInt .u8) 4 (by decide)) x0).toArray] w (fun e w'=>e=.returned (.agg (Cd.cs c_api_Addr r).toArray)∧Below w.heap.size w w'):=by
 unfold addr_Four at hF
 refine ce (l:=[.agg (Cd.cs (cVec (cInt .u8) 4 (by decide)) x0).toArray]) func93 rfl rfl ?_
 refine at_start ?_
 refine sr ?_
 refine at_box (cs:=Cd.cs (cVec (cInt .u8) 4 (by decide)) x0) rfl rfl rfl ?_
 intro b1
 refine al (cs:=Cd.cs c_api_Addr zv1) zeroValue36 ?_
 intro b2
 refine ns ?_
 refine aw (r_build_struct (zs:=Cd.cs c_api_Addr zv1) (cs:=Cd.cs c_api_Addr ({ zv1 with f_V:=4 })) underlying36 zeroValue36 rfl (places_api_Addr_36) rfl (fill_step (c:=(cInt .i64)) (z:=4) rfl (c_api_Addr_f_V zv1) rfl rfl)) ?_
 refine al (cs:=Cd.cs c_api_Addr zv1) zeroValue36 ?_
 intro b3
 refine at_store (c:=c_api_Addr) (z:={ zv1 with f_V:=4 }) .z lw sizeOf36 rfl rfl rfl ?_
 refine nt (qs (wq [3,2,1] ?_))
 refine at_inv [.q 5 (fun g4=>.pointer (some ⟨b3,0+1,none⟩)) [] 0 0,.q 6 (fun g4=>.slice (some ⟨b3,0+1,none⟩) (Vector.toList (({ zv1 with f_V:=4 }).f_B)).length 16) [0] 0 0,.q 7 (fun g4=>.slice (some ⟨b1,0,none⟩) (Vector.toList x0).length 4) [] 0 0,.st 0 (some (8,fun g4=>.int .i64 (min (List.length (Vector.toList x0)) (Int.toNat (16-0)):Nat))) [1,2]] (fun g4 s=>match s with | 0=>(Wd w [cellsE b3 (Cd.cs c_api_Addr ({ zv1 with f_V:=4 })) 36,cellsE b2 (Cd.cs c_api_Addr zv1) 36,cellsE b1 (Cd.cs (cVec (cInt .u8) 4 (by decide)) x0) 117]) | _=>(Wd w [cellsE b3 (Cd.cs c_api_Addr ({ { zv1 with f_V:=4 } with f_B:=vcopy (({ zv1 with f_V:=4 }).f_B) (Int.toNat 0) (List.take (Int.toNat (16-0)) (Vector.toList x0)) })) 36,cellsE b2 (Cd.cs c_api_Addr zv1) 36,cellsE b1 (Cd.cs (cVec (cInt .u8) 4 (by decide)) x0) 117])) 1 (by kernel_rfl) (by kernel_rfl) (by kernel_rfl) (by kernel_rfl) (by kernel_rfl) ⟨fun _ _ _=>rfl,fun _ _ _=>rfl,fun _ _ _=>rfl,fun _ _ _=>rfl,trivial⟩ (by kernel_rfl) (fun w_ h=>⟨fun _=>g3 0 none 0 none w_,h.drew⟩) ⟨?_,?_,?_,?_,trivial⟩ ?_
 ·intro Lx g4 s K hl hh k
  show At 10 ((1,_)::(2,_)::(3,_)::Lx) _ _
  refine fa 1 underlying36 rfl sizeOf34 ?_
  exact at_nil k
 ·intro Lx g4 s K hl hh k
  show At 10 ((5,_)::(1,_)::(2,_)::(3,_)::Lx) _ _
  obtain rfl:s=0:=by omega
  refine aw (r_view_all (c:=(cInt .u8)) (({ zv1 with f_V:=4 }).f_B) (by decide) underlying34 sizeOf5 rfl) ?_
  exact at_nil k
 ·intro Lx g4 s K hl hh k
  show At 10 ((1,_)::(2,_)::(3,_)::Lx) _ _
  obtain rfl:s=0:=by omega
  refine aw (r_slice_vec x0 underlying117 sizeOf5 rfl) ?_
  exact at_nil k
 ·intro Lx g4 K k
  show At 10 ((6,_)::(7,_)::(1,_)::(2,_)::(3,_)::Lx) _ _
  refine at_copy (lo:=0) (hi:=16) (xs:=Vector.toList x0) .z (Lens.comp lw (fun z=>{ { zv1 with f_V:=4 } with f_B:=z }) (c_api_Addr_f_B ({ zv1 with f_V:=4 }))) rfl (by decide) underlying74 (by kernel_rfl) rfl (rsp_zero (by decide)) (by simp) rfl ⟨_,rfl⟩ (fun w1 hw=>(vec_row (hw.ok (Upd.mem (.s (.s .z)))))) rfl ?_
  exact at_nil k
 intro g4
 show At 10 [(5,_),(6,_),(7,_),(8,_),(1,_),(2,_),(3,_)] _ _
 refine at_drop (H:=_) (.s (.s .z)) ?_
 refine tn (sr ?_)
 refine aw (r_load_aggc (c:=c_api_Addr) (z:={ { zv1 with f_V:=4 } with f_B:=vcopy (({ zv1 with f_V:=4 }).f_B) (Int.toNat 0) (List.take (Int.toNat (16-0)) (Vector.toList x0)) }) isAgg36 sizeOf36 rfl (lens_cell .z lw)) ?_
 refine at_store (c:=c_api_Addr) (z:={ { zv1 with f_V:=4 } with f_B:=vcopy (({ zv1 with f_V:=4 }).f_B) (Int.toNat 0) (List.take (Int.toNat (16-0)) (Vector.toList x0)) }) (.s .z) lw sizeOf36 rfl rfl rfl ?_
 refine qn (dz (wq [2] ?_))
 refine tn (qt ?_)
 have K:=os hF
 subst K
 exact at_res1 rfl (res_cell (c:=c_api_Addr) (y:={ { zv1 with f_V:=4 } with f_B:=vcopy (({ zv1 with f_V:=4 }).f_B) (Int.toNat 0) (List.take (Int.toNat (16-0)) (Vector.toList x0)) }) rfl .z lw isAgg36 sizeOf36 (.inl rfl)) wb
def addr_Right(x0:S_api_Addr):Option (Bool) :=
 if (x0.f_V==6)=true then (some true) else (if (x0.f_V==4)=true then (if 4≤(lsub (Vector.toList x0.f_B) 0 4).length then addr_Four (lvec 4 (lsub (Vector.toList x0.f_B) 0 4))>>=fun t8=>some (decide (x0=t8)) else none) else (some false))
theorem addr_Right_ok(x0:S_api_Addr)(r:Bool)(hF:addr_Right x0=some r)(w:World) :
    Calls Tryz.prog 71 #[.agg (Cd.cs c_api_Addr x0).toArray] w (fun e w'=>e=.returned (.bool r)∧Below w.heap.size w w'):=by
 unfold addr_Right at hF
 refine ce (l:=[.agg (Cd.cs c_api_Addr x0).toArray]) func71 rfl rfl ?_
 refine at_start ?_
 refine sr ?_
 refine at_box (cs:=Cd.cs c_api_Addr x0) rfl rfl rfl ?_
 intro b1
 refine aa (nwq [1] ?_)
 refine qs ?_
 refine at_draw (by kernel_rfl) (by kernel_rfl) (fun _ h=>h.drew) ?_
 refine atq_val rfl rfl rfl (r_fieldAddr (fo:=0) underlying36 rfl rfl (fun w=>⟨_,sizeOf3 w⟩) rfl) ?_
 refine atq_val rfl rfl rfl (r_load_cell isAgg3 rfl (lens_cell0 (c:=(cInt .i64)) (y:=x0.f_V) .z (Lens.comp lw (fun z=>{ x0 with f_V:=z }) (c_api_Addr_f_V x0)) rfl)) ?_
 refine atq_val rfl rfl rfl (r_ieql rfl rfl) ?_
 refine atq_val rfl rfl rfl (r_move rfl) ?_
 obtain ⟨h2,hF⟩|⟨h2,hF⟩:=oi hF
 ·refine atq_fix (g:=6) rfl h2 ?_
  refine atq_guard_no rfl rfl rfl rfl rfl ?_
  refine atq_guard_no rfl rfl rfl rfl rfl ?_
  refine atq_guard_no rfl rfl rfl rfl rfl ?_
  refine atq_guard_no rfl rfl rfl rfl rfl ?_
  refine atq_guard_undef rfl rfl rfl rfl ?_
  refine atq_guard_undef rfl rfl rfl rfl ?_
  refine atq_guard_undef rfl rfl rfl rfl ?_
  refine atq_guard_undef rfl rfl rfl rfl ?_
  refine atq_guard_undef rfl rfl rfl rfl ?_
  refine atq_guard_undef rfl rfl rfl rfl ?_
  refine atq_guard_undef rfl rfl rfl rfl ?_
  refine atq_guard_no rfl rfl rfl rfl rfl ?_
  refine atq_val rfl rfl rfl (r_pick rfl rfl rfl) ?_
  refine atq_val rfl rfl rfl (r_assign rfl) ?_
  refine atq_nil ?_
  refine dz (wq [2] ?_)
  refine tn (qt ?_)
  have K:=os hF
  subst K
  exact r1 wb
 refine atq_fix (g:=6) rfl h2 ?_
 refine atq_guard_yes rfl rfl rfl ?_
 refine atq_val rfl rfl rfl (r_fieldAddr (fo:=0) underlying36 rfl rfl (fun w=>⟨_,sizeOf3 w⟩) rfl) ?_
 refine atq_guard_yes rfl rfl rfl ?_
 refine atq_val rfl rfl rfl (r_load_cell isAgg3 rfl (lens_cell0 (c:=(cInt .i64)) (y:=x0.f_V) .z (Lens.comp lw (fun z=>{ x0 with f_V:=z }) (c_api_Addr_f_V x0)) rfl)) ?_
 refine atq_guard_yes rfl rfl rfl ?_
 refine atq_val rfl rfl rfl (r_ieql rfl rfl) ?_
 refine atq_guard_yes rfl rfl rfl ?_
 refine atq_val rfl rfl rfl (r_move rfl) ?_
 obtain ⟨h3,hF⟩|⟨h3,hF⟩:=oi hF
 ·refine atq_fix (g:=10) rfl h3 ?_
  refine atq_guard_yes rfl rfl rfl ?_
  refine atq_val rfl rfl rfl (r_load_aggc (c:=c_api_Addr) (z:=x0) isAgg36 sizeOf36 rfl (lens_cell .z lw)) ?_
  refine atq_guard_yes rfl rfl rfl ?_
  refine atq_val rfl rfl rfl (r_fieldAddr (fo:=1) underlying36 rfl rfl (fun w=>⟨_,sizeOf34 w⟩) rfl) ?_
  refine atq_guard_yes rfl rfl rfl ?_
  refine atq_val rfl rfl rfl (r_view (c:=(cInt .u8)) (v:=x0.f_B) (l:=0) (h:=4) underlying34 sizeOf5 rfl rfl ⟨_,rfl⟩ (by decide)) ?_
  refine atq_guard_yes rfl rfl rfl ?_
  obtain ⟨h4,hF⟩:=gd hF
  refine atq_val rfl rfl rfl (r_arrptr underlying117 rfl h4) ?_
  refine atq_guard_yes rfl rfl rfl ?_
  obtain ⟨b5,o6,hp7⟩:∃ b o,rsp (some ⟨b1,0+1,none⟩) 16 0 (Cd.sz (cInt .u8))=some ⟨b,o,none⟩:=rsp_plain
  refine atq_val rfl rfl rfl (r_load_aggc (c:=(cVec (cInt .u8) 4 (by decide))) (z:=lvec 4 (lsub (Vector.toList x0.f_B) 0 4)) isAgg117 sizeOf117 (by rw [←hp7];rfl) (fun w1 hw=>row_lvec (Row.sub (lens_row .z (Lens.comp lw (fun z=>{ x0 with f_B:=z }) (c_api_Addr_f_B x0)) hw) (vbnd (by decide))) h4 hp7)) ?_
  refine atq_guard_yes rfl rfl rfl ?_
  obtain ⟨t8,ht8,hF⟩:=bM hF
  refine atq_call func93 rfl (by kernel_rfl) rfl rfl (fun w hw=>(addr_Four_ok _ _ ht8 w).mono fun _ _ h=>⟨h.1,hw.call h.2⟩) ?_
  refine atq_guard_yes rfl rfl rfl ?_
  refine atq_val rfl rfl rfl (r_eqagg (c:=c_api_Addr) (a:=x0) (b:=t8) (eq_api_Addr_36) rfl Tryz.eqGuardType36 rfl rfl (.inl rfl) rfl) ?_
  refine atq_guard_yes rfl rfl rfl ?_
  refine atq_val rfl rfl rfl (r_pick rfl rfl rfl) ?_
  refine atq_val rfl rfl rfl (r_pick rfl rfl rfl) ?_
  refine atq_val rfl rfl rfl (r_assign rfl) ?_
  refine atq_nil ?_
  refine dz (wq [2] ?_)
  refine tn (qt ?_)
  have K:=os hF
  subst K
  exact r1 wb
 refine atq_fix (g:=10) rfl h3 ?_
 refine atq_guard_no rfl rfl rfl rfl rfl ?_
 refine atq_guard_no rfl rfl rfl rfl rfl ?_
 refine atq_guard_no rfl rfl rfl rfl rfl ?_
 refine atq_guard_no rfl rfl rfl rfl rfl ?_
 refine atq_guard_no rfl rfl rfl rfl rfl ?_
 refine atq_guard_no rfl rfl rfl rfl rfl ?_
 refine atq_guard_no rfl rfl rfl rfl rfl ?_
 refine atq_guard_yes rfl rfl rfl ?_
 refine atq_val rfl rfl rfl (r_pick rfl rfl rfl) ?_
 refine atq_val rfl rfl rfl (r_pick rfl rfl rfl) ?_
 refine atq_val rfl rfl rfl (r_assign rfl) ?_
 refine atq_nil ?_
 refine dz (wq [2] ?_)
 refine tn (qt ?_)
 have K:=os hF
 subst K
 exact r1 wb
def addr_Width(x0:S_api_Addr):Option (Int) :=
 addr_Right x0>>=fun t2=>if (!t2)=true then (some 0) else (if (x0.f_V==4)=true then (some 32) else (some 128))
theorem addr_Width_ok(x0:S_api_Addr)(r:Int)(hF:addr_Width x0=some r)(w:World) :
    Calls Tryz.prog 118 #[.agg (Cd.cs c_api_Addr x0).toArray] w (fun e w'=>e=.returned (.int .i64 r)∧Below w.heap.size w w'):=by
 unfold addr_Width at hF
 refine ce (l:=[.agg (Cd.cs c_api_Addr x0).toArray]) func118 rfl rfl ?_
 refine at_start ?_
 refine sr ?_
 refine at_box (cs:=Cd.cs c_api_Addr x0) rfl rfl rfl ?_
 intro b1
 refine aa (nwq [1] ?_)
 refine qs ?_
 refine qb ?_
 refine sr ?_
 refine aw (r_load_aggc (c:=c_api_Addr) (z:=x0) isAgg36 sizeOf36 rfl (lens_cell .z lw)) ?_
 obtain ⟨t2,ht2,hF⟩:=bM hF
 refine cB func71 rfl (fun w hw=>addr_Right_ok _ _ ht2 w) ?_
 refine aw (r_not rfl) ?_
 refine aa (nwq [3,1] ?_)
 obtain ⟨h3,hF⟩|⟨h3,hF⟩:=oi hF
 ·refine ct h3 ?_
  refine sr (aa (qn (dz (wq [2] ?_))))
  refine tn (qt ?_)
  refine br (tr ?_)
  have K:=os hF
  subst K
  exact r1 wb
 refine cf h3 ?_
 refine sr (fa 0 underlying36 rfl sizeOf3 ?_)
 refine aw (r_load_cell isAgg3 rfl (lens_cell0 (c:=(cInt .i64)) (y:=x0.f_V) .z (Lens.comp lw (fun z=>{ x0 with f_V:=z }) (c_api_Addr_f_V x0)) rfl)) ?_
 refine aw xq (aa (qn (dz (wq [7] ?_))))
 refine tn ?_
 obtain ⟨h4,hF⟩|⟨h4,hF⟩:=oi hF
 ·refine ct h4 ?_
  refine sr (aa (nwq [2] ?_))
  refine qt ?_
  refine br (tr ?_)
  have K:=os hF
  subst K
  exact r1 wb
 refine cf h4 ?_
 refine at_skip ?_
 refine bm ?_
 refine sr (aa (nwq [2] ?_))
 refine qt ?_
 have K:=os hF
 subst K
 exact r1 wb
def addr_Text(x0:S_api_Addr):Option (ByteArray) :=
 addr_Right x0>>=fun t2=>if (!t2)=true then (some (⟨#[]⟩)) else (if (x0.f_V==4)=true then (if 4≤(lsub (Vector.toList x0.f_B) 0 4).length then quad_Text (lvec 4 (lsub (Vector.toList x0.f_B) 0 4))>>=fun t9=>some t9 else none) else (colon_Text x0.f_B>>=fun t10=>some t10))
theorem addr_Text_ok(x0:S_api_Addr)(r:ByteArray)(hF:addr_Text x0=some r)(w:World)(hg_strconv_uint64pow10:GV_strconv_uint64pow10 w) :
    Calls Tryz.prog 62 #[.agg (Cd.cs c_api_Addr x0).toArray] w (fun e w'=>e=.returned (.string r)∧Below w.heap.size w w'):=by
 unfold addr_Text at hF
 refine ce (l:=[.agg (Cd.cs c_api_Addr x0).toArray]) func62 rfl rfl ?_
 refine at_start ?_
 refine sr ?_
 refine at_box (cs:=Cd.cs c_api_Addr x0) rfl rfl rfl ?_
 intro b1
 refine aa (nwq [1] ?_)
 refine qs ?_
 refine qb ?_
 refine sr ?_
 refine aw (r_load_aggc (c:=c_api_Addr) (z:=x0) isAgg36 sizeOf36 rfl (lens_cell .z lw)) ?_
 obtain ⟨t2,ht2,hF⟩:=bM hF
 refine cB func71 rfl (fun w hw=>addr_Right_ok _ _ ht2 w) ?_
 refine aw (r_not rfl) ?_
 refine aa (nwq [3,1] ?_)
 obtain ⟨h3,hF⟩|⟨h3,hF⟩:=oi hF
 ·refine ct h3 ?_
  refine sr (aa (qn (dz (wq [2] ?_))))
  refine tn (qt ?_)
  refine br (tr ?_)
  have K:=os hF
  subst K
  exact r1 wb
 refine cf h3 ?_
 refine sr (fa 0 underlying36 rfl sizeOf3 ?_)
 refine aw (r_load_cell isAgg3 rfl (lens_cell0 (c:=(cInt .i64)) (y:=x0.f_V) .z (Lens.comp lw (fun z=>{ x0 with f_V:=z }) (c_api_Addr_f_V x0)) rfl)) ?_
 refine aw xq (aa (nwq [7,1] ?_))
 obtain ⟨h4,hF⟩|⟨h4,hF⟩:=oi hF
 ·refine ct h4 ?_
  refine sr (fa 1 underlying36 rfl sizeOf34 ?_)
  refine aw (r_view (c:=(cInt .u8)) (v:=x0.f_B) (l:=0) (h:=4) underlying34 sizeOf5 rfl rfl ⟨_,rfl⟩ (by decide)) ?_
  obtain ⟨h5,hF⟩:=gd hF
  refine aw (r_arrptr underlying117 rfl h5) ?_
  obtain ⟨b6,o7,hp8⟩:∃ b o,rsp (some ⟨b1,0+1,none⟩) 16 0 (Cd.sz (cInt .u8))=some ⟨b,o,none⟩:=rsp_plain
  refine aw (r_load_aggc (c:=(cVec (cInt .u8) 4 (by decide))) (z:=lvec 4 (lsub (Vector.toList x0.f_B) 0 4)) isAgg117 sizeOf117 (by rw [←hp8];rfl) (fun w1 hw=>row_lvec (Row.sub (lens_row .z (Lens.comp lw (fun z=>{ x0 with f_B:=z }) (c_api_Addr_f_B x0)) hw) (vbnd (by decide))) h5 hp8)) ?_
  obtain ⟨t9,ht9,hF⟩:=bM hF
  refine cB func87 rfl (fun w hw=>quad_Text_ok _ _ ht9 w (hg_strconv_uint64pow10.on hw.below)) ?_
  refine aa (qn (dz (wq [2] ?_)))
  refine tn (qt ?_)
  refine br (tr ?_)
  have K:=os hF
  subst K
  exact r1 wb
 refine cf h4 ?_
 refine at_skip ?_
 refine bm ?_
 refine sr (fa 1 underlying36 rfl sizeOf34 ?_)
 refine aw (r_load_aggc (c:=(cVec (cInt .u8) 16 (by decide))) (z:=x0.f_B) isAgg34 sizeOf34 rfl (lens_cell .z (Lens.comp lw (fun z=>{ x0 with f_B:=z }) (c_api_Addr_f_B x0)))) ?_
 obtain ⟨t10,ht10,hF⟩:=bM hF
 refine cB func88 rfl (fun w hw=>colon_Text_ok _ _ ht10 w) ?_
 refine aa (qn (dz (wq [2] ?_)))
 refine tn (qt ?_)
 have K:=os hF
 subst K
 exact r1 wb
def crawlwayref10_Right.l0(x0:S_api_Addr)(i4:Int):Option (Ctl (Bool) (Unit)) :=
 if (decide (i4<16))=true then (if (0:Int)≤i4∧i4<16 then if (vget x0.f_B i4 != 0)=true then (some (.ret false)) else (crawlwayref10_Right.l0 x0 (wr .i64 (i4+1))) else none) else (some (.nx ()))
 partial_fixpoint
def crawlwayref10_Right(x0:S_api_Addr):Option (Bool) :=
 if (x0.f_V==6)=true then (some true) else (crawlwayref10_Right.l0 x0 4>>=fun q3=>match q3 with | .ret r'=>some r' | .nx sq3=>(some (x0.f_V==4)))
theorem crawlwayref10_Right_ok(x0:S_api_Addr)(r:Bool)(hF:crawlwayref10_Right x0=some r)(w:World) :
    Calls Tryz.prog 65 #[.agg (Cd.cs c_api_Addr x0).toArray] w (fun e w'=>e=.returned (.bool r)∧Below w.heap.size w w'):=by
 unfold crawlwayref10_Right at hF
 refine ce (l:=[.agg (Cd.cs c_api_Addr x0).toArray]) func65 rfl rfl ?_
 refine at_start ?_
 refine sr ?_
 refine at_box (cs:=Cd.cs c_api_Addr x0) rfl rfl rfl ?_
 intro b1
 refine aa (nt (qs (sr (fa 0 underlying36 rfl sizeOf3 ?_))))
 refine aw (r_load_cell isAgg3 rfl (lens_cell0 (c:=(cInt .i64)) (y:=x0.f_V) .z (Lens.comp lw (fun z=>{ x0 with f_V:=z }) (c_api_Addr_f_V x0)) rfl)) ?_
 refine aw xq (nwq [6,1] ?_)
 obtain ⟨h2,hF⟩|⟨h2,hF⟩:=oi hF
 ·refine ct h2 ?_
  refine sr (aa (qn (dz (wq [2] ?_))))
  refine tn (rt ?_)
  have K:=os hF
  subst K
  exact r1 wb
 refine cf h2 ?_
 refine sn (qs (sr (aa (nwq [3,1] ?_))))
 refine qb ?_
 obtain ⟨q3,hq3,hF⟩:=bM hF
 refine wq [3,1] ?_
 refine at_loop_r (B:=0) (r:=r) (q:=q3) (A:=fun (_:Unit) Y=>At 19 [(1,.pointer (some ⟨b1,0,none⟩))] (Wd w [cellsE b1 (Cd.cs c_api_Addr x0) 36]) Y) ?_ ?_
 ·intro K
  refine crawlwayref10_Right.l0.partial_correctness x0 (motive:=fun i4 x=>KR (fun (_:Unit) Y=>At 19 [(1,.pointer (some ⟨b1,0,none⟩))] (Wd w [cellsE b1 (Cd.cs c_api_Addr x0) 36]) Y) _ 0 r x→Round (fun Y=>At 19 [(1,.pointer (some ⟨b1,0,none⟩)),(3,.int .i64 i4)] (Wd w [cellsE b1 (Cd.cs c_api_Addr x0) 36]) Y) _ _ _) ?_ _ _ hq3 K
  ·clear K hF
   intro g ih i4 x hF K
   refine at_round ?_
   refine qs (sr (am (aw xl (nwq [8,3,1] ?_))))
   obtain ⟨h5,hF⟩|⟨h5,hF⟩:=oi hF
   ·refine ct h5 ?_
    refine sn (qs ?_)
    refine qb ?_
    refine sr (am (fa 1 underlying36 rfl sizeOf34 ?_))
    obtain ⟨h6,hF⟩:=gd hF
    refine aw (r_idxArr underlying34 sizeOf5 rfl rfl h6) ?_
    refine aw (r_load_cell isAgg5 rfl (lens_cell0 (c:=(cInt .u8)) (y:=vget x0.f_B i4) .z (Lens.comp (Lens.comp lw (fun z=>{ x0 with f_B:=z }) (c_api_Addr_f_B x0)) (fun z=>vset x0.f_B i4 z) (Lens.vec (cInt .u8) (by decide) x0.f_B i4 h6)) rfl)) ?_
    refine aw xn (nwq [15,3,1] ?_)
    obtain ⟨h7,hF⟩|⟨h7,hF⟩:=oi hF
    ·refine ct h7 ?_
     refine sr (aa (qn (dz (wq [2] ?_))))
     refine tn (qt ?_)
     refine br (tr (tr (br (tr ?_))))
     obtain rfl:=os hF
     subst K
     exact r1 wb
    refine cf h7 ?_
    refine at_skip ?_
    refine bm ?_
    refine qr (am (aw xa (aa (nwq [3,1] ?_))))
    exact at_weak_k (ih _ _ hF K) ⟨rfl,rfl,trivial⟩
   refine cf h5 ?_
   refine at_exit ?_
   refine te (te ?_)
   obtain rfl:=os hF
   exact at_weak_k K ⟨rfl,trivial⟩
 cases q3 with
 | ret r'=>exact os hF
 | nx sq3 =>
  skip
  refine at_blk_same ?_
  refine tn (sr (fa 0 underlying36 rfl sizeOf3 ?_))
  refine aw (r_load_cell isAgg3 rfl (lens_cell0 (c:=(cInt .i64)) (y:=x0.f_V) .z (Lens.comp lw (fun z=>{ x0 with f_V:=z }) (c_api_Addr_f_V x0)) rfl)) ?_
  refine aw xq (aa (qn (dz (wq [2] ?_))))
  refine tn (qt ?_)
  have K:=os hF
  subst K
  exact r1 wb
end Go.Proofs.YtahlbjmafceoeaaGreatDoor
namespace Go.Proofs.YtahlbjmafceoeaaGreatDoor
open E Go.RowKit _root_.Go.Proofs.Tryz
def addr_Mask.l0(x1:Int)(i6:Int)(i7:S_api_Addr):Option (S_api_Addr) :=
 if (decide (i6<16))=true then (if (decide (x1<0))=true then (if (0:Int)≤i6∧i6<16 then if (0:Int)≤wr .u64 (wr .i64 (8-0)) then if (0:Int)≤i6∧i6<16 then addr_Mask.l0 x1 (wr .i64 (i6+1)) ({ i7 with f_B:=vset i7.f_B i6 (iand .u8 (vget i7.f_B i6) (ishl .u8 255 (wr .u64 (wr .i64 (8-0))))) }) else none else none else none) else (if (0:Int)≤i6∧i6<16 then if (0:Int)≤wr .u64 (wr .i64 (8-(if 8<(if wr .i64 (x1-(wr .i64 (8*i6)))<0 then 0 else wr .i64 (x1-(wr .i64 (8*i6)))) then 8 else (if wr .i64 (x1-(wr .i64 (8*i6)))<0 then 0 else wr .i64 (x1-(wr .i64 (8*i6))))))) then if (0:Int)≤i6∧i6<16 then addr_Mask.l0 x1 (wr .i64 (i6+1)) ({ i7 with f_B:=vset i7.f_B i6 (iand .u8 (vget i7.f_B i6) (ishl .u8 255 (wr .u64 (wr .i64 (8-(if 8<(if wr .i64 (x1-(wr .i64 (8*i6)))<0 then 0 else wr .i64 (x1-(wr .i64 (8*i6)))) then 8 else (if wr .i64 (x1-(wr .i64 (8*i6)))<0 then 0 else wr .i64 (x1-(wr .i64 (8*i6)))))))))) }) else none else none else none)) else (some i7)
 partial_fixpoint
def addr_Mask(x0:S_api_Addr)(x1:Int):Option (S_api_Addr) :=
 addr_Right x0>>=fun t3=>if (!t3)=true then (some ({ f_V:=(0:Int),f_B:=(Vector.replicate 16 (0:Int):(Vector Int 16)) }:S_api_Addr)) else (addr_Mask.l0 x1 0 x0>>=fun q5=>some q5)
theorem addr_Mask_ok(x0:S_api_Addr)(x1:Int)(r:S_api_Addr)(hF:addr_Mask x0 x1=some r)(w:World) :
    Calls Tryz.prog 98 #[.agg (Cd.cs c_api_Addr x0).toArray,.int .i64 x1] w (fun e w'=>e=.returned (.agg (Cd.cs c_api_Addr r).toArray)∧Below w.heap.size w w'):=by
 unfold addr_Mask at hF
 refine ce (l:=[.agg (Cd.cs c_api_Addr x0).toArray,.int .i64 x1]) func98 rfl rfl ?_
 refine at_start ?_
 refine sr ?_
 refine at_box (cs:=Cd.cs c_api_Addr x0) rfl rfl rfl ?_
 intro b1
 refine al (cs:=Cd.cs c_api_Addr zv1) zeroValue36 ?_
 intro b2
 refine nt (qs (sr ?_))
 refine aw (r_load_aggc (c:=c_api_Addr) (z:=x0) isAgg36 sizeOf36 rfl (lens_cell (.s .z) lw)) ?_
 obtain ⟨t3,ht3,hF⟩:=bM hF
 refine cB func71 rfl (fun w hw=>addr_Right_ok _ _ ht3 w) ?_
 refine aw (r_not rfl) ?_
 refine nwq [9,4,2,1] ?_
 obtain ⟨h4,hF⟩|⟨h4,hF⟩:=oi hF
 ·refine ct h4 ?_
  refine sr ?_
  refine aw (r_build_struct (zs:=Cd.cs c_api_Addr zv1) (cs:=Cd.cs c_api_Addr zv1) underlying36 zeroValue36 rfl (places_api_Addr_36) rfl rfl) ?_
  refine at_store (c:=c_api_Addr) (z:=zv1) .z lw sizeOf36 rfl rfl rfl ?_
  refine qn ?_
  refine at_drop (H:=_) (.s .z) ?_
  refine wq [4] ?_
  refine tn (rt ?_)
  have K:=os hF
  subst K
  exact at_res1 rfl (res_cell (c:=c_api_Addr) (y:=zv1) rfl .z lw isAgg36 sizeOf36 (.inl rfl)) wb
 refine cf h4 ?_
 refine sn (qs (sr (am (nwq [11,4,2,1] ?_))))
 refine qb ?_
 obtain ⟨q5,hq5,hF⟩:=bM hF
 refine wq [11,4,2,1] ?_
 refine at_loop_n (B:=0) (A:=fun Y=>At 35 [(2,.pointer (some ⟨b1,0,none⟩)),(4,.pointer (some ⟨b2,0,none⟩))] (Wd w [cellsE b2 (Cd.cs c_api_Addr zv1) 36,cellsE b1 (Cd.cs c_api_Addr q5) 36]) Y) ?_ ?_
 ·intro K
  refine addr_Mask.l0.partial_correctness x1 (motive:=fun i6 i7 x=>KN (fun Y=>At 35 [(2,.pointer (some ⟨b1,0,none⟩)),(4,.pointer (some ⟨b2,0,none⟩))] (Wd w [cellsE b2 (Cd.cs c_api_Addr zv1) 36,cellsE b1 (Cd.cs c_api_Addr x) 36]) Y) _ 0→Round (fun Y=>At 35 [(1,.int .i64 x1),(2,.pointer (some ⟨b1,0,none⟩)),(4,.pointer (some ⟨b2,0,none⟩)),(11,.int .i64 i6)] (Wd w [cellsE b2 (Cd.cs c_api_Addr zv1) 36,cellsE b1 (Cd.cs c_api_Addr i7) 36]) Y) _ _ _) ?_ _ _ _ hq5 K
  ·clear K hF
   intro g ih i6 i7 x hF K
   refine at_round ?_
   refine sr (aw xl (nwq [12,11,4,2,1] ?_))
   refine qs ?_
   obtain ⟨h8,hF⟩|⟨h8,hF⟩:=oi hF
   ·refine ct h8 ?_
    refine sn (qs ?_)
    refine qb ?_
    refine sr (am (aa (ns (am (am ?_)))))
    refine aw (r_imul rfl rfl) ?_
    refine aw (r_isub rfl rfl) ?_
    refine aw (r_max rfl rfl) ?_
    refine aw (r_min rfl rfl) ?_
    refine aa (nt (qs (sr (am (aw xl (nwq [21,11,6,5,4,2,1] ?_))))))
    obtain ⟨h9,hF⟩|⟨h9,hF⟩:=oi hF
    ·refine ct h9 ?_
     refine qr (aa (nt (qr (am (fa 1 underlying36 rfl sizeOf34 ?_)))))
     obtain ⟨h10,hF⟩:=gd hF
     refine aw (r_idxArr underlying34 sizeOf5 rfl rfl h10) ?_
     refine aw (r_load_cell isAgg5 rfl (lens_cell0 (c:=(cInt .u8)) (y:=vget i7.f_B i6) (.s .z) (Lens.comp (Lens.comp lw (fun z=>{ i7 with f_B:=z }) (c_api_Addr_f_B i7)) (fun z=>vset i7.f_B i6 z) (Lens.vec (cInt .u8) (by decide) i7.f_B i6 h10)) rfl)) ?_
     refine am ?_
     refine aw (r_isub rfl rfl) ?_
     refine aw (r_conv underlying3 underlying119 rfl) ?_
     obtain ⟨h11,hF⟩:=gd hF
     refine aw (r_ishl rfl rfl h11) ?_
     refine aw (r_iand rfl rfl) ?_
     refine fa 1 underlying36 rfl sizeOf34 ?_
     obtain ⟨h12,hF⟩:=gd hF
     refine aw (r_idxArr underlying34 sizeOf5 rfl rfl h12) ?_
     refine at_store (c:=(cInt .u8)) (z:=iand .u8 (vget i7.f_B i6) (ishl .u8 255 (wr .u64 (wr .i64 (8-0))))) (.s .z) (Lens.comp (Lens.comp lw (fun z=>{ i7 with f_B:=z }) (c_api_Addr_f_B i7)) (fun z=>vset i7.f_B i6 z) (Lens.vec (cInt .u8) (by decide) i7.f_B i6 h12)) sizeOf5 rfl rfl rfl ?_
     refine qn (wq [11,4,2,1] ?_)
     refine bm ?_
     refine qr (aw xa (am (nwq [11,4,2,1] ?_)))
     exact at_weak_k (ih _ _ _ hF K) ⟨rfl,rfl,rfl,rfl,trivial⟩
    refine cf h9 ?_
    refine sn (qr (am (fa 1 underlying36 rfl sizeOf34 ?_)))
    obtain ⟨h13,hF⟩:=gd hF
    refine aw (r_idxArr underlying34 sizeOf5 rfl rfl h13) ?_
    refine aw (r_load_cell isAgg5 rfl (lens_cell0 (c:=(cInt .u8)) (y:=vget i7.f_B i6) (.s .z) (Lens.comp (Lens.comp lw (fun z=>{ i7 with f_B:=z }) (c_api_Addr_f_B i7)) (fun z=>vset i7.f_B i6 z) (Lens.vec (cInt .u8) (by decide) i7.f_B i6 h13)) rfl)) ?_
    refine am ?_
    refine aw (r_isub rfl rfl) ?_
    refine aw (r_conv underlying3 underlying119 rfl) ?_
    obtain ⟨h14,hF⟩:=gd hF
    refine aw (r_ishl rfl rfl h14) ?_
    refine aw (r_iand rfl rfl) ?_
    refine fa 1 underlying36 rfl sizeOf34 ?_
    obtain ⟨h15,hF⟩:=gd hF
    refine aw (r_idxArr underlying34 sizeOf5 rfl rfl h15) ?_
    refine at_store (c:=(cInt .u8)) (z:=iand .u8 (vget i7.f_B i6) (ishl .u8 255 (wr .u64 (wr .i64 (8-(if 8<(if wr .i64 (x1-(wr .i64 (8*i6)))<0 then 0 else wr .i64 (x1-(wr .i64 (8*i6)))) then 8 else (if wr .i64 (x1-(wr .i64 (8*i6)))<0 then 0 else wr .i64 (x1-(wr .i64 (8*i6)))))))))) (.s .z) (Lens.comp (Lens.comp lw (fun z=>{ i7 with f_B:=z }) (c_api_Addr_f_B i7)) (fun z=>vset i7.f_B i6 z) (Lens.vec (cInt .u8) (by decide) i7.f_B i6 h15)) sizeOf5 rfl rfl rfl ?_
    refine qn (wq [11,4,2,1] ?_)
    refine bm ?_
    refine qr (aw xa (am (nwq [11,4,2,1] ?_)))
    exact at_weak_k (ih _ _ _ hF K) ⟨rfl,rfl,rfl,rfl,trivial⟩
   refine cf h8 ?_
   refine at_exit ?_
   refine te (te ?_)
   obtain rfl:=os hF
   exact at_weak_k K ⟨rfl,rfl,trivial⟩
 skip
 skip
 refine at_blk_same ?_
 refine tn (sr ?_)
 refine aw (r_load_aggc (c:=c_api_Addr) (z:=q5) isAgg36 sizeOf36 rfl (lens_cell (.s .z) lw)) ?_
 refine at_store (c:=c_api_Addr) (z:=q5) .z lw sizeOf36 rfl rfl rfl ?_
 refine qn ?_
 refine at_drop (H:=_) (.s .z) ?_
 refine wq [4] ?_
 refine tn (qt ?_)
 have K:=os hF
 subst K
 exact at_res1 rfl (res_cell (c:=c_api_Addr) (y:=q5) rfl .z lw isAgg36 sizeOf36 (.inl rfl)) wb
def addr_Bit(x0:S_api_Addr)(x1:Int):Option (Int) :=
 if (decide (x1<0))=true then (some (-1)) else (addr_Width x0>>=fun t3=>if (decide (x1≥t3))=true then (some (-1)) else (if (0:Int)≤ishr .i64 x1 3∧ishr .i64 x1 3<16 then if (0:Int)≤wr .u64 (wr .i64 (7-(iand .i64 x1 7))) then some (iand .i64 (wr .i64 (ishr .u8 (vget x0.f_B (ishr .i64 x1 3)) (wr .u64 (wr .i64 (7-(iand .i64 x1 7)))))) 1) else none else none))
theorem addr_Bit_ok(x0:S_api_Addr)(x1:Int)(r:Int)(hF:addr_Bit x0 x1=some r)(w:World) :
    Calls Tryz.prog 164 #[.agg (Cd.cs c_api_Addr x0).toArray,.int .i64 x1] w (fun e w'=>e=.returned (.int .i64 r)∧Below w.heap.size w w'):=by
 unfold addr_Bit at hF
 refine ce (l:=[.agg (Cd.cs c_api_Addr x0).toArray,.int .i64 x1]) func164 rfl rfl ?_
 refine at_start ?_
 refine sr ?_
 refine at_box (cs:=Cd.cs c_api_Addr x0) rfl rfl rfl ?_
 intro b1
 refine aa (nwq [2,1] ?_)
 refine qs (sr (am (aw xl (am ?_))))
 obtain ⟨h2,hF⟩|⟨h2,hF⟩:=oi hF
 ·refine fx 7 h2 ?_
  refine gn ?_
  refine gn ?_
  refine gn ?_
  refine gn ?_
  refine aw xp (nwq [12,2,1] ?_)
  refine ct rfl ?_
  refine sr (aa (qn (dz (wq [4] ?_))))
  refine tn (rt ?_)
  have K:=os hF
  subst K
  exact r1 wb
 refine fx 7 h2 ?_
 refine gy ?_
 refine am ?_
 refine gy ?_
 refine aw (r_load_aggc (c:=c_api_Addr) (z:=x0) isAgg36 sizeOf36 rfl (lens_cell .z lw)) ?_
 refine gy ?_
 obtain ⟨t3,ht3,hF⟩:=bM hF
 refine cB func118 rfl (fun w hw=>addr_Width_ok _ _ ht3 w) ?_
 refine gy ?_
 refine aw (r_igeq rfl rfl) ?_
 refine aw xp (nwq [12,2,1] ?_)
 obtain ⟨h4,hF⟩|⟨h4,hF⟩:=oi hF
 ·refine ct h4 ?_
  refine sr (aa (qn (dz (wq [4] ?_))))
  refine tn (rt ?_)
  have K:=os hF
  subst K
  exact r1 wb
 refine cf h4 ?_
 refine sns (am ?_)
 refine aw (r_ishr rfl rfl (by decide)) ?_
 refine fa 1 underlying36 rfl sizeOf34 ?_
 obtain ⟨h5,hF⟩:=gd hF
 refine aw (r_idxArr underlying34 sizeOf5 rfl rfl h5) ?_
 refine aw (r_load_cell isAgg5 rfl (lens_cell0 (c:=(cInt .u8)) (y:=vget x0.f_B (ishr .i64 x1 3)) .z (Lens.comp (Lens.comp lw (fun z=>{ x0 with f_B:=z }) (c_api_Addr_f_B x0)) (fun z=>vset x0.f_B (ishr .i64 x1 3) z) (Lens.vec (cInt .u8) (by decide) x0.f_B (ishr .i64 x1 3) h5)) rfl)) ?_
 refine am ?_
 refine aw (r_iand rfl rfl) ?_
 refine aw (r_isub rfl rfl) ?_
 refine aw (r_conv underlying3 underlying119 rfl) ?_
 obtain ⟨h6,hF⟩:=gd hF
 refine aw (r_ishr rfl rfl h6) ?_
 refine aw (r_conv underlying5 underlying3 rfl) ?_
 refine aw (r_iand rfl rfl) ?_
 refine aa (qn (dz (wq [4] ?_)))
 refine tn (qt ?_)
 have K:=os hF
 subst K
 exact r1 wb
def bytes_Compare(x0:List Int)(x1:List Int):Option (Int) :=
 some (Lib.compareBytes (unb x0) (unb x1))
theorem bytes_Compare_ok(x0:List Int)(p0_:Option Addr)(c0_:Nat)(x1:List Int)(p1_:Option Addr)(c1_:Nat)(r:Int)(hF:bytes_Compare x0 x1=some r)(w:World)(hr0:Row (cInt .u8) w p0_ c0_ x0)(hr1:Row (cInt .u8) w p1_ c1_ x1) :
    Calls Tryz.prog 124 #[.slice p0_ x0.length c0_,.slice p1_ x1.length c1_] w (fun e w'=>e=.returned (.int .i64 r)∧w'=w):=by
 unfold bytes_Compare at hF
 refine ce (l:=[.slice p0_ x0.length c0_,.slice p1_ x1.length c1_]) func124 rfl rfl ?_
 refine sr (aa (ns (am (am ?_))))
 refine aw (r_cmp (xs:=x0) (ys:=x1) func145 rfl rfl (by kernel_rfl) (by kernel_rfl) rfl rfl (fun w1 hw=>(hr0.below (by subst hw;exact Below.refl _ _))) (fun w1 hw=>(hr1.below (by subst hw;exact Below.refl _ _)))) ?_
 refine aa (nwq [4] ?_)
 refine qt ?_
 have K:=os hF
 subst K
 exact r1 (fun w1 hw=>⟨rfl,hw⟩)
def addr_Less(x0:S_api_Addr)(x1:S_api_Addr):Option (Bool) :=
 if (x0.f_V != x1.f_V)=true then (some (decide (x0.f_V<x1.f_V))) else (bytes_Compare (Vector.toList x0.f_B) (Vector.toList x1.f_B)>>=fun t4=>some (decide (t4<0)))
theorem addr_Less_ok(x0:S_api_Addr)(x1:S_api_Addr)(r:Bool)(hF:addr_Less x0 x1=some r)(w:World) :
    Calls Tryz.prog 92 #[.agg (Cd.cs c_api_Addr x0).toArray,.agg (Cd.cs c_api_Addr x1).toArray] w (fun e w'=>e=.returned (.bool r)∧Below w.heap.size w w'):=by
 unfold addr_Less at hF
 refine ce (l:=[.agg (Cd.cs c_api_Addr x0).toArray,.agg (Cd.cs c_api_Addr x1).toArray]) func92 rfl rfl ?_
 refine at_start ?_
 refine sr ?_
 refine at_box (cs:=Cd.cs c_api_Addr x0) rfl rfl rfl ?_
 intro b1
 refine at_box (cs:=Cd.cs c_api_Addr x1) rfl rfl rfl ?_
 intro b2
 refine aa (nt (qs (sr (fa 0 underlying36 rfl sizeOf3 ?_))))
 refine aw (r_load_cell isAgg3 rfl (lens_cell0 (c:=(cInt .i64)) (y:=x0.f_V) (.s .z) (Lens.comp lw (fun z=>{ x0 with f_V:=z }) (c_api_Addr_f_V x0)) rfl)) ?_
 refine fa 0 underlying36 rfl sizeOf3 ?_
 refine aw (r_load_cell isAgg3 rfl (lens_cell0 (c:=(cInt .i64)) (y:=x1.f_V) .z (Lens.comp lw (fun z=>{ x1 with f_V:=z }) (c_api_Addr_f_V x1)) rfl)) ?_
 refine aw xn (nwq [9,3,2] ?_)
 obtain ⟨h3,hF⟩|⟨h3,hF⟩:=oi hF
 ·refine ct h3 ?_
  refine sr (fa 0 underlying36 rfl sizeOf3 ?_)
  refine aw (r_load_cell isAgg3 rfl (lens_cell0 (c:=(cInt .i64)) (y:=x0.f_V) (.s .z) (Lens.comp lw (fun z=>{ x0 with f_V:=z }) (c_api_Addr_f_V x0)) rfl)) ?_
  refine fa 0 underlying36 rfl sizeOf3 ?_
  refine aw (r_load_cell isAgg3 rfl (lens_cell0 (c:=(cInt .i64)) (y:=x1.f_V) .z (Lens.comp lw (fun z=>{ x1 with f_V:=z }) (c_api_Addr_f_V x1)) rfl)) ?_
  refine aw xl (aa (qn (dz (dz (wq [4] ?_)))))
  refine tn (rt ?_)
  have K:=os hF
  subst K
  exact r1 wb
 refine cf h3 ?_
 refine sn (qs ?_)
 refine at_draw (by kernel_rfl) (by kernel_rfl) (fun _ h=>h.drew) ?_
 refine atq_val rfl rfl rfl (r_fieldAddr (fo:=1) underlying36 rfl rfl (fun w=>⟨_,sizeOf34 w⟩) rfl) ?_
 refine atq_val rfl rfl rfl (r_view_all (c:=(cInt .u8)) x0.f_B (by decide) underlying34 sizeOf5 rfl) ?_
 refine atq_val rfl rfl rfl (r_fieldAddr (fo:=1) underlying36 rfl rfl (fun w=>⟨_,sizeOf34 w⟩) rfl) ?_
 refine atq_val rfl rfl rfl (r_view_all (c:=(cInt .u8)) x1.f_B (by decide) underlying34 sizeOf5 rfl) ?_
 obtain ⟨t4,ht4,hF⟩:=bM hF
 refine atq_call func124 rfl (by kernel_rfl) rfl rfl (fun w hw=>(bytes_Compare_ok _ _ _ _ _ _ _ ht4 w (lens_row (.s .z) (Lens.comp lw (fun z=>{ x0 with f_B:=z }) (c_api_Addr_f_B x0)) hw) (lens_row .z (Lens.comp lw (fun z=>{ x1 with f_B:=z }) (c_api_Addr_f_B x1)) hw)).mono fun _ _ h=>⟨h.1,h.2▸hw⟩) ?_
 refine atq_val rfl rfl rfl (r_ilss rfl rfl) ?_
 refine atq_val rfl rfl rfl (r_assign rfl) ?_
 refine atq_nil ?_
 refine dz (dz (wq [4] ?_))
 refine tn (qt ?_)
 have K:=os hF
 subst K
 exact r1 wb
def cidr_Of(x0:S_api_Addr)(x1:Int):Option (S_api_Prefix×Int) :=
 addr_Right x0>>=fun t3=>if (!t3)=true then (some (({ f_A:=({ f_V:=(0:Int),f_B:=(Vector.replicate 16 (0:Int):(Vector Int 16)) }:S_api_Addr),f_Bits:=(0:Int) }:S_api_Prefix),1)) else (if (decide (x1<0))=true then (some (({ f_A:=({ f_V:=(0:Int),f_B:=(Vector.replicate 16 (0:Int):(Vector Int 16)) }:S_api_Addr),f_Bits:=(0:Int) }:S_api_Prefix),6)) else (addr_Width x0>>=fun t6=>if (decide (x1>t6))=true then (some (({ f_A:=({ f_V:=(0:Int),f_B:=(Vector.replicate 16 (0:Int):(Vector Int 16)) }:S_api_Addr),f_Bits:=(0:Int) }:S_api_Prefix),6)) else (addr_Mask x0 x1>>=fun t8=>some ({ { ({ f_A:=({ f_V:=(0:Int),f_B:=(Vector.replicate 16 (0:Int):(Vector Int 16)) }:S_api_Addr),f_Bits:=(0:Int) }:S_api_Prefix) with f_A:=t8 } with f_Bits:=x1 },0))))
theorem cidr_Of_ok(x0:S_api_Addr)(x1:Int)(r:S_api_Prefix×Int)(hF:cidr_Of x0 x1=some r)(w:World) :
    Calls Tryz.prog 86 #[.agg (Cd.cs c_api_Addr x0).toArray,.int .i64 x1] w (fun e w'=>e=.returned (.tuple #[.agg (Cd.cs c_api_Prefix r.1).toArray,.int .i64 r.2])∧Below w.heap.size w w'):=by
 unfold cidr_Of at hF
 refine ce (l:=[.agg (Cd.cs c_api_Addr x0).toArray,.int .i64 x1]) func86 rfl rfl ?_
 refine at_start ?_
 refine sr ?_
 refine at_box (cs:=Cd.cs c_api_Addr x0) rfl rfl rfl ?_
 intro b1
 refine al (cs:=Cd.cs c_api_Prefix zv8) zeroValue38 ?_
 intro b2
 refine aa (nwq [4,2,1] ?_)
 refine qs ?_
 refine qb ?_
 refine sr ?_
 refine aw (r_load_aggc (c:=c_api_Addr) (z:=x0) isAgg36 sizeOf36 rfl (lens_cell (.s .z) lw)) ?_
 obtain ⟨t3,ht3,hF⟩:=bM hF
 refine cB func71 rfl (fun w hw=>addr_Right_ok _ _ ht3 w) ?_
 refine aw (r_not rfl) ?_
 refine aa (nwq [6,4,2,1] ?_)
 obtain ⟨h4,hF⟩|⟨h4,hF⟩:=oi hF
 ·refine ct h4 ?_
  refine sr ?_
  refine aw (r_build_struct (zs:=Cd.cs c_api_Prefix zv8) (cs:=Cd.cs c_api_Prefix zv8) underlying38 zeroValue38 rfl (places_api_Prefix_38) rfl rfl) ?_
  refine at_store (c:=c_api_Prefix) (z:=zv8) .z lw sizeOf38 rfl rfl rfl ?_
  refine aa (qn ?_)
  refine at_drop (H:=_) (.s .z) ?_
  refine wq [5,4] ?_
  refine tn (qt ?_)
  refine br (tr ?_)
  have K:=os hF
  subst K
  exact at_res2 rfl (res_cell (c:=c_api_Prefix) (y:=zv8) rfl .z lw isAgg38 sizeOf38 (.inl rfl)) (res_tmp rfl) wb
 refine cf h4 ?_
 refine sr (am (aw xl (am ?_)))
 obtain ⟨h5,hF⟩|⟨h5,hF⟩:=oi hF
 ·refine fx 14 h5 ?_
  refine gn ?_
  refine gn ?_
  refine gn ?_
  refine gn ?_
  refine aw xp (aa (nwq [11,4,2,1] ?_))
  refine ct rfl ?_
  refine sr ?_
  refine aw (r_build_struct (zs:=Cd.cs c_api_Prefix zv8) (cs:=Cd.cs c_api_Prefix zv8) underlying38 zeroValue38 rfl (places_api_Prefix_38) rfl rfl) ?_
  refine at_store (c:=c_api_Prefix) (z:=zv8) .z lw sizeOf38 rfl rfl rfl ?_
  refine aa (qn ?_)
  refine at_drop (H:=_) (.s .z) ?_
  refine wq [5,4] ?_
  refine tn (qt ?_)
  refine br (tr ?_)
  have K:=os hF
  subst K
  exact at_res2 rfl (res_cell (c:=c_api_Prefix) (y:=zv8) rfl .z lw isAgg38 sizeOf38 (.inl rfl)) (res_tmp rfl) wb
 refine fx 14 h5 ?_
 refine gy ?_
 refine am ?_
 refine gy ?_
 refine aw (r_load_aggc (c:=c_api_Addr) (z:=x0) isAgg36 sizeOf36 rfl (lens_cell (.s .z) lw)) ?_
 refine gy ?_
 obtain ⟨t6,ht6,hF⟩:=bM hF
 refine cB func118 rfl (fun w hw=>addr_Width_ok _ _ ht6 w) ?_
 refine gy ?_
 refine aw (r_igtr rfl rfl) ?_
 refine aw xp (aa (nwq [11,4,2,1] ?_))
 obtain ⟨h7,hF⟩|⟨h7,hF⟩:=oi hF
 ·refine ct h7 ?_
  refine sr ?_
  refine aw (r_build_struct (zs:=Cd.cs c_api_Prefix zv8) (cs:=Cd.cs c_api_Prefix zv8) underlying38 zeroValue38 rfl (places_api_Prefix_38) rfl rfl) ?_
  refine at_store (c:=c_api_Prefix) (z:=zv8) .z lw sizeOf38 rfl rfl rfl ?_
  refine aa (qn ?_)
  refine at_drop (H:=_) (.s .z) ?_
  refine wq [5,4] ?_
  refine tn (qt ?_)
  refine br (tr ?_)
  have K:=os hF
  subst K
  exact at_res2 rfl (res_cell (c:=c_api_Prefix) (y:=zv8) rfl .z lw isAgg38 sizeOf38 (.inl rfl)) (res_tmp rfl) wb
 refine cf h7 ?_
 refine at_skip ?_
 refine bm ?_
 refine sr ?_
 refine aw (r_load_aggc (c:=c_api_Addr) (z:=x0) isAgg36 sizeOf36 rfl (lens_cell (.s .z) lw)) ?_
 refine am ?_
 obtain ⟨t8,ht8,hF⟩:=bM hF
 refine cB func98 rfl (fun w hw=>addr_Mask_ok _ _ _ ht8 w) ?_
 refine am ?_
 refine aw (r_build_struct (zs:=Cd.cs c_api_Prefix zv8) (cs:=Cd.cs c_api_Prefix ({ { zv8 with f_A:=t8 } with f_Bits:=x1 })) underlying38 zeroValue38 rfl (places_api_Prefix_38) rfl (fill_step (c:=c_api_Addr) (z:=t8) rfl (c_api_Prefix_f_A zv8) rfl (fill_step (c:=(cInt .i64)) (z:=x1) rfl (c_api_Prefix_f_Bits ({ zv8 with f_A:=t8 })) rfl rfl))) ?_
 refine at_store (c:=c_api_Prefix) (z:={ { zv8 with f_A:=t8 } with f_Bits:=x1 }) .z lw sizeOf38 rfl rfl rfl ?_
 refine aa (qn ?_)
 refine at_drop (H:=_) (.s .z) ?_
 refine wq [5,4] ?_
 refine tn (qt ?_)
 have K:=os hF
 subst K
 exact at_res2 rfl (res_cell (c:=c_api_Prefix) (y:={ { zv8 with f_A:=t8 } with f_Bits:=x1 }) rfl .z lw isAgg38 sizeOf38 (.inl rfl)) (res_tmp rfl) wb
def cidr_Right(x0:S_api_Prefix):Option (Bool) :=
 cidr_Of x0.f_A x0.f_Bits>>=fun t2=>if (t2.2==0)=true then (some (decide (t2.1=x0))) else (some false)
theorem cidr_Right_ok(x0:S_api_Prefix)(r:Bool)(hF:cidr_Right x0=some r)(w:World) :
    Calls Tryz.prog 61 #[.agg (Cd.cs c_api_Prefix x0).toArray] w (fun e w'=>e=.returned (.bool r)∧Below w.heap.size w w'):=by
 unfold cidr_Right at hF
 refine ce (l:=[.agg (Cd.cs c_api_Prefix x0).toArray]) func61 rfl rfl ?_
 refine at_start ?_
 refine sr ?_
 refine at_box (cs:=Cd.cs c_api_Prefix x0) rfl rfl rfl ?_
 intro b1
 refine aa (ns (fa 0 underlying38 rfl sizeOf36 ?_))
 refine aw (r_load_aggc (c:=c_api_Addr) (z:=x0.f_A) isAgg36 sizeOf36 rfl (lens_cell .z (Lens.comp lw (fun z=>{ x0 with f_A:=z }) (c_api_Prefix_f_A x0)))) ?_
 refine fa 17 underlying38 rfl sizeOf3 ?_
 refine aw (r_load_cell isAgg3 rfl (lens_cell0 (c:=(cInt .i64)) (y:=x0.f_Bits) .z (Lens.comp lw (fun z=>{ x0 with f_Bits:=z }) (c_api_Prefix_f_Bits x0)) rfl)) ?_
 obtain ⟨t2,ht2,hF⟩:=bM hF
 refine cB func86 rfl (fun w hw=>cidr_Of_ok _ _ _ ht2 w) ?_
 refine am ?_
 refine aw xe (aw xe ?_)
 refine al (cs:=Cd.cs c_api_Prefix zv8) zeroValue38 ?_
 intro b3
 refine at_store (c:=c_api_Prefix) (z:=t2.1) .z lw sizeOf38 rfl rfl rfl ?_
 refine aa (nwx [4,3,1] ?_)
 refine am (aw xq (am ?_))
 obtain ⟨h4,hF⟩|⟨h4,hF⟩:=oi hF
 ·refine fx 15 h4 ?_
  refine gy ?_
  refine aw (r_load_aggc (c:=c_api_Prefix) (z:=t2.1) isAgg38 sizeOf38 rfl (lens_cell .z lw)) ?_
  refine gy ?_
  refine aw (r_load_aggc (c:=c_api_Prefix) (z:=x0) isAgg38 sizeOf38 rfl (lens_cell (.s .z) lw)) ?_
  refine gy ?_
  refine aw (r_eqagg (c:=c_api_Prefix) (a:=t2.1) (b:=x0) (eq_api_Prefix_38) rfl Tryz.eqGuardType38 rfl rfl (.inl rfl) rfl) ?_
  refine aw xp (aa (qn (dz (dz (wq [2] ?_)))))
  refine tn (qt ?_)
  have K:=os hF
  subst K
  exact r1 wb
 refine fx 15 h4 ?_
 refine gn ?_
 refine gn ?_
 refine gn ?_
 refine aw xp (aa (qn (dz (dz (wq [2] ?_)))))
 refine tn (qt ?_)
 have K:=os hF
 subst K
 exact r1 wb
def cidr_Less(x0:S_api_Prefix)(x1:S_api_Prefix):Option (Bool) :=
 if (decide (x0.f_A=x1.f_A))=true then (some (decide (x0.f_Bits<x1.f_Bits))) else (addr_Less x0.f_A x1.f_A>>=fun t4=>some t4)
theorem cidr_Less_ok(x0:S_api_Prefix)(x1:S_api_Prefix)(r:Bool)(hF:cidr_Less x0 x1=some r)(w:World) :
    Calls Tryz.prog 70 #[.agg (Cd.cs c_api_Prefix x0).toArray,.agg (Cd.cs c_api_Prefix x1).toArray] w (fun e w'=>e=.returned (.bool r)∧Below w.heap.size w w'):=by
 unfold cidr_Less at hF
 refine ce (l:=[.agg (Cd.cs c_api_Prefix x0).toArray,.agg (Cd.cs c_api_Prefix x1).toArray]) func70 rfl rfl ?_
 refine at_start ?_
 refine sr ?_
 refine at_box (cs:=Cd.cs c_api_Prefix x0) rfl rfl rfl ?_
 intro b1
 refine at_box (cs:=Cd.cs c_api_Prefix x1) rfl rfl rfl ?_
 intro b2
 refine aa (nt (qs (sr (fa 0 underlying38 rfl sizeOf36 ?_))))
 refine aw (r_load_aggc (c:=c_api_Addr) (z:=x0.f_A) isAgg36 sizeOf36 rfl (lens_cell (.s .z) (Lens.comp lw (fun z=>{ x0 with f_A:=z }) (c_api_Prefix_f_A x0)))) ?_
 refine fa 0 underlying38 rfl sizeOf36 ?_
 refine aw (r_load_aggc (c:=c_api_Addr) (z:=x1.f_A) isAgg36 sizeOf36 rfl (lens_cell .z (Lens.comp lw (fun z=>{ x1 with f_A:=z }) (c_api_Prefix_f_A x1)))) ?_
 refine aw (r_eqagg (c:=c_api_Addr) (a:=x0.f_A) (b:=x1.f_A) (eq_api_Addr_36) rfl Tryz.eqGuardType36 rfl rfl (.inl rfl) rfl) ?_
 refine nwq [9,3,2] ?_
 obtain ⟨h3,hF⟩|⟨h3,hF⟩:=oi hF
 ·refine ct h3 ?_
  refine sr (fa 17 underlying38 rfl sizeOf3 ?_)
  refine aw (r_load_cell isAgg3 rfl (lens_cell0 (c:=(cInt .i64)) (y:=x0.f_Bits) (.s .z) (Lens.comp lw (fun z=>{ x0 with f_Bits:=z }) (c_api_Prefix_f_Bits x0)) rfl)) ?_
  refine fa 17 underlying38 rfl sizeOf3 ?_
  refine aw (r_load_cell isAgg3 rfl (lens_cell0 (c:=(cInt .i64)) (y:=x1.f_Bits) .z (Lens.comp lw (fun z=>{ x1 with f_Bits:=z }) (c_api_Prefix_f_Bits x1)) rfl)) ?_
  refine aw xl (aa (qn (dz (dz (wq [4] ?_)))))
  refine tn (rt ?_)
  have K:=os hF
  subst K
  exact r1 wb
 refine cf h3 ?_
 refine sns (fa 0 underlying38 rfl sizeOf36 ?_)
 refine aw (r_load_aggc (c:=c_api_Addr) (z:=x0.f_A) isAgg36 sizeOf36 rfl (lens_cell (.s .z) (Lens.comp lw (fun z=>{ x0 with f_A:=z }) (c_api_Prefix_f_A x0)))) ?_
 refine fa 0 underlying38 rfl sizeOf36 ?_
 refine aw (r_load_aggc (c:=c_api_Addr) (z:=x1.f_A) isAgg36 sizeOf36 rfl (lens_cell .z (Lens.comp lw (fun z=>{ x1 with f_A:=z }) (c_api_Prefix_f_A x1)))) ?_
 obtain ⟨t4,ht4,hF⟩:=bM hF
 refine cB func92 rfl (fun w hw=>addr_Less_ok _ _ _ ht4 w) ?_
 refine aa (qn (dz (dz (wq [4] ?_))))
 refine tn (qt ?_)
 have K:=os hF
 subst K
 exact r1 wb
def cidr_Has(x0:S_api_Prefix)(x1:S_api_Addr):Option (Bool) :=
 cidr_Right x0>>=fun t3=>if t3=true then (addr_Right x1>>=fun t5=>if t5=true then (if (x1.f_V==x0.f_A.f_V)=true then (addr_Mask x1 x0.f_Bits>>=fun t8=>some (decide (t8=x0.f_A))) else (some false)) else (some false)) else (some false)
theorem cidr_Has_ok(x0:S_api_Prefix)(x1:S_api_Addr)(r:Bool)(hF:cidr_Has x0 x1=some r)(w:World) :
    Calls Tryz.prog 74 #[.agg (Cd.cs c_api_Prefix x0).toArray,.agg (Cd.cs c_api_Addr x1).toArray] w (fun e w'=>e=.returned (.bool r)∧Below w.heap.size w w'):=by
 unfold cidr_Has at hF
 refine ce (l:=[.agg (Cd.cs c_api_Prefix x0).toArray,.agg (Cd.cs c_api_Addr x1).toArray]) func74 rfl rfl ?_
 refine at_start ?_
 refine sr ?_
 refine at_box (cs:=Cd.cs c_api_Prefix x0) rfl rfl rfl ?_
 intro b1
 refine at_box (cs:=Cd.cs c_api_Addr x1) rfl rfl rfl ?_
 intro b2
 refine aa (nwq [3,2] ?_)
 refine qs ?_
 refine at_draw (by kernel_rfl) (by kernel_rfl) (fun _ h=>h.drew) ?_
 refine atq_val rfl rfl rfl (r_load_aggc (c:=c_api_Prefix) (z:=x0) isAgg38 sizeOf38 rfl (lens_cell (.s .z) lw)) ?_
 obtain ⟨t3,ht3,hF⟩:=bM hF
 refine atq_call func61 rfl (by kernel_rfl) rfl rfl (fun w hw=>(cidr_Right_ok _ _ ht3 w).mono fun _ _ h=>⟨h.1,hw.call h.2⟩) ?_
 refine atq_val rfl rfl rfl (r_move rfl) ?_
 obtain ⟨h4,hF⟩|⟨h4,hF⟩:=oi hF
 ·refine atq_fix (g:=7) rfl h4 ?_
  refine atq_guard_yes rfl rfl rfl ?_
  refine atq_val rfl rfl rfl (r_load_aggc (c:=c_api_Addr) (z:=x1) isAgg36 sizeOf36 rfl (lens_cell .z lw)) ?_
  refine atq_guard_yes rfl rfl rfl ?_
  obtain ⟨t5,ht5,hF⟩:=bM hF
  refine atq_call func71 rfl (by kernel_rfl) rfl rfl (fun w hw=>(addr_Right_ok _ _ ht5 w).mono fun _ _ h=>⟨h.1,hw.call h.2⟩) ?_
  refine atq_val rfl rfl rfl (r_pick rfl rfl rfl) ?_
  refine atq_val rfl rfl rfl (r_move rfl) ?_
  obtain ⟨h6,hF⟩|⟨h6,hF⟩:=oi hF
  ·refine atq_fix (g:=11) rfl h6 ?_
   refine atq_guard_yes rfl rfl rfl ?_
   refine atq_val rfl rfl rfl (r_fieldAddr (fo:=0) underlying36 rfl rfl (fun w=>⟨_,sizeOf3 w⟩) rfl) ?_
   refine atq_guard_yes rfl rfl rfl ?_
   refine atq_val rfl rfl rfl (r_load_cell isAgg3 rfl (lens_cell0 (c:=(cInt .i64)) (y:=x1.f_V) .z (Lens.comp lw (fun z=>{ x1 with f_V:=z }) (c_api_Addr_f_V x1)) rfl)) ?_
   refine atq_guard_yes rfl rfl rfl ?_
   refine atq_val rfl rfl rfl (r_fieldAddr (fo:=0) underlying38 rfl rfl (fun w=>⟨_,sizeOf36 w⟩) rfl) ?_
   refine atq_guard_yes rfl rfl rfl ?_
   refine atq_val rfl rfl rfl (r_fieldAddr (fo:=0) underlying36 rfl rfl (fun w=>⟨_,sizeOf3 w⟩) rfl) ?_
   refine atq_guard_yes rfl rfl rfl ?_
   refine atq_val rfl rfl rfl (r_load_cell isAgg3 rfl (lens_cell0 (c:=(cInt .i64)) (y:=x0.f_A.f_V) (.s .z) (Lens.comp (Lens.comp lw (fun z=>{ x0 with f_A:=z }) (c_api_Prefix_f_A x0)) (fun z=>{ x0.f_A with f_V:=z }) (c_api_Addr_f_V x0.f_A)) rfl)) ?_
   refine atq_guard_yes rfl rfl rfl ?_
   refine atq_val rfl rfl rfl (r_ieql rfl rfl) ?_
   refine atq_val rfl rfl rfl (r_pick rfl rfl rfl) ?_
   refine atq_val rfl rfl rfl (r_move rfl) ?_
   obtain ⟨h7,hF⟩|⟨h7,hF⟩:=oi hF
   ·refine atq_fix (g:=19) rfl h7 ?_
    refine atq_guard_yes rfl rfl rfl ?_
    refine atq_val rfl rfl rfl (r_load_aggc (c:=c_api_Addr) (z:=x1) isAgg36 sizeOf36 rfl (lens_cell .z lw)) ?_
    refine atq_guard_yes rfl rfl rfl ?_
    refine atq_val rfl rfl rfl (r_fieldAddr (fo:=17) underlying38 rfl rfl (fun w=>⟨_,sizeOf3 w⟩) rfl) ?_
    refine atq_guard_yes rfl rfl rfl ?_
    refine atq_val rfl rfl rfl (r_load_cell isAgg3 rfl (lens_cell0 (c:=(cInt .i64)) (y:=x0.f_Bits) (.s .z) (Lens.comp lw (fun z=>{ x0 with f_Bits:=z }) (c_api_Prefix_f_Bits x0)) rfl)) ?_
    refine atq_guard_yes rfl rfl rfl ?_
    obtain ⟨t8,ht8,hF⟩:=bM hF
    refine atq_call func98 rfl (by kernel_rfl) rfl rfl (fun w hw=>(addr_Mask_ok _ _ _ ht8 w).mono fun _ _ h=>⟨h.1,hw.call h.2⟩) ?_
    refine atq_guard_yes rfl rfl rfl ?_
    refine atq_val rfl rfl rfl (r_fieldAddr (fo:=0) underlying38 rfl rfl (fun w=>⟨_,sizeOf36 w⟩) rfl) ?_
    refine atq_guard_yes rfl rfl rfl ?_
    refine atq_val rfl rfl rfl (r_load_aggc (c:=c_api_Addr) (z:=x0.f_A) isAgg36 sizeOf36 rfl (lens_cell (.s .z) (Lens.comp lw (fun z=>{ x0 with f_A:=z }) (c_api_Prefix_f_A x0)))) ?_
    refine atq_guard_yes rfl rfl rfl ?_
    refine atq_val rfl rfl rfl (r_eqagg (c:=c_api_Addr) (a:=t8) (b:=x0.f_A) (eq_api_Addr_36) rfl Tryz.eqGuardType36 rfl rfl (.inl rfl) rfl) ?_
    refine atq_val rfl rfl rfl (r_pick rfl rfl rfl) ?_
    refine atq_val rfl rfl rfl (r_assign rfl) ?_
    refine atq_nil ?_
    refine dz (dz (wq [4] ?_))
    refine tn (qt ?_)
    have K:=os hF
    subst K
    exact r1 wb
   refine atq_fix (g:=19) rfl h7 ?_
   refine atq_guard_no rfl rfl rfl rfl rfl ?_
   refine atq_guard_no rfl rfl rfl rfl rfl ?_
   refine atq_guard_no rfl rfl rfl rfl rfl ?_
   refine atq_guard_no rfl rfl rfl rfl rfl ?_
   refine atq_guard_no rfl rfl rfl rfl rfl ?_
   refine atq_guard_no rfl rfl rfl rfl rfl ?_
   refine atq_guard_no rfl rfl rfl rfl rfl ?_
   refine atq_val rfl rfl rfl (r_pick rfl rfl rfl) ?_
   refine atq_val rfl rfl rfl (r_assign rfl) ?_
   refine atq_nil ?_
   refine dz (dz (wq [4] ?_))
   refine tn (qt ?_)
   have K:=os hF
   subst K
   exact r1 wb
  refine atq_fix (g:=11) rfl h6 ?_
  refine atq_guard_no rfl rfl rfl rfl rfl ?_
  refine atq_guard_no rfl rfl rfl rfl rfl ?_
  refine atq_guard_no rfl rfl rfl rfl rfl ?_
  refine atq_guard_no rfl rfl rfl rfl rfl ?_
  refine atq_guard_no rfl rfl rfl rfl rfl ?_
  refine atq_guard_no rfl rfl rfl rfl rfl ?_
  refine atq_val rfl rfl rfl (r_pick rfl rfl rfl) ?_
  refine atq_val rfl rfl rfl (r_move rfl) ?_
  refine atq_guard_no rfl rfl rfl rfl rfl ?_
  refine atq_guard_no rfl rfl rfl rfl rfl ?_
  refine atq_guard_no rfl rfl rfl rfl rfl ?_
  refine atq_guard_no rfl rfl rfl rfl rfl ?_
  refine atq_guard_no rfl rfl rfl rfl rfl ?_
  refine atq_guard_no rfl rfl rfl rfl rfl ?_
  refine atq_guard_no rfl rfl rfl rfl rfl ?_
  refine atq_val rfl rfl rfl (r_pick rfl rfl rfl) ?_
  refine atq_val rfl rfl rfl (r_assign rfl) ?_
  refine atq_nil ?_
  refine dz (dz (wq [4] ?_))
  refine tn (qt ?_)
  have K:=os hF
  subst K
  exact r1 wb
 refine atq_fix (g:=7) rfl h4 ?_
 refine atq_guard_no rfl rfl rfl rfl rfl ?_
 refine atq_guard_no rfl rfl rfl rfl rfl ?_
 refine atq_val rfl rfl rfl (r_pick rfl rfl rfl) ?_
 refine atq_val rfl rfl rfl (r_move rfl) ?_
 refine atq_guard_no rfl rfl rfl rfl rfl ?_
 refine atq_guard_no rfl rfl rfl rfl rfl ?_
 refine atq_guard_no rfl rfl rfl rfl rfl ?_
 refine atq_guard_no rfl rfl rfl rfl rfl ?_
 refine atq_guard_no rfl rfl rfl rfl rfl ?_
 refine atq_guard_no rfl rfl rfl rfl rfl ?_
 refine atq_val rfl rfl rfl (r_pick rfl rfl rfl) ?_
 refine atq_val rfl rfl rfl (r_move rfl) ?_
 refine atq_guard_no rfl rfl rfl rfl rfl ?_
 refine atq_guard_no rfl rfl rfl rfl rfl ?_
 refine atq_guard_no rfl rfl rfl rfl rfl ?_
 refine atq_guard_no rfl rfl rfl rfl rfl ?_
 refine atq_guard_no rfl rfl rfl rfl rfl ?_
 refine atq_guard_no rfl rfl rfl rfl rfl ?_
 refine atq_guard_no rfl rfl rfl rfl rfl ?_
 refine atq_val rfl rfl rfl (r_pick rfl rfl rfl) ?_
 refine atq_val rfl rfl rfl (r_assign rfl) ?_
 refine atq_nil ?_
 refine dz (dz (wq [4] ?_))
 refine tn (qt ?_)
 have K:=os hF
 subst K
 exact r1 wb
def cidr_Covers(x0:S_api_Prefix)(x1:S_api_Prefix):Option (Bool) :=
 cidr_Right x1>>=fun t3=>if t3=true then (if (decide (x0.f_Bits≤x1.f_Bits))=true then (cidr_Has x0 x1.f_A>>=fun t6=>some t6) else (some false)) else (some false)
theorem cidr_Covers_ok(x0:S_api_Prefix)(x1:S_api_Prefix)(r:Bool)(hF:cidr_Covers x0 x1=some r)(w:World) :
    Calls Tryz.prog 49 #[.agg (Cd.cs c_api_Prefix x0).toArray,.agg (Cd.cs c_api_Prefix x1).toArray] w (fun e w'=>e=.returned (.bool r)∧Below w.heap.size w w'):=by
 unfold cidr_Covers at hF
 refine ce (l:=[.agg (Cd.cs c_api_Prefix x0).toArray,.agg (Cd.cs c_api_Prefix x1).toArray]) func49 rfl rfl ?_
 refine at_start ?_
 refine sr ?_
 refine at_box (cs:=Cd.cs c_api_Prefix x0) rfl rfl rfl ?_
 intro b1
 refine at_box (cs:=Cd.cs c_api_Prefix x1) rfl rfl rfl ?_
 intro b2
 refine aa (nwx [3,2] ?_)
 refine aw (r_load_aggc (c:=c_api_Prefix) (z:=x1) isAgg38 sizeOf38 rfl (lens_cell .z lw)) ?_
 obtain ⟨t3,ht3,hF⟩:=bM hF
 refine cB func61 rfl (fun w hw=>cidr_Right_ok _ _ ht3 w) ?_
 refine am ?_
 obtain ⟨h4,hF⟩|⟨h4,hF⟩:=oi hF
 ·refine fx 7 h4 ?_
  refine gy ?_
  refine fa 17 underlying38 rfl sizeOf3 ?_
  refine gy ?_
  refine aw (r_load_cell isAgg3 rfl (lens_cell0 (c:=(cInt .i64)) (y:=x0.f_Bits) (.s .z) (Lens.comp lw (fun z=>{ x0 with f_Bits:=z }) (c_api_Prefix_f_Bits x0)) rfl)) ?_
  refine gy ?_
  refine fa 17 underlying38 rfl sizeOf3 ?_
  refine gy ?_
  refine aw (r_load_cell isAgg3 rfl (lens_cell0 (c:=(cInt .i64)) (y:=x1.f_Bits) .z (Lens.comp lw (fun z=>{ x1 with f_Bits:=z }) (c_api_Prefix_f_Bits x1)) rfl)) ?_
  refine gy ?_
  refine aw (r_ileq rfl rfl) ?_
  refine aw xp (am ?_)
  obtain ⟨h5,hF⟩|⟨h5,hF⟩:=oi hF
  ·refine fx 14 h5 ?_
   refine gy ?_
   refine aw (r_load_aggc (c:=c_api_Prefix) (z:=x0) isAgg38 sizeOf38 rfl (lens_cell (.s .z) lw)) ?_
   refine gy ?_
   refine fa 0 underlying38 rfl sizeOf36 ?_
   refine gy ?_
   refine aw (r_load_aggc (c:=c_api_Addr) (z:=x1.f_A) isAgg36 sizeOf36 rfl (lens_cell .z (Lens.comp lw (fun z=>{ x1 with f_A:=z }) (c_api_Prefix_f_A x1)))) ?_
   refine gy ?_
   obtain ⟨t6,ht6,hF⟩:=bM hF
   refine cB func74 rfl (fun w hw=>cidr_Has_ok _ _ _ ht6 w) ?_
   refine aw xp (aa (qn (dz (dz (wq [4] ?_)))))
   refine tn (qt ?_)
   have K:=os hF
   subst K
   exact r1 wb
  refine fx 14 h5 ?_
  refine gn ?_
  refine gn ?_
  refine gn ?_
  refine gn ?_
  refine aw xp (aa (qn (dz (dz (wq [4] ?_)))))
  refine tn (qt ?_)
  have K:=os hF
  subst K
  exact r1 wb
 refine fx 7 h4 ?_
 refine gn ?_
 refine gn ?_
 refine gn ?_
 refine gn ?_
 refine gn ?_
 refine aw xp (am ?_)
 refine gn ?_
 refine gn ?_
 refine gn ?_
 refine gn ?_
 refine aw xp (aa (qn (dz (dz (wq [4] ?_)))))
 refine tn (qt ?_)
 have K:=os hF
 subst K
 exact r1 wb
def crawlwayref10_Width(x0:S_api_Addr):Option (Int) :=
 crawlwayref10_Right x0>>=fun t2=>if (!t2)=true then (some 0) else (if (x0.f_V==4)=true then (some 32) else (some 128))
theorem crawlwayref10_Width_ok(x0:S_api_Addr)(r:Int)(hF:crawlwayref10_Width x0=some r)(w:World) :
    Calls Tryz.prog 66 #[.agg (Cd.cs c_api_Addr x0).toArray] w (fun e w'=>e=.returned (.int .i64 r)∧Below w.heap.size w w'):=by
 unfold crawlwayref10_Width at hF
 refine ce (l:=[.agg (Cd.cs c_api_Addr x0).toArray]) func66 rfl rfl ?_
 refine at_start ?_
 refine sr ?_
 refine at_box (cs:=Cd.cs c_api_Addr x0) rfl rfl rfl ?_
 intro b1
 refine aa (nt (qs (sr ?_)))
 refine aw (r_load_aggc (c:=c_api_Addr) (z:=x0) isAgg36 sizeOf36 rfl (lens_cell .z lw)) ?_
 obtain ⟨t2,ht2,hF⟩:=bM hF
 refine cB func65 rfl (fun w hw=>crawlwayref10_Right_ok _ _ ht2 w) ?_
 refine aw (r_not rfl) ?_
 refine nwq [5,1] ?_
 obtain ⟨h3,hF⟩|⟨h3,hF⟩:=oi hF
 ·refine ct h3 ?_
  refine sr (aa (qn (dz (wq [2] ?_))))
  refine tn (rt ?_)
  have K:=os hF
  subst K
  exact r1 wb
 refine cf h3 ?_
 refine sn (qs (sr (fa 0 underlying36 rfl sizeOf3 ?_)))
 refine aw (r_load_cell isAgg3 rfl (lens_cell0 (c:=(cInt .i64)) (y:=x0.f_V) .z (Lens.comp lw (fun z=>{ x0 with f_V:=z }) (c_api_Addr_f_V x0)) rfl)) ?_
 refine aw xq (qn (dz (wq [8] ?_)))
 refine tn ?_
 obtain ⟨h4,hF⟩|⟨h4,hF⟩:=oi hF
 ·refine ct h4 ?_
  refine sr (aa (nwq [2] ?_))
  refine rt ?_
  have K:=os hF
  subst K
  exact r1 wb
 refine cf h4 ?_
 refine sns (aa (nwq [2] ?_))
 refine qt ?_
 have K:=os hF
 subst K
 exact r1 wb
def crawlwayref10_digit.l0(x1:Int)(i4:Int)(i5:Int):Option (Int) :=
 if (decide (i5>Int.tmod x1 8))=true then (crawlwayref10_digit.l0 x1 (wr .i64 (Int.tdiv i4 2)) (wr .i64 (i5-1))) else (some i4)
 partial_fixpoint
def crawlwayref10_digit(x0:S_api_Addr)(x1:Int):Option (Int) :=
 if (0:Int)≤wr .i64 (Int.tdiv x1 8)∧wr .i64 (Int.tdiv x1 8)<16 then crawlwayref10_digit.l0 x1 (wr .i64 (vget x0.f_B (wr .i64 (Int.tdiv x1 8)))) 7>>=fun q3=>some (Int.tmod q3 2) else none
theorem crawlwayref10_digit_ok(x0:S_api_Addr)(x1:Int)(r:Int)(hF:crawlwayref10_digit x0 x1=some r)(w:World) :
    Calls Tryz.prog 91 #[.agg (Cd.cs c_api_Addr x0).toArray,.int .i64 x1] w (fun e w'=>e=.returned (.int .i64 r)∧Below w.heap.size w w'):=by
 unfold crawlwayref10_digit at hF
 refine ce (l:=[.agg (Cd.cs c_api_Addr x0).toArray,.int .i64 x1]) func91 rfl rfl ?_
 refine at_start ?_
 refine sr ?_
 refine at_box (cs:=Cd.cs c_api_Addr x0) rfl rfl rfl ?_
 intro b1
 refine aa (ns (am ?_))
 refine aw (r_iquo rfl rfl (by decide)) ?_
 refine fa 1 underlying36 rfl sizeOf34 ?_
 obtain ⟨h2,hF⟩:=gd hF
 refine aw (r_idxArr underlying34 sizeOf5 rfl rfl h2) ?_
 refine aw (r_load_cell isAgg5 rfl (lens_cell0 (c:=(cInt .u8)) (y:=vget x0.f_B (wr .i64 (Int.tdiv x1 8))) .z (Lens.comp (Lens.comp lw (fun z=>{ x0 with f_B:=z }) (c_api_Addr_f_B x0)) (fun z=>vset x0.f_B (wr .i64 (Int.tdiv x1 8)) z) (Lens.vec (cInt .u8) (by decide) x0.f_B (wr .i64 (Int.tdiv x1 8)) h2)) rfl)) ?_
 refine aw (r_conv underlying5 underlying3 rfl) ?_
 refine aa (qn (dz (tn (qs (sr (aa (nwq [6,5,1] ?_)))))))
 refine qb ?_
 obtain ⟨q3,hq3,hF⟩:=bM hF
 refine wq [6,5,1] ?_
 refine at_loop_n (B:=0) (A:=fun Y=>At 23 [(5,.int .i64 q3)] (Wd w []) Y) ?_ ?_
 ·intro K
  refine crawlwayref10_digit.l0.partial_correctness x1 (motive:=fun i4 i5 x=>KN (fun Y=>At 23 [(5,.int .i64 x)] (Wd w []) Y) _ 0→Round (fun Y=>At 23 [(1,.int .i64 x1),(5,.int .i64 i4),(6,.int .i64 i5)] (Wd w []) Y) _ _ _) ?_ _ _ _ hq3 K
  ·clear K hF
   intro g ih i4 i5 x hF K
   refine at_round ?_
   refine qs (sr (am (am ?_)))
   refine aw (r_irem rfl rfl (by decide)) ?_
   refine aw (r_igtr rfl rfl) ?_
   refine nwq [16,6,5,1] ?_
   obtain ⟨h6,hF⟩|⟨h6,hF⟩:=oi hF
   ·refine ct h6 ?_
    refine sn (qs ?_)
    refine qb ?_
    refine qr (am ?_)
    refine aw (r_iquo rfl rfl (by decide)) ?_
    refine aa (qn (wq [6,5,1] ?_))
    refine bm ?_
    refine qr (am ?_)
    refine aw (r_isub rfl rfl) ?_
    refine aa (nwq [6,5,1] ?_)
    exact at_weak_k (ih _ _ _ hF K) ⟨rfl,rfl,rfl,trivial⟩
   refine cf h6 ?_
   refine at_exit ?_
   refine te (te ?_)
   obtain rfl:=os hF
   exact at_weak_k K ⟨rfl,trivial⟩
 skip
 skip
 refine at_blk_same ?_
 refine tn (sr (am ?_))
 refine aw (r_irem rfl rfl (by decide)) ?_
 refine aa (nwq [4] ?_)
 refine qt ?_
 have K:=os hF
 subst K
 exact r1 wb
def crawlwayref10_Mask.l1(i9:Int)(i17:Int)(i18:Int):Option (Int) :=
 if (decide (i18<Int.tmod i9 8))=true then (crawlwayref10_Mask.l1 i9 (wr .i64 (Int.tdiv i17 2)) (wr .i64 (i18+1))) else (some i17)
 partial_fixpoint
def crawlwayref10_Mask.l0(x0:S_api_Addr)(x1:Int)(t6:Int)(i9:Int)(i10:S_api_Addr):Option (S_api_Addr) :=
 if (decide (i9<t6))=true then (if (decide (i9<x1))=true then (crawlwayref10_digit x0 i9>>=fun t13=>if (t13==1)=true then (crawlwayref10_Mask.l1 i9 128 0>>=fun q15=>if (0:Int)≤wr .i64 (Int.tdiv i9 8)∧wr .i64 (Int.tdiv i9 8)<16 then if (0:Int)≤wr .i64 (Int.tdiv i9 8)∧wr .i64 (Int.tdiv i9 8)<16 then crawlwayref10_Mask.l0 x0 x1 t6 (wr .i64 (i9+1)) ({ i10 with f_B:=vset i10.f_B (wr .i64 (Int.tdiv i9 8)) (wr .u8 ((vget i10.f_B (wr .i64 (Int.tdiv i9 8)))+(wr .u8 q15))) }) else none else none) else (crawlwayref10_Mask.l0 x0 x1 t6 (wr .i64 (i9+1)) i10)) else (some i10)) else (some i10)
 partial_fixpoint
def crawlwayref10_Mask(x0:S_api_Addr)(x1:Int):Option (S_api_Addr) :=
 crawlwayref10_Right x0>>=fun t3=>if (!t3)=true then (some ({ f_V:=(0:Int),f_B:=(Vector.replicate 16 (0:Int):(Vector Int 16)) }:S_api_Addr)) else (crawlwayref10_Width x0>>=fun t6=>crawlwayref10_Mask.l0 x0 x1 t6 0 ({ ({ f_V:=(0:Int),f_B:=(Vector.replicate 16 (0:Int):(Vector Int 16)) }:S_api_Addr) with f_V:=x0.f_V })>>=fun q7=>some q7)
theorem crawlwayref10_Mask_ok(x0:S_api_Addr)(x1:Int)(r:S_api_Addr)(hF:crawlwayref10_Mask x0 x1=some r)(w:World) :
    Calls Tryz.prog 67 #[.agg (Cd.cs c_api_Addr x0).toArray,.int .i64 x1] w (fun e w'=>e=.returned (.agg (Cd.cs c_api_Addr r).toArray)∧Below w.heap.size w w'):=by
 unfold crawlwayref10_Mask at hF
 refine ce (l:=[.agg (Cd.cs c_api_Addr x0).toArray,.int .i64 x1]) func67 rfl rfl ?_
 refine at_start ?_
 refine sr ?_
 refine at_box (cs:=Cd.cs c_api_Addr x0) rfl rfl rfl ?_
 intro b1
 refine al (cs:=Cd.cs c_api_Addr zv1) zeroValue36 ?_
 intro b2
 refine nt (qs (sr ?_))
 refine aw (r_load_aggc (c:=c_api_Addr) (z:=x0) isAgg36 sizeOf36 rfl (lens_cell (.s .z) lw)) ?_
 obtain ⟨t3,ht3,hF⟩:=bM hF
 refine cB func65 rfl (fun w hw=>crawlwayref10_Right_ok _ _ ht3 w) ?_
 refine aw (r_not rfl) ?_
 refine nwq [12,4,2,1] ?_
 obtain ⟨h4,hF⟩|⟨h4,hF⟩:=oi hF
 ·refine ct h4 ?_
  refine sr ?_
  refine aw (r_build_struct (zs:=Cd.cs c_api_Addr zv1) (cs:=Cd.cs c_api_Addr zv1) underlying36 zeroValue36 rfl (places_api_Addr_36) rfl rfl) ?_
  refine at_store (c:=c_api_Addr) (z:=zv1) .z lw sizeOf36 rfl rfl rfl ?_
  refine qn ?_
  refine at_drop (H:=_) (.s .z) ?_
  refine wq [4] ?_
  refine tn (rt ?_)
  have K:=os hF
  subst K
  exact at_res1 rfl (res_cell (c:=c_api_Addr) (y:=zv1) rfl .z lw isAgg36 sizeOf36 (.inl rfl)) wb
 refine cf h4 ?_
 refine sns (fa 0 underlying36 rfl sizeOf3 ?_)
 refine aw (r_load_cell isAgg3 rfl (lens_cell0 (c:=(cInt .i64)) (y:=x0.f_V) (.s .z) (Lens.comp lw (fun z=>{ x0 with f_V:=z }) (c_api_Addr_f_V x0)) rfl)) ?_
 refine aw (r_build_struct (zs:=Cd.cs c_api_Addr zv1) (cs:=Cd.cs c_api_Addr ({ zv1 with f_V:=x0.f_V })) underlying36 zeroValue36 rfl (places_api_Addr_36) rfl (fill_step (c:=(cInt .i64)) (z:=x0.f_V) rfl (c_api_Addr_f_V zv1) rfl rfl)) ?_
 refine al (cs:=Cd.cs c_api_Addr zv1) zeroValue36 ?_
 intro b5
 refine at_store (c:=c_api_Addr) (z:={ zv1 with f_V:=x0.f_V }) .z lw sizeOf36 rfl rfl rfl ?_
 refine ns ?_
 refine aw (r_load_aggc (c:=c_api_Addr) (z:=x0) isAgg36 sizeOf36 rfl (lens_cell (.s (.s .z)) lw)) ?_
 obtain ⟨t6,ht6,hF⟩:=bM hF
 refine cB func66 rfl (fun w hw=>crawlwayref10_Width_ok _ _ ht6 w) ?_
 refine aa (nt (qs (sr (aa (nwq [7,6,5,4,2,1] ?_)))))
 refine qb ?_
 obtain ⟨q7,hq7,hF⟩:=bM hF
 refine wq [7,6,5,4,2,1] ?_
 refine at_loop_n (B:=0) (A:=fun Y=>At 54 [(4,.pointer (some ⟨b2,0,none⟩)),(5,.pointer (some ⟨b5,0,none⟩))] (Wd w [cellsE b5 (Cd.cs c_api_Addr q7) 36,cellsE b2 (Cd.cs c_api_Addr zv1) 36]) Y) ?_ ?_
 ·intro K
  refine crawlwayref10_Mask.l0.partial_correctness x0 x1 t6 (motive:=fun i9 i10 x=>KN (fun Y=>At 54 [(4,.pointer (some ⟨b2,0,none⟩)),(5,.pointer (some ⟨b5,0,none⟩))] (Wd w [cellsE b5 (Cd.cs c_api_Addr x) 36,cellsE b2 (Cd.cs c_api_Addr zv1) 36]) Y) _ 0→Round (fun Y=>At 54 [(1,.int .i64 x1),(2,.pointer (some ⟨b1,0,none⟩)),(4,.pointer (some ⟨b2,0,none⟩)),(5,.pointer (some ⟨b5,0,none⟩)),(6,.int .i64 t6),(7,.int .i64 i9)] (Wd w [cellsE b5 (Cd.cs c_api_Addr i10) 36,cellsE b2 (Cd.cs c_api_Addr zv1) 36,cellsE b1 (Cd.cs c_api_Addr x0) 36]) Y) _ _ _) ?_ _ _ _ hq7 K
  ·clear K hF
   intro g ih i9 i10 x hF K
   refine at_round ?_
   refine qs (sr (am (am (aw xl (am ?_)))))
   obtain ⟨h11,hF⟩|⟨h11,hF⟩:=oi hF
   ·refine fx 22 h11 ?_
    refine gy ?_
    refine am ?_
    refine gy ?_
    refine am ?_
    refine gy ?_
    refine aw xl (aw xp (nwq [26,7,6,5,4,2,1] ?_))
    obtain ⟨h12,hF⟩|⟨h12,hF⟩:=oi hF
    ·refine ct h12 ?_
     refine sn (qs ?_)
     refine qb ?_
     refine sr ?_
     refine aw (r_load_aggc (c:=c_api_Addr) (z:=x0) isAgg36 sizeOf36 rfl (lens_cell (.s (.s .z)) lw)) ?_
     refine am ?_
     obtain ⟨t13,ht13,hF⟩:=bM hF
     refine cB func91 rfl (fun w hw=>crawlwayref10_digit_ok _ _ _ ht13 w) ?_
     refine aw xq (nwq [32,7,6,5,4,2,1] ?_)
     obtain ⟨h14,hF⟩|⟨h14,hF⟩:=oi hF
     ·refine ct h14 ?_
      refine sr (aa (nt (qs (sr (aa (nwq [9,8,7,6,5,4,2,1] ?_))))))
      refine qb ?_
      obtain ⟨q15,hq15,hF⟩:=bM hF
      refine wq [9,8,7,6,5,4,2,1] ?_
      refine at_loop_n (B:=2) (A:=fun Y=>At 54 [(1,.int .i64 x1),(2,.pointer (some ⟨b1,0,none⟩)),(4,.pointer (some ⟨b2,0,none⟩)),(5,.pointer (some ⟨b5,0,none⟩)),(6,.int .i64 t6),(7,.int .i64 i9),(8,.int .i64 q15)] (Wd w [cellsE b5 (Cd.cs c_api_Addr i10) 36,cellsE b2 (Cd.cs c_api_Addr zv1) 36,cellsE b1 (Cd.cs c_api_Addr x0) 36]) Y) ?_ ?_
      ·intro K
       refine crawlwayref10_Mask.l1.partial_correctness i9 (motive:=fun i17 i18 x=>KN (fun Y=>At 54 [(1,.int .i64 x1),(2,.pointer (some ⟨b1,0,none⟩)),(4,.pointer (some ⟨b2,0,none⟩)),(5,.pointer (some ⟨b5,0,none⟩)),(6,.int .i64 t6),(7,.int .i64 i9),(8,.int .i64 x)] (Wd w [cellsE b5 (Cd.cs c_api_Addr i10) 36,cellsE b2 (Cd.cs c_api_Addr zv1) 36,cellsE b1 (Cd.cs c_api_Addr x0) 36]) Y) _ 2→Round (fun Y=>At 54 [(1,.int .i64 x1),(2,.pointer (some ⟨b1,0,none⟩)),(4,.pointer (some ⟨b2,0,none⟩)),(5,.pointer (some ⟨b5,0,none⟩)),(6,.int .i64 t6),(7,.int .i64 i9),(8,.int .i64 i17),(9,.int .i64 i18)] (Wd w [cellsE b5 (Cd.cs c_api_Addr i10) 36,cellsE b2 (Cd.cs c_api_Addr zv1) 36,cellsE b1 (Cd.cs c_api_Addr x0) 36]) Y) _ _ _) ?_ _ _ _ hq15 K
       ·clear K hF
        intro g ih i17 i18 x hF K
        refine at_round ?_
        refine qs (sr (am (am ?_)))
        refine aw (r_irem rfl rfl (by decide)) ?_
        refine aw xl (nwq [36,9,8,7,6,5,4,2,1] ?_)
        obtain ⟨h19,hF⟩|⟨h19,hF⟩:=oi hF
        ·refine ct h19 ?_
         refine sn (qs ?_)
         refine qb ?_
         refine qr (am ?_)
         refine aw (r_iquo rfl rfl (by decide)) ?_
         refine aa (qn (wq [9,8,7,6,5,4,2,1] ?_))
         refine bm ?_
         refine qr (am (aw xa (aa (nwq [9,8,7,6,5,4,2,1] ?_))))
         exact at_weak_k (ih _ _ _ hF K) ⟨rfl,rfl,rfl,rfl,rfl,rfl,rfl,rfl,trivial⟩
        refine cf h19 ?_
        refine at_exit ?_
        refine te (te ?_)
        obtain rfl:=os hF
        exact at_weak_k K ⟨rfl,rfl,rfl,rfl,rfl,rfl,rfl,trivial⟩
      skip
      skip
      refine at_blk_same ?_
      refine tn (qr (am ?_))
      refine aw (r_iquo rfl rfl (by decide)) ?_
      refine am ?_
      refine aw (r_iquo rfl rfl (by decide)) ?_
      refine fa 1 underlying36 rfl sizeOf34 ?_
      obtain ⟨h20,hF⟩:=gd hF
      refine aw (r_idxArr underlying34 sizeOf5 rfl rfl h20) ?_
      refine aw (r_load_cell isAgg5 rfl (lens_cell0 (c:=(cInt .u8)) (y:=vget i10.f_B (wr .i64 (Int.tdiv i9 8))) .z (Lens.comp (Lens.comp lw (fun z=>{ i10 with f_B:=z }) (c_api_Addr_f_B i10)) (fun z=>vset i10.f_B (wr .i64 (Int.tdiv i9 8)) z) (Lens.vec (cInt .u8) (by decide) i10.f_B (wr .i64 (Int.tdiv i9 8)) h20)) rfl)) ?_
      refine am ?_
      refine aw (r_conv underlying3 underlying5 rfl) ?_
      refine aw xa (fa 1 underlying36 rfl sizeOf34 ?_)
      obtain ⟨h21,hF⟩:=gd hF
      refine aw (r_idxArr underlying34 sizeOf5 rfl rfl h21) ?_
      refine at_store (c:=(cInt .u8)) (z:=wr .u8 ((vget i10.f_B (wr .i64 (Int.tdiv i9 8)))+(wr .u8 q15))) .z (Lens.comp (Lens.comp lw (fun z=>{ i10 with f_B:=z }) (c_api_Addr_f_B i10)) (fun z=>vset i10.f_B (wr .i64 (Int.tdiv i9 8)) z) (Lens.vec (cInt .u8) (by decide) i10.f_B (wr .i64 (Int.tdiv i9 8)) h21)) sizeOf5 rfl rfl rfl ?_
      refine qn (wq [7,6,5,4,2,1] ?_)
      refine bm ?_
      refine qr (am (aw xa (aa (nwq [7,6,5,4,2,1] ?_))))
      exact at_weak_k (ih _ _ _ hF K) ⟨rfl,rfl,rfl,rfl,rfl,rfl,trivial⟩
     refine cf h14 ?_
     refine at_skip ?_
     refine bm ?_
     refine qr (am (aw xa (aa (nwq [7,6,5,4,2,1] ?_))))
     exact at_weak_k (ih _ _ _ hF K) ⟨rfl,rfl,rfl,rfl,rfl,rfl,trivial⟩
    refine cf h12 ?_
    refine at_exit ?_
    refine te (te ?_)
    refine at_drop (H:=_) (.s (.s .z)) ?_
    obtain rfl:=os hF
    exact at_weak_k K ⟨rfl,rfl,trivial⟩
   refine fx 22 h11 ?_
   refine gn ?_
   refine gn ?_
   refine gn ?_
   refine aw xp (nwq [26,7,6,5,4,2,1] ?_)
   refine cf rfl ?_
   refine at_exit ?_
   refine te (te ?_)
   refine at_drop (H:=_) (.s (.s .z)) ?_
   obtain rfl:=os hF
   exact at_weak_k K ⟨rfl,rfl,trivial⟩
 skip
 skip
 refine at_blk_same ?_
 refine tn (sr ?_)
 refine aw (r_load_aggc (c:=c_api_Addr) (z:=q7) isAgg36 sizeOf36 rfl (lens_cell .z lw)) ?_
 refine at_store (c:=c_api_Addr) (z:=q7) (.s .z) lw sizeOf36 rfl rfl rfl ?_
 refine qn (dz (wq [4] ?_))
 refine tn (qt ?_)
 have K:=os hF
 subst K
 exact at_res1 rfl (res_cell (c:=c_api_Addr) (y:=q7) rfl .z lw isAgg36 sizeOf36 (.inl rfl)) wb
def crawlwayref10_Less.l0(x0:S_api_Addr)(x1:S_api_Addr)(i5:Int):Option (Ctl (Bool) (Unit)) :=
 if (decide (i5<16))=true then (if (0:Int)≤i5∧i5<16 then if (0:Int)≤i5∧i5<16 then if (vget x0.f_B i5 != vget x1.f_B i5)=true then (if (0:Int)≤i5∧i5<16 then if (0:Int)≤i5∧i5<16 then some (.ret (decide (vget x0.f_B i5<vget x1.f_B i5))) else none else none) else (crawlwayref10_Less.l0 x0 x1 (wr .i64 (i5+1))) else none else none) else (some (.nx ()))
 partial_fixpoint
def crawlwayref10_Less(x0:S_api_Addr)(x1:S_api_Addr):Option (Bool) :=
 if (x0.f_V != x1.f_V)=true then (some (decide (x0.f_V<x1.f_V))) else (crawlwayref10_Less.l0 x0 x1 0>>=fun q4=>match q4 with | .ret r'=>some r' | .nx sq4=>(some false))
theorem crawlwayref10_Less_ok(x0:S_api_Addr)(x1:S_api_Addr)(r:Bool)(hF:crawlwayref10_Less x0 x1=some r)(w:World) :
    Calls Tryz.prog 68 #[.agg (Cd.cs c_api_Addr x0).toArray,.agg (Cd.cs c_api_Addr x1).toArray] w (fun e w'=>e=.returned (.bool r)∧Below w.heap.size w w'):=by
 unfold crawlwayref10_Less at hF
 refine ce (l:=[.agg (Cd.cs c_api_Addr x0).toArray,.agg (Cd.cs c_api_Addr x1).toArray]) func68 rfl rfl ?_
 refine at_start ?_
 refine sr ?_
 refine at_box (cs:=Cd.cs c_api_Addr x0) rfl rfl rfl ?_
 intro b1
 refine at_box (cs:=Cd.cs c_api_Addr x1) rfl rfl rfl ?_
 intro b2
 refine aa (nt (qs (sr (fa 0 underlying36 rfl sizeOf3 ?_))))
 refine aw (r_load_cell isAgg3 rfl (lens_cell0 (c:=(cInt .i64)) (y:=x0.f_V) (.s .z) (Lens.comp lw (fun z=>{ x0 with f_V:=z }) (c_api_Addr_f_V x0)) rfl)) ?_
 refine fa 0 underlying36 rfl sizeOf3 ?_
 refine aw (r_load_cell isAgg3 rfl (lens_cell0 (c:=(cInt .i64)) (y:=x1.f_V) .z (Lens.comp lw (fun z=>{ x1 with f_V:=z }) (c_api_Addr_f_V x1)) rfl)) ?_
 refine aw xn (nwq [10,3,2] ?_)
 obtain ⟨h3,hF⟩|⟨h3,hF⟩:=oi hF
 ·refine ct h3 ?_
  refine sr (fa 0 underlying36 rfl sizeOf3 ?_)
  refine aw (r_load_cell isAgg3 rfl (lens_cell0 (c:=(cInt .i64)) (y:=x0.f_V) (.s .z) (Lens.comp lw (fun z=>{ x0 with f_V:=z }) (c_api_Addr_f_V x0)) rfl)) ?_
  refine fa 0 underlying36 rfl sizeOf3 ?_
  refine aw (r_load_cell isAgg3 rfl (lens_cell0 (c:=(cInt .i64)) (y:=x1.f_V) .z (Lens.comp lw (fun z=>{ x1 with f_V:=z }) (c_api_Addr_f_V x1)) rfl)) ?_
  refine aw xl (aa (qn (dz (dz (wq [4] ?_)))))
  refine tn (rt ?_)
  have K:=os hF
  subst K
  exact r1 wb
 refine cf h3 ?_
 refine sn (qs (sr (aa (nwq [5,3,2] ?_))))
 refine qb ?_
 obtain ⟨q4,hq4,hF⟩:=bM hF
 refine wq [5,3,2] ?_
 refine at_loop_r (B:=0) (r:=r) (q:=q4) (A:=fun (_:Unit) Y=>At 38 [] (Wd w []) Y) ?_ ?_
 ·intro K
  refine crawlwayref10_Less.l0.partial_correctness x0 x1 (motive:=fun i5 x=>KR (fun (_:Unit) Y=>At 38 [] (Wd w []) Y) _ 0 r x→Round (fun Y=>At 38 [(2,.pointer (some ⟨b1,0,none⟩)),(3,.pointer (some ⟨b2,0,none⟩)),(5,.int .i64 i5)] (Wd w [cellsE b2 (Cd.cs c_api_Addr x1) 36,cellsE b1 (Cd.cs c_api_Addr x0) 36]) Y) _ _ _) ?_ _ _ hq4 K
  ·clear K hF
   intro g ih i5 x hF K
   refine at_round ?_
   refine qs (sr (am (aw xl (nwq [17,5,3,2] ?_))))
   obtain ⟨h6,hF⟩|⟨h6,hF⟩:=oi hF
   ·refine ct h6 ?_
    refine sn (qs ?_)
    refine qb ?_
    refine qs ?_
    refine at_draw (by kernel_rfl) (by kernel_rfl) (fun _ h=>h.drew) ?_
    refine atq_val rfl rfl rfl (r_move rfl) ?_
    refine atq_val rfl rfl rfl (r_fieldAddr (fo:=1) underlying36 rfl rfl (fun w=>⟨_,sizeOf34 w⟩) rfl) ?_
    obtain ⟨h7,hF⟩:=gd hF
    refine atq_val rfl rfl rfl (r_idxArr underlying34 sizeOf5 rfl rfl h7) ?_
    refine atq_val rfl rfl rfl (r_load_cell isAgg5 rfl (lens_cell0 (c:=(cInt .u8)) (y:=vget x0.f_B i5) (.s .z) (Lens.comp (Lens.comp lw (fun z=>{ x0 with f_B:=z }) (c_api_Addr_f_B x0)) (fun z=>vset x0.f_B i5 z) (Lens.vec (cInt .u8) (by decide) x0.f_B i5 h7)) rfl)) ?_
    refine atq_val rfl rfl rfl (r_move rfl) ?_
    refine atq_val rfl rfl rfl (r_fieldAddr (fo:=1) underlying36 rfl rfl (fun w=>⟨_,sizeOf34 w⟩) rfl) ?_
    obtain ⟨h8,hF⟩:=gd hF
    refine atq_val rfl rfl rfl (r_idxArr underlying34 sizeOf5 rfl rfl h8) ?_
    refine atq_val rfl rfl rfl (r_load_cell isAgg5 rfl (lens_cell0 (c:=(cInt .u8)) (y:=vget x1.f_B i5) .z (Lens.comp (Lens.comp lw (fun z=>{ x1 with f_B:=z }) (c_api_Addr_f_B x1)) (fun z=>vset x1.f_B i5 z) (Lens.vec (cInt .u8) (by decide) x1.f_B i5 h8)) rfl)) ?_
    refine atq_val rfl rfl rfl (r_ineq rfl rfl) ?_
    refine atq_nil ?_
    refine wq [28,5,3,2] ?_
    refine tn ?_
    obtain ⟨h9,hF⟩|⟨h9,hF⟩:=oi hF
    ·refine ct h9 ?_
     refine qs ?_
     refine at_draw (by kernel_rfl) (by kernel_rfl) (fun _ h=>h.drew) ?_
     refine atq_val rfl rfl rfl (r_move rfl) ?_
     refine atq_val rfl rfl rfl (r_fieldAddr (fo:=1) underlying36 rfl rfl (fun w=>⟨_,sizeOf34 w⟩) rfl) ?_
     obtain ⟨h10,hF⟩:=gd hF
     refine atq_val rfl rfl rfl (r_idxArr underlying34 sizeOf5 rfl rfl h10) ?_
     refine atq_val rfl rfl rfl (r_load_cell isAgg5 rfl (lens_cell0 (c:=(cInt .u8)) (y:=vget x0.f_B i5) (.s .z) (Lens.comp (Lens.comp lw (fun z=>{ x0 with f_B:=z }) (c_api_Addr_f_B x0)) (fun z=>vset x0.f_B i5 z) (Lens.vec (cInt .u8) (by decide) x0.f_B i5 h10)) rfl)) ?_
     refine atq_val rfl rfl rfl (r_move rfl) ?_
     refine atq_val rfl rfl rfl (r_fieldAddr (fo:=1) underlying36 rfl rfl (fun w=>⟨_,sizeOf34 w⟩) rfl) ?_
     obtain ⟨h11,hF⟩:=gd hF
     refine atq_val rfl rfl rfl (r_idxArr underlying34 sizeOf5 rfl rfl h11) ?_
     refine atq_val rfl rfl rfl (r_load_cell isAgg5 rfl (lens_cell0 (c:=(cInt .u8)) (y:=vget x1.f_B i5) .z (Lens.comp (Lens.comp lw (fun z=>{ x1 with f_B:=z }) (c_api_Addr_f_B x1)) (fun z=>vset x1.f_B i5 z) (Lens.vec (cInt .u8) (by decide) x1.f_B i5 h11)) rfl)) ?_
     refine atq_val rfl rfl rfl (r_ilss rfl rfl) ?_
     refine atq_val rfl rfl rfl (r_assign rfl) ?_
     refine atq_nil ?_
     refine dz (dz (wq [4] ?_))
     refine tn (qt ?_)
     refine br (tr (tr (br (tr ?_))))
     obtain rfl:=os hF
     subst K
     exact r1 wb
    refine cf h9 ?_
    refine at_skip ?_
    refine bm ?_
    refine qr (am (aw xa (aa (nwq [5,3,2] ?_))))
    exact at_weak_k (ih _ _ hF K) ⟨rfl,rfl,rfl,trivial⟩
   refine cf h6 ?_
   refine at_exit ?_
   refine te (te ?_)
   refine dz (dz ?_)
   obtain rfl:=os hF
   exact at_weak_k K trivial
 cases q4 with
 | ret r'=>exact os hF
 | nx sq4 =>
  skip
  refine at_blk_same ?_
  refine tn (sr (aa (nwq [4] ?_)))
  refine qt ?_
  have K:=os hF
  subst K
  exact r1 wb
def crawlwayref10_Common.l0(x0:S_api_Addr)(x1:S_api_Addr)(t8:Int)(i10:Int):Option (Int) :=
 if (decide (i10<t8))=true then (crawlwayref10_digit x0 i10>>=fun t12=>crawlwayref10_digit x1 i10>>=fun t13=>if (t12==t13)=true then (crawlwayref10_Common.l0 x0 x1 t8 (wr .i64 (i10+1))) else (some i10)) else (some i10)
 partial_fixpoint
def crawlwayref10_Common(x0:S_api_Addr)(x1:S_api_Addr):Option (Int) :=
 crawlwayref10_Right x0>>=fun t3=>if (!t3)=true then (some (-1)) else (crawlwayref10_Right x1>>=fun t5=>if (!t5)=true then (some (-1)) else (if (x0.f_V != x1.f_V)=true then (some (-1)) else (crawlwayref10_Width x0>>=fun t8=>crawlwayref10_Common.l0 x0 x1 t8 0>>=fun q9=>some q9)))
theorem crawlwayref10_Common_ok(x0:S_api_Addr)(x1:S_api_Addr)(r:Int)(hF:crawlwayref10_Common x0 x1=some r)(w:World) :
    Calls Tryz.prog 69 #[.agg (Cd.cs c_api_Addr x0).toArray,.agg (Cd.cs c_api_Addr x1).toArray] w (fun e w'=>e=.returned (.int .i64 r)∧Below w.heap.size w w'):=by
 unfold crawlwayref10_Common at hF
 refine ce (l:=[.agg (Cd.cs c_api_Addr x0).toArray,.agg (Cd.cs c_api_Addr x1).toArray]) func69 rfl rfl ?_
 refine at_start ?_
 refine sr ?_
 refine at_box (cs:=Cd.cs c_api_Addr x0) rfl rfl rfl ?_
 intro b1
 refine at_box (cs:=Cd.cs c_api_Addr x1) rfl rfl rfl ?_
 intro b2
 refine aa (nwq [3,2] ?_)
 refine qs (sr ?_)
 refine aw (r_load_aggc (c:=c_api_Addr) (z:=x0) isAgg36 sizeOf36 rfl (lens_cell (.s .z) lw)) ?_
 obtain ⟨t3,ht3,hF⟩:=bM hF
 refine cB func65 rfl (fun w hw=>crawlwayref10_Right_ok _ _ ht3 w) ?_
 refine aw (r_not rfl) ?_
 refine am ?_
 obtain ⟨h4,hF⟩|⟨h4,hF⟩:=oi hF
 ·refine fx 10 h4 ?_
  refine gn ?_
  refine gn ?_
  refine gn ?_
  refine aw xp (am ?_)
  refine gn ?_
  refine gn ?_
  refine gn ?_
  refine gn ?_
  refine gn ?_
  refine aw xp (nwq [21,3,2] ?_)
  refine ct rfl ?_
  refine sr (aa (qn (dz (dz (wq [4] ?_)))))
  refine tn (rt ?_)
  have K:=os hF
  subst K
  exact r1 wb
 refine fx 10 h4 ?_
 refine gy ?_
 refine aw (r_load_aggc (c:=c_api_Addr) (z:=x1) isAgg36 sizeOf36 rfl (lens_cell .z lw)) ?_
 refine gy ?_
 obtain ⟨t5,ht5,hF⟩:=bM hF
 refine cB func65 rfl (fun w hw=>crawlwayref10_Right_ok _ _ ht5 w) ?_
 refine gy ?_
 refine aw (r_not rfl) ?_
 refine aw xp (am ?_)
 obtain ⟨h6,hF⟩|⟨h6,hF⟩:=oi hF
 ·refine fx 15 h6 ?_
  refine gn ?_
  refine gn ?_
  refine gn ?_
  refine gn ?_
  refine gn ?_
  refine aw xp (nwq [21,3,2] ?_)
  refine ct rfl ?_
  refine sr (aa (qn (dz (dz (wq [4] ?_)))))
  refine tn (rt ?_)
  have K:=os hF
  subst K
  exact r1 wb
 refine fx 15 h6 ?_
 refine gy ?_
 refine fa 0 underlying36 rfl sizeOf3 ?_
 refine gy ?_
 refine aw (r_load_cell isAgg3 rfl (lens_cell0 (c:=(cInt .i64)) (y:=x0.f_V) (.s .z) (Lens.comp lw (fun z=>{ x0 with f_V:=z }) (c_api_Addr_f_V x0)) rfl)) ?_
 refine gy ?_
 refine fa 0 underlying36 rfl sizeOf3 ?_
 refine gy ?_
 refine aw (r_load_cell isAgg3 rfl (lens_cell0 (c:=(cInt .i64)) (y:=x1.f_V) .z (Lens.comp lw (fun z=>{ x1 with f_V:=z }) (c_api_Addr_f_V x1)) rfl)) ?_
 refine gy ?_
 refine aw xn (aw xp (nwq [21,3,2] ?_))
 obtain ⟨h7,hF⟩|⟨h7,hF⟩:=oi hF
 ·refine ct h7 ?_
  refine sr (aa (qn (dz (dz (wq [4] ?_)))))
  refine tn (rt ?_)
  have K:=os hF
  subst K
  exact r1 wb
 refine cf h7 ?_
 refine sns (aa (ns ?_))
 refine aw (r_load_aggc (c:=c_api_Addr) (z:=x0) isAgg36 sizeOf36 rfl (lens_cell (.s .z) lw)) ?_
 obtain ⟨t8,ht8,hF⟩:=bM hF
 refine cB func66 rfl (fun w hw=>crawlwayref10_Width_ok _ _ ht8 w) ?_
 refine aa (nwq [6,5,3,2] ?_)
 refine qs ?_
 refine qb ?_
 obtain ⟨q9,hq9,hF⟩:=bM hF
 refine wq [6,5,3,2] ?_
 refine at_loop_n (B:=0) (A:=fun Y=>At 39 [(5,.int .i64 q9)] (Wd w []) Y) ?_ ?_
 ·intro K
  refine crawlwayref10_Common.l0.partial_correctness x0 x1 t8 (motive:=fun i10 x=>KN (fun Y=>At 39 [(5,.int .i64 x)] (Wd w []) Y) _ 0→Round (fun Y=>At 39 [(2,.pointer (some ⟨b1,0,none⟩)),(3,.pointer (some ⟨b2,0,none⟩)),(5,.int .i64 i10),(6,.int .i64 t8)] (Wd w [cellsE b2 (Cd.cs c_api_Addr x1) 36,cellsE b1 (Cd.cs c_api_Addr x0) 36]) Y) _ _ _) ?_ _ _ hq9 K
  ·clear K hF
   intro g ih i10 x hF K
   refine at_round ?_
   refine qs (qs ?_)
   refine at_draw (by kernel_rfl) (by kernel_rfl) (fun _ h=>h.drew) ?_
   refine atq_val rfl rfl rfl (r_move rfl) ?_
   refine atq_val rfl rfl rfl (r_move rfl) ?_
   refine atq_val rfl rfl rfl (r_ilss rfl rfl) ?_
   refine atq_val rfl rfl rfl (r_move rfl) ?_
   obtain ⟨h11,hF⟩|⟨h11,hF⟩:=oi hF
   ·refine atq_fix (g:=27) rfl h11 ?_
    refine atq_guard_yes rfl rfl rfl ?_
    refine atq_val rfl rfl rfl (r_load_aggc (c:=c_api_Addr) (z:=x0) isAgg36 sizeOf36 rfl (lens_cell (.s .z) lw)) ?_
    refine atq_guard_yes rfl rfl rfl ?_
    refine atq_val rfl rfl rfl (r_move rfl) ?_
    refine atq_guard_yes rfl rfl rfl ?_
    obtain ⟨t12,ht12,hF⟩:=bM hF
    refine atq_call func91 rfl (by kernel_rfl) rfl rfl (fun w hw=>(crawlwayref10_digit_ok _ _ _ ht12 w).mono fun _ _ h=>⟨h.1,hw.call h.2⟩) ?_
    refine atq_guard_yes rfl rfl rfl ?_
    refine atq_val rfl rfl rfl (r_load_aggc (c:=c_api_Addr) (z:=x1) isAgg36 sizeOf36 rfl (lens_cell .z lw)) ?_
    refine atq_guard_yes rfl rfl rfl ?_
    refine atq_val rfl rfl rfl (r_move rfl) ?_
    refine atq_guard_yes rfl rfl rfl ?_
    obtain ⟨t13,ht13,hF⟩:=bM hF
    refine atq_call func91 rfl (by kernel_rfl) rfl rfl (fun w hw=>(crawlwayref10_digit_ok _ _ _ ht13 w).mono fun _ _ h=>⟨h.1,hw.call h.2⟩) ?_
    refine atq_guard_yes rfl rfl rfl ?_
    refine atq_val rfl rfl rfl (r_ieql rfl rfl) ?_
    refine atq_val rfl rfl rfl (r_pick rfl rfl rfl) ?_
    refine atq_nil ?_
    refine wq [35,6,5,3,2] ?_
    refine tn ?_
    obtain ⟨h14,hF⟩|⟨h14,hF⟩:=oi hF
    ·refine ct h14 ?_
     refine sn ?_
     refine qb ?_
     refine qr (am (aw xa (aa (qn (wq [6,5,3,2] ?_)))))
     refine bm ?_
     exact at_weak_k (ih _ _ hF K) ⟨rfl,rfl,rfl,rfl,trivial⟩
    refine cf h14 ?_
    refine at_exit ?_
    refine te (te ?_)
    refine dz (dz ?_)
    obtain rfl:=os hF
    exact at_weak_k K ⟨rfl,trivial⟩
   refine atq_fix (g:=27) rfl h11 ?_
   refine atq_guard_no rfl rfl rfl rfl rfl ?_
   refine atq_guard_no rfl rfl rfl rfl rfl ?_
   refine atq_guard_no rfl rfl rfl rfl rfl ?_
   refine atq_guard_no rfl rfl rfl rfl rfl ?_
   refine atq_guard_no rfl rfl rfl rfl rfl ?_
   refine atq_guard_no rfl rfl rfl rfl rfl ?_
   refine atq_guard_no rfl rfl rfl rfl rfl ?_
   refine atq_val rfl rfl rfl (r_pick rfl rfl rfl) ?_
   refine atq_nil ?_
   refine wq [35,6,5,3,2] ?_
   refine tn ?_
   refine cf rfl ?_
   refine at_exit ?_
   refine te (te ?_)
   refine dz (dz ?_)
   obtain rfl:=os hF
   exact at_weak_k K ⟨rfl,trivial⟩
 skip
 skip
 refine at_blk_same ?_
 refine tn (sr (am (aa (nwq [4] ?_))))
 refine qt ?_
 have K:=os hF
 subst K
 exact r1 wb
def crawlwayref11_Right(x0:S_api_Prefix):Option (Bool) :=
 crawlwayref10_Right x0.f_A>>=fun t2=>if (!t2)=true then (some false) else (if (decide (x0.f_Bits<0))=true then (some false) else (crawlwayref10_Width x0.f_A>>=fun t5=>if (decide (x0.f_Bits>t5))=true then (some false) else (crawlwayref10_Mask x0.f_A x0.f_Bits>>=fun t7=>some (decide (x0.f_A=t7)))))
theorem crawlwayref11_Right_ok(x0:S_api_Prefix)(r:Bool)(hF:crawlwayref11_Right x0=some r)(w:World) :
    Calls Tryz.prog 40 #[.agg (Cd.cs c_api_Prefix x0).toArray] w (fun e w'=>e=.returned (.bool r)∧Below w.heap.size w w'):=by
 unfold crawlwayref11_Right at hF
 refine ce (l:=[.agg (Cd.cs c_api_Prefix x0).toArray]) func40 rfl rfl ?_
 refine at_start ?_
 refine sr ?_
 refine at_box (cs:=Cd.cs c_api_Prefix x0) rfl rfl rfl ?_
 intro b1
 refine aa (nwq [1] ?_)
 refine qs (qs ?_)
 refine at_draw (by kernel_rfl) (by kernel_rfl) (fun _ h=>h.drew) ?_
 refine atq_val rfl rfl rfl (r_fieldAddr (fo:=0) underlying38 rfl rfl (fun w=>⟨_,sizeOf36 w⟩) rfl) ?_
 refine atq_val rfl rfl rfl (r_load_aggc (c:=c_api_Addr) (z:=x0.f_A) isAgg36 sizeOf36 rfl (lens_cell .z (Lens.comp lw (fun z=>{ x0 with f_A:=z }) (c_api_Prefix_f_A x0)))) ?_
 obtain ⟨t2,ht2,hF⟩:=bM hF
 refine atq_call func65 rfl (by kernel_rfl) rfl rfl (fun w hw=>(crawlwayref10_Right_ok _ _ ht2 w).mono fun _ _ h=>⟨h.1,hw.call h.2⟩) ?_
 refine atq_val rfl rfl rfl (r_not rfl) ?_
 refine atq_val rfl rfl rfl (r_move rfl) ?_
 obtain ⟨h3,hF⟩|⟨h3,hF⟩:=oi hF
 ·refine atq_fix (g:=7) rfl h3 ?_
  refine atq_guard_no rfl rfl rfl rfl rfl ?_
  refine atq_guard_no rfl rfl rfl rfl rfl ?_
  refine atq_guard_no rfl rfl rfl rfl rfl ?_
  refine atq_val rfl rfl rfl (r_pick rfl rfl rfl) ?_
  refine atq_val rfl rfl rfl (r_move rfl) ?_
  refine atq_guard_no rfl rfl rfl rfl rfl ?_
  refine atq_guard_no rfl rfl rfl rfl rfl ?_
  refine atq_guard_no rfl rfl rfl rfl rfl ?_
  refine atq_guard_no rfl rfl rfl rfl rfl ?_
  refine atq_guard_no rfl rfl rfl rfl rfl ?_
  refine atq_guard_no rfl rfl rfl rfl rfl ?_
  refine atq_val rfl rfl rfl (r_pick rfl rfl rfl) ?_
  refine atq_nil ?_
  refine wq [19,1] ?_
  refine tn ?_
  refine ct rfl ?_
  refine sr (aa (qn (dz (wq [2] ?_))))
  refine tn (rt ?_)
  have K:=os hF
  subst K
  exact r1 wb
 refine atq_fix (g:=7) rfl h3 ?_
 refine atq_guard_yes rfl rfl rfl ?_
 refine atq_val rfl rfl rfl (r_fieldAddr (fo:=17) underlying38 rfl rfl (fun w=>⟨_,sizeOf3 w⟩) rfl) ?_
 refine atq_guard_yes rfl rfl rfl ?_
 refine atq_val rfl rfl rfl (r_load_cell isAgg3 rfl (lens_cell0 (c:=(cInt .i64)) (y:=x0.f_Bits) .z (Lens.comp lw (fun z=>{ x0 with f_Bits:=z }) (c_api_Prefix_f_Bits x0)) rfl)) ?_
 refine atq_guard_yes rfl rfl rfl ?_
 refine atq_val rfl rfl rfl (r_ilss rfl rfl) ?_
 refine atq_val rfl rfl rfl (r_pick rfl rfl rfl) ?_
 refine atq_val rfl rfl rfl (r_move rfl) ?_
 obtain ⟨h4,hF⟩|⟨h4,hF⟩:=oi hF
 ·refine atq_fix (g:=12) rfl h4 ?_
  refine atq_guard_no rfl rfl rfl rfl rfl ?_
  refine atq_guard_no rfl rfl rfl rfl rfl ?_
  refine atq_guard_no rfl rfl rfl rfl rfl ?_
  refine atq_guard_no rfl rfl rfl rfl rfl ?_
  refine atq_guard_no rfl rfl rfl rfl rfl ?_
  refine atq_guard_no rfl rfl rfl rfl rfl ?_
  refine atq_val rfl rfl rfl (r_pick rfl rfl rfl) ?_
  refine atq_nil ?_
  refine wq [19,1] ?_
  refine tn ?_
  refine ct rfl ?_
  refine sr (aa (qn (dz (wq [2] ?_))))
  refine tn (rt ?_)
  have K:=os hF
  subst K
  exact r1 wb
 refine atq_fix (g:=12) rfl h4 ?_
 refine atq_guard_yes rfl rfl rfl ?_
 refine atq_val rfl rfl rfl (r_fieldAddr (fo:=17) underlying38 rfl rfl (fun w=>⟨_,sizeOf3 w⟩) rfl) ?_
 refine atq_guard_yes rfl rfl rfl ?_
 refine atq_val rfl rfl rfl (r_load_cell isAgg3 rfl (lens_cell0 (c:=(cInt .i64)) (y:=x0.f_Bits) .z (Lens.comp lw (fun z=>{ x0 with f_Bits:=z }) (c_api_Prefix_f_Bits x0)) rfl)) ?_
 refine atq_guard_yes rfl rfl rfl ?_
 refine atq_val rfl rfl rfl (r_fieldAddr (fo:=0) underlying38 rfl rfl (fun w=>⟨_,sizeOf36 w⟩) rfl) ?_
 refine atq_guard_yes rfl rfl rfl ?_
 refine atq_val rfl rfl rfl (r_load_aggc (c:=c_api_Addr) (z:=x0.f_A) isAgg36 sizeOf36 rfl (lens_cell .z (Lens.comp lw (fun z=>{ x0 with f_A:=z }) (c_api_Prefix_f_A x0)))) ?_
 refine atq_guard_yes rfl rfl rfl ?_
 obtain ⟨t5,ht5,hF⟩:=bM hF
 refine atq_call func66 rfl (by kernel_rfl) rfl rfl (fun w hw=>(crawlwayref10_Width_ok _ _ ht5 w).mono fun _ _ h=>⟨h.1,hw.call h.2⟩) ?_
 refine atq_guard_yes rfl rfl rfl ?_
 refine atq_val rfl rfl rfl (r_igtr rfl rfl) ?_
 refine atq_val rfl rfl rfl (r_pick rfl rfl rfl) ?_
 refine atq_nil ?_
 refine wq [19,1] ?_
 refine tn ?_
 obtain ⟨h6,hF⟩|⟨h6,hF⟩:=oi hF
 ·refine ct h6 ?_
  refine sr (aa (qn (dz (wq [2] ?_))))
  refine tn (rt ?_)
  have K:=os hF
  subst K
  exact r1 wb
 refine cf h6 ?_
 refine sn (qs ?_)
 refine at_draw (by kernel_rfl) (by kernel_rfl) (fun _ h=>h.drew) ?_
 refine atq_val rfl rfl rfl (r_fieldAddr (fo:=0) underlying38 rfl rfl (fun w=>⟨_,sizeOf36 w⟩) rfl) ?_
 refine atq_val rfl rfl rfl (r_load_aggc (c:=c_api_Addr) (z:=x0.f_A) isAgg36 sizeOf36 rfl (lens_cell .z (Lens.comp lw (fun z=>{ x0 with f_A:=z }) (c_api_Prefix_f_A x0)))) ?_
 refine atq_val rfl rfl rfl (r_fieldAddr (fo:=0) underlying38 rfl rfl (fun w=>⟨_,sizeOf36 w⟩) rfl) ?_
 refine atq_val rfl rfl rfl (r_load_aggc (c:=c_api_Addr) (z:=x0.f_A) isAgg36 sizeOf36 rfl (lens_cell .z (Lens.comp lw (fun z=>{ x0 with f_A:=z }) (c_api_Prefix_f_A x0)))) ?_
 refine atq_val rfl rfl rfl (r_fieldAddr (fo:=17) underlying38 rfl rfl (fun w=>⟨_,sizeOf3 w⟩) rfl) ?_
 refine atq_val rfl rfl rfl (r_load_cell isAgg3 rfl (lens_cell0 (c:=(cInt .i64)) (y:=x0.f_Bits) .z (Lens.comp lw (fun z=>{ x0 with f_Bits:=z }) (c_api_Prefix_f_Bits x0)) rfl)) ?_
 obtain ⟨t7,ht7,hF⟩:=bM hF
 refine atq_call func67 rfl (by kernel_rfl) rfl rfl (fun w hw=>(crawlwayref10_Mask_ok _ _ _ ht7 w).mono fun _ _ h=>⟨h.1,hw.call h.2⟩) ?_
 refine atq_val rfl rfl rfl (r_eqagg (c:=c_api_Addr) (a:=x0.f_A) (b:=t7) (eq_api_Addr_36) rfl Tryz.eqGuardType36 rfl rfl (.inl rfl) rfl) ?_
 refine atq_val rfl rfl rfl (r_assign rfl) ?_
 refine atq_nil ?_
 refine dz (wq [2] ?_)
 refine tn (qt ?_)
 have K:=os hF
 subst K
 exact r1 wb
def crawlwayref11_Has(x0:S_api_Prefix)(x1:S_api_Addr):Option (Bool) :=
 crawlwayref11_Right x0>>=fun t3=>if t3=true then (crawlwayref10_Common x0.f_A x1>>=fun t5=>some (decide (t5≥x0.f_Bits))) else (some false)
theorem crawlwayref11_Has_ok(x0:S_api_Prefix)(x1:S_api_Addr)(r:Bool)(hF:crawlwayref11_Has x0 x1=some r)(w:World) :
    Calls Tryz.prog 42 #[.agg (Cd.cs c_api_Prefix x0).toArray,.agg (Cd.cs c_api_Addr x1).toArray] w (fun e w'=>e=.returned (.bool r)∧Below w.heap.size w w'):=by
 unfold crawlwayref11_Has at hF
 refine ce (l:=[.agg (Cd.cs c_api_Prefix x0).toArray,.agg (Cd.cs c_api_Addr x1).toArray]) func42 rfl rfl ?_
 refine at_start ?_
 refine sr ?_
 refine at_box (cs:=Cd.cs c_api_Prefix x0) rfl rfl rfl ?_
 intro b1
 refine at_box (cs:=Cd.cs c_api_Addr x1) rfl rfl rfl ?_
 intro b2
 refine aa (nwq [3,2] ?_)
 refine qs ?_
 refine at_draw (by kernel_rfl) (by kernel_rfl) (fun _ h=>h.drew) ?_
 refine atq_val rfl rfl rfl (r_load_aggc (c:=c_api_Prefix) (z:=x0) isAgg38 sizeOf38 rfl (lens_cell (.s .z) lw)) ?_
 obtain ⟨t3,ht3,hF⟩:=bM hF
 refine atq_call func40 rfl (by kernel_rfl) rfl rfl (fun w hw=>(crawlwayref11_Right_ok _ _ ht3 w).mono fun _ _ h=>⟨h.1,hw.call h.2⟩) ?_
 refine atq_val rfl rfl rfl (r_move rfl) ?_
 obtain ⟨h4,hF⟩|⟨h4,hF⟩:=oi hF
 ·refine atq_fix (g:=7) rfl h4 ?_
  refine atq_guard_yes rfl rfl rfl ?_
  refine atq_val rfl rfl rfl (r_fieldAddr (fo:=0) underlying38 rfl rfl (fun w=>⟨_,sizeOf36 w⟩) rfl) ?_
  refine atq_guard_yes rfl rfl rfl ?_
  refine atq_val rfl rfl rfl (r_load_aggc (c:=c_api_Addr) (z:=x0.f_A) isAgg36 sizeOf36 rfl (lens_cell (.s .z) (Lens.comp lw (fun z=>{ x0 with f_A:=z }) (c_api_Prefix_f_A x0)))) ?_
  refine atq_guard_yes rfl rfl rfl ?_
  refine atq_val rfl rfl rfl (r_load_aggc (c:=c_api_Addr) (z:=x1) isAgg36 sizeOf36 rfl (lens_cell .z lw)) ?_
  refine atq_guard_yes rfl rfl rfl ?_
  obtain ⟨t5,ht5,hF⟩:=bM hF
  refine atq_call func69 rfl (by kernel_rfl) rfl rfl (fun w hw=>(crawlwayref10_Common_ok _ _ _ ht5 w).mono fun _ _ h=>⟨h.1,hw.call h.2⟩) ?_
  refine atq_guard_yes rfl rfl rfl ?_
  refine atq_val rfl rfl rfl (r_fieldAddr (fo:=17) underlying38 rfl rfl (fun w=>⟨_,sizeOf3 w⟩) rfl) ?_
  refine atq_guard_yes rfl rfl rfl ?_
  refine atq_val rfl rfl rfl (r_load_cell isAgg3 rfl (lens_cell0 (c:=(cInt .i64)) (y:=x0.f_Bits) (.s .z) (Lens.comp lw (fun z=>{ x0 with f_Bits:=z }) (c_api_Prefix_f_Bits x0)) rfl)) ?_
  refine atq_guard_yes rfl rfl rfl ?_
  refine atq_val rfl rfl rfl (r_igeq rfl rfl) ?_
  refine atq_val rfl rfl rfl (r_pick rfl rfl rfl) ?_
  refine atq_val rfl rfl rfl (r_assign rfl) ?_
  refine atq_nil ?_
  refine dz (dz (wq [4] ?_))
  refine tn (qt ?_)
  have K:=os hF
  subst K
  exact r1 wb
 refine atq_fix (g:=7) rfl h4 ?_
 refine atq_guard_no rfl rfl rfl rfl rfl ?_
 refine atq_guard_no rfl rfl rfl rfl rfl ?_
 refine atq_guard_no rfl rfl rfl rfl rfl ?_
 refine atq_guard_no rfl rfl rfl rfl rfl ?_
 refine atq_guard_no rfl rfl rfl rfl rfl ?_
 refine atq_guard_no rfl rfl rfl rfl rfl ?_
 refine atq_guard_no rfl rfl rfl rfl rfl ?_
 refine atq_val rfl rfl rfl (r_pick rfl rfl rfl) ?_
 refine atq_val rfl rfl rfl (r_assign rfl) ?_
 refine atq_nil ?_
 refine dz (dz (wq [4] ?_))
 refine tn (qt ?_)
 have K:=os hF
 subst K
 exact r1 wb
def crawlwayref11_Covers(x0:S_api_Prefix)(x1:S_api_Prefix):Option (Bool) :=
 crawlwayref11_Right x1>>=fun t3=>if t3=true then (crawlwayref11_Has x0 x1.f_A>>=fun t5=>if t5=true then (some (decide (x0.f_Bits≤x1.f_Bits))) else (some false)) else (some false)
def crawlwayref11_Less(x0:S_api_Prefix)(x1:S_api_Prefix):Option (Bool) :=
 if (!decide (x0.f_A=x1.f_A))=true then (crawlwayref10_Less x0.f_A x1.f_A>>=fun t4=>some t4) else (some (decide (x0.f_Bits<x1.f_Bits)))
theorem crawlwayref11_Less_ok(x0:S_api_Prefix)(x1:S_api_Prefix)(r:Bool)(hF:crawlwayref11_Less x0 x1=some r)(w:World) :
    Calls Tryz.prog 41 #[.agg (Cd.cs c_api_Prefix x0).toArray,.agg (Cd.cs c_api_Prefix x1).toArray] w (fun e w'=>e=.returned (.bool r)∧Below w.heap.size w w'):=by
 unfold crawlwayref11_Less at hF
 refine ce (l:=[.agg (Cd.cs c_api_Prefix x0).toArray,.agg (Cd.cs c_api_Prefix x1).toArray]) func41 rfl rfl ?_
 refine at_start ?_
 refine sr ?_
 refine at_box (cs:=Cd.cs c_api_Prefix x0) rfl rfl rfl ?_
 intro b1
 refine at_box (cs:=Cd.cs c_api_Prefix x1) rfl rfl rfl ?_
 intro b2
 refine aa (nt (qs (sr (fa 0 underlying38 rfl sizeOf36 ?_))))
 refine aw (r_load_aggc (c:=c_api_Addr) (z:=x0.f_A) isAgg36 sizeOf36 rfl (lens_cell (.s .z) (Lens.comp lw (fun z=>{ x0 with f_A:=z }) (c_api_Prefix_f_A x0)))) ?_
 refine fa 0 underlying38 rfl sizeOf36 ?_
 refine aw (r_load_aggc (c:=c_api_Addr) (z:=x1.f_A) isAgg36 sizeOf36 rfl (lens_cell .z (Lens.comp lw (fun z=>{ x1 with f_A:=z }) (c_api_Prefix_f_A x1)))) ?_
 refine aw (r_eqagg (c:=c_api_Addr) (a:=x0.f_A) (b:=x1.f_A) (eq_api_Addr_36) rfl Tryz.eqGuardType36 rfl rfl (.inr rfl) rfl) ?_
 refine nwq [9,3,2] ?_
 obtain ⟨h3,hF⟩|⟨h3,hF⟩:=oi hF
 ·refine ct h3 ?_
  refine sr (fa 0 underlying38 rfl sizeOf36 ?_)
  refine aw (r_load_aggc (c:=c_api_Addr) (z:=x0.f_A) isAgg36 sizeOf36 rfl (lens_cell (.s .z) (Lens.comp lw (fun z=>{ x0 with f_A:=z }) (c_api_Prefix_f_A x0)))) ?_
  refine fa 0 underlying38 rfl sizeOf36 ?_
  refine aw (r_load_aggc (c:=c_api_Addr) (z:=x1.f_A) isAgg36 sizeOf36 rfl (lens_cell .z (Lens.comp lw (fun z=>{ x1 with f_A:=z }) (c_api_Prefix_f_A x1)))) ?_
  obtain ⟨t4,ht4,hF⟩:=bM hF
  refine cB func68 rfl (fun w hw=>crawlwayref10_Less_ok _ _ _ ht4 w) ?_
  refine aa (qn (dz (dz (wq [4] ?_))))
  refine tn (rt ?_)
  have K:=os hF
  subst K
  exact r1 wb
 refine cf h3 ?_
 refine sns (fa 17 underlying38 rfl sizeOf3 ?_)
 refine aw (r_load_cell isAgg3 rfl (lens_cell0 (c:=(cInt .i64)) (y:=x0.f_Bits) (.s .z) (Lens.comp lw (fun z=>{ x0 with f_Bits:=z }) (c_api_Prefix_f_Bits x0)) rfl)) ?_
 refine fa 17 underlying38 rfl sizeOf3 ?_
 refine aw (r_load_cell isAgg3 rfl (lens_cell0 (c:=(cInt .i64)) (y:=x1.f_Bits) .z (Lens.comp lw (fun z=>{ x1 with f_Bits:=z }) (c_api_Prefix_f_Bits x1)) rfl)) ?_
 refine aw xl (aa (qn (dz (dz (wq [4] ?_)))))
 refine tn (qt ?_)
 have K:=os hF
 subst K
 exact r1 wb
end Go.Proofs.YtahlbjmafceoeaaGreatDoor
namespace Go.Proofs.YtahlbjmafceoeaaGreatDoor.Adr
open E Go.RowKit
def vb(l:List UInt8):Vector Int 16:=lvec 16 (ob l)
theorem vb_toList{l:List UInt8}(h:l.length=16):(vb l).toList=ob l:=by
 unfold vb
 rw [lvec_toList 16 (ob l) (by rw [ob_length];omega),List.take_of_length_le (by rw [ob_length];omega)]
theorem vb_of{v:Vector Int 16}{l:List UInt8}(h:v.toList=ob l):v=vb l:=by
 have hl:l.length=16:=by have:=congrArg List.length h;rw [ob_length] at this;simpa using this.symm
 apply Vector.toList_inj.1
 rw [vb_toList hl,h]
theorem vb_inj{l k:List UInt8}(hl:l.length=16)(hk:k.length=16):vb l=vb k↔l=k:=by
 constructor
 ·intro h
  have:=congrArg Vector.toList h
  rw [vb_toList hl,vb_toList hk] at this
  exact ob_inj this
 ·intro h;rw [h]
def mkA(V:Int)(l:List UInt8):S_api_Addr:={ f_V:=V,f_B:=vb l }
theorem exists_mkA(a:S_api_Addr)(h:ok_api_Addr a):∃ V l,a=mkA V l∧l.length=16∧(Lit.int .i64 V).wf=true:=by
 obtain ⟨l,hl⟩:=exists_ob a.f_B.toList h.2
 have hlen:l.length=16:=by have:=congrArg List.length hl;rw [ob_length] at this;simpa using this.symm
 refine ⟨a.f_V,l,?_,hlen,h.1⟩
 cases a with | mk V B =>
 show S_api_Addr.mk V B=S_api_Addr.mk V (vb l)
 have hB:B=vb l:=vb_of hl
 rw [hB]
theorem mkA_inj{V W:Int}{l k:List UInt8}(hl:l.length=16)(hk:k.length=16):mkA V l=mkA W k↔V=W∧l=k:=by
 unfold mkA
 rw [S_api_Addr.mk.injEq,vb_inj hl hk]
def bg(l:List UInt8)(i:Nat):Nat:=(l.getD i 0).toNat
theorem bg_lt(l:List UInt8)(i:Nat):bg l i<256:=(l.getD i 0).toNat_lt
theorem bg_get{l:List UInt8}{i:Nat}{c:UInt8}(h:l[i]? = some c):bg l i=c.toNat:=by
 unfold bg;rw [List.getD_eq_getElem?_getD,h];rfl
theorem vget_vb{l:List UInt8}(hl:l.length=16)(i:Nat)(hi:i<16):vget (vb l) (i:Int)=(bg l i:Int):=by
 unfold vget
 rw [vb_toList hl,Int.toNat_natCast]
 have hc:l[i]? = some l[i]:=List.getElem?_eq_getElem (by omega)
 rw [bg_get hc,List.getD_eq_getElem?_getD]
 unfold ob
 rw [List.getElem?_map,hc];rfl
theorem vset_vb{l:List UInt8}(hl:l.length=16)(i:Nat)(c:UInt8):vset (vb l) (i:Int) (c.toNat:Int)=vb (l.set i c):=by
 apply Vector.toList_inj.1
 rw [vset_toList,vb_toList hl,vb_toList (by simpa using hl),Int.toNat_natCast]
 unfold ob
 rw [List.map_set]
theorem zero_vb:(Vector.replicate 16 (0:Int):Vector Int 16)=vb (List.replicate 16 0):=by
 apply vb_of
 rfl
theorem zero_mkA:({ f_V:=(0:Int),f_B:=(Vector.replicate 16 (0:Int):(Vector Int 16)) }:S_api_Addr)=mkA 0 (List.replicate 16 0):=by
 unfold mkA;rw [zero_vb]
theorem ob_take(l:List UInt8)(n:Nat):(ob l).take n=ob (l.take n):=by unfold ob;rw [List.map_take]
theorem lsub_ob(l:List UInt8)(n:Nat):lsub (ob l) 0 (n:Int)=ob (l.take n):=by
 unfold lsub
 rw [Int.toNat_natCast,show (0:Int).toNat=0 from rfl,List.drop_zero,ob_take]
def fourL(m:List UInt8):List UInt8:=m++List.replicate 12 0
theorem fourL_len{m:List UInt8}(h:m.length=4):(fourL m).length=16:=by simp [fourL,h]
theorem four_eq(v:Vector Int 4)(m:List UInt8)(h:v.toList=ob m):addr_Four v=some (mkA 4 (fourL m)):=by
 have hm:m.length=4:=by have:=congrArg List.length h;rw [ob_length] at this;simpa using this.symm
 unfold addr_Four mkA
 refine congrArg some ?_
 show S_api_Addr.mk 4 _=S_api_Addr.mk 4 _
 congr 1
 apply vb_of
 show (vcopy (Vector.replicate 16 (0:Int)) (Int.toNat 0) (List.take (Int.toNat (16-0)) v.toList)).toList=_
 rw [h,show Int.toNat (16-0)=16 from rfl,List.take_of_length_le (by rw [ob_length];omega),show Int.toNat 0=0 from rfl,vcopy_toList _ _ _ (by rw [ob_length];omega)]
 rw [List.take_zero,List.nil_append,Nat.zero_add,ob_length,hm]
 unfold fourL
 rw [ob_append];rfl
theorem take4{l:List UInt8}(hl:l.length=16):(lvec 4 (lsub (vb l).toList 0 4)).toList=ob (l.take 4):=by
 have e:lsub (vb l).toList 0 4=ob (l.take 4):=by rw [vb_toList hl];exact lsub_ob l 4
 rw [e,lvec_toList 4 _ (by rw [ob_length];simp;omega),List.take_of_length_le (by rw [ob_length];simp;omega)]
theorem take4_len{l:List UInt8}(hl:l.length=16):4≤(lsub (vb l).toList 0 4).length:=by
 have e:lsub (vb l).toList 0 4=ob (l.take 4):=by rw [vb_toList hl];exact lsub_ob l 4
 rw [e,ob_length];simp;omega
def low(l:List UInt8):Bool:=(l.drop 4).all (·==0)
def rightL(V:Int)(l:List UInt8):Bool:=V==6||(V==4&&low l)
theorem all_zero:∀ (k:List UInt8),k.all (·==0)=true↔k=List.replicate k.length 0
 | []=>by simp
 | c::r=>by
  rw [List.all_cons,Bool.and_eq_true,all_zero r,List.length_cons,List.replicate_succ,List.cons.injEq,beq_iff_eq]
theorem low_iff{l:List UInt8}(hl:l.length=16):low l=true↔l=fourL (l.take 4):=by
 unfold low fourL
 rw [all_zero]
 have h12:(l.drop 4).length=12:=by simp;omega
 rw [h12]
 constructor
 ·intro h
  rw [←h];exact (List.take_append_drop 4 l).symm
 ·intro h
  have h1:l.drop 4=(l.take 4++List.replicate 12 0).drop 4:=congrArg (List.drop 4) h
  rw [h1]
  exact List.drop_left' (by simp;omega)
theorem right_code{V:Int}{l:List UInt8}(hl:l.length=16):addr_Right (mkA V l)=some (rightL V l):=by
 unfold addr_Right rightL
 show (if (V==6)=true then some true else (if (V==4)=true then (if 4≤(lsub (vb l).toList 0 4).length then addr_Four (lvec 4 (lsub (vb l).toList 0 4))>>=fun t8=>some (decide (mkA V l=t8)) else none) else some false))=_
 cases h6:(V==6)
 ·cases h4:(V==4)
  ·rfl
  ·have hV:V=4:=by simpa using h4
   rw [if_neg Bool.false_ne_true,if_pos rfl,if_pos (take4_len hl),four_eq _ _ (take4 hl),bindM_some]
   congr 1
   rw [Bool.false_or,Bool.true_and,Bool.eq_iff_iff,decide_eq_true_eq,mkA_inj hl (fourL_len (by simp;omega)),low_iff hl]
   exact ⟨fun h=>h.2,fun h=>⟨hV,h⟩⟩
 ·rfl
theorem right_loop{V:Int}{l:List UInt8}(hl:l.length=16):∀ (k i:Nat),i+k=16→crawlwayref10_Right.l0 (mkA V l) (i:Int)=some (if (l.drop i).all (·==0)=true then .nx () else .ret false):=by
 intro k
 induction k with
 | zero =>
  intro i hi
  have hz:decide ((i:Int)<16)=false:=decide_eq_false (by omega)
  rw [crawlwayref10_Right.l0.eq_def,hz,List.drop_eq_nil_of_le (by omega)];rfl
 | succ k ih =>
  intro i hi
  have hz:decide ((i:Int)<16)=true:=decide_eq_true (by omega)
  obtain ⟨c,hc,hd⟩:=drop_get l i (by omega)
  have hg:(0:Int)≤(i:Int)∧(i:Int)<16:=by omega
  rw [crawlwayref10_Right.l0.eq_def,hz,if_pos rfl,if_pos hg,hd,List.all_cons]
  show (if (vget (vb l) (i:Int) != 0)=true then _ else _)=_
  rw [vget_vb hl i (by omega),bg_get hc]
  by_cases h0:c=0
  ·subst h0
   have e1:(((0:UInt8).toNat:Int) != 0)=false:=rfl
   rw [e1,if_neg Bool.false_ne_true,wr_i64 (by omega) (by omega),show ((i:Int)+1)=((i+1:Nat):Int) by omega,ih (i+1) (by omega)]
   rw [show ((0:UInt8)==0)=true from rfl,Bool.true_and]
  ·have hne:c.toNat≠0:=fun e=>h0 (UInt8.toNat.inj e)
   have e1:((c.toNat:Int) != 0)=true:=by rw [bne_iff_ne];omega
   have e2:(c==0)=false:=by rw [beq_eq_false_iff_ne];exact h0
   rw [e1,if_pos rfl,e2,Bool.false_and];rfl
theorem right_ref{V:Int}{l:List UInt8}(hl:l.length=16):crawlwayref10_Right (mkA V l)=some (rightL V l):=by
 unfold crawlwayref10_Right rightL
 have h:=right_loop (V:=V) hl 12 4 rfl
 rw [show ((4:Nat):Int)=4 from rfl] at h
 rw [h]
 show (if (V==6)=true then some true else _)=_
 cases h6:(V==6)
 ·rw [if_neg Bool.false_ne_true,bindM_some]
  unfold low
  by_cases hz:(l.drop 4).all (·==0)=true
  ·rw [if_pos hz,hz]
   show some (V==4)=_
   rw [Bool.false_or,Bool.and_true]
  ·rw [if_neg hz]
   have:(l.drop 4).all (·==0)=false:=by simpa using hz
   rw [this,Bool.and_false];rfl
 ·rfl
def widthL(V:Int)(l:List UInt8):Nat:=if rightL V l=true then (if V=4 then 32 else 128) else 0
theorem width_code{V:Int}{l:List UInt8}(hl:l.length=16):addr_Width (mkA V l)=some ((widthL V l:Nat):Int):=by
 unfold addr_Width widthL
 rw [right_code hl,bindM_some]
 cases rightL V l
 ·rfl
 ·show (if (V==4)=true then some (32:Int) else some 128)=_
  by_cases h:V=4
  ·rw [if_pos (by simpa using h),if_pos rfl,if_pos h];rfl
  ·rw [if_neg (by simpa using h),if_pos rfl,if_neg h];rfl
theorem right_cases{V:Int}{l:List UInt8}(h:rightL V l=true):V=6∨(V=4∧low l=true):=by
 unfold rightL at h
 rw [Bool.or_eq_true,Bool.and_eq_true,beq_iff_eq,beq_iff_eq] at h
 exact h
theorem width_le{V:Int}{l:List UInt8}:widthL V l≤128:=by
 unfold widthL;split<;>(try split)<;>omega
end Go.Proofs.YtahlbjmafceoeaaGreatDoor.Adr
namespace Go.Proofs.YtahlbjmafceoeaaGreatDoor.Adr
open E Go.RowKit
theorem width_ref{V:Int}{l:List UInt8}(hl:l.length=16):crawlwayref10_Width (mkA V l)=some ((widthL V l:Nat):Int):=by
 unfold crawlwayref10_Width widthL
 rw [right_ref hl,bindM_some]
 cases rightL V l
 ·rfl
 ·show (if (V==4)=true then some (32:Int) else some 128)=_
  by_cases h:V=4
  ·rw [if_pos (by simpa using h),if_pos rfl,if_pos h];rfl
  ·rw [if_neg (by simpa using h),if_pos rfl,if_neg h];rfl
def mb(b:UInt8)(k:Nat):UInt8:=UInt8.ofNat (b.toNat-b.toNat%2 ^ (8-k))
theorem mb_fin:∀ (b:Fin 256) (k:Fin 9),iand .u8 ((b.val:Nat):Int) (ishl .u8 255 ((8-k.val:Nat):Int))=((b.val-b.val%2 ^ (8-k.val):Nat):Int):=by decide +kernel
theorem mb_toNat(b:UInt8)(k:Nat):(mb b k).toNat=b.toNat-b.toNat%2 ^ (8-k):=by
 unfold mb
 have:=b.toNat_lt
 rw [UInt8.toNat_ofNat',Nat.mod_eq_of_lt (by omega)]
theorem mb_code(b:UInt8)(k:Nat)(hk:k≤8):iand .u8 (b.toNat:Int) (ishl .u8 255 ((8-k:Nat):Int))=((mb b k).toNat:Int):=by
 rw [mb_toNat]
 exact mb_fin ⟨b.toNat,b.toNat_lt⟩ ⟨k,by omega⟩
theorem mb_zero(b:UInt8):mb b 0=0:=by
 apply UInt8.toNat.inj
 have:=b.toNat_lt
 rw [mb_toNat,show 2 ^ (8-0)=256 from rfl,Nat.mod_eq_of_lt (by omega),Nat.sub_self];rfl
theorem mb_of_zero(k:Nat):mb 0 k=0:=by
 apply UInt8.toNat.inj
 rw [mb_toNat,show (0:UInt8).toNat=0 from rfl,Nat.zero_mod]
theorem mb_step_fin:∀ (b:Fin 256) (k:Fin 8),b.val-b.val%2 ^ (8-(k.val+1))=b.val-b.val%2 ^ (8-k.val)+(b.val/2 ^ (7-k.val)%2)*(128/2 ^ k.val):=by decide +kernel
theorem mb_step(b:UInt8)(k:Nat)(hk:k<8):(mb b (k+1)).toNat=(mb b k).toNat+(b.toNat/2 ^ (7-k)%2)*(128/2 ^ k):=by
 rw [mb_toNat,mb_toNat]
 exact mb_step_fin ⟨b.toNat,b.toNat_lt⟩ ⟨k,hk⟩
def lft(bits:Int)(q:Nat):Nat:=(min (max (bits-8*(q:Int)) 0) 8).toNat
theorem lft_le(bits:Int)(q:Nat):lft bits q≤8:=by unfold lft;omega
def mfull(l:List UInt8)(bits:Int):List UInt8:=l.mapIdx fun q b=>mb b (lft bits q)
theorem mfull_len(l:List UInt8)(bits:Int):(mfull l bits).length=l.length:=by simp [mfull]
theorem mfull_get(l:List UInt8)(bits:Int)(i:Nat):(mfull l bits)[i]? = (l[i]?).map fun b=>mb b (lft bits i):=by
 unfold mfull;rw [List.getElem?_mapIdx]
theorem set_step{α:Type}(A l:List α)(i:Nat)(x:α)(hA:A.length=l.length)(hx:A[i]? = some x):(A.take i++l.drop i).set i x=A.take (i+1)++l.drop (i+1):=by
 have hi:i<A.length:=(List.getElem?_eq_some_iff.1 hx).1
 apply List.ext_getElem?
 intro j
 have h1:(A.take i).length=i:=by simp;omega
 have h2:(A.take (i+1)).length=i+1:=by simp;omega
 rw [List.getElem?_set]
 by_cases hj:i=j
 ·subst hj
  have hl:i<(A.take i++l.drop i).length:=by simp;omega
  rw [if_pos rfl,if_pos hl,List.getElem?_append_left (by omega),List.getElem?_take,if_pos (by omega),hx]
 ·rw [if_neg hj]
  by_cases hlt:j<i
  ·rw [List.getElem?_append_left (by omega),List.getElem?_append_left (by omega),List.getElem?_take,List.getElem?_take,if_pos hlt,if_pos (by omega)]
  ·rw [List.getElem?_append_right (by omega),List.getElem?_append_right (by omega),List.getElem?_drop,List.getElem?_drop,h1,h2]
   congr 1;omega
theorem lft_code(bits:Int)(hb : -9223372036854775808≤bits∧bits<9223372036854775808)(i:Nat)(hi:i<16)(h0:¬ bits<0) :
  (if 8<(if wr .i64 (bits-(wr .i64 (8*(i:Int))))<0 then 0 else wr .i64 (bits-(wr .i64 (8*(i:Int))))) then 8 else (if wr .i64 (bits-(wr .i64 (8*(i:Int))))<0 then 0 else wr .i64 (bits-(wr .i64 (8*(i:Int))))))=((lft bits i:Nat):Int):=by
 have e1:wr .i64 (8*(i:Int))=8*(i:Int):=wr_i64 (by omega) (by omega)
 rw [e1,wr_i64 (by omega) (by omega)]
 unfold lft
 by_cases h1:bits-8*(i:Int)<0
 ·rw [if_pos h1];split<;>omega
 ·rw [if_neg h1];split<;>omega
theorem mask_loop(V bits:Int)(l:List UInt8)(hl:l.length=16)(hb : -9223372036854775808≤bits∧bits<9223372036854775808):∀ (k i:Nat),i+k=16 →
  addr_Mask.l0 bits (i:Int) (mkA V ((mfull l bits).take i++l.drop i))=some (mkA V (mfull l bits)):=by
 have hml:=mfull_len l bits
 intro k
 induction k with
 | zero =>
  intro i hi
  have hz:decide ((i:Int)<16)=false:=decide_eq_false (by omega)
  rw [addr_Mask.l0.eq_def,hz,if_neg Bool.false_ne_true,List.drop_eq_nil_of_le (by omega),List.append_nil,List.take_of_length_le (by omega)]
 | succ k ih =>
  intro i hi
  have hz:decide ((i:Int)<16)=true:=decide_eq_true (by omega)
  have hc:l[i]? = some l[i]:=List.getElem?_eq_getElem (by omega)
  generalize hcc:l[i]=c at hc
  have hAlen:((mfull l bits).take i++l.drop i).length=16:=by simp;omega
  have hAi:((mfull l bits).take i++l.drop i)[i]? = some c:=by
   rw [List.getElem?_append_right (by simp;omega),List.getElem?_drop]
   have:i+(i-((mfull l bits).take i).length)=i:=by simp;omega
   rw [this,hc]
  have hg:(0:Int)≤(i:Int)∧(i:Int)<16:=by omega
  have hv:vget (vb ((mfull l bits).take i++l.drop i)) (i:Int)=(c.toNat:Int):=by rw [vget_vb hAlen i (by omega),bg_get hAi]
  have hstep:=set_step (mfull l bits) l i (mb c (lft bits i)) hml (by rw [mfull_get,hc];rfl)
  have hle:=lft_le bits i
  have hset:∀ s:Int,s=((8-lft bits i:Nat):Int)→({ mkA V ((mfull l bits).take i++l.drop i) with f_B:=vset (vb ((mfull l bits).take i++l.drop i)) (i:Int) (iand .u8 (vget (vb ((mfull l bits).take i++l.drop i)) (i:Int)) (ishl .u8 255 s)) }:S_api_Addr) =
    mkA V ((mfull l bits).take (i+1)++l.drop (i+1)):=fun s hs=>by
   rw [hs,hv,mb_code c _ hle,vset_vb hAlen,hstep];rfl
  have e8:wr .u64 (wr .i64 (8-((lft bits i:Nat):Int)))=((8-lft bits i:Nat):Int):=by
   rw [wr_i64 (by omega) (by omega),wr_u64 (by omega) (by omega)];omega
  have hn:(0:Int)≤((8-lft bits i:Nat):Int):=by omega
  have hi1:wr .i64 ((i:Int)+1)=((i+1:Nat):Int):=by rw [wr_i64 (by omega) (by omega)];omega
  rw [addr_Mask.l0.eq_def,hz,if_pos rfl]
  by_cases h0:bits<0
  ·have hl0:lft bits i=0:=by unfold lft;omega
   have e80:wr .u64 (wr .i64 (8-0))=((8-lft bits i:Nat):Int):=by rw [hl0];rfl
   rw [if_pos (decide_eq_true h0),if_pos hg,e80,if_pos hn,if_pos hg,hi1]
   have:=hset _ rfl
   rw [show (mkA V ((mfull l bits).take i++l.drop i)).f_B=vb ((mfull l bits).take i++l.drop i) from rfl,this]
   exact ih (i+1) (by omega)
  ·rw [if_neg (by rw [decide_eq_true_eq];exact h0),if_pos hg,lft_code bits hb i (by omega) h0,e8,if_pos hn,if_pos hg,hi1]
   have:=hset _ rfl
   rw [show (mkA V ((mfull l bits).take i++l.drop i)).f_B=vb ((mfull l bits).take i++l.drop i) from rfl,this]
   exact ih (i+1) (by omega)
def maskA(V:Int)(l:List UInt8)(bits:Int):S_api_Addr:=if rightL V l=true then mkA V (mfull l bits) else mkA 0 (List.replicate 16 0)
theorem mask_code{V bits:Int}{l:List UInt8}(hl:l.length=16)(hb : -9223372036854775808≤bits∧bits<9223372036854775808):addr_Mask (mkA V l) bits=some (maskA V l bits):=by
 unfold addr_Mask maskA
 rw [right_code hl,bindM_some]
 cases rightL V l
 ·show some _=_
  rw [zero_mkA];rfl
 ·have h:=mask_loop V bits l hl hb 16 0 rfl
  rw [List.take_zero,List.nil_append,List.drop_zero,show ((0:Nat):Int)=0 from rfl] at h
  show (addr_Mask.l0 bits 0 (mkA V l)>>=fun q5=>some q5)=_
  rw [h];rfl
def bit(l:List UInt8)(i:Nat):Nat:=bg l (i/8)/2 ^ (7-i%8)%2
theorem digit_loop(i:Nat)(hi:i<9223372036854775808):∀ (k n:Nat),n<256→i%8+k≤7→crawlwayref10_digit.l0 (i:Int) (n:Int) ((i%8+k:Nat):Int)=some ((n/2 ^ k:Nat):Int):=by
 intro k
 have hm:Int.tmod (i:Int) 8=((i%8:Nat):Int):=by rw [Int.tmod_eq_emod_of_nonneg (by omega)];omega
 induction k with
 | zero =>
  intro n hn hk
  rw [crawlwayref10_digit.l0.eq_def,hm,if_neg (by rw [decide_eq_true_eq];omega),Nat.pow_zero,Nat.div_one]
 | succ k ih =>
  intro n hn hk
  have e1:wr .i64 (Int.tdiv (n:Int) 2)=((n/2:Nat):Int):=by
   have:Int.tdiv (n:Int) 2=((n/2:Nat):Int):=by rw [Int.tdiv_eq_ediv_of_nonneg (by omega)];omega
   rw [this,wr_i64 (by omega) (by omega)]
  have e2:wr .i64 (((i%8+(k+1):Nat):Int)-1)=((i%8+k:Nat):Int):=by rw [wr_i64 (by omega) (by omega)];omega
  rw [crawlwayref10_digit.l0.eq_def,hm,if_pos (decide_eq_true (by omega)),e1,e2,ih (n/2) (by omega) (by omega),Nat.div_div_eq_div_mul]
  rw [Nat.pow_succ,Nat.mul_comm]
theorem digit_ref{V:Int}{l:List UInt8}(hl:l.length=16)(i:Nat)(hi:i<128):crawlwayref10_digit (mkA V l) (i:Int)=some ((bit l i:Nat):Int):=by
 have hd:wr .i64 (Int.tdiv (i:Int) 8)=((i/8:Nat):Int):=by
  have:Int.tdiv (i:Int) 8=((i/8:Nat):Int):=by rw [Int.tdiv_eq_ediv_of_nonneg (by omega)];omega
  rw [this,wr_i64 (by omega) (by omega)]
 have hb:=bg_lt l (i/8)
 unfold crawlwayref10_digit
 rw [hd,if_pos (by omega)]
 show (crawlwayref10_digit.l0 (i:Int) (wr .i64 (vget (vb l) ((i/8:Nat):Int))) 7>>=fun q3=>some (Int.tmod q3 2))=_
 rw [vget_vb hl _ (by omega),wr_i64 (by omega) (by omega)]
 have h:=digit_loop i (by omega) (7-i%8) (bg l (i/8)) hb (by omega)
 rw [show i%8+(7-i%8)=7 by omega,show ((7:Nat):Int)=7 from rfl] at h
 rw [h,bindM_some]
 unfold bit
 refine congrArg some ?_
 have:=Int.tmod_eq_emod_of_nonneg (a:=((bg l (i/8)/2 ^ (7-i%8):Nat):Int)) (b:=2) (Int.natCast_nonneg _)
 rw [this];exact (Int.natCast_emod _ 2).symm
theorem bit_lt(l:List UInt8)(i:Nat):bit l i<2:=Nat.mod_lt _ (by omega)
def lftN(t q:Nat):Nat:=min (t-8*q) 8
def refm(l:List UInt8)(t:Nat):List UInt8:=l.mapIdx fun q b=>mb b (lftN t q)
theorem refm_len(l:List UInt8)(t:Nat):(refm l t).length=l.length:=by simp [refm]
theorem refm_get(l:List UInt8)(t i:Nat):(refm l t)[i]? = (l[i]?).map fun b=>mb b (lftN t i):=by
 unfold refm;rw [List.getElem?_mapIdx]
theorem refm_step(l:List UInt8)(hl:l.length=16)(i:Nat)(hi:i<128):refm l (i+1)=(refm l i).set (i/8) (mb (l.getD (i/8) 0) (i%8+1)):=by
 apply List.ext_getElem?
 intro j
 rw [List.getElem?_set,refm_get,refm_get]
 by_cases hj:i/8=j
 ·subst hj
  have hlt:i/8<(refm l i).length:=by rw [refm_len];omega
  have hc:l[i/8]? = some l[i/8]:=List.getElem?_eq_getElem (by omega)
  have e:lftN (i+1) (i/8)=i%8+1:=by unfold lftN;omega
  rw [if_pos rfl,if_pos hlt,hc,List.getD_eq_getElem?_getD,hc,e];rfl
 ·rw [if_neg hj]
  have:lftN (i+1) j=lftN i j:=by unfold lftN;omega
  rw [this]
theorem refMask_l1(i:Nat)(hi:i<9223372036854775808):∀ (k j n:Nat),n<256→j+k=i%8→crawlwayref10_Mask.l1 (i:Int) (n:Int) (j:Int)=some ((n/2 ^ k:Nat):Int):=by
 intro k
 have hm:Int.tmod (i:Int) 8=((i%8:Nat):Int):=by rw [Int.tmod_eq_emod_of_nonneg (by omega)];omega
 induction k with
 | zero =>
  intro j n hn hk
  rw [crawlwayref10_Mask.l1.eq_def,hm,if_neg (by rw [decide_eq_true_eq];omega),Nat.pow_zero,Nat.div_one]
 | succ k ih =>
  intro j n hn hk
  have e1:wr .i64 (Int.tdiv (n:Int) 2)=((n/2:Nat):Int):=by
   have:Int.tdiv (n:Int) 2=((n/2:Nat):Int):=by rw [Int.tdiv_eq_ediv_of_nonneg (by omega)];omega
   rw [this,wr_i64 (by omega) (by omega)]
  have e2:wr .i64 ((j:Int)+1)=((j+1:Nat):Int):=by rw [wr_i64 (by omega) (by omega)];omega
  rw [crawlwayref10_Mask.l1.eq_def,hm,if_pos (decide_eq_true (by omega)),e1,e2,ih (j+1) (n/2) (by omega) (by omega),Nat.div_div_eq_div_mul]
  rw [Nat.pow_succ,Nat.mul_comm]
theorem refMask_loop(V bits:Int)(l:List UInt8)(hl:l.length=16)(w:Nat)(hw:w≤128):∀ (k i:Nat),i+k=min w bits.toNat →
  crawlwayref10_Mask.l0 (mkA V l) bits (w:Int) (i:Int) (mkA V (refm l i))=some (mkA V (refm l (min w bits.toNat))):=by
 intro k
 induction k with
 | zero =>
  intro i hi
  rw [crawlwayref10_Mask.l0.eq_def]
  by_cases h1:i<w
  ·have hb:decide ((i:Int)<bits)=false:=decide_eq_false (by omega)
   rw [if_pos (decide_eq_true (by omega)),hb,if_neg Bool.false_ne_true,show i=min w bits.toNat by omega]
  ·rw [if_neg (by rw [decide_eq_true_eq];omega),show i=min w bits.toNat by omega]
 | succ k ih =>
  intro i hi
  have hi128:i<128:=by omega
  have hd:wr .i64 (Int.tdiv (i:Int) 8)=((i/8:Nat):Int):=by
   have:Int.tdiv (i:Int) 8=((i/8:Nat):Int):=by rw [Int.tdiv_eq_ediv_of_nonneg (by omega)];omega
   rw [this,wr_i64 (by omega) (by omega)]
  have hi1:wr .i64 ((i:Int)+1)=((i+1:Nat):Int):=by rw [wr_i64 (by omega) (by omega)];omega
  have hl1:=refMask_l1 i (by omega) (i%8) 0 128 (by omega) (by omega)
  rw [show ((128:Nat):Int)=128 from rfl,show ((0:Nat):Int)=0 from rfl] at hl1
  have hc:l[i/8]? = some l[i/8]:=List.getElem?_eq_getElem (by omega)
  generalize hcc:l[i/8]=c at hc
  have hgd:l.getD (i/8) 0=c:=by rw [List.getD_eq_getElem?_getD,hc];rfl
  have hbit:bit l i=c.toNat/2 ^ (7-i%8)%2:=by unfold bit;rw [bg_get hc]
  have hst:=mb_step c (i%8) (by omega)
  have hlt:=(mb c (i%8+1)).toNat_lt
  have hrl:(refm l i).length=16:=by rw [refm_len];exact hl
  have hri:(refm l i)[i/8]? = some (mb c (i%8)):=by
   have e:lftN i (i/8)=i%8:=by unfold lftN;omega
   rw [refm_get,hc,e];rfl
  have hstep:=refm_step l hl i hi128
  rw [hgd] at hstep
  rw [crawlwayref10_Mask.l0.eq_def,if_pos (decide_eq_true (by omega)),if_pos (decide_eq_true (by omega)),digit_ref hl i hi128,bindM_some,hl1,bindM_some,hd,hi1]
  by_cases hb:bit l i=1
  ·have hbb:(((bit l i:Nat):Int)==1)=true:=by rw [hb];rfl
   rw [hbb,if_pos rfl,if_pos (by omega),if_pos (by omega)]
   have hset:({ mkA V (refm l i) with f_B:=vset (mkA V (refm l i)).f_B ((i/8:Nat):Int) (wr .u8 ((vget (mkA V (refm l i)).f_B ((i/8:Nat):Int))+(wr .u8 ((128/2 ^ (i%8):Nat):Int)))) }:S_api_Addr)=mkA V (refm l (i+1)):=by
    show S_api_Addr.mk V (vset (vb (refm l i)) ((i/8:Nat):Int) (wr .u8 ((vget (vb (refm l i)) ((i/8:Nat):Int))+(wr .u8 ((128/2 ^ (i%8):Nat):Int)))))=_
    have hq:128/2 ^ (i%8)<256:=Nat.lt_of_le_of_lt (Nat.div_le_self _ _) (by omega)
    have e6:wr .u8 ((128/2 ^ (i%8):Nat):Int)=((128/2 ^ (i%8):Nat):Int):=by
     generalize 128/2 ^ (i%8)=z at hq
     exact wr_u8 (by omega) (by omega)
    rw [vget_vb hrl _ (by omega),bg_get hri,e6]
    have e5:wr .u8 (((mb c (i%8)).toNat:Int)+((128/2 ^ (i%8):Nat):Int))=((mb c (i%8+1)).toNat:Int):=by
     rw [hst,←hbit,hb,Nat.one_mul] at hlt
     rw [hst,←hbit,hb,Nat.one_mul]
     generalize 128/2 ^ (i%8)=z at hlt
     rw [wr_u8 (by omega) (by omega)];omega
    rw [e5,vset_vb hrl,←hstep];rfl
   rw [hset]
   exact ih (i+1) (by omega)
  ·have h0:bit l i=0:=by have:=bit_lt l i;omega
   have hbb:(((bit l i:Nat):Int)==1)=false:=by rw [h0];rfl
   rw [hbb,if_neg Bool.false_ne_true]
   have:refm l (i+1)=refm l i:=by
    rw [hstep]
    have e6:mb c (i%8+1)=mb c (i%8):=by
     apply UInt8.toNat.inj
     rw [hst,←hbit,h0];omega
    rw [e6]
    apply List.ext_getElem?
    intro j
    rw [List.getElem?_set]
    by_cases hj:i/8=j
    ·subst hj;rw [if_pos rfl,if_pos (by omega),hri]
    ·rw [if_neg hj]
   rw [←this]
   exact ih (i+1) (by omega)
theorem refm_zero(l:List UInt8)(hl:l.length=16):refm l 0=List.replicate 16 0:=by
 apply List.ext_getElem?
 intro j
 rw [refm_get]
 by_cases hj:j<16
 ·have hc:l[j]? = some l[j]:=List.getElem?_eq_getElem (by omega)
  rw [hc,List.getElem?_replicate,if_pos hj]
  have e:lftN 0 j=0:=by unfold lftN;omega
  rw [e]
  exact congrArg some (mb_zero _)
 ·rw [List.getElem?_eq_none (by omega),List.getElem?_eq_none (by simp;omega)];rfl
theorem refm_full{V bits:Int}{l:List UInt8}(hl:l.length=16)(hr:rightL V l=true):refm l (min (widthL V l) bits.toNat)=mfull l bits:=by
 apply List.ext_getElem?
 intro j
 rw [refm_get,mfull_get]
 by_cases hj:j<16
 ·have hc:l[j]? = some l[j]:=List.getElem?_eq_getElem (by omega)
  rw [hc]
  show some _=some _
  congr 1
  rcases right_cases hr with h6 | ⟨h4,hlow⟩
  ·have hw:widthL V l=128:=by unfold widthL;rw [if_pos hr,if_neg (by omega)]
   have:lftN (min (widthL V l) bits.toNat) j=lft bits j:=by rw [hw];unfold lftN lft;omega
   rw [this]
  ·have hw:widthL V l=32:=by unfold widthL;rw [if_pos hr,if_pos h4]
   by_cases hj4:j<4
   ·have:lftN (min (widthL V l) bits.toNat) j=lft bits j:=by rw [hw];unfold lftN lft;omega
    rw [this]
   ·have hz:l[j]=0:=by
     have h1:=(low_iff hl).1 hlow
     have h2:l[j]? = some 0:=by
      rw [h1];unfold fourL
      rw [List.getElem?_append_right (by simp;omega),List.getElem?_replicate,if_pos (by simp;omega)]
     rw [hc] at h2;exact Option.some.inj h2
    rw [hz]
    exact (mb_of_zero _).trans (mb_of_zero _).symm
 ·rw [List.getElem?_eq_none (by omega)];rfl
theorem mask_ref{V bits:Int}{l:List UInt8}(hl:l.length=16):crawlwayref10_Mask (mkA V l) bits=some (maskA V l bits):=by
 unfold crawlwayref10_Mask maskA
 rw [right_ref hl,bindM_some]
 cases hr:rightL V l
 ·show some _=_
  rw [zero_mkA];rfl
 ·have h:=refMask_loop V bits l hl (widthL V l) width_le (min (widthL V l) bits.toNat) 0 (by omega)
  rw [refm_zero l hl,show ((0:Nat):Int)=0 from rfl,refm_full hl hr] at h
  show (crawlwayref10_Width (mkA V l)>>=fun t6=>crawlwayref10_Mask.l0 (mkA V l) bits t6 0 (S_api_Addr.mk V (Vector.replicate 16 (0:Int)))>>=fun q7=>some q7)=_
  rw [width_ref hl,bindM_some,zero_vb]
  show (crawlwayref10_Mask.l0 (mkA V l) bits _ 0 (mkA V (List.replicate 16 0))>>=fun q7=>some q7)=_
  rw [h];rfl
end Go.Proofs.YtahlbjmafceoeaaGreatDoor.Adr
namespace Go.Proofs.YtahlbjmafceoeaaGreatDoor.Cid
open E Go.RowKit
open Adr
def mkP(A:S_api_Addr)(b:Int):S_api_Prefix:={ f_A:=A,f_Bits:=b }
def zP:S_api_Prefix:={ f_A:=({ f_V:=(0:Int),f_B:=(Vector.replicate 16 (0:Int):(Vector Int 16)) }:S_api_Addr),f_Bits:=(0:Int) }
theorem exists_mkP(a:S_api_Prefix)(h:ok_api_Prefix a):∃ V l b,a=mkP (mkA V l) b∧l.length=16∧(Lit.int .i64 b).wf=true:=by
 obtain ⟨V,l,hA,hl,_⟩:=exists_mkA a.f_A h.1
 refine ⟨V,l,a.f_Bits,?_,hl,h.2⟩
 cases a with | mk A n =>
 simp only at hA
 subst hA;rfl
theorem mkP_inj{V W:Int}{l k:List UInt8}{b c:Int}(hl:l.length=16)(hk:k.length=16):mkP (mkA V l) b=mkP (mkA W k) c↔(V=W∧l=k)∧b=c:=by
 unfold mkP
 rw [S_api_Prefix.mk.injEq,mkA_inj hl hk]
def fits(V:Int)(l:List UInt8)(b:Int):Bool:=rightL V l&&(decide (0≤b)&&decide (b≤(widthL V l:Int)))
theorem fits_iff{V:Int}{l:List UInt8}{b:Int}:fits V l b=true↔rightL V l=true∧0≤b∧b≤(widthL V l:Int):=by
 unfold fits
 simp only [Bool.and_eq_true,decide_eq_true_eq]
def ofP(V:Int)(l:List UInt8)(b:Int):S_api_Prefix×Int:=if rightL V l=true then (if fits V l b=true then (mkP (mkA V (mfull l b)) b,0) else (zP,6)) else (zP,1)
theorem of_code{V b:Int}{l:List UInt8}(hl:l.length=16):cidr_Of (mkA V l) b=some (ofP V l b):=by
 unfold cidr_Of ofP
 rw [right_code hl,bindM_some]
 have hw:=width_le (V:=V) (l:=l)
 cases hr:rightL V l with
 | false=>rfl
 | true =>
  rw [if_neg (show ¬ (!true)=true by decide),if_pos rfl]
  by_cases h0:b<0
  ·have hf:¬ fits V l b=true:=fun h=>by have:=(fits_iff.1 h).2.1;omega
   rw [if_pos (decide_eq_true h0),if_neg hf];rfl
  ·rw [if_neg (by rw [decide_eq_true_eq];exact h0),width_code hl,bindM_some]
   by_cases h1:b>(widthL V l:Int)
   ·have hf:¬ fits V l b=true:=fun h=>by have:=(fits_iff.1 h).2.2;omega
    rw [if_pos (decide_eq_true h1),if_neg hf];rfl
   ·have hf:fits V l b=true:=fits_iff.2 ⟨hr,by omega,by omega⟩
    rw [if_neg (by rw [decide_eq_true_eq];exact h1),mask_code hl (by omega),bindM_some,if_pos hf]
    unfold maskA
    rw [if_pos hr];rfl
def rightP(V:Int)(l:List UInt8)(b:Int):Bool:=fits V l b&&decide (mfull l b=l)
theorem rightP_iff{V:Int}{l:List UInt8}{b:Int}:rightP V l b=true↔(rightL V l=true∧0≤b∧b≤(widthL V l:Int))∧mfull l b=l:=by
 unfold rightP
 rw [Bool.and_eq_true,fits_iff,decide_eq_true_eq]
theorem mlen{l:List UInt8}(hl:l.length=16)(b:Int):(mfull l b).length=16:=by rw [mfull_len,hl]
theorem cright_code{V b:Int}{l:List UInt8}(hl:l.length=16):cidr_Right (mkP (mkA V l) b)=some (rightP V l b):=by
 unfold cidr_Right
 show (cidr_Of (mkA V l) b>>=fun t2=>if (t2.2==0)=true then some (decide (t2.1=mkP (mkA V l) b)) else some false)=_
 rw [of_code hl,bindM_some]
 unfold ofP rightP
 cases hr:rightL V l with
 | false =>
  have hf:fits V l b=false:=by unfold fits;rw [hr];rfl
  rw [hf];rfl
 | true =>
  rw [if_pos rfl]
  cases hf:fits V l b with
  | false=>rfl
  | true =>
   rw [if_pos rfl]
   show (if ((0:Int)==0)=true then some (decide (mkP (mkA V (mfull l b)) b=mkP (mkA V l) b)) else some false)=_
   rw [if_pos (by rfl),Bool.true_and]
   refine congrArg some ?_
   rw [decide_eq_decide,mkP_inj (mlen hl b) hl]
   exact ⟨fun h=>h.1.2,fun h=>⟨⟨rfl,h⟩,rfl⟩⟩
theorem cright_ref{V b:Int}{l:List UInt8}(hl:l.length=16):crawlwayref11_Right (mkP (mkA V l) b)=some (rightP V l b):=by
 unfold crawlwayref11_Right rightP
 show (crawlwayref10_Right (mkA V l)>>=fun t2=>if (!t2)=true then some false else (if decide (b<0)=true then some false else (crawlwayref10_Width (mkA V l)>>=fun t5=>if decide (b>t5)=true then some false else (crawlwayref10_Mask (mkA V l) b>>=fun t7=>some (decide (mkA V l=t7))))))=_
 rw [right_ref hl,bindM_some]
 cases hr:rightL V l with
 | false =>
  have hf:fits V l b=false:=by unfold fits;rw [hr];rfl
  rw [hf];rfl
 | true =>
  rw [if_neg (show ¬ (!true)=true by decide)]
  by_cases h0:b<0
  ·have hf:fits V l b=false:=by cases h:fits V l b with | false=>rfl | true=>have:=(fits_iff.1 h).2.1;omega
   rw [if_pos (decide_eq_true h0),hf];rfl
  ·rw [if_neg (by rw [decide_eq_true_eq];exact h0),width_ref hl,bindM_some]
   by_cases h1:b>(widthL V l:Int)
   ·have hf:fits V l b=false:=by cases h:fits V l b with | false=>rfl | true=>have:=(fits_iff.1 h).2.2;omega
    rw [if_pos (decide_eq_true h1),hf];rfl
   ·have hf:fits V l b=true:=fits_iff.2 ⟨hr,by omega,by omega⟩
    rw [if_neg (by rw [decide_eq_true_eq];exact h1),mask_ref hl,bindM_some,hf,Bool.true_and]
    unfold maskA
    rw [if_pos hr]
    refine congrArg some ?_
    rw [decide_eq_decide,mkA_inj hl (mlen hl b)]
    exact ⟨fun h=>h.2.symm,fun h=>⟨rfl,h.symm⟩⟩
end Go.Proofs.YtahlbjmafceoeaaGreatDoor.Cid
namespace Go.Proofs.YtahlbjmafceoeaaGreatDoor
open E Go.RowKit _root_.Go.Proofs.Tryz
def hostport_Right(x0:S_api_Endpoint):Option (Bool) :=
 addr_Right x0.f_A>>=fun t2=>if t2=true then (if (decide (x0.f_Port≥1))=true then (some (decide (x0.f_Port≤65535))) else (some false)) else (some false)
theorem hostport_Right_ok(x0:S_api_Endpoint)(r:Bool)(hF:hostport_Right x0=some r)(w:World) :
    Calls Tryz.prog 46 #[.agg (Cd.cs c_api_Endpoint x0).toArray] w (fun e w'=>e=.returned (.bool r)∧Below w.heap.size w w'):=by
 unfold hostport_Right at hF
 refine ce (l:=[.agg (Cd.cs c_api_Endpoint x0).toArray]) func46 rfl rfl ?_
 refine at_start ?_
 refine sr ?_
 refine at_box (cs:=Cd.cs c_api_Endpoint x0) rfl rfl rfl ?_
 intro b1
 refine aa (nwx [1] ?_)
 refine fa 0 underlying56 rfl sizeOf36 ?_
 refine aw (r_load_aggc (c:=c_api_Addr) (z:=x0.f_A) isAgg36 sizeOf36 rfl (lens_cell .z (Lens.comp lw (fun z=>{ x0 with f_A:=z }) (c_api_Endpoint_f_A x0)))) ?_
 obtain ⟨t2,ht2,hF⟩:=bM hF
 refine cB func71 rfl (fun w hw=>addr_Right_ok _ _ ht2 w) ?_
 refine am ?_
 obtain ⟨h3,hF⟩|⟨h3,hF⟩:=oi hF
 ·refine fx 6 h3 ?_
  refine gy ?_
  refine fa 17 underlying56 rfl sizeOf3 ?_
  refine gy ?_
  refine aw (r_load_cell isAgg3 rfl (lens_cell0 (c:=(cInt .i64)) (y:=x0.f_Port) .z (Lens.comp lw (fun z=>{ x0 with f_Port:=z }) (c_api_Endpoint_f_Port x0)) rfl)) ?_
  refine gy ?_
  refine aw (r_igeq rfl rfl) ?_
  refine aw xp (am ?_)
  obtain ⟨h4,hF⟩|⟨h4,hF⟩:=oi hF
  ·refine fx 11 h4 ?_
   refine gy ?_
   refine fa 17 underlying56 rfl sizeOf3 ?_
   refine gy ?_
   refine aw (r_load_cell isAgg3 rfl (lens_cell0 (c:=(cInt .i64)) (y:=x0.f_Port) .z (Lens.comp lw (fun z=>{ x0 with f_Port:=z }) (c_api_Endpoint_f_Port x0)) rfl)) ?_
   refine gy ?_
   refine aw (r_ileq rfl rfl) ?_
   refine aw xp (aa (qn (dz (wq [2] ?_))))
   refine tn (qt ?_)
   have K:=os hF
   subst K
   exact r1 wb
  refine fx 11 h4 ?_
  refine gn ?_
  refine gn ?_
  refine gn ?_
  refine aw xp (aa (qn (dz (wq [2] ?_))))
  refine tn (qt ?_)
  have K:=os hF
  subst K
  exact r1 wb
 refine fx 6 h3 ?_
 refine gn ?_
 refine gn ?_
 refine gn ?_
 refine aw xp (am ?_)
 refine gn ?_
 refine gn ?_
 refine gn ?_
 refine aw xp (aa (qn (dz (wq [2] ?_))))
 refine tn (qt ?_)
 have K:=os hF
 subst K
 exact r1 wb
def hostport_None(x0:S_api_Endpoint):Option (Bool) :=
 some (decide (x0=({ f_A:=({ f_V:=(0:Int),f_B:=(Vector.replicate 16 (0:Int):(Vector Int 16)) }:S_api_Addr),f_Port:=(0:Int) }:S_api_Endpoint)))
theorem hostport_None_ok(x0:S_api_Endpoint)(r:Bool)(hF:hostport_None x0=some r)(w:World) :
    Calls Tryz.prog 45 #[.agg (Cd.cs c_api_Endpoint x0).toArray] w (fun e w'=>e=.returned (.bool r)∧Below w.heap.size w w'):=by
 unfold hostport_None at hF
 refine ce (l:=[.agg (Cd.cs c_api_Endpoint x0).toArray]) func45 rfl rfl ?_
 refine at_start ?_
 refine sr ?_
 refine at_box (cs:=Cd.cs c_api_Endpoint x0) rfl rfl rfl ?_
 intro b1
 refine aa (ns ?_)
 refine aw (r_load_aggc (c:=c_api_Endpoint) (z:=x0) isAgg56 sizeOf56 rfl (lens_cell .z lw)) ?_
 refine aw (r_build_struct (zs:=Cd.cs c_api_Endpoint zv7) (cs:=Cd.cs c_api_Endpoint zv7) underlying56 zeroValue56 rfl (places_api_Endpoint_56) rfl rfl) ?_
 refine aw (r_eqagg (c:=c_api_Endpoint) (a:=x0) (b:=zv7) (eq_api_Endpoint_56) rfl Tryz.eqGuardType56 rfl rfl (.inl rfl) rfl) ?_
 refine aa (qn (dz (wq [2] ?_)))
 refine tn (qt ?_)
 have K:=os hF
 subst K
 exact r1 wb
def crawlwayref12_Right(x0:S_api_Endpoint):Option (Bool) :=
 crawlwayref10_Right x0.f_A>>=fun t2=>if t2=true then (if (decide (x0.f_Port≥1))=true then (some (decide (x0.f_Port≤65535))) else (some false)) else (some false)
theorem crawlwayref12_Right_ok(x0:S_api_Endpoint)(r:Bool)(hF:crawlwayref12_Right x0=some r)(w:World) :
    Calls Tryz.prog 39 #[.agg (Cd.cs c_api_Endpoint x0).toArray] w (fun e w'=>e=.returned (.bool r)∧Below w.heap.size w w'):=by
 unfold crawlwayref12_Right at hF
 refine ce (l:=[.agg (Cd.cs c_api_Endpoint x0).toArray]) func39 rfl rfl ?_
 refine at_start ?_
 refine sr ?_
 refine at_box (cs:=Cd.cs c_api_Endpoint x0) rfl rfl rfl ?_
 intro b1
 refine aa (nwx [1] ?_)
 refine fa 0 underlying56 rfl sizeOf36 ?_
 refine aw (r_load_aggc (c:=c_api_Addr) (z:=x0.f_A) isAgg36 sizeOf36 rfl (lens_cell .z (Lens.comp lw (fun z=>{ x0 with f_A:=z }) (c_api_Endpoint_f_A x0)))) ?_
 obtain ⟨t2,ht2,hF⟩:=bM hF
 refine cB func65 rfl (fun w hw=>crawlwayref10_Right_ok _ _ ht2 w) ?_
 refine am ?_
 obtain ⟨h3,hF⟩|⟨h3,hF⟩:=oi hF
 ·refine fx 6 h3 ?_
  refine gy ?_
  refine fa 17 underlying56 rfl sizeOf3 ?_
  refine gy ?_
  refine aw (r_load_cell isAgg3 rfl (lens_cell0 (c:=(cInt .i64)) (y:=x0.f_Port) .z (Lens.comp lw (fun z=>{ x0 with f_Port:=z }) (c_api_Endpoint_f_Port x0)) rfl)) ?_
  refine gy ?_
  refine aw (r_igeq rfl rfl) ?_
  refine aw xp (am ?_)
  obtain ⟨h4,hF⟩|⟨h4,hF⟩:=oi hF
  ·refine fx 11 h4 ?_
   refine gy ?_
   refine fa 17 underlying56 rfl sizeOf3 ?_
   refine gy ?_
   refine aw (r_load_cell isAgg3 rfl (lens_cell0 (c:=(cInt .i64)) (y:=x0.f_Port) .z (Lens.comp lw (fun z=>{ x0 with f_Port:=z }) (c_api_Endpoint_f_Port x0)) rfl)) ?_
   refine gy ?_
   refine aw (r_ileq rfl rfl) ?_
   refine aw xp (aa (qn (dz (wq [2] ?_))))
   refine tn (qt ?_)
   have K:=os hF
   subst K
   exact r1 wb
  refine fx 11 h4 ?_
  refine gn ?_
  refine gn ?_
  refine gn ?_
  refine aw xp (aa (qn (dz (wq [2] ?_))))
  refine tn (qt ?_)
  have K:=os hF
  subst K
  exact r1 wb
 refine fx 6 h3 ?_
 refine gn ?_
 refine gn ?_
 refine gn ?_
 refine aw xp (am ?_)
 refine gn ?_
 refine gn ?_
 refine gn ?_
 refine aw xp (aa (qn (dz (wq [2] ?_))))
 refine tn (qt ?_)
 have K:=os hF
 subst K
 exact r1 wb
end Go.Proofs.YtahlbjmafceoeaaGreatDoor
namespace Go.Proofs.YtahlbjmafceoeaaGreatDoor
open E Go.RowKit _root_.Go.Proofs.Tryz
def cidr_Text(x0:S_api_Prefix):Option (ByteArray) :=
 cidr_Right x0>>=fun t2=>if (!t2)=true then (some (⟨#[]⟩)) else (addr_Text x0.f_A>>=fun t4=>if t4.size+(⟨#[47]⟩:ByteArray).size≤140737488355328 then decimal_Text (wr .u64 x0.f_Bits)>>=fun t6=>if (t4++(⟨#[47]⟩:ByteArray)).size+t6.size≤140737488355328 then some ((t4++(⟨#[47]⟩:ByteArray))++t6) else none else none)
theorem cidr_Text_ok(x0:S_api_Prefix)(r:ByteArray)(hF:cidr_Text x0=some r)(w:World)(hg_strconv_uint64pow10:GV_strconv_uint64pow10 w) :
    Calls Tryz.prog 36 #[.agg (Cd.cs c_api_Prefix x0).toArray] w (fun e w'=>e=.returned (.string r)∧Below w.heap.size w w'):=by
 unfold cidr_Text at hF
 refine ce (l:=[.agg (Cd.cs c_api_Prefix x0).toArray]) func36 rfl rfl ?_
 refine at_start ?_
 refine sr ?_
 refine at_box (cs:=Cd.cs c_api_Prefix x0) rfl rfl rfl ?_
 intro b1
 refine aa (nt (qs (sr ?_)))
 refine aw (r_load_aggc (c:=c_api_Prefix) (z:=x0) isAgg38 sizeOf38 rfl (lens_cell .z lw)) ?_
 obtain ⟨t2,ht2,hF⟩:=bM hF
 refine cB func61 rfl (fun w hw=>cidr_Right_ok _ _ ht2 w) ?_
 refine aw (r_not rfl) ?_
 refine nwq [5,1] ?_
 obtain ⟨h3,hF⟩|⟨h3,hF⟩:=oi hF
 ·refine ct h3 ?_
  refine sr (aa (qn (dz (wq [2] ?_))))
  refine tn (rt ?_)
  have K:=os hF
  subst K
  exact r1 wb
 refine cf h3 ?_
 refine sn (qs ?_)
 refine at_draw (by kernel_rfl) (by kernel_rfl) (fun _ h=>h.drew) ?_
 refine atq_val rfl rfl rfl (r_fieldAddr (fo:=0) underlying38 rfl rfl (fun w=>⟨_,sizeOf36 w⟩) rfl) ?_
 refine atq_val rfl rfl rfl (r_load_aggc (c:=c_api_Addr) (z:=x0.f_A) isAgg36 sizeOf36 rfl (lens_cell .z (Lens.comp lw (fun z=>{ x0 with f_A:=z }) (c_api_Prefix_f_A x0)))) ?_
 obtain ⟨t4,ht4,hF⟩:=bM hF
 refine atq_call func62 rfl (by kernel_rfl) rfl rfl (fun w hw=>(addr_Text_ok _ _ ht4 w (hg_strconv_uint64pow10.on hw.below)).mono fun _ _ h=>⟨h.1,hw.call h.2⟩) ?_
 obtain ⟨h5,hF⟩:=gd hF
 refine atq_val rfl rfl rfl (r_concat rfl rfl h5) ?_
 refine atq_val rfl rfl rfl (r_fieldAddr (fo:=17) underlying38 rfl rfl (fun w=>⟨_,sizeOf3 w⟩) rfl) ?_
 refine atq_val rfl rfl rfl (r_load_cell isAgg3 rfl (lens_cell0 (c:=(cInt .i64)) (y:=x0.f_Bits) .z (Lens.comp lw (fun z=>{ x0 with f_Bits:=z }) (c_api_Prefix_f_Bits x0)) rfl)) ?_
 refine atq_val rfl rfl rfl (r_conv underlying3 underlying57 rfl) ?_
 obtain ⟨t6,ht6,hF⟩:=bM hF
 refine atq_call func63 rfl (by kernel_rfl) rfl rfl (fun w hw=>(decimal_Text_ok _ _ ht6 w (hg_strconv_uint64pow10.on hw.below)).mono fun _ _ h=>⟨h.1,hw.call h.2⟩) ?_
 obtain ⟨h7,hF⟩:=gd hF
 refine atq_val rfl rfl rfl (r_concat rfl rfl h7) ?_
 refine atq_val rfl rfl rfl (r_assign rfl) ?_
 refine atq_nil ?_
 refine dz (wq [2] ?_)
 refine tn (qt ?_)
 have K:=os hF
 subst K
 exact r1 wb
end Go.Proofs.YtahlbjmafceoeaaGreatDoor
namespace Go.Proofs.YtahlbjmafceoeaaGreatDoor
open E Go.RowKit _root_.Go.Proofs.Tryz
def keys_Zero(x0:(Vector Int 32)):Option (Bool) :=
 some (decide (x0=(Vector.replicate 32 (0:Int):(Vector Int 32))))
theorem keys_Zero_ok(x0:(Vector Int 32))(r:Bool)(hF:keys_Zero x0=some r)(w:World) :
    Calls Tryz.prog 20 #[.agg (Cd.cs (cVec (cInt .u8) 32 (by decide)) x0).toArray] w (fun e w'=>e=.returned (.bool r)∧Below w.heap.size w w'):=by
 unfold keys_Zero at hF
 refine ce (l:=[.agg (Cd.cs (cVec (cInt .u8) 32 (by decide)) x0).toArray]) func20 rfl rfl ?_
 refine at_start ?_
 refine sr ?_
 refine at_box (cs:=Cd.cs (cVec (cInt .u8) 32 (by decide)) x0) rfl rfl rfl ?_
 intro b1
 refine aa (ns ?_)
 refine aw (r_load_aggc (c:=(cVec (cInt .u8) 32 (by decide))) (z:=x0) isAgg23 sizeOf23 rfl (lens_cell .z lw)) ?_
 refine aw (r_build_array (zs:=Cd.cs (cVec (cInt .u8) 32 (by decide)) zv3) (cs:=Cd.cs (cVec (cInt .u8) 32 (by decide)) zv3) underlying23 zeroValue23 rfl sizeOf5 rfl rfl) ?_
 refine aw (r_eqagg (c:=(cVec (cInt .u8) 32 (by decide))) (a:=x0) (b:=zv3) (eqs_vec underlying23 infoT5 sizeOf5 isAgg5 (.inr rfl) (eqs_int underlying5)) rfl Tryz.eqGuardType23 rfl rfl (.inl rfl) rfl) ?_
 refine aa (qn (dz (wq [2] ?_)))
 refine tn (qt ?_)
 have K:=os hF
 subst K
 exact r1 wb
def crawlwayref07_Zero.l0(x0:(Vector Int 32))(i3:Int):Option (Ctl (Bool) (Unit)) :=
 if (decide (i3<32))=true then (if (0:Int)≤i3∧i3<32 then if (vget x0 i3 != 0)=true then (some (.ret false)) else (crawlwayref07_Zero.l0 x0 (wr .i64 (i3+1))) else none) else (some (.nx ()))
 partial_fixpoint
def crawlwayref07_Zero(x0:(Vector Int 32)):Option (Bool) :=
 crawlwayref07_Zero.l0 x0 0>>=fun q2=>match q2 with | .ret r'=>some r' | .nx sq2=>(some true)
def sixtyfour_Encode.l1(i7:List Int)(i9:ByteArray)(i17:Int)(i18:Int):Option (Int×ByteArray) :=
 if (decide (i18<3))=true then (if (decide (i18<(if 3<(i7.length:Int) then 3 else (i7.length:Int))))=true then (if (0:Int)≤i18∧i18<(i7.length:Int) then sixtyfour_Encode.l1 i7 i9 (ior .u32 (ishl .u32 i17 8) (wr .u32 (lget i7 i18))) (wr .i64 (i18+1)) else none) else (sixtyfour_Encode.l1 i7 i9 (ishl .u32 i17 8) (wr .i64 (i18+1)))) else (some (i17,i9))
 partial_fixpoint
def sixtyfour_Encode.l2(i7:List Int)(q16:Int×ByteArray)(i28:Int)(i29:ByteArray):Option (ByteArray) :=
 if (decide (i28<wr .i64 ((if 3<(i7.length:Int) then 3 else (i7.length:Int))+1)))=true then (if (0:Int)≤wr .u64 (wr .i64 (18-(wr .i64 (6*i28)))) then if (0:Int)≤iand .u32 (ishr .u32 q16.1 (wr .u64 (wr .i64 (18-(wr .i64 (6*i28)))))) 63∧iand .u32 (ishr .u32 q16.1 (wr .u64 (wr .i64 (18-(wr .i64 (6*i28)))))) 63<((⟨#[65,66,67,68,69,70,71,72,73,74,75,76,77,78,79,80,81,82,83,84,85,86,87,88,89,90,97,98,99,100,101,102,103,104,105,106,107,108,109,110,111,112,113,114,115,116,117,118,119,120,121,122,48,49,50,51,52,53,54,55,56,57,43,47]⟩:ByteArray).size:Int) then if (0:Int)≤bt (⟨#[65,66,67,68,69,70,71,72,73,74,75,76,77,78,79,80,81,82,83,84,85,86,87,88,89,90,97,98,99,100,101,102,103,104,105,106,107,108,109,110,111,112,113,114,115,116,117,118,119,120,121,122,48,49,50,51,52,53,54,55,56,57,43,47]⟩:ByteArray) (iand .u32 (ishr .u32 q16.1 (wr .u64 (wr .i64 (18-(wr .i64 (6*i28)))))) 63)∧bt (⟨#[65,66,67,68,69,70,71,72,73,74,75,76,77,78,79,80,81,82,83,84,85,86,87,88,89,90,97,98,99,100,101,102,103,104,105,106,107,108,109,110,111,112,113,114,115,116,117,118,119,120,121,122,48,49,50,51,52,53,54,55,56,57,43,47]⟩:ByteArray) (iand .u32 (ishr .u32 q16.1 (wr .u64 (wr .i64 (18-(wr .i64 (6*i28)))))) 63)<256 then if i29.size+1≤140737488355328 then sixtyfour_Encode.l2 i7 q16 (wr .i64 (i28+1)) (i29.push (UInt8.ofNat (Int.toNat (bt (⟨#[65,66,67,68,69,70,71,72,73,74,75,76,77,78,79,80,81,82,83,84,85,86,87,88,89,90,97,98,99,100,101,102,103,104,105,106,107,108,109,110,111,112,113,114,115,116,117,118,119,120,121,122,48,49,50,51,52,53,54,55,56,57,43,47]⟩:ByteArray) (iand .u32 (ishr .u32 q16.1 (wr .u64 (wr .i64 (18-(wr .i64 (6*i28)))))) 63))))) else none else none else none else none) else (some i29)
 partial_fixpoint
def sixtyfour_Encode.l0(i7:List Int)(i9:ByteArray):Option (ByteArray) :=
 if (decide ((i7.length:Int)>0))=true then (sixtyfour_Encode.l1 i7 i9 0 0>>=fun q16=>sixtyfour_Encode.l2 i7 q16 0 q16.2>>=fun q27=>if (0:Int)≤wr .i64 (3-(if 3<(i7.length:Int) then 3 else (i7.length:Int)))∧wr .i64 (3-(if 3<(i7.length:Int) then 3 else (i7.length:Int)))≤9223372036854775807∧((⟨#[61]⟩:ByteArray).size:Int)*(wr .i64 (3-(if 3<(i7.length:Int) then 3 else (i7.length:Int))))≤140737488355328 then if q27.size+(brep (⟨#[61]⟩:ByteArray) (wr .i64 (3-(if 3<(i7.length:Int) then 3 else (i7.length:Int))))).size≤140737488355328 then if (0:Int)≤(if 3<(i7.length:Int) then 3 else (i7.length:Int))∧(if 3<(i7.length:Int) then 3 else (i7.length:Int))≤(i7.length:Int)∧(i7.length:Int)≤(i7.length:Int) then sixtyfour_Encode.l0 (lsub i7 (if 3<(i7.length:Int) then 3 else (i7.length:Int)) (i7.length:Int)) (q27++(brep (⟨#[61]⟩:ByteArray) (wr .i64 (3-(if 3<(i7.length:Int) then 3 else (i7.length:Int)))))) else none else none else none) else (some i9)
 partial_fixpoint
def sixtyfour_Encode(x0:List Int):Option (ByteArray) :=
 sixtyfour_Encode.l0 x0 ByteArray.empty>>=fun q6=>some q6
theorem sixtyfour_Encode_ok(x0:List Int)(p0_:Option Addr)(c0_:Nat)(r:ByteArray)(hF:sixtyfour_Encode x0=some r)(w:World)(hr0:Row (cInt .u8) w p0_ c0_ x0) :
    Calls Tryz.prog 60 #[.slice p0_ x0.length c0_] w (fun e w'=>e=.returned (.string r)∧Below w.heap.size w w'):=by
 unfold sixtyfour_Encode at hF
 refine ce (l:=[.slice p0_ x0.length c0_]) func60 rfl rfl ?_
 refine at_start ?_
 refine sr (aa (ns ?_))
 refine at_alloc_bld (e:=5) zeroValue97 rfl ?_
 intro b1
 refine nwq [3,0] ?_
 refine qs ?_
 refine qb ?_
 obtain ⟨q6,hq6,hF⟩:=bM hF
 refine wq [3,0] ?_
 refine at_loop_n (B:=0) (A:=fun Y=>∀ (g14:Option Nat),At 53 [(3,.pointer (some ⟨b1,0,none⟩))] (Wd w [bldE 97 5 b1 g14 q6]) Y) ?_ ?_
 ·intro K
  refine sixtyfour_Encode.l0.partial_correctness  (motive:=fun i7 i9 x=>KN (fun Y=>∀ (g14:Option Nat),At 53 [(3,.pointer (some ⟨b1,0,none⟩))] (Wd w [bldE 97 5 b1 g14 x]) Y) _ 0→Round (fun Y=>∀ (p10:Option Addr) (c11:Nat) (hr12:Row (cInt .u8) w p10 c11 i7) (g13:Option Nat),At 53 [(0,.slice p10 i7.length c11),(3,.pointer (some ⟨b1,0,none⟩))] (Wd w [bldE 97 5 b1 g13 i9]) Y) _ _ _) ?_ _ _ _ hq6 K p0_ c0_ hr0 none
  ·clear K hF
   intro g ih i7 i9 x hF K p10 c11 hr12 g13
   refine at_round ?_
   refine qs (sr (am ?_))
   refine aw (r_len_sl underlying74 rfl) ?_
   refine aw (r_igtr rfl rfl) ?_
   refine nwq [10,3,0] ?_
   obtain ⟨h15,hF⟩|⟨h15,hF⟩:=oi hF
   ·refine ct h15 ?_
    refine sn ?_
    refine qb ?_
    refine sr (am ?_)
    refine aw (r_len_sl underlying74 rfl) ?_
    refine aw (r_min rfl rfl) ?_
    refine aa (ns (aa (nt (qs (sr (am (nwq [14,5,4,3,0] ?_)))))))
    refine qb ?_
    obtain ⟨q16,hq16,hF⟩:=bM hF
    refine wq [14,5,4,3,0] ?_
    refine at_loop_n (B:=2) (A:=fun Y=>∀ (g19:Option Nat),At 53 [(0,.slice p10 i7.length c11),(3,.pointer (some ⟨b1,0,none⟩)),(4,.int .i64 (if 3<(i7.length:Int) then 3 else (i7.length:Int))),(5,.int .u32 q16.1)] (Wd w [bldE 97 5 b1 g19 q16.2]) Y) ?_ ?_
    ·intro K
     refine sixtyfour_Encode.l1.partial_correctness i7 i9 (motive:=fun i17 i18 x=>KN (fun Y=>∀ (g19:Option Nat),At 53 [(0,.slice p10 i7.length c11),(3,.pointer (some ⟨b1,0,none⟩)),(4,.int .i64 (if 3<(i7.length:Int) then 3 else (i7.length:Int))),(5,.int .u32 x.1)] (Wd w [bldE 97 5 b1 g19 x.2]) Y) _ 2→Round (fun Y=>At 53 [(0,.slice p10 i7.length c11),(3,.pointer (some ⟨b1,0,none⟩)),(4,.int .i64 (if 3<(i7.length:Int) then 3 else (i7.length:Int))),(5,.int .u32 i17),(14,.int .i64 i18)] (Wd w [bldE 97 5 b1 g13 i9]) Y) _ _ _) ?_ _ _ _ hq16 K
     ·clear K hF
      intro g ih i17 i18 x hF K
      refine at_round ?_
      refine sr (aw xl (nwq [15,14,5,4,3,0] ?_))
      refine qs ?_
      obtain ⟨h20,hF⟩|⟨h20,hF⟩:=oi hF
      ·refine ct h20 ?_
       refine sn (qs ?_)
       refine qb ?_
       refine sr (am (aa (ns (am ?_))))
       refine aw (r_ishl rfl rfl (by decide)) ?_
       refine aa (ns (am (am (aw xl (nwq [21,14,6,5,4,3,0] ?_)))))
       obtain ⟨h21,hF⟩|⟨h21,hF⟩:=oi hF
       ·refine ct h21 ?_
        refine qr (am (am (am ?_)))
        obtain ⟨h22,hF⟩:=gd hF
        obtain ⟨b24,o25,hp23⟩:=row_ptr hr12 h22
        refine aw (r_idx underlying74 sizeOf5 rfl rfl h22 hp23) ?_
        refine aw (r_load_cell isAgg5 rfl (row_cell0 (fun _ h=>h.below) hr12 h22 hp23 rfl)) ?_
        refine aw (r_conv underlying5 underlying24 rfl) ?_
        refine aw (r_ior rfl rfl) ?_
        refine aa (qn (wq [14,5,4,3,0] ?_))
        refine bm ?_
        refine qr (aw xa (am (nwq [14,5,4,3,0] ?_)))
        exact at_weak_k (ih _ _ _ hF K) ⟨rfl,rfl,rfl,rfl,rfl,trivial⟩
       refine cf h21 ?_
       refine at_skip ?_
       refine bm ?_
       refine qr (aw xa (am (nwq [14,5,4,3,0] ?_)))
       exact at_weak_k (ih _ _ _ hF K) ⟨rfl,rfl,rfl,rfl,rfl,trivial⟩
      refine cf h20 ?_
      refine at_exit ?_
      refine te (te ?_)
      obtain rfl:=os hF
      exact at_weak_k (K g13) ⟨rfl,rfl,rfl,rfl,trivial⟩
    skip
    intro g19
    refine at_blk_same ?_
    refine tn (qs (sr (am (aw xa (am (nwq [32,31,5,4,3,0] ?_))))))
    refine qb ?_
    obtain ⟨q27,hq27,hF⟩:=bM hF
    refine wq [32,31,5,4,3,0] ?_
    refine at_loop_n (B:=4) (A:=fun Y=>∀ (g31:Option Nat),At 53 [(0,.slice p10 i7.length c11),(3,.pointer (some ⟨b1,0,none⟩)),(4,.int .i64 (if 3<(i7.length:Int) then 3 else (i7.length:Int)))] (Wd w [bldE 97 5 b1 g31 q27]) Y) ?_ ?_
    ·intro K
     refine sixtyfour_Encode.l2.partial_correctness i7 q16 (motive:=fun i28 i29 x=>KN (fun Y=>∀ (g31:Option Nat),At 53 [(0,.slice p10 i7.length c11),(3,.pointer (some ⟨b1,0,none⟩)),(4,.int .i64 (if 3<(i7.length:Int) then 3 else (i7.length:Int)))] (Wd w [bldE 97 5 b1 g31 x]) Y) _ 4→Round (fun Y=>∀ (g30:Option Nat),At 53 [(0,.slice p10 i7.length c11),(3,.pointer (some ⟨b1,0,none⟩)),(4,.int .i64 (if 3<(i7.length:Int) then 3 else (i7.length:Int))),(5,.int .u32 q16.1),(31,.int .i64 (wr .i64 ((if 3<(i7.length:Int) then 3 else (i7.length:Int))+1))),(32,.int .i64 i28)] (Wd w [bldE 97 5 b1 g30 i29]) Y) _ _ _) ?_ _ _ _ hq27 K g19
     ·clear K hF
      intro g ih i28 i29 x hF K g30
      refine at_round ?_
      refine sr (aw xl (nwq [33,32,31,5,4,3,0] ?_))
      refine qs ?_
      obtain ⟨h32,hF⟩|⟨h32,hF⟩:=oi hF
      ·refine ct h32 ?_
       refine sn (qs ?_)
       refine qb ?_
       refine sr (am (aa (nwq [32,31,7,5,4,3,0] ?_)))
       refine qr (am (am ?_))
       refine aw (r_imul rfl rfl) ?_
       refine aw (r_isub rfl rfl) ?_
       refine aw (r_conv underlying3 underlying119 rfl) ?_
       obtain ⟨h33,hF⟩:=gd hF
       refine aw (r_ishr rfl rfl h33) ?_
       refine aw (r_iand rfl rfl) ?_
       obtain ⟨h34,hF⟩:=gd hF
       refine aw (r_index_str underlying9 rfl rfl h34) ?_
       obtain ⟨h36,hF⟩:=gd hF
       obtain ⟨h37,hF⟩:=gd hF
       refine at_bld_byte (c:=bt (⟨#[65,66,67,68,69,70,71,72,73,74,75,76,77,78,79,80,81,82,83,84,85,86,87,88,89,90,97,98,99,100,101,102,103,104,105,106,107,108,109,110,111,112,113,114,115,116,117,118,119,120,121,122,48,49,50,51,52,53,54,55,56,57,43,47]⟩:ByteArray) (iand .u32 (ishr .u32 q16.1 (wr .u64 (wr .i64 (18-(wr .i64 (6*i28)))))) 63)) .z trivial func84 rfl (by kernel_rfl) rfl rfl h36 h37 Tryz.Builder_WriteByte_k ?_
       intro g35
       refine qn (wq [32,31,5,4,3,0] ?_)
       refine bm ?_
       refine qr (aw xa (am (nwq [32,31,5,4,3,0] ?_)))
       exact at_weak_k (ih _ _ _ hF K g35) ⟨rfl,rfl,rfl,rfl,rfl,rfl,trivial⟩
      refine cf h32 ?_
      refine at_exit ?_
      refine te (te ?_)
      obtain rfl:=os hF
      exact at_weak_k (K g30) ⟨rfl,rfl,rfl,trivial⟩
    skip
    intro g31
    refine at_blk_same ?_
    refine tn (sr (am ?_))
    refine aw (r_isub rfl rfl) ?_
    obtain ⟨h38,hF⟩:=gd hF
    refine cB func85 rfl (fun w1 hw=>rep_lift Tryz.strings_Repeat _ _ w1 h38) ?_
    obtain ⟨h40,hF⟩:=gd hF
    refine at_bld_str (s:=(brep (⟨#[61]⟩:ByteArray) (wr .i64 (3-(if 3<(i7.length:Int) then 3 else (i7.length:Int)))))) .z trivial func58 rfl (by kernel_rfl) rfl rfl h40 Tryz.Builder_WriteString_k ?_
    intro g39
    refine nt (qr (am (am ?_)))
    obtain ⟨h41,hF⟩:=gd hF
    refine aw (r_reslice (c:=(cInt .u8)) underlying74 sizeOf5 rfl (Row.len hr12) ⟨_,rfl⟩ rfl h41) ?_
    refine aa (qn (wq [3,0] ?_))
    refine bm ?_
    exact at_weak_k (ih _ _ _ hF K (rsp p10 c11 (if 3<(i7.length:Int) then 3 else (i7.length:Int)) (Cd.sz (cInt .u8))) (c11-Int.toNat (if 3<(i7.length:Int) then 3 else (i7.length:Int))) (Row.sub hr12 h41) g39) ⟨rfl,rfl,trivial⟩
   refine cf h15 ?_
   refine at_exit ?_
   refine te (te ?_)
   obtain rfl:=os hF
   exact at_weak_k (K g13) ⟨rfl,trivial⟩
 skip
 intro g14
 refine at_blk_same ?_
 refine tn (sr ?_)
 refine at_bld_string .z trivial func59 rfl (by kernel_rfl) rfl rfl Tryz.Builder_String_any_k ?_
 intro g42
 refine aa (qn (dz (wq [2] ?_)))
 refine tn (qt ?_)
 have K:=os hF
 subst K
 exact r1 wb
def keys_Text(x0:(Vector Int 32)):Option (ByteArray) :=
 sixtyfour_Encode (Vector.toList x0)>>=fun t2=>some t2
theorem keys_Text_ok(x0:(Vector Int 32))(r:ByteArray)(hF:keys_Text x0=some r)(w:World) :
    Calls Tryz.prog 35 #[.agg (Cd.cs (cVec (cInt .u8) 32 (by decide)) x0).toArray] w (fun e w'=>e=.returned (.string r)∧Below w.heap.size w w'):=by
 unfold keys_Text at hF
 refine ce (l:=[.agg (Cd.cs (cVec (cInt .u8) 32 (by decide)) x0).toArray]) func35 rfl rfl ?_
 refine at_start ?_
 refine sr ?_
 refine at_box (cs:=Cd.cs (cVec (cInt .u8) 32 (by decide)) x0) rfl rfl rfl ?_
 intro b1
 refine aa (ns ?_)
 refine aw (r_slice_vec x0 underlying23 sizeOf5 rfl) ?_
 obtain ⟨t2,ht2,hF⟩:=bM hF
 refine cB func60 rfl (fun w hw=>sixtyfour_Encode_ok _ _ _ _ ht2 w (vec_row (hw.ok (Upd.mem .z)))) ?_
 refine aa (qn (dz (wq [2] ?_)))
 refine tn (qt ?_)
 have K:=os hF
 subst K
 exact r1 wb
end Go.Proofs.YtahlbjmafceoeaaGreatDoor
