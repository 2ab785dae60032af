/-
  DERIVED: THE SHELF's CONTRACTS AT THIS DUMP, IN PLAIN WORDS (tools/lay-plain.mjs out of 'TryzShelf.lean', which tools/lay-shelf.mjs wrote): THE SAME DECLARATIONS UNDER THE SAME NAMES: 'import', 'namespace', 'open', 'def', 'theorem' AND NOTHING ELSE: no command of the shelf's: FOR A HAND-IN. Each laying: the table of numbers ('.._ren') and one theorem, a field a fact of the dump's own or the kernel's comparison; each contract: ONE APPLICATION.
-/
import Derived.Shelf.Strings.Builder1
import Derived.Shelf.Strings.Trim
import Derived.Shelf.Small.Utf8
import Derived.Shelf.Small.Strs
import Derived.Shelf.Strings.Search1
import Derived.Shelf.Strings.Search2
import Derived.Shelf.Strings.Search3
import Derived.Shelf.LaysM
import Derived.Shelf.Strings.Shaped
import Derived.Shelf.Strings.Fields
import Derived.Shelf.Strings.SplitShaped
import Derived.Shelf.Unicode.Latin
import Derived.Shelf.Strings.Runes
import Derived.Shelf.Strings.AsciiSet
import Derived.Shelf.Unicode.DecodeSlow
import Derived.Shelf.Unicode.Is16White
import Derived.Shelf.Unicode.IsSpaceAny
import Derived.Shelf.Unicode.Is16Any
import Derived.Shelf.Unicode.Is32Any
import Derived.Shelf.Unicode.ExclAny
import Derived.Test.YtopjpnhgnopbiaaGreatDoorProg
set_option linter.unusedVariables false
set_option linter.unusedSimpArgs false
set_option linter.unnecessarySimpa false
namespace Go.Proofs
open Go.Shelf
def Tryz.lays169_ren :Go.Shelf.Ren:=⟨fun|169=>31|n=>n,fun|70=>67|9=>9|0=>0|72=>69|37=>34|127=>107|3=>3|5=>5|n=>n,fun|n=>n⟩
theorem Tryz.lays169 :Go.Proofs.Lays.n169 Tryz.prog Tryz.lays169_ren:={
 mixed:=by kernel_rfl
 f169:=Tryz.func31.trans (congrArg some (by kernel_rfl))
 t0:=Tryz.underlying0
 a0:=Tryz.isAgg0
 z0:=Tryz.sizeOf0
 v0:=Tryz.zeroValue0
 t3:=Tryz.underlying3
 a3:=Tryz.isAgg3
 z3:=Tryz.sizeOf3
 v3:=Tryz.zeroValue3
 t9:=Tryz.underlying9
 a9:=Tryz.isAgg9
 z9:=Tryz.sizeOf9
 v9:=Tryz.zeroValue9
 t37:=Tryz.underlying34
 a37:=Tryz.isAgg34
 z37:=Tryz.sizeOf34
 v37:=Tryz.zeroValue34
 t70:=Tryz.underlying67
 a70:=Tryz.isAgg67
 z70:=Tryz.sizeOf67
 v70:=Tryz.zeroValue67
 t72:=Tryz.underlying69
 a72:=Tryz.isAgg69
 z72:=Tryz.sizeOf69
 v72:=Tryz.zeroValue69
 t127:=Tryz.underlying107
 a127:=Tryz.isAgg107
 z127:=Tryz.sizeOf107
 v127:=Tryz.zeroValue107}
theorem Tryz.Builder_Extra_169 :Builder.Extra Tryz.prog Tryz.lays169_ren:={
 sizeBuilder:=by kernel_rfl
 liesBuilder:=by kernel_rfl
 t5:=Tryz.underlying5
 a5:=Tryz.isAgg5
 z5:=Tryz.sizeOf5
 v5:=Tryz.zeroValue5
 infoByte:=by kernel_rfl
 cellsByte:=by kernel_rfl
 sizeByte:=by kernel_rfl
 neB5:=by decide}
def Tryz.lays161_ren :Go.Shelf.Ren:=⟨fun|161=>64|231=>94|227=>95|233=>96|235=>97|228=>121|197=>122|151=>123|260=>137|152=>138|137=>93|119=>143|224=>132|225=>131|217=>120|266=>136|n=>n,fun|9=>9|4=>4|3=>3|5=>5|117=>144|116=>143|0=>0|124=>147|105=>162|21=>21|119=>172|46=>171|139=>188|138=>187|n=>n,fun|3=>4|4=>5|n=>n⟩
theorem Tryz.lays161 :Go.Proofs.Lays.n161 Tryz.prog Tryz.lays161_ren:={
 mixed:=by kernel_rfl
 f119:=Tryz.func143.trans (congrArg some (by kernel_rfl))
 f137:=Tryz.func93.trans (congrArg some (by kernel_rfl))
 f151:=Tryz.func123.trans (congrArg some (by kernel_rfl))
 f152:=Tryz.func138.trans (congrArg some (by kernel_rfl))
 f161:=Tryz.func64.trans (congrArg some (by kernel_rfl))
 f197:=Tryz.func122.trans (congrArg some (by kernel_rfl))
 f217:=Tryz.func120.trans (congrArg some (by kernel_rfl))
 f224:=Tryz.func132.trans (congrArg some (by kernel_rfl))
 f225:=Tryz.func131.trans (congrArg some (by kernel_rfl))
 f227:=Tryz.func95.trans (congrArg some (by kernel_rfl))
 f228:=Tryz.func121.trans (congrArg some (by kernel_rfl))
 f231:=Tryz.func94.trans (congrArg some (by kernel_rfl))
 f233:=Tryz.func96.trans (congrArg some (by kernel_rfl))
 f235:=Tryz.func97.trans (congrArg some (by kernel_rfl))
 f260:=Tryz.func137.trans (congrArg some (by kernel_rfl))
 f266:=Tryz.func136.trans (congrArg some (by kernel_rfl))
 t0:=Tryz.underlying0
 a0:=Tryz.isAgg0
 z0:=Tryz.sizeOf0
 v0:=Tryz.zeroValue0
 t3:=Tryz.underlying3
 a3:=Tryz.isAgg3
 z3:=Tryz.sizeOf3
 v3:=Tryz.zeroValue3
 t4:=Tryz.underlying4
 a4:=Tryz.isAgg4
 z4:=Tryz.sizeOf4
 v4:=Tryz.zeroValue4
 t5:=Tryz.underlying5
 a5:=Tryz.isAgg5
 z5:=Tryz.sizeOf5
 v5:=Tryz.zeroValue5
 t9:=Tryz.underlying9
 a9:=Tryz.isAgg9
 z9:=Tryz.sizeOf9
 v9:=Tryz.zeroValue9
 t21:=Tryz.underlying21
 a21:=Tryz.isAgg21
 z21:=Tryz.sizeOf21
 v21:=Tryz.zeroValue21
 t46:=Tryz.underlying171
 a46:=Tryz.isAgg171
 z46:=Tryz.sizeOf171
 v46:=Tryz.zeroValue171
 t105:=Tryz.underlying162
 a105:=Tryz.isAgg162
 z105:=Tryz.sizeOf162
 v105:=Tryz.zeroValue162
 t116:=Tryz.underlying143
 a116:=Tryz.isAgg143
 z116:=Tryz.sizeOf143
 t117:=Tryz.underlying144
 a117:=Tryz.isAgg144
 z117:=Tryz.sizeOf144
 v117:=Tryz.zeroValue144
 t119:=Tryz.underlying172
 a119:=Tryz.isAgg172
 z119:=Tryz.sizeOf172
 t124:=Tryz.underlying147
 a124:=Tryz.isAgg147
 z124:=Tryz.sizeOf147
 v124:=Tryz.zeroValue147
 t138:=Tryz.underlying187
 a138:=Tryz.isAgg187
 z138:=Tryz.sizeOf187
 v138:=Tryz.zeroValue187
 t139:=Tryz.underlying188
 a139:=Tryz.isAgg188
 z139:=Tryz.sizeOf188
 v139:=Tryz.zeroValue188
 g3:=by kernel_rfl
 g4:=by kernel_rfl}
def Tryz.lays137_ren :Go.Shelf.Ren:=⟨fun|137=>93|217=>120|266=>136|n=>n,fun|9=>9|5=>5|3=>3|n=>n,fun|n=>n⟩
theorem Tryz.lays137 :Go.Proofs.Lays.n137 Tryz.prog Tryz.lays137_ren:={
 mixed:=by kernel_rfl
 f137:=Tryz.func93.trans (congrArg some (by kernel_rfl))
 f217:=Tryz.func120.trans (congrArg some (by kernel_rfl))
 f266:=Tryz.func136.trans (congrArg some (by kernel_rfl))
 t3:=Tryz.underlying3
 a3:=Tryz.isAgg3
 z3:=Tryz.sizeOf3
 v3:=Tryz.zeroValue3
 t5:=Tryz.underlying5
 a5:=Tryz.isAgg5
 z5:=Tryz.sizeOf5
 v5:=Tryz.zeroValue5
 t9:=Tryz.underlying9
 a9:=Tryz.isAgg9
 z9:=Tryz.sizeOf9
 v9:=Tryz.zeroValue9}
open Go.RowKit in
theorem Tryz.strings_IndexByte (s:ByteArray)(c:Int)(w:World):
  Calls Tryz.prog 93 #[.string s,.int .u8 c] w fun e w'=>e=.returned (.int .i64 (Lib.indexByte s.data.toList c.toNat.toUInt8))∧w'=w:=Any.strings_IndexByte Tryz.lays137 s c w
def Tryz.lays143_ren :Go.Shelf.Ren:=⟨fun|143=>84|219=>115|217=>120|225=>131|224=>132|267=>133|266=>136|314=>141|n=>n,fun|9=>9|3=>3|4=>4|5=>5|46=>171|146=>179|51=>178|n=>n,fun|1=>1|n=>n⟩
theorem Tryz.lays143 :Go.Proofs.Lays.n143 Tryz.prog Tryz.lays143_ren:={
 mixed:=by kernel_rfl
 f143:=Tryz.func84.trans (congrArg some (by kernel_rfl))
 f217:=Tryz.func120.trans (congrArg some (by kernel_rfl))
 f219:=Tryz.func115.trans (congrArg some (by kernel_rfl))
 f224:=Tryz.func132.trans (congrArg some (by kernel_rfl))
 f225:=Tryz.func131.trans (congrArg some (by kernel_rfl))
 f266:=Tryz.func136.trans (congrArg some (by kernel_rfl))
 f267:=Tryz.func133.trans (congrArg some (by kernel_rfl))
 f314:=Tryz.func141.trans (congrArg some (by kernel_rfl))
 t3:=Tryz.underlying3
 a3:=Tryz.isAgg3
 z3:=Tryz.sizeOf3
 v3:=Tryz.zeroValue3
 t4:=Tryz.underlying4
 a4:=Tryz.isAgg4
 z4:=Tryz.sizeOf4
 v4:=Tryz.zeroValue4
 t5:=Tryz.underlying5
 a5:=Tryz.isAgg5
 z5:=Tryz.sizeOf5
 v5:=Tryz.zeroValue5
 t9:=Tryz.underlying9
 a9:=Tryz.isAgg9
 z9:=Tryz.sizeOf9
 v9:=Tryz.zeroValue9
 t46:=Tryz.underlying171
 a46:=Tryz.isAgg171
 z46:=Tryz.sizeOf171
 v46:=Tryz.zeroValue171
 t51:=Tryz.underlying178
 a51:=Tryz.isAgg178
 z51:=Tryz.sizeOf178
 v51:=Tryz.zeroValue178
 t146:=Tryz.underlying179
 a146:=Tryz.isAgg179
 z146:=Tryz.sizeOf179
 v146:=Tryz.zeroValue179
 g1:=by kernel_rfl}
open Go.RowKit Go.Lib in
theorem Tryz.strings_Index (s sub:ByteArray)(m:Int)(w:World)(hs:s.size<4294967281)(hm:w.cell? ⟨1,0,none⟩=some (.int .i64 m)):
  Calls Tryz.prog 84 #[.string s,.string sub] w fun e w'=>e=.returned (.int .i64 (Lib.index s.data.toList sub.data.toList))∧w'=w:=Any.strings_Index Tryz.lays143 s sub m w hs hm
def Tryz.lays144_ren :Go.Shelf.Ren:=⟨fun|144=>53|143=>84|219=>115|217=>120|225=>131|224=>132|267=>133|266=>136|314=>141|n=>n,fun|9=>9|4=>4|3=>3|5=>5|46=>171|146=>179|51=>178|n=>n,fun|1=>1|n=>n⟩
theorem Tryz.lays144 :Go.Proofs.Lays.n144 Tryz.prog Tryz.lays144_ren:={
 mixed:=by kernel_rfl
 f143:=Tryz.func84.trans (congrArg some (by kernel_rfl))
 f144:=Tryz.func53.trans (congrArg some (by kernel_rfl))
 f217:=Tryz.func120.trans (congrArg some (by kernel_rfl))
 f219:=Tryz.func115.trans (congrArg some (by kernel_rfl))
 f224:=Tryz.func132.trans (congrArg some (by kernel_rfl))
 f225:=Tryz.func131.trans (congrArg some (by kernel_rfl))
 f266:=Tryz.func136.trans (congrArg some (by kernel_rfl))
 f267:=Tryz.func133.trans (congrArg some (by kernel_rfl))
 f314:=Tryz.func141.trans (congrArg some (by kernel_rfl))
 t3:=Tryz.underlying3
 a3:=Tryz.isAgg3
 z3:=Tryz.sizeOf3
 v3:=Tryz.zeroValue3
 t4:=Tryz.underlying4
 a4:=Tryz.isAgg4
 z4:=Tryz.sizeOf4
 v4:=Tryz.zeroValue4
 t5:=Tryz.underlying5
 a5:=Tryz.isAgg5
 z5:=Tryz.sizeOf5
 v5:=Tryz.zeroValue5
 t9:=Tryz.underlying9
 a9:=Tryz.isAgg9
 z9:=Tryz.sizeOf9
 v9:=Tryz.zeroValue9
 t46:=Tryz.underlying171
 a46:=Tryz.isAgg171
 z46:=Tryz.sizeOf171
 v46:=Tryz.zeroValue171
 t51:=Tryz.underlying178
 a51:=Tryz.isAgg178
 z51:=Tryz.sizeOf178
 v51:=Tryz.zeroValue178
 t146:=Tryz.underlying179
 a146:=Tryz.isAgg179
 z146:=Tryz.sizeOf179
 v146:=Tryz.zeroValue179
 g1:=by kernel_rfl}
open Go.RowKit Go.Lib in
theorem Tryz.strings_Contains (s sub:ByteArray)(m:Int)(w:World)(hs:s.size<4294967281)(hm:w.cell? ⟨1,0,none⟩=some (.int .i64 m)):
  Calls Tryz.prog 53 #[.string s,.string sub] w fun e w'=>e=.returned (.bool (Lib.contains s.data.toList sub.data.toList))∧w'=w:=Any.strings_Contains Tryz.lays144 s sub m w hs hm
def Tryz.laysM143_ren :Go.Shelf.Ren:=⟨fun|143=>84|219=>115|217=>120|225=>131|224=>132|267=>133|266=>136|314=>141|n=>n,fun|9=>9|3=>3|4=>4|5=>5|46=>171|146=>179|51=>178|n=>n,fun|1=>1|n=>n⟩
theorem Tryz.laysM143 :Go.Proofs.LaysM.n143 Tryz.prog Tryz.laysM143_ren:={
 mixed:=by kernel_rfl
 f143:=Tryz.func84.trans (congrArg some (by kernel_rfl))
 f217:=Tryz.func120.trans (congrArg some (by kernel_rfl))
 f219:=Tryz.func115.trans (congrArg some (by kernel_rfl))
 f224:=Tryz.func132.trans (congrArg some (by kernel_rfl))
 f225:=Tryz.func131.trans (congrArg some (by kernel_rfl))
 f266:=Tryz.func136.trans (congrArg some (by kernel_rfl))
 f267:=Tryz.func133.trans (congrArg some (by kernel_rfl))
 f314:=Tryz.func141.trans (congrArg some (by kernel_rfl))
 t3:=Tryz.underlying3
 a3:=Tryz.isAgg3
 z3:=Tryz.sizeOf3
 v3:=Tryz.zeroValue3
 t4:=Tryz.underlying4
 a4:=Tryz.isAgg4
 z4:=Tryz.sizeOf4
 v4:=Tryz.zeroValue4
 t5:=Tryz.underlying5
 a5:=Tryz.isAgg5
 z5:=Tryz.sizeOf5
 v5:=Tryz.zeroValue5
 t9:=Tryz.underlying9
 a9:=Tryz.isAgg9
 z9:=Tryz.sizeOf9
 v9:=Tryz.zeroValue9
 t46:=Tryz.underlying171
 a46:=Tryz.isAgg171
 z46:=Tryz.sizeOf171
 v46:=Tryz.zeroValue171
 t51:=Tryz.underlying178
 a51:=Tryz.isAgg178
 z51:=Tryz.sizeOf178
 v51:=Tryz.zeroValue178
 t146:=Tryz.underlying179
 a146:=Tryz.isAgg179
 z146:=Tryz.sizeOf179
 v146:=Tryz.zeroValue179
 g1:=by kernel_rfl
 i3:=by kernel_rfl
 i4:=by kernel_rfl
 i5:=by kernel_rfl
 i9:=by kernel_rfl
 i46:=by kernel_rfl
 i51:=by kernel_rfl
 i146:=by kernel_rfl
 m1:=by kernel_rfl
 s1_3:=fun w h=>Go.Proofs.cell_of_shapedOpen_int (zero:= #[.int .i64 0]) (t:=3) h (of_decide_eq_true (by kernel_rfl)) (by kernel_rfl) rfl (by kernel_rfl) (by kernel_rfl) Tryz.underlying3}
def Tryz.lays157_ren :Go.Shelf.Ren:=⟨fun|157=>117|229=>134|199=>135|261=>142|311=>144|312=>145|n=>n,fun|9=>9|31=>102|3=>3|5=>5|4=>4|119=>172|0=>0|40=>174|152=>181|21=>21|154=>183|51=>178|141=>185|196=>192|193=>189|198=>195|49=>193|194=>190|201=>198|226=>200|46=>171|227=>201|n=>n,fun|0=>2|6=>3|n=>n⟩
theorem Tryz.lays157 :Go.Proofs.Lays.n157 Tryz.prog Tryz.lays157_ren:={
 mixed:=by kernel_rfl
 f157:=Tryz.func117.trans (congrArg some (by kernel_rfl))
 f199:=Tryz.func135.trans (congrArg some (by kernel_rfl))
 f229:=Tryz.func134.trans (congrArg some (by kernel_rfl))
 f261:=Tryz.func142.trans (congrArg some (by kernel_rfl))
 f311:=Tryz.func144.trans (congrArg some (by kernel_rfl))
 f312:=Tryz.func145.trans (congrArg some (by kernel_rfl))
 t0:=Tryz.underlying0
 a0:=Tryz.isAgg0
 z0:=Tryz.sizeOf0
 v0:=Tryz.zeroValue0
 t3:=Tryz.underlying3
 a3:=Tryz.isAgg3
 z3:=Tryz.sizeOf3
 v3:=Tryz.zeroValue3
 t4:=Tryz.underlying4
 a4:=Tryz.isAgg4
 z4:=Tryz.sizeOf4
 v4:=Tryz.zeroValue4
 t5:=Tryz.underlying5
 a5:=Tryz.isAgg5
 z5:=Tryz.sizeOf5
 v5:=Tryz.zeroValue5
 t9:=Tryz.underlying9
 a9:=Tryz.isAgg9
 z9:=Tryz.sizeOf9
 v9:=Tryz.zeroValue9
 t21:=Tryz.underlying21
 a21:=Tryz.isAgg21
 z21:=Tryz.sizeOf21
 v21:=Tryz.zeroValue21
 t31:=Tryz.underlying102
 a31:=Tryz.isAgg102
 z31:=Tryz.sizeOf102
 v31:=Tryz.zeroValue102
 t40:=Tryz.underlying174
 a40:=Tryz.isAgg174
 z40:=Tryz.sizeOf174
 v40:=Tryz.zeroValue174
 t46:=Tryz.underlying171
 a46:=Tryz.isAgg171
 z46:=Tryz.sizeOf171
 v46:=Tryz.zeroValue171
 t49:=Tryz.underlying193
 a49:=Tryz.isAgg193
 z49:=Tryz.sizeOf193
 v49:=Tryz.zeroValue193
 t51:=Tryz.underlying178
 a51:=Tryz.isAgg178
 z51:=Tryz.sizeOf178
 v51:=Tryz.zeroValue178
 t119:=Tryz.underlying172
 a119:=Tryz.isAgg172
 z119:=Tryz.sizeOf172
 t141:=Tryz.underlying185
 a141:=Tryz.isAgg185
 z141:=Tryz.sizeOf185
 v141:=Tryz.zeroValue185
 t152:=Tryz.underlying181
 a152:=Tryz.isAgg181
 z152:=Tryz.sizeOf181
 v152:=Tryz.zeroValue181
 t154:=Tryz.underlying183
 a154:=Tryz.isAgg183
 z154:=Tryz.sizeOf183
 v154:=Tryz.zeroValue183
 t193:=Tryz.underlying189
 a193:=Tryz.isAgg189
 z193:=Tryz.sizeOf189
 v193:=Tryz.zeroValue189
 t194:=Tryz.underlying190
 a194:=Tryz.isAgg190
 z194:=Tryz.sizeOf190
 v194:=Tryz.zeroValue190
 t196:=Tryz.underlying192
 a196:=Tryz.isAgg192
 z196:=Tryz.sizeOf192
 v196:=Tryz.zeroValue192
 t198:=Tryz.underlying195
 a198:=Tryz.isAgg195
 z198:=Tryz.sizeOf195
 v198:=Tryz.zeroValue195
 t201:=Tryz.underlying198
 a201:=Tryz.isAgg198
 z201:=Tryz.sizeOf198
 v201:=Tryz.zeroValue198
 t226:=Tryz.underlying200
 a226:=Tryz.isAgg200
 z226:=Tryz.sizeOf200
 v226:=Tryz.zeroValue200
 t227:=Tryz.underlying201
 a227:=Tryz.isAgg201
 z227:=Tryz.sizeOf201
 v227:=Tryz.zeroValue201
 g0:=by kernel_rfl
 g6:=by kernel_rfl}
open Go.RowKit Go.Lib in
theorem Tryz.strings_Fields (s:ByteArray)(w:World)(hs:s.size<4294967281)(hascii:∀(j:Nat) b,s.data.toList[j]?=some b→b.toNat<128)(htab:Lib.TabIs Tryz.prog w "strings.asciiSpace" .u8 Lib.asciiSpaceTab):
  Calls Tryz.prog 117 #[.string s] w fun e w'=>
   e=.returned (.slice (some ⟨w.heap.size,0,none⟩) (Lib.fields s.data.toList).length (Lib.fields s.data.toList).length)∧w'=w.alloc (.cells ((Lib.fields s.data.toList).map fun l=>Value.string ⟨l.toArray⟩).toArray 9):=Any.strings_Fields Tryz.lays157 (by kernel_rfl) (by kernel_rfl) s w hs hascii htab
end Go.Proofs
