/-
  DERIVED: THE SHELF's CONTRACTS AT THIS DUMP, IN PLAIN WORDS (tools/lay-plain.mjs out of 'TrydShelf.lean', which tools/lay-shelf.mjs wrote): THE SAME DECLARATIONS UNDER THE SAME NAMES: 'import', 'namespace', 'open', 'def', 'theorem' AND NOTHING ELSE: no command of the shelf's: FOR A HAND-IN. Each laying: the table of numbers ('.._ren') and one theorem, a field a fact of the dump's own or the kernel's comparison; each contract: ONE APPLICATION.
-/
import Derived.Shelf.Strings.Trim
import Derived.Shelf.Small.Utf8
import Derived.Shelf.Small.Strs
import Derived.Shelf.Strings.Search1
import Derived.Shelf.Strings.Search2
import Derived.Shelf.Strings.Search3
import Derived.Shelf.LaysM
import Derived.Shelf.Strings.Shaped
import Derived.Shelf.Strings.Prefix
import Derived.Shelf.Strings.Fields
import Derived.Shelf.Strings.SplitShaped
import Derived.Shelf.Unicode.Latin
import Derived.Shelf.Strings.Runes
import Derived.Shelf.Strings.AsciiSet
import Derived.Shelf.Unicode.DecodeSlow
import Derived.Shelf.Unicode.Is16White
import Derived.Shelf.Unicode.IsSpaceAny
import Derived.Shelf.Unicode.Is16Any
import Derived.Shelf.Unicode.Is32Any
import Derived.Shelf.Unicode.ExclAny
import Derived.Test.YtopjpnhgnopbiaaDoorProg
set_option linter.unusedVariables false
set_option linter.unusedSimpArgs false
set_option linter.unnecessarySimpa false
namespace Go.Proofs
open Go.Shelf
def Tryd.lays161_ren :Go.Shelf.Ren:=⟨fun|161=>45|231=>65|227=>66|233=>67|235=>68|228=>83|197=>84|151=>85|260=>95|152=>96|137=>64|119=>101|224=>98|225=>97|217=>82|266=>94|n=>n,fun|9=>9|4=>4|3=>3|5=>5|117=>106|116=>105|0=>0|124=>109|105=>119|21=>21|119=>127|46=>132|139=>141|138=>140|n=>n,fun|3=>3|4=>4|n=>n⟩
theorem Tryd.lays161 :Go.Proofs.Lays.n161 Tryd.prog Tryd.lays161_ren:={
 mixed:=by kernel_rfl
 f119:=Tryd.func101.trans (congrArg some (by kernel_rfl))
 f137:=Tryd.func64.trans (congrArg some (by kernel_rfl))
 f151:=Tryd.func85.trans (congrArg some (by kernel_rfl))
 f152:=Tryd.func96.trans (congrArg some (by kernel_rfl))
 f161:=Tryd.func45.trans (congrArg some (by kernel_rfl))
 f197:=Tryd.func84.trans (congrArg some (by kernel_rfl))
 f217:=Tryd.func82.trans (congrArg some (by kernel_rfl))
 f224:=Tryd.func98.trans (congrArg some (by kernel_rfl))
 f225:=Tryd.func97.trans (congrArg some (by kernel_rfl))
 f227:=Tryd.func66.trans (congrArg some (by kernel_rfl))
 f228:=Tryd.func83.trans (congrArg some (by kernel_rfl))
 f231:=Tryd.func65.trans (congrArg some (by kernel_rfl))
 f233:=Tryd.func67.trans (congrArg some (by kernel_rfl))
 f235:=Tryd.func68.trans (congrArg some (by kernel_rfl))
 f260:=Tryd.func95.trans (congrArg some (by kernel_rfl))
 f266:=Tryd.func94.trans (congrArg some (by kernel_rfl))
 t0:=Tryd.underlying0
 a0:=Tryd.isAgg0
 z0:=Tryd.sizeOf0
 v0:=Tryd.zeroValue0
 t3:=Tryd.underlying3
 a3:=Tryd.isAgg3
 z3:=Tryd.sizeOf3
 v3:=Tryd.zeroValue3
 t4:=Tryd.underlying4
 a4:=Tryd.isAgg4
 z4:=Tryd.sizeOf4
 v4:=Tryd.zeroValue4
 t5:=Tryd.underlying5
 a5:=Tryd.isAgg5
 z5:=Tryd.sizeOf5
 v5:=Tryd.zeroValue5
 t9:=Tryd.underlying9
 a9:=Tryd.isAgg9
 z9:=Tryd.sizeOf9
 v9:=Tryd.zeroValue9
 t21:=Tryd.underlying21
 a21:=Tryd.isAgg21
 z21:=Tryd.sizeOf21
 v21:=Tryd.zeroValue21
 t46:=Tryd.underlying132
 a46:=Tryd.isAgg132
 z46:=Tryd.sizeOf132
 v46:=Tryd.zeroValue132
 t105:=Tryd.underlying119
 a105:=Tryd.isAgg119
 z105:=Tryd.sizeOf119
 v105:=Tryd.zeroValue119
 t116:=Tryd.underlying105
 a116:=Tryd.isAgg105
 z116:=Tryd.sizeOf105
 t117:=Tryd.underlying106
 a117:=Tryd.isAgg106
 z117:=Tryd.sizeOf106
 v117:=Tryd.zeroValue106
 t119:=Tryd.underlying127
 a119:=Tryd.isAgg127
 z119:=Tryd.sizeOf127
 t124:=Tryd.underlying109
 a124:=Tryd.isAgg109
 z124:=Tryd.sizeOf109
 v124:=Tryd.zeroValue109
 t138:=Tryd.underlying140
 a138:=Tryd.isAgg140
 z138:=Tryd.sizeOf140
 v138:=Tryd.zeroValue140
 t139:=Tryd.underlying141
 a139:=Tryd.isAgg141
 z139:=Tryd.sizeOf141
 v139:=Tryd.zeroValue141
 g3:=by kernel_rfl
 g4:=by kernel_rfl}
def Tryd.lays137_ren :Go.Shelf.Ren:=⟨fun|137=>64|217=>82|266=>94|n=>n,fun|9=>9|5=>5|3=>3|n=>n,fun|n=>n⟩
theorem Tryd.lays137 :Go.Proofs.Lays.n137 Tryd.prog Tryd.lays137_ren:={
 mixed:=by kernel_rfl
 f137:=Tryd.func64.trans (congrArg some (by kernel_rfl))
 f217:=Tryd.func82.trans (congrArg some (by kernel_rfl))
 f266:=Tryd.func94.trans (congrArg some (by kernel_rfl))
 t3:=Tryd.underlying3
 a3:=Tryd.isAgg3
 z3:=Tryd.sizeOf3
 v3:=Tryd.zeroValue3
 t5:=Tryd.underlying5
 a5:=Tryd.isAgg5
 z5:=Tryd.sizeOf5
 v5:=Tryd.zeroValue5
 t9:=Tryd.underlying9
 a9:=Tryd.isAgg9
 z9:=Tryd.sizeOf9
 v9:=Tryd.zeroValue9}
open Go.RowKit in
theorem Tryd.strings_IndexByte (s:ByteArray)(c:Int)(w:World):
  Calls Tryd.prog 64 #[.string s,.int .u8 c] w fun e w'=>e=.returned (.int .i64 (Lib.indexByte s.data.toList c.toNat.toUInt8))∧w'=w:=Any.strings_IndexByte Tryd.lays137 s c w
def Tryd.lays143_ren :Go.Shelf.Ren:=⟨fun|143=>74|219=>89|217=>82|225=>97|224=>98|267=>99|266=>94|314=>102|n=>n,fun|9=>9|3=>3|4=>4|5=>5|46=>132|146=>142|51=>136|n=>n,fun|1=>1|n=>n⟩
theorem Tryd.lays143 :Go.Proofs.Lays.n143 Tryd.prog Tryd.lays143_ren:={
 mixed:=by kernel_rfl
 f143:=Tryd.func74.trans (congrArg some (by kernel_rfl))
 f217:=Tryd.func82.trans (congrArg some (by kernel_rfl))
 f219:=Tryd.func89.trans (congrArg some (by kernel_rfl))
 f224:=Tryd.func98.trans (congrArg some (by kernel_rfl))
 f225:=Tryd.func97.trans (congrArg some (by kernel_rfl))
 f266:=Tryd.func94.trans (congrArg some (by kernel_rfl))
 f267:=Tryd.func99.trans (congrArg some (by kernel_rfl))
 f314:=Tryd.func102.trans (congrArg some (by kernel_rfl))
 t3:=Tryd.underlying3
 a3:=Tryd.isAgg3
 z3:=Tryd.sizeOf3
 v3:=Tryd.zeroValue3
 t4:=Tryd.underlying4
 a4:=Tryd.isAgg4
 z4:=Tryd.sizeOf4
 v4:=Tryd.zeroValue4
 t5:=Tryd.underlying5
 a5:=Tryd.isAgg5
 z5:=Tryd.sizeOf5
 v5:=Tryd.zeroValue5
 t9:=Tryd.underlying9
 a9:=Tryd.isAgg9
 z9:=Tryd.sizeOf9
 v9:=Tryd.zeroValue9
 t46:=Tryd.underlying132
 a46:=Tryd.isAgg132
 z46:=Tryd.sizeOf132
 v46:=Tryd.zeroValue132
 t51:=Tryd.underlying136
 a51:=Tryd.isAgg136
 z51:=Tryd.sizeOf136
 v51:=Tryd.zeroValue136
 t146:=Tryd.underlying142
 a146:=Tryd.isAgg142
 z146:=Tryd.sizeOf142
 v146:=Tryd.zeroValue142
 g1:=by kernel_rfl}
open Go.RowKit Go.Lib in
theorem Tryd.strings_Index (s sub:ByteArray)(m:Int)(w:World)(hs:s.size<4294967281)(hm:w.cell? ⟨1,0,none⟩=some (.int .i64 m)):
  Calls Tryd.prog 74 #[.string s,.string sub] w fun e w'=>e=.returned (.int .i64 (Lib.index s.data.toList sub.data.toList))∧w'=w:=Any.strings_Index Tryd.lays143 s sub m w hs hm
def Tryd.lays144_ren :Go.Shelf.Ren:=⟨fun|144=>51|143=>74|219=>89|217=>82|225=>97|224=>98|267=>99|266=>94|314=>102|n=>n,fun|9=>9|4=>4|3=>3|5=>5|46=>132|146=>142|51=>136|n=>n,fun|1=>1|n=>n⟩
theorem Tryd.lays144 :Go.Proofs.Lays.n144 Tryd.prog Tryd.lays144_ren:={
 mixed:=by kernel_rfl
 f143:=Tryd.func74.trans (congrArg some (by kernel_rfl))
 f144:=Tryd.func51.trans (congrArg some (by kernel_rfl))
 f217:=Tryd.func82.trans (congrArg some (by kernel_rfl))
 f219:=Tryd.func89.trans (congrArg some (by kernel_rfl))
 f224:=Tryd.func98.trans (congrArg some (by kernel_rfl))
 f225:=Tryd.func97.trans (congrArg some (by kernel_rfl))
 f266:=Tryd.func94.trans (congrArg some (by kernel_rfl))
 f267:=Tryd.func99.trans (congrArg some (by kernel_rfl))
 f314:=Tryd.func102.trans (congrArg some (by kernel_rfl))
 t3:=Tryd.underlying3
 a3:=Tryd.isAgg3
 z3:=Tryd.sizeOf3
 v3:=Tryd.zeroValue3
 t4:=Tryd.underlying4
 a4:=Tryd.isAgg4
 z4:=Tryd.sizeOf4
 v4:=Tryd.zeroValue4
 t5:=Tryd.underlying5
 a5:=Tryd.isAgg5
 z5:=Tryd.sizeOf5
 v5:=Tryd.zeroValue5
 t9:=Tryd.underlying9
 a9:=Tryd.isAgg9
 z9:=Tryd.sizeOf9
 v9:=Tryd.zeroValue9
 t46:=Tryd.underlying132
 a46:=Tryd.isAgg132
 z46:=Tryd.sizeOf132
 v46:=Tryd.zeroValue132
 t51:=Tryd.underlying136
 a51:=Tryd.isAgg136
 z51:=Tryd.sizeOf136
 v51:=Tryd.zeroValue136
 t146:=Tryd.underlying142
 a146:=Tryd.isAgg142
 z146:=Tryd.sizeOf142
 v146:=Tryd.zeroValue142
 g1:=by kernel_rfl}
open Go.RowKit Go.Lib in
theorem Tryd.strings_Contains (s sub:ByteArray)(m:Int)(w:World)(hs:s.size<4294967281)(hm:w.cell? ⟨1,0,none⟩=some (.int .i64 m)):
  Calls Tryd.prog 51 #[.string s,.string sub] w fun e w'=>e=.returned (.bool (Lib.contains s.data.toList sub.data.toList))∧w'=w:=Any.strings_Contains Tryd.lays144 s sub m w hs hm
def Tryd.laysM143_ren :Go.Shelf.Ren:=⟨fun|143=>74|219=>89|217=>82|225=>97|224=>98|267=>99|266=>94|314=>102|n=>n,fun|9=>9|3=>3|4=>4|5=>5|46=>132|146=>142|51=>136|n=>n,fun|1=>1|n=>n⟩
theorem Tryd.laysM143 :Go.Proofs.LaysM.n143 Tryd.prog Tryd.laysM143_ren:={
 mixed:=by kernel_rfl
 f143:=Tryd.func74.trans (congrArg some (by kernel_rfl))
 f217:=Tryd.func82.trans (congrArg some (by kernel_rfl))
 f219:=Tryd.func89.trans (congrArg some (by kernel_rfl))
 f224:=Tryd.func98.trans (congrArg some (by kernel_rfl))
 f225:=Tryd.func97.trans (congrArg some (by kernel_rfl))
 f266:=Tryd.func94.trans (congrArg some (by kernel_rfl))
 f267:=Tryd.func99.trans (congrArg some (by kernel_rfl))
 f314:=Tryd.func102.trans (congrArg some (by kernel_rfl))
 t3:=Tryd.underlying3
 a3:=Tryd.isAgg3
 z3:=Tryd.sizeOf3
 v3:=Tryd.zeroValue3
 t4:=Tryd.underlying4
 a4:=Tryd.isAgg4
 z4:=Tryd.sizeOf4
 v4:=Tryd.zeroValue4
 t5:=Tryd.underlying5
 a5:=Tryd.isAgg5
 z5:=Tryd.sizeOf5
 v5:=Tryd.zeroValue5
 t9:=Tryd.underlying9
 a9:=Tryd.isAgg9
 z9:=Tryd.sizeOf9
 v9:=Tryd.zeroValue9
 t46:=Tryd.underlying132
 a46:=Tryd.isAgg132
 z46:=Tryd.sizeOf132
 v46:=Tryd.zeroValue132
 t51:=Tryd.underlying136
 a51:=Tryd.isAgg136
 z51:=Tryd.sizeOf136
 v51:=Tryd.zeroValue136
 t146:=Tryd.underlying142
 a146:=Tryd.isAgg142
 z146:=Tryd.sizeOf142
 v146:=Tryd.zeroValue142
 g1:=by kernel_rfl
 i3:=by kernel_rfl
 i4:=by kernel_rfl
 i5:=by kernel_rfl
 i9:=by kernel_rfl
 i46:=by kernel_rfl
 i51:=by kernel_rfl
 i146:=by kernel_rfl
 m1:=by kernel_rfl
 s1_3:=fun w h=>Go.Proofs.cell_of_shapedOpen_int (zero:= #[.int .i64 0]) (t:=3) h (of_decide_eq_true (by kernel_rfl)) (by kernel_rfl) rfl (by kernel_rfl) (by kernel_rfl) Tryd.underlying3}
def Tryd.lays157_ren :Go.Shelf.Ren:=⟨fun|157=>79|229=>92|199=>93|261=>100|311=>103|312=>104|n=>n,fun|9=>9|31=>87|3=>3|5=>5|4=>4|119=>127|0=>0|40=>129|152=>133|21=>21|154=>135|51=>136|141=>138|196=>147|193=>144|198=>150|49=>148|194=>145|201=>153|226=>155|46=>132|227=>156|n=>n,fun|0=>0|6=>2|n=>n⟩
theorem Tryd.lays157 :Go.Proofs.Lays.n157 Tryd.prog Tryd.lays157_ren:={
 mixed:=by kernel_rfl
 f157:=Tryd.func79.trans (congrArg some (by kernel_rfl))
 f199:=Tryd.func93.trans (congrArg some (by kernel_rfl))
 f229:=Tryd.func92.trans (congrArg some (by kernel_rfl))
 f261:=Tryd.func100.trans (congrArg some (by kernel_rfl))
 f311:=Tryd.func103.trans (congrArg some (by kernel_rfl))
 f312:=Tryd.func104.trans (congrArg some (by kernel_rfl))
 t0:=Tryd.underlying0
 a0:=Tryd.isAgg0
 z0:=Tryd.sizeOf0
 v0:=Tryd.zeroValue0
 t3:=Tryd.underlying3
 a3:=Tryd.isAgg3
 z3:=Tryd.sizeOf3
 v3:=Tryd.zeroValue3
 t4:=Tryd.underlying4
 a4:=Tryd.isAgg4
 z4:=Tryd.sizeOf4
 v4:=Tryd.zeroValue4
 t5:=Tryd.underlying5
 a5:=Tryd.isAgg5
 z5:=Tryd.sizeOf5
 v5:=Tryd.zeroValue5
 t9:=Tryd.underlying9
 a9:=Tryd.isAgg9
 z9:=Tryd.sizeOf9
 v9:=Tryd.zeroValue9
 t21:=Tryd.underlying21
 a21:=Tryd.isAgg21
 z21:=Tryd.sizeOf21
 v21:=Tryd.zeroValue21
 t31:=Tryd.underlying87
 a31:=Tryd.isAgg87
 z31:=Tryd.sizeOf87
 v31:=Tryd.zeroValue87
 t40:=Tryd.underlying129
 a40:=Tryd.isAgg129
 z40:=Tryd.sizeOf129
 v40:=Tryd.zeroValue129
 t46:=Tryd.underlying132
 a46:=Tryd.isAgg132
 z46:=Tryd.sizeOf132
 v46:=Tryd.zeroValue132
 t49:=Tryd.underlying148
 a49:=Tryd.isAgg148
 z49:=Tryd.sizeOf148
 v49:=Tryd.zeroValue148
 t51:=Tryd.underlying136
 a51:=Tryd.isAgg136
 z51:=Tryd.sizeOf136
 v51:=Tryd.zeroValue136
 t119:=Tryd.underlying127
 a119:=Tryd.isAgg127
 z119:=Tryd.sizeOf127
 t141:=Tryd.underlying138
 a141:=Tryd.isAgg138
 z141:=Tryd.sizeOf138
 v141:=Tryd.zeroValue138
 t152:=Tryd.underlying133
 a152:=Tryd.isAgg133
 z152:=Tryd.sizeOf133
 v152:=Tryd.zeroValue133
 t154:=Tryd.underlying135
 a154:=Tryd.isAgg135
 z154:=Tryd.sizeOf135
 v154:=Tryd.zeroValue135
 t193:=Tryd.underlying144
 a193:=Tryd.isAgg144
 z193:=Tryd.sizeOf144
 v193:=Tryd.zeroValue144
 t194:=Tryd.underlying145
 a194:=Tryd.isAgg145
 z194:=Tryd.sizeOf145
 v194:=Tryd.zeroValue145
 t196:=Tryd.underlying147
 a196:=Tryd.isAgg147
 z196:=Tryd.sizeOf147
 v196:=Tryd.zeroValue147
 t198:=Tryd.underlying150
 a198:=Tryd.isAgg150
 z198:=Tryd.sizeOf150
 v198:=Tryd.zeroValue150
 t201:=Tryd.underlying153
 a201:=Tryd.isAgg153
 z201:=Tryd.sizeOf153
 v201:=Tryd.zeroValue153
 t226:=Tryd.underlying155
 a226:=Tryd.isAgg155
 z226:=Tryd.sizeOf155
 v226:=Tryd.zeroValue155
 t227:=Tryd.underlying156
 a227:=Tryd.isAgg156
 z227:=Tryd.sizeOf156
 v227:=Tryd.zeroValue156
 g0:=by kernel_rfl
 g6:=by kernel_rfl}
open Go.RowKit Go.Lib in
theorem Tryd.strings_Fields (s:ByteArray)(w:World)(hs:s.size<4294967281)(hascii:∀(j:Nat) b,s.data.toList[j]?=some b→b.toNat<128)(htab:Lib.TabIs Tryd.prog w "strings.asciiSpace" .u8 Lib.asciiSpaceTab):
  Calls Tryd.prog 79 #[.string s] w fun e w'=>
   e=.returned (.slice (some ⟨w.heap.size,0,none⟩) (Lib.fields s.data.toList).length (Lib.fields s.data.toList).length)∧w'=w.alloc (.cells ((Lib.fields s.data.toList).map fun l=>Value.string ⟨l.toArray⟩).toArray 9):=Any.strings_Fields Tryd.lays157 (by kernel_rfl) (by kernel_rfl) s w hs hascii htab
end Go.Proofs
