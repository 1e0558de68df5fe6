/- The proof of ScriptPlays, part Shelf. Conditions: in each statement. -/
import Derived.Shelf.Strings.OnBuilder
import Derived.Shelf.Small.Utf8
import Derived.Shelf.Small.Wraps
import Derived.Shelf.Utf8.RuneCount
import Derived.Shelf.Strconv.IsPrint
import Derived.Shelf.Strconv.Itoa3
import Derived.Shelf.Strconv.ErrVarAll
import Derived.Shelf.Strconv.ParseUintEmpty
import Derived.Shelf.Strings.Shaped
import Derived.Shelf.Strings.SplitShaped
import Derived.Shelf.Strings.Explode
import Derived.Shelf.Bits.Mul64
import Derived.Shelf.Unicode.DecodeAny
import Derived.Shelf.Strings.BuilderCap
import Derived.Shelf.Slices.Turned
import Derived.Shelf.Slices.Clone
import Derived.Shelf.Slices.Cells
import Derived.Shelf.Slices.Empties
import Derived.Shelf.SlicesE.Delete
import Derived.Shelf.SlicesE.Clone
import Derived.Shelf.SlSortCmp.Insertion
import Derived.Test.YtoomffajodheaaaGreatDoorProg
set_option linter.all false
namespace Go.Proofs
open Go.Shelf
theorem zAw{p:Prop}(h:p:=by kernel_rfl):p:=h
def Tryz.af3:Go.Shelf.Ren:=⟨fun |156=>100|165=>129|166=>130|169=>131|240=>153|241=>154|276=>184|277=>185|n=>n,fun |31=>24|9=>9|3=>3|4=>4|0=>0|20=>20|72=>215|76=>82|70=>213|37=>144|75=>34|127=>231|164=>130|5=>5|80=>59|n=>n,fun |n=>n⟩
theorem Tryz.azO:Go.Proofs.Lays.n156 Tryz.prog Tryz.af3:={
 mixed:=zAw
 f156:=Tryz.func100.trans (congrArg some zAw)
 f165:=Tryz.func129.trans (congrArg some zAw)
 f166:=Tryz.func130.trans (congrArg some zAw)
 f169:=Tryz.func131.trans (congrArg some zAw)
 f240:=Tryz.func153.trans (congrArg some zAw)
 f241:=Tryz.func154.trans (congrArg some zAw)
 f276:=Tryz.func184.trans (congrArg some zAw)
 f277:=Tryz.func185.trans (congrArg some zAw)
 t0:=Tryz.underlying0
 a0:=Tryz.isAgg0
 z0:=Tryz.sizeOf0
 v0:=Tryz.zeroValue0
 t3:=Tryz.underlying3
 a3:=Tryz.isAgg3
 z3:=Tryz.sizeOf3
 v3:=Tryz.zeroValue3
 t4:=Tryz.underlying4
 a4:=Tryz.isAgg4
 z4:=Tryz.sizeOf4
 v4:=Tryz.zeroValue4
 t9:=Tryz.underlying9
 a9:=Tryz.isAgg9
 z9:=Tryz.sizeOf9
 v9:=Tryz.zeroValue9
 t20:=Tryz.underlying20
 a20:=Tryz.isAgg20
 z20:=Tryz.sizeOf20
 v20:=Tryz.zeroValue20
 t31:=Tryz.underlying24
 a31:=Tryz.isAgg24
 z31:=Tryz.sizeOf24
 v31:=Tryz.zeroValue24
 t37:=Tryz.underlying144
 a37:=Tryz.isAgg144
 z37:=Tryz.sizeOf144
 v37:=Tryz.zeroValue144
 t70:=Tryz.underlying213
 a70:=Tryz.isAgg213
 z70:=Tryz.sizeOf213
 v70:=Tryz.zeroValue213
 t72:=Tryz.underlying215
 a72:=Tryz.isAgg215
 z72:=Tryz.sizeOf215
 v72:=Tryz.zeroValue215
 t75:=Tryz.underlying34
 a75:=Tryz.isAgg34
 z75:=Tryz.sizeOf34
 v75:=Tryz.zeroValue34
 t76:=Tryz.underlying82
 a76:=Tryz.isAgg82
 z76:=Tryz.sizeOf82
 v76:=Tryz.zeroValue82
 t127:=Tryz.underlying231
 a127:=Tryz.isAgg231
 z127:=Tryz.sizeOf231
 v127:=Tryz.zeroValue231
 t164:=Tryz.underlying130
 a164:=Tryz.isAgg130
 z164:=Tryz.sizeOf130
 v164:=Tryz.zeroValue130}
theorem Tryz.aeN:Builder.Extra Tryz.prog Tryz.af3:={
 sizeBuilder:=zAw
 liesBuilder:=zAw
 t5:=Tryz.underlying5
 a5:=Tryz.isAgg5
 z5:=Tryz.sizeOf5
 v5:=Tryz.zeroValue5
 infoByte:=zAw
 cellsByte:=zAw
 sizeByte:=zAw
 neB5:=by decide}
open Go.RowKit in
theorem Tryz.strings_Join (bk o c:Nat) (xs:List ByteArray) (sep:ByteArray) (w:World) (hcells:∀(j:Nat) x,xs[j]?=some x->w.cell? ⟨bk,o+j,none⟩=some (.string x)) (hbk:bk<w.heap.size) (hN:xs.length<=140737488355328) (hcap:xs.length<=c) (hlen:(Lib.join (xs.map (·.data.toList)) sep.data.toList).length<=140737488355328):
 Calls Tryz.prog 100 #[.slice (some ⟨bk,o,none⟩) xs.length c,.string sep] w λe w'=>e=.returned (.string ⟨(Lib.join (xs.map (·.data.toList)) sep.data.toList).toArray⟩)/\Below w.heap.size w w':=Any.strings_Join Tryz.azO Tryz.aeN bk o c xs sep w hcells hbk hN hcap hlen
def Tryz.akR:Go.Shelf.Ren:=⟨fun |171=>64|243=>91|246=>119|283=>141|284=>142|285=>143|286=>144|129=>165|317=>164|318=>166|319=>167|320=>168|337=>188|338=>189|n=>n,fun |3=>3|9=>9|2=>2|4=>4|171=>223|0=>0|53=>201|37=>144|5=>5|173=>226|212=>246|51=>198|20=>20|213=>247|46=>147|232=>299|233=>300|n=>n,fun |17=>15|18=>16|19=>17|n=>n⟩
theorem Tryz.awH:Go.Proofs.LaysM.n171 Tryz.prog Tryz.akR:={
 mixed:=zAw
 f129:=Tryz.func165.trans (congrArg some zAw)
 f171:=Tryz.func64.trans (congrArg some zAw)
 f243:=Tryz.func91.trans (congrArg some zAw)
 f246:=Tryz.func119.trans (congrArg some zAw)
 f283:=Tryz.func141.trans (congrArg some zAw)
 f284:=Tryz.func142.trans (congrArg some zAw)
 f285:=Tryz.func143.trans (congrArg some zAw)
 f286:=Tryz.func144.trans (congrArg some zAw)
 f317:=Tryz.func164.trans (congrArg some zAw)
 f318:=Tryz.func166.trans (congrArg some zAw)
 f319:=Tryz.func167.trans (congrArg some zAw)
 f320:=Tryz.func168.trans (congrArg some zAw)
 f337:=Tryz.func188.trans (congrArg some zAw)
 f338:=Tryz.func189.trans (congrArg some zAw)
 t0:=Tryz.underlying0
 a0:=Tryz.isAgg0
 z0:=Tryz.sizeOf0
 v0:=Tryz.zeroValue0
 t2:=Tryz.underlying2
 a2:=Tryz.isAgg2
 z2:=Tryz.sizeOf2
 v2:=Tryz.zeroValue2
 t3:=Tryz.underlying3
 a3:=Tryz.isAgg3
 z3:=Tryz.sizeOf3
 v3:=Tryz.zeroValue3
 t4:=Tryz.underlying4
 a4:=Tryz.isAgg4
 z4:=Tryz.sizeOf4
 v4:=Tryz.zeroValue4
 t5:=Tryz.underlying5
 a5:=Tryz.isAgg5
 z5:=Tryz.sizeOf5
 v5:=Tryz.zeroValue5
 t9:=Tryz.underlying9
 a9:=Tryz.isAgg9
 z9:=Tryz.sizeOf9
 v9:=Tryz.zeroValue9
 t20:=Tryz.underlying20
 a20:=Tryz.isAgg20
 z20:=Tryz.sizeOf20
 v20:=Tryz.zeroValue20
 t37:=Tryz.underlying144
 a37:=Tryz.isAgg144
 z37:=Tryz.sizeOf144
 v37:=Tryz.zeroValue144
 t46:=Tryz.underlying147
 a46:=Tryz.isAgg147
 z46:=Tryz.sizeOf147
 v46:=Tryz.zeroValue147
 t51:=Tryz.underlying198
 a51:=Tryz.isAgg198
 z51:=Tryz.sizeOf198
 v51:=Tryz.zeroValue198
 t53:=Tryz.underlying201
 a53:=Tryz.isAgg201
 z53:=Tryz.sizeOf201
 v53:=Tryz.zeroValue201
 t171:=Tryz.underlying223
 a171:=Tryz.isAgg223
 z171:=Tryz.sizeOf223
 v171:=Tryz.zeroValue223
 t173:=Tryz.underlying226
 a173:=Tryz.isAgg226
 z173:=Tryz.sizeOf226
 v173:=Tryz.zeroValue226
 t212:=Tryz.underlying246
 a212:=Tryz.isAgg246
 z212:=Tryz.sizeOf246
 v212:=Tryz.zeroValue246
 t213:=Tryz.underlying247
 a213:=Tryz.isAgg247
 z213:=Tryz.sizeOf247
 t232:=Tryz.underlying299
 a232:=Tryz.isAgg299
 z232:=Tryz.sizeOf299
 v232:=Tryz.zeroValue299
 t233:=Tryz.underlying300
 a233:=Tryz.isAgg300
 z233:=Tryz.sizeOf300
 v233:=Tryz.zeroValue300
 g17:=zAw
 g18:=zAw
 g19:=zAw
 i0:=zAw
 i2:=zAw
 i3:=zAw
 i4:=zAw
 i5:=zAw
 i9:=zAw
 i20:=zAw
 i37:=zAw
 i46:=zAw
 i51:=zAw
 i53:=zAw
 i171:=zAw
 i173:=zAw
 i212:=zAw
 i232:=zAw
 i233:=zAw
 m17:=zAw
 m18:=zAw
 m19:=by kernel_rfl}
open Go.RowKit Go.Sort Go.Lib in
theorem Tryz.strconv_Itoa (n:Int) (h0:-9223372036854775808<=n) (h1:n<=9223372036854775807) (w:World) (htab:Lib.TabIs Tryz.prog w "internal/strconv.uint64pow10" .u64 Lib.pow10Tab):
 Calls Tryz.prog 64 #[.int .i64 n] w λe w'=>e=.returned (.string ⟨(Lib.itoa n).toArray⟩)/\∃k os,w'=grow (w.drewN k) os:=Any.strconv_Itoa Tryz.awH n h0 h1 w htab
def Tryz.akT:Go.Shelf.Ren:=⟨fun |172=>63|244=>89|245=>90|247=>114|279=>115|280=>116|281=>117|282=>118|287=>138|316=>139|171=>64|205=>140|321=>162|322=>163|243=>91|246=>119|283=>141|284=>142|285=>143|286=>144|129=>165|317=>164|318=>166|319=>167|320=>168|337=>188|338=>189|n=>n,fun |9=>9|3=>3|75=>34|76=>82|4=>4|5=>5|167=>191|37=>144|0=>0|85=>192|2=>2|168=>194|53=>201|175=>217|46=>147|210=>221|127=>231|145=>244|143=>242|21=>21|171=>223|173=>226|212=>246|51=>198|20=>20|213=>247|232=>299|233=>300|80=>59|n=>n,fun |15=>11|16=>12|17=>15|18=>16|19=>17|n=>n⟩
theorem Tryz.ahM:Go.Proofs.LaysC.n172 Tryz.prog Tryz.akT:={
 mixed:=zAw
 f129:=Tryz.func165.trans (congrArg some zAw)
 f171:=Tryz.func64.trans (congrArg some zAw)
 f172:=Tryz.func63.trans (congrArg some zAw)
 f205:=Tryz.func140.trans (congrArg some zAw)
 f243:=Tryz.func91.trans (congrArg some zAw)
 f244:=Tryz.func89.trans (congrArg some zAw)
 f245:=Tryz.func90.trans (congrArg some zAw)
 f246:=Tryz.func119.trans (congrArg some zAw)
 f247:=Tryz.func114.trans (congrArg some zAw)
 f279:=Tryz.func115.trans (congrArg some zAw)
 f280:=Tryz.func116.trans (congrArg some zAw)
 f281:=Tryz.func117.trans (congrArg some zAw)
 f282:=Tryz.func118.trans (congrArg some zAw)
 f283:=Tryz.func141.trans (congrArg some zAw)
 f284:=Tryz.func142.trans (congrArg some zAw)
 f285:=Tryz.func143.trans (congrArg some zAw)
 f286:=Tryz.func144.trans (congrArg some zAw)
 f287:=Tryz.func138.trans (congrArg some zAw)
 f316:=Tryz.func139.trans (congrArg some zAw)
 f317:=Tryz.func164.trans (congrArg some zAw)
 f318:=Tryz.func166.trans (congrArg some zAw)
 f319:=Tryz.func167.trans (congrArg some zAw)
 f320:=Tryz.func168.trans (congrArg some zAw)
 f321:=Tryz.func162.trans (congrArg some zAw)
 f322:=Tryz.func163.trans (congrArg some zAw)
 f337:=Tryz.func188.trans (congrArg some zAw)
 f338:=Tryz.func189.trans (congrArg some zAw)
 t0:=Tryz.underlying0
 a0:=Tryz.isAgg0
 z0:=Tryz.sizeOf0
 v0:=Tryz.zeroValue0
 t2:=Tryz.underlying2
 a2:=Tryz.isAgg2
 z2:=Tryz.sizeOf2
 v2:=Tryz.zeroValue2
 t3:=Tryz.underlying3
 a3:=Tryz.isAgg3
 z3:=Tryz.sizeOf3
 v3:=Tryz.zeroValue3
 t4:=Tryz.underlying4
 a4:=Tryz.isAgg4
 z4:=Tryz.sizeOf4
 v4:=Tryz.zeroValue4
 t5:=Tryz.underlying5
 a5:=Tryz.isAgg5
 z5:=Tryz.sizeOf5
 v5:=Tryz.zeroValue5
 t9:=Tryz.underlying9
 a9:=Tryz.isAgg9
 z9:=Tryz.sizeOf9
 v9:=Tryz.zeroValue9
 t20:=Tryz.underlying20
 a20:=Tryz.isAgg20
 z20:=Tryz.sizeOf20
 v20:=Tryz.zeroValue20
 t21:=Tryz.underlying21
 a21:=Tryz.isAgg21
 z21:=Tryz.sizeOf21
 v21:=Tryz.zeroValue21
 t37:=Tryz.underlying144
 a37:=Tryz.isAgg144
 z37:=Tryz.sizeOf144
 v37:=Tryz.zeroValue144
 t46:=Tryz.underlying147
 a46:=Tryz.isAgg147
 z46:=Tryz.sizeOf147
 v46:=Tryz.zeroValue147
 t51:=Tryz.underlying198
 a51:=Tryz.isAgg198
 z51:=Tryz.sizeOf198
 v51:=Tryz.zeroValue198
 t53:=Tryz.underlying201
 a53:=Tryz.isAgg201
 z53:=Tryz.sizeOf201
 v53:=Tryz.zeroValue201
 t75:=Tryz.underlying34
 a75:=Tryz.isAgg34
 z75:=Tryz.sizeOf34
 v75:=Tryz.zeroValue34
 t76:=Tryz.underlying82
 a76:=Tryz.isAgg82
 z76:=Tryz.sizeOf82
 v76:=Tryz.zeroValue82
 t85:=Tryz.underlying192
 a85:=Tryz.isAgg192
 z85:=Tryz.sizeOf192
 v85:=Tryz.zeroValue192
 t127:=Tryz.underlying231
 a127:=Tryz.isAgg231
 z127:=Tryz.sizeOf231
 v127:=Tryz.zeroValue231
 t143:=Tryz.underlying242
 a143:=Tryz.isAgg242
 z143:=Tryz.sizeOf242
 v143:=Tryz.zeroValue242
 t145:=Tryz.underlying244
 a145:=Tryz.isAgg244
 z145:=Tryz.sizeOf244
 v145:=Tryz.zeroValue244
 t167:=Tryz.underlying191
 a167:=Tryz.isAgg191
 z167:=Tryz.sizeOf191
 v167:=Tryz.zeroValue191
 t168:=Tryz.underlying194
 a168:=Tryz.isAgg194
 z168:=Tryz.sizeOf194
 v168:=Tryz.zeroValue194
 t171:=Tryz.underlying223
 a171:=Tryz.isAgg223
 z171:=Tryz.sizeOf223
 v171:=Tryz.zeroValue223
 t173:=Tryz.underlying226
 a173:=Tryz.isAgg226
 z173:=Tryz.sizeOf226
 v173:=Tryz.zeroValue226
 t175:=Tryz.underlying217
 a175:=Tryz.isAgg217
 z175:=Tryz.sizeOf217
 v175:=Tryz.zeroValue217
 t210:=Tryz.underlying221
 a210:=Tryz.isAgg221
 z210:=Tryz.sizeOf221
 v210:=Tryz.zeroValue221
 t212:=Tryz.underlying246
 a212:=Tryz.isAgg246
 z212:=Tryz.sizeOf246
 v212:=Tryz.zeroValue246
 t213:=Tryz.underlying247
 a213:=Tryz.isAgg247
 z213:=Tryz.sizeOf247
 t232:=Tryz.underlying299
 a232:=Tryz.isAgg299
 z232:=Tryz.sizeOf299
 v232:=Tryz.zeroValue299
 t233:=Tryz.underlying300
 a233:=Tryz.isAgg300
 z233:=Tryz.sizeOf300
 v233:=Tryz.zeroValue300
 g15:=zAw
 g16:=zAw
 g17:=zAw
 g18:=zAw
 g19:=zAw
 t80:=Tryz.underlying59
 a80:=Tryz.isAgg59
 z80:=Tryz.sizeOf59
 v80:=Tryz.zeroValue59
 i0:=zAw
 i2:=zAw
 i3:=zAw
 i4:=zAw
 i5:=zAw
 i9:=zAw
 i20:=zAw
 i21:=zAw
 i37:=zAw
 i46:=zAw
 i51:=zAw
 i53:=zAw
 i75:=zAw
 i76:=zAw
 i80:=zAw
 i85:=zAw
 i127:=zAw
 i143:=zAw
 i145:=zAw
 i167:=zAw
 i168:=zAw
 i171:=zAw
 i173:=zAw
 i175:=zAw
 i210:=zAw
 i212:=zAw
 i232:=zAw
 i233:=zAw
 m15:=zAw
 m16:=zAw
 m17:=zAw
 m18:=zAw
 m19:=zAw
 c0:=zAw
 c2:=zAw
 c3:=zAw
 c4:=zAw
 c5:=zAw
 c9:=zAw
 c20:=zAw
 c21:=zAw
 c37:=zAw
 c46:=zAw
 c51:=zAw
 c53:=zAw
 c75:=zAw
 c76:=zAw
 c80:=zAw
 c85:=zAw
 c127:=zAw
 c143:=zAw
 c145:=zAw
 c167:=zAw
 c168:=zAw
 c171:=zAw
 c173:=zAw
 c175:=zAw
 c210:=zAw
 c212:=zAw
 c213:=zAw
 c232:=zAw
 c233:=by kernel_rfl}
open Go.RowKit in
theorem Tryz.strconv_Atoi_ok (s:ByteArray) (hmax:s.size<=9223372036854775806) (v:Int) (h:Lib.atoiAll s.data.toList=.ok v) (w:World):
 Calls Tryz.prog 63 #[.string s] w λe w'=>e=.returned (.tuple #[.int .i64 v,.nilIface])/\(w'=w\/∃t,w'=Lib.bytesWorld w 5 t):=Any.strconv_Atoi_ok Tryz.ahM s hmax v h w
open Go.RowKit in
theorem Tryz.strconv_Atoi_range (s:ByteArray) (hlim:s.size<=281474976710656) (h:Lib.atoiAll s.data.toList=.range) (ev:Value) (w:World) (hv:w.cell? ⟨12,0,none⟩=some ev) (hev:ev=.nilIface\/∃te pe,ev=.iface te pe):
 Calls Tryz.prog 63 #[.string s] w λe w'=>∃N,e=.returned (.tuple #[.int .i64 (Lib.atoiSat s.data.toList),.iface 194 (.pointer (some ⟨N,0,none⟩))])/\w.heap.size<=N/\w'.heap[N]?=some (.cells #[.string ⟨#[65,116,111,105]⟩,.string s,ev] 221 (0,0))/\Below w.heap.size w w':=Any.strconv_Atoi_range Tryz.ahM s hlim h ev w hv hev
def Tryz.amD:Go.Shelf.Ren:=⟨fun |146=>36|221=>62|268=>86|138=>87|143=>88|195=>110|197=>111|218=>112|219=>113|260=>133|217=>134|225=>135|224=>136|267=>137|266=>160|314=>161|n=>n,fun |9=>9|31=>24|3=>3|4=>4|0=>0|105=>188|21=>21|5=>5|46=>147|119=>236|139=>239|138=>238|146=>199|51=>198|n=>n,fun |1=>10|3=>13|4=>14|n=>n⟩
theorem Tryz.azP:Go.Proofs.Lays.n146 Tryz.prog Tryz.amD:={
 mixed:=zAw
 f138:=Tryz.func87.trans (congrArg some zAw)
 f143:=Tryz.func88.trans (congrArg some zAw)
 f146:=Tryz.func36.trans (congrArg some zAw)
 f195:=Tryz.func110.trans (congrArg some zAw)
 f197:=Tryz.func111.trans (congrArg some zAw)
 f217:=Tryz.func134.trans (congrArg some zAw)
 f218:=Tryz.func112.trans (congrArg some zAw)
 f219:=Tryz.func113.trans (congrArg some zAw)
 f221:=Tryz.func62.trans (congrArg some zAw)
 f224:=Tryz.func136.trans (congrArg some zAw)
 f225:=Tryz.func135.trans (congrArg some zAw)
 f260:=Tryz.func133.trans (congrArg some zAw)
 f266:=Tryz.func160.trans (congrArg some zAw)
 f267:=Tryz.func137.trans (congrArg some zAw)
 f268:=Tryz.func86.trans (congrArg some zAw)
 f314:=Tryz.func161.trans (congrArg some zAw)
 t0:=Tryz.underlying0
 a0:=Tryz.isAgg0
 z0:=Tryz.sizeOf0
 v0:=Tryz.zeroValue0
 t3:=Tryz.underlying3
 a3:=Tryz.isAgg3
 z3:=Tryz.sizeOf3
 v3:=Tryz.zeroValue3
 t4:=Tryz.underlying4
 a4:=Tryz.isAgg4
 z4:=Tryz.sizeOf4
 v4:=Tryz.zeroValue4
 t5:=Tryz.underlying5
 a5:=Tryz.isAgg5
 z5:=Tryz.sizeOf5
 v5:=Tryz.zeroValue5
 t9:=Tryz.underlying9
 a9:=Tryz.isAgg9
 z9:=Tryz.sizeOf9
 v9:=Tryz.zeroValue9
 t21:=Tryz.underlying21
 a21:=Tryz.isAgg21
 z21:=Tryz.sizeOf21
 v21:=Tryz.zeroValue21
 t31:=Tryz.underlying24
 a31:=Tryz.isAgg24
 z31:=Tryz.sizeOf24
 v31:=Tryz.zeroValue24
 t46:=Tryz.underlying147
 a46:=Tryz.isAgg147
 z46:=Tryz.sizeOf147
 v46:=Tryz.zeroValue147
 t51:=Tryz.underlying198
 a51:=Tryz.isAgg198
 z51:=Tryz.sizeOf198
 v51:=Tryz.zeroValue198
 t105:=Tryz.underlying188
 a105:=Tryz.isAgg188
 z105:=Tryz.sizeOf188
 v105:=Tryz.zeroValue188
 t119:=Tryz.underlying236
 a119:=Tryz.isAgg236
 z119:=Tryz.sizeOf236
 t138:=Tryz.underlying238
 a138:=Tryz.isAgg238
 z138:=Tryz.sizeOf238
 v138:=Tryz.zeroValue238
 t139:=Tryz.underlying239
 a139:=Tryz.isAgg239
 z139:=Tryz.sizeOf239
 v139:=Tryz.zeroValue239
 t146:=Tryz.underlying199
 a146:=Tryz.isAgg199
 z146:=Tryz.sizeOf199
 v146:=Tryz.zeroValue199
 g1:=zAw
 g3:=zAw
 g4:=by kernel_rfl}
open Go.RowKit Go.Lib in
theorem Tryz.strings_Split (s sep:ByteArray) (m:Int) (w:World) (hs:s.size<4294967281) (hm:w.cell? ⟨10,0,none⟩=some (.int .i64 m)) (h1:1<=sep.size):
 Calls Tryz.prog 36 #[.string s,.string sep] w λe w'=>
  e=.returned (.slice (some ⟨w.heap.size,0,none⟩) (Lib.countB s sep+1) (Lib.countB s sep+1))/\w'=w.alloc (.cells ((Lib.splitB sep 0 (Lib.countB s sep) s).map Value.string).toArray 9):=Any.strings_Split Tryz.azP zAw s sep m w hs hm h1
def Tryz.akS:Go.Shelf.Ren:=⟨fun |146=>36|221=>62|268=>86|138=>87|143=>88|195=>110|197=>111|218=>112|219=>113|260=>133|217=>134|225=>135|224=>136|267=>137|266=>160|314=>161|n=>n,fun |9=>9|31=>24|3=>3|4=>4|0=>0|105=>188|21=>21|5=>5|46=>147|119=>236|139=>239|138=>238|146=>199|51=>198|n=>n,fun |1=>10|3=>13|4=>14|n=>n⟩
theorem Tryz.awI:Go.Proofs.LaysM.n146 Tryz.prog Tryz.akS:={
 mixed:=zAw
 f138:=Tryz.func87.trans (congrArg some zAw)
 f143:=Tryz.func88.trans (congrArg some zAw)
 f146:=Tryz.func36.trans (congrArg some zAw)
 f195:=Tryz.func110.trans (congrArg some zAw)
 f197:=Tryz.func111.trans (congrArg some zAw)
 f217:=Tryz.func134.trans (congrArg some zAw)
 f218:=Tryz.func112.trans (congrArg some zAw)
 f219:=Tryz.func113.trans (congrArg some zAw)
 f221:=Tryz.func62.trans (congrArg some zAw)
 f224:=Tryz.func136.trans (congrArg some zAw)
 f225:=Tryz.func135.trans (congrArg some zAw)
 f260:=Tryz.func133.trans (congrArg some zAw)
 f266:=Tryz.func160.trans (congrArg some zAw)
 f267:=Tryz.func137.trans (congrArg some zAw)
 f268:=Tryz.func86.trans (congrArg some zAw)
 f314:=Tryz.func161.trans (congrArg some zAw)
 t0:=Tryz.underlying0
 a0:=Tryz.isAgg0
 z0:=Tryz.sizeOf0
 v0:=Tryz.zeroValue0
 t3:=Tryz.underlying3
 a3:=Tryz.isAgg3
 z3:=Tryz.sizeOf3
 v3:=Tryz.zeroValue3
 t4:=Tryz.underlying4
 a4:=Tryz.isAgg4
 z4:=Tryz.sizeOf4
 v4:=Tryz.zeroValue4
 t5:=Tryz.underlying5
 a5:=Tryz.isAgg5
 z5:=Tryz.sizeOf5
 v5:=Tryz.zeroValue5
 t9:=Tryz.underlying9
 a9:=Tryz.isAgg9
 z9:=Tryz.sizeOf9
 v9:=Tryz.zeroValue9
 t21:=Tryz.underlying21
 a21:=Tryz.isAgg21
 z21:=Tryz.sizeOf21
 v21:=Tryz.zeroValue21
 t31:=Tryz.underlying24
 a31:=Tryz.isAgg24
 z31:=Tryz.sizeOf24
 v31:=Tryz.zeroValue24
 t46:=Tryz.underlying147
 a46:=Tryz.isAgg147
 z46:=Tryz.sizeOf147
 v46:=Tryz.zeroValue147
 t51:=Tryz.underlying198
 a51:=Tryz.isAgg198
 z51:=Tryz.sizeOf198
 v51:=Tryz.zeroValue198
 t105:=Tryz.underlying188
 a105:=Tryz.isAgg188
 z105:=Tryz.sizeOf188
 v105:=Tryz.zeroValue188
 t119:=Tryz.underlying236
 a119:=Tryz.isAgg236
 z119:=Tryz.sizeOf236
 t138:=Tryz.underlying238
 a138:=Tryz.isAgg238
 z138:=Tryz.sizeOf238
 v138:=Tryz.zeroValue238
 t139:=Tryz.underlying239
 a139:=Tryz.isAgg239
 z139:=Tryz.sizeOf239
 v139:=Tryz.zeroValue239
 t146:=Tryz.underlying199
 a146:=Tryz.isAgg199
 z146:=Tryz.sizeOf199
 v146:=Tryz.zeroValue199
 g1:=zAw
 g3:=zAw
 g4:=zAw
 i0:=zAw
 i3:=zAw
 i4:=zAw
 i5:=zAw
 i9:=zAw
 i21:=zAw
 i31:=zAw
 i46:=zAw
 i51:=zAw
 i105:=zAw
 i138:=zAw
 i139:=zAw
 i146:=zAw
 m1:=zAw
 s1_3:=λw h=>Go.Proofs.cell_of_shapedOpen_int (zero:=#[.int .i64 0]) (t:=3) h (of_decide_eq_true zAw) zAw rfl zAw zAw Tryz.underlying3
 m3:=zAw
 m4:=by kernel_rfl}
def Tryz.amC:Go.Shelf.Ren:=⟨fun |212=>92|263=>120|264=>121|n=>n,fun |46=>147|51=>198|146=>199|53=>201|148=>202|n=>n,fun |n=>n⟩
theorem Tryz.azN:Go.Proofs.Lays.n212 Tryz.prog Tryz.amC:={
 mixed:=zAw
 f212:=Tryz.func92.trans (congrArg some zAw)
 f263:=Tryz.func120.trans (congrArg some zAw)
 f264:=Tryz.func121.trans (congrArg some zAw)
 t46:=Tryz.underlying147
 a46:=Tryz.isAgg147
 z46:=Tryz.sizeOf147
 v46:=Tryz.zeroValue147
 t51:=Tryz.underlying198
 a51:=Tryz.isAgg198
 z51:=Tryz.sizeOf198
 v51:=Tryz.zeroValue198
 t53:=Tryz.underlying201
 a53:=Tryz.isAgg201
 z53:=Tryz.sizeOf201
 v53:=Tryz.zeroValue201
 t146:=Tryz.underlying199
 a146:=Tryz.isAgg199
 z146:=Tryz.sizeOf199
 v146:=Tryz.zeroValue199
 t148:=Tryz.underlying202
 a148:=Tryz.isAgg202
 z148:=Tryz.sizeOf202
 v148:=Tryz.zeroValue202}
open Go.RowKit Go.Lib in
theorem Tryz.bits_Mul (x y:Nat) (hx:x<18446744073709551616) (hy:y<18446744073709551616) (w:World):
 Calls Tryz.prog 92 #[.int .u64 x,.int .u64 y] w λe w'=>e=.returned (.tuple #[.int .u64 ((x*y / 18446744073709551616:Nat):Int),.int .u64 ((x*y % 18446744073709551616:Nat):Int)])/\w'=w:=Any.bits_Mul Tryz.azN x y hx hy w
def Tryz.amG:Go.Shelf.Ren:=⟨fun |107=>198|108=>217|n=>n,fun |28=>27|3=>3|4=>4|0=>0|n=>n,fun |n=>n⟩
theorem Tryz.aqU:Go.Proofs.Lays.n107 Tryz.prog Tryz.amG:={
 mixed:=zAw
 f107:=Tryz.func198.trans (congrArg some zAw)
 f108:=Tryz.func217.trans (congrArg some zAw)
 t0:=Tryz.underlying0
 a0:=Tryz.isAgg0
 z0:=Tryz.sizeOf0
 v0:=Tryz.zeroValue0
 t3:=Tryz.underlying3
 a3:=Tryz.isAgg3
 z3:=Tryz.sizeOf3
 v3:=Tryz.zeroValue3
 t4:=Tryz.underlying4
 a4:=Tryz.isAgg4
 z4:=Tryz.sizeOf4
 v4:=Tryz.zeroValue4
 t28:=Tryz.underlying27
 a28:=Tryz.isAgg27
 z28:=Tryz.sizeOf27
 v28:=Tryz.zeroValue27}
open Go.Lib in
theorem Tryz.slices_Contains_int (b off n c:Nat) (zs:List Int) (x:Int) (w:World) (hz:n<=zs.length) (hbig:n<=9223372036854775807) (hc:∀j,j<zs.length->w.cell? ⟨b,off+j,none⟩=some (.int .i64 (zs.getD j 0))):
 Calls Tryz.prog 198 #[.slice (some ⟨b,off,none⟩) n c,.int .i64 x] w λe w'=>e=.returned (.bool ((zs.take n).contains x))/\w'=w:=Any.slices_Contains_int Tryz.aqU b off n c zs x w hz hbig hc
open Go.Lib in
theorem Tryz.slices_Contains_int_empty (a:Option Addr) (c:Nat) (x:Int) (w:World):
 Calls Tryz.prog 198 #[.slice a 0 c,.int .i64 x] w λe w'=>e=.returned (.bool false)/\w'=w:=Any.slices_Contains_int_empty Tryz.aqU a c x w
def Tryz.amF:Go.Shelf.Ren:=⟨fun |110=>38|109=>65|n=>n,fun |31=>24|9=>9|4=>4|3=>3|0=>0|n=>n,fun |n=>n⟩
theorem Tryz.azR:Go.Proofs.Lays.n110 Tryz.prog Tryz.amF:={
 mixed:=zAw
 f109:=Tryz.func65.trans (congrArg some zAw)
 f110:=Tryz.func38.trans (congrArg some zAw)
 t0:=Tryz.underlying0
 a0:=Tryz.isAgg0
 z0:=Tryz.sizeOf0
 v0:=Tryz.zeroValue0
 t3:=Tryz.underlying3
 a3:=Tryz.isAgg3
 z3:=Tryz.sizeOf3
 v3:=Tryz.zeroValue3
 t4:=Tryz.underlying4
 a4:=Tryz.isAgg4
 z4:=Tryz.sizeOf4
 v4:=Tryz.zeroValue4
 t9:=Tryz.underlying9
 a9:=Tryz.isAgg9
 z9:=Tryz.sizeOf9
 v9:=Tryz.zeroValue9
 t31:=Tryz.underlying24
 a31:=Tryz.isAgg24
 z31:=Tryz.sizeOf24
 v31:=Tryz.zeroValue24}
open Go.Lib in
theorem Tryz.slices_Contains_string (b off n c:Nat) (zs:List ByteArray) (x:ByteArray) (w:World) (hz:n<=zs.length) (hbig:n<=9223372036854775807) (hc:∀j,j<zs.length->w.cell? ⟨b,off+j,none⟩=some (.string (zs.getD j ByteArray.empty))):
 Calls Tryz.prog 38 #[.slice (some ⟨b,off,none⟩) n c,.string x] w λe w'=>e=.returned (.bool (Lib.containsS (zs.take n) x))/\w'=w:=Any.slices_Contains_string Tryz.azR b off n c zs x w hz hbig hc
def Tryz.amE:Go.Shelf.Ren:=⟨fun |113=>102|n=>n,fun |28=>27|3=>3|4=>4|9=>9|20=>20|0=>0|n=>n,fun |n=>n⟩
theorem Tryz.azQ:Go.Proofs.Lays.n113 Tryz.prog Tryz.amE:={
 mixed:=zAw
 f113:=Tryz.func102.trans (congrArg some zAw)
 t0:=Tryz.underlying0
 a0:=Tryz.isAgg0
 z0:=Tryz.sizeOf0
 v0:=Tryz.zeroValue0
 t3:=Tryz.underlying3
 a3:=Tryz.isAgg3
 z3:=Tryz.sizeOf3
 v3:=Tryz.zeroValue3
 t4:=Tryz.underlying4
 a4:=Tryz.isAgg4
 z4:=Tryz.sizeOf4
 v4:=Tryz.zeroValue4
 t9:=Tryz.underlying9
 a9:=Tryz.isAgg9
 z9:=Tryz.sizeOf9
 v9:=Tryz.zeroValue9
 t20:=Tryz.underlying20
 a20:=Tryz.isAgg20
 z20:=Tryz.sizeOf20
 v20:=Tryz.zeroValue20
 t28:=Tryz.underlying27
 a28:=Tryz.isAgg27
 z28:=Tryz.sizeOf27
 v28:=Tryz.zeroValue27}
open Go.Lib in
theorem Tryz.slices_Max_int (b off n c:Nat) (zs:List Int) (w:World) (hn:0<n) (hz:n<=zs.length) (hbig:n<=9223372036854775807) (hc:∀j,j<zs.length->w.cell? ⟨b,off+j,none⟩=some (.int .i64 (zs.getD j 0))):
 Calls Tryz.prog 102 #[.slice (some ⟨b,off,none⟩) n c] w λe w'=>e=.returned (.int .i64 (Lib.maxOf (zs.take n)))/\w'=w:=Any.slices_Max_int Tryz.azQ b off n c zs w hn hz hbig hc
def Tryz.aiT:Go.Shelf.Ren:=⟨fun |15=>199|n=>n,fun |22=>27|3=>3|4=>4|n=>n,fun |n=>n⟩
theorem Tryz.ajO:Go.Proofs.Lays2.n15 Tryz.prog Tryz.aiT:={
 mixed:=zAw
 f15:=Tryz.func199.trans (congrArg some zAw)
 t3:=Tryz.underlying3
 a3:=Tryz.isAgg3
 z3:=Tryz.sizeOf3
 v3:=Tryz.zeroValue3
 t4:=Tryz.underlying4
 a4:=Tryz.isAgg4
 z4:=Tryz.sizeOf4
 v4:=Tryz.zeroValue4
 t22:=Tryz.underlying27
 a22:=Tryz.isAgg27
 z22:=Tryz.sizeOf27
 v22:=Tryz.zeroValue27
 i3:=by kernel_rfl}
open Go.RowKit Go.Lib in
theorem Tryz.slices_Clone_int (b off n c:Nat) (zs:List Int) (w:World) (hz:n<=zs.length) (hbig:n*8<=140737488355328) (hc:∀j,j<zs.length->w.cell? ⟨b,off+j,none⟩=some (.int .i64 (zs.getD j 0))):
 Calls Tryz.prog 199 #[.slice (some ⟨b,off,none⟩) n c] w λe w'=>∃v',e=.returned v'/\w'.ownsRow w.heap.size 3 1 v' n ((zs.take n).map (Value.int .i64))/\v'≠.slice none 0 0/\Below w.heap.size w w':=Any.slices_Clone_int Tryz.ajO b off n c zs w hz hbig hc
open Go.RowKit Go.Lib in
theorem Tryz.slices_Clone_int_zero (a:Addr) (c:Nat) (w:World):
 Calls Tryz.prog 199 #[.slice (some a) 0 c] w λe w'=>∃v',e=.returned v'/\w'.ownsRow w.heap.size 3 1 v' 0 []/\v'≠.slice none 0 0/\Below w.heap.size w w':=Any.slices_Clone_int_zero Tryz.ajO a c w
def Tryz.aiS:Go.Shelf.Ren:=⟨fun |23=>196|n=>n,fun |22=>27|3=>3|4=>4|0=>0|n=>n,fun |n=>n⟩
theorem Tryz.atD:Go.Proofs.Lays2.n23 Tryz.prog Tryz.aiS:={
 mixed:=zAw
 f23:=Tryz.func196.trans (congrArg some zAw)
 t0:=Tryz.underlying0
 a0:=Tryz.isAgg0
 z0:=Tryz.sizeOf0
 v0:=Tryz.zeroValue0
 t3:=Tryz.underlying3
 a3:=Tryz.isAgg3
 z3:=Tryz.sizeOf3
 v3:=Tryz.zeroValue3
 t4:=Tryz.underlying4
 a4:=Tryz.isAgg4
 z4:=Tryz.sizeOf4
 v4:=Tryz.zeroValue4
 t22:=Tryz.underlying27
 a22:=Tryz.isAgg27
 z22:=Tryz.sizeOf27
 v22:=Tryz.zeroValue27
 i3:=by kernel_rfl}
open Go.RowKit Go.Lib Go.Sort in
theorem Tryz.slices_Delete_int_cells (b off n c i j:Nat) (zs:List Int) (w:World) (hz:n<=zs.length) (hcap:n<=c) (hm:c<=9223372036854775807) (hij:i<=j) (hj:j<=n) (hc:∀j,j<zs.length->w.cell? ⟨b,off+j,none⟩=some (.int .i64 (zs.getD j 0))) (hf:∀j,j<n->w.frozen? ⟨b,off+j,none⟩=false):
 Calls Tryz.prog 196 #[.slice (some ⟨b,off,none⟩) n c,.int .i64 i,.int .i64 j] w λe w'=>e=.returned (.slice (some ⟨b,off,none⟩) (n - (j - i)) c)/\∃q,w'=(w.drewN q).setCells b off (((zs.take n).take i++(zs.take n).drop j++List.replicate (j - i) 0).map (Value.int .i64)):=Any.slices_Delete_int_cells Tryz.atD b off n c i j zs w hz hcap hm hij hj hc hf
end Go.Proofs
