/- Part 9c of the proof. -/
import Derived.Test.YtdhekhlmdefcnaaGreatDoorPart9
set_option maxHeartbeats 16000000
set_option maxRecDepth 1000000
namespace Go.Proofs
open Go.Shelf
def Tryz.qA:Go.Shelf.Ren:=⟨λ|156=>114|165=>152|166=>17|169=>19|240=>44|241=>182|276=>67|277=>188|n=>n,λ|31=>22|9=>9|3=>3|4=>4|0=>0|20=>20|72=>58|76=>63|70=>56|37=>33|75=>25|127=>95|164=>70|5=>5|80=>65|n=>n,λ|n=>n⟩
theorem Tryz.xi:Go.Proofs.Lays.n156 prog Tryz.qA:={
 mixed:=kR
 f156:=func114.trans (congrArg some kR)
 f165:=func152.trans (congrArg some kR)
 f166:=func17.trans (congrArg some kR)
 f169:=func19.trans (congrArg some kR)
 f240:=func44.trans (congrArg some kR)
 f241:=func182.trans (congrArg some kR)
 f276:=func67.trans (congrArg some kR)
 f277:=func188.trans (congrArg some kR)
 t0:=underlying0
 a0:=Tryz.isAgg0
 z0:=Tryz.sizeOf0
 v0:=Tryz.zeroValue0
 t3:=underlying3
 a3:=Tryz.isAgg3
 z3:=Tryz.sizeOf3
 v3:=Tryz.zeroValue3
 t4:=underlying4
 a4:=Tryz.isAgg4
 z4:=Tryz.sizeOf4
 v4:=Tryz.zeroValue4
 t9:=underlying9
 a9:=Tryz.isAgg9
 z9:=Tryz.sizeOf9
 v9:=Tryz.zeroValue9
 t20:=underlying20
 a20:=Tryz.isAgg20
 z20:=Tryz.sizeOf20
 v20:=Tryz.zeroValue20
 t31:=underlying22
 a31:=Tryz.isAgg22
 z31:=Tryz.sizeOf22
 v31:=Tryz.zeroValue22
 t37:=underlying33
 a37:=Tryz.isAgg33
 z37:=Tryz.sizeOf33
 v37:=Tryz.zeroValue33
 t70:=underlying56
 a70:=Tryz.isAgg56
 z70:=Tryz.sizeOf56
 v70:=Tryz.zeroValue56
 t72:=underlying58
 a72:=Tryz.isAgg58
 z72:=Tryz.sizeOf58
 v72:=Tryz.zeroValue58
 t75:=underlying25
 a75:=Tryz.isAgg25
 z75:=Tryz.sizeOf25
 v75:=Tryz.zeroValue25
 t76:=underlying63
 a76:=Tryz.isAgg63
 z76:=Tryz.sizeOf63
 v76:=Tryz.zeroValue63
 t127:=underlying95
 a127:=Tryz.isAgg95
 z127:=Tryz.sizeOf95
 v127:=Tryz.zeroValue95
 t164:=underlying70
 a164:=Tryz.isAgg70
 z164:=Tryz.sizeOf70
 v164:=Tryz.zeroValue70}
theorem Tryz.nZ:Builder.Extra prog Tryz.qA:={
 sizeBuilder:=kR
 liesBuilder:=kR
 t5:=underlying5
 a5:=Tryz.isAgg5
 z5:=Tryz.sizeOf5
 v5:=Tryz.zeroValue5
 infoByte:=kR
 cellsByte:=kR
 sizeByte:=kR
 neB5:=by decide}
open Go.RowKit in
theorem Tryz.strings_Join_none(a:Option Addr)(c:Nat)(sep:ay)(w:aa):
 Calls prog 114 #[.slice a 0 c,.string sep] w λe w'=>e=.returned (.string ⟨#[]⟩)/\w'=w:=Any.strings_Join_none Tryz.xi Tryz.nZ a c sep w
open Go.RowKit in
theorem Tryz.strings_Join(bk o c:Nat)(xs:List ay)(sep:ay)(w:aa)(hcells:∀(j:Nat) x,xs[j]?=some x->w.cell? ⟨bk,o+j,none⟩=some (.string x))(hbk:bk<w.heap.size)(hN:xs.length<=140737488355328)(hcap:xs.length<=c)(hlen:(Lib.join (xs.map (·.data.toList)) sep.data.toList).length<=140737488355328):
 Calls prog 114 #[.slice (some ⟨bk,o,none⟩) xs.length c,.string sep] w λe w'=>e=.returned (.string ⟨(Lib.join (xs.map (·.data.toList)) sep.data.toList).toArray⟩)/\Below w.heap.size w w':=Any.strings_Join Tryz.xi Tryz.nZ bk o c xs sep w hcells hbk hN hcap hlen
def Tryz.Gp:Go.Shelf.Ren:=⟨λ|121=>110|214=>147|n=>n,λ|4=>4|9=>9|n=>n,λ|n=>n⟩
theorem Tryz.Tu:Go.Proofs.Lays.n121 prog Tryz.Gp:={
 mixed:=kR
 f121:=func110.trans (congrArg some kR)
 f214:=func147.trans (congrArg some kR)
 t4:=underlying4
 a4:=Tryz.isAgg4
 z4:=Tryz.sizeOf4
 v4:=Tryz.zeroValue4
 t9:=underlying9
 a9:=Tryz.isAgg9
 z9:=Tryz.sizeOf9
 v9:=Tryz.zeroValue9}
open Go.RowKit in
theorem Tryz.strconv_FormatBool(b:Bool)(w:aa):
 Calls prog 110 #[.bool b] w λe w'=>e=.returned (.string ⟨(Lib.formatBool b).toArray⟩)/\w'=w:=Any.strconv_FormatBool Tryz.Tu b w
def Tryz.Di:Go.Shelf.Ren:=⟨λ|171=>46|243=>68|246=>94|283=>126|284=>127|285=>128|286=>129|129=>161|317=>160|318=>162|319=>163|320=>140|337=>177|338=>178|n=>n,λ|3=>3|9=>9|2=>2|4=>4|171=>205|0=>0|53=>40|37=>33|5=>5|173=>208|212=>240|51=>43|20=>20|213=>241|46=>47|232=>268|233=>269|n=>n,λ|17=>6|18=>7|19=>8|n=>n⟩
theorem Tryz.PG:Go.Proofs.LaysM.n171 prog Tryz.Di:={
 mixed:=kR
 f129:=func161.trans (congrArg some kR)
 f171:=func46.trans (congrArg some kR)
 f243:=func68.trans (congrArg some kR)
 f246:=func94.trans (congrArg some kR)
 f283:=func126.trans (congrArg some kR)
 f284:=func127.trans (congrArg some kR)
 f285:=func128.trans (congrArg some kR)
 f286:=func129.trans (congrArg some kR)
 f317:=func160.trans (congrArg some kR)
 f318:=func162.trans (congrArg some kR)
 f319:=func163.trans (congrArg some kR)
 f320:=func140.trans (congrArg some kR)
 f337:=func177.trans (congrArg some kR)
 f338:=func178.trans (congrArg some kR)
 t0:=underlying0
 a0:=Tryz.isAgg0
 z0:=Tryz.sizeOf0
 v0:=Tryz.zeroValue0
 t2:=underlying2
 a2:=Tryz.isAgg2
 z2:=Tryz.sizeOf2
 v2:=Tryz.zeroValue2
 t3:=underlying3
 a3:=Tryz.isAgg3
 z3:=Tryz.sizeOf3
 v3:=Tryz.zeroValue3
 t4:=underlying4
 a4:=Tryz.isAgg4
 z4:=Tryz.sizeOf4
 v4:=Tryz.zeroValue4
 t5:=underlying5
 a5:=Tryz.isAgg5
 z5:=Tryz.sizeOf5
 v5:=Tryz.zeroValue5
 t9:=underlying9
 a9:=Tryz.isAgg9
 z9:=Tryz.sizeOf9
 v9:=Tryz.zeroValue9
 t20:=underlying20
 a20:=Tryz.isAgg20
 z20:=Tryz.sizeOf20
 v20:=Tryz.zeroValue20
 t37:=underlying33
 a37:=Tryz.isAgg33
 z37:=Tryz.sizeOf33
 v37:=Tryz.zeroValue33
 t46:=underlying47
 a46:=Tryz.isAgg47
 z46:=Tryz.sizeOf47
 v46:=Tryz.zeroValue47
 t51:=underlying43
 a51:=Tryz.isAgg43
 z51:=Tryz.sizeOf43
 v51:=Tryz.zeroValue43
 t53:=underlying40
 a53:=Tryz.isAgg40
 z53:=Tryz.sizeOf40
 v53:=Tryz.zeroValue40
 t171:=underlying205
 a171:=Tryz.isAgg205
 z171:=Tryz.sizeOf205
 v171:=Tryz.zeroValue205
 t173:=underlying208
 a173:=Tryz.isAgg208
 z173:=Tryz.sizeOf208
 v173:=Tryz.zeroValue208
 t212:=underlying240
 a212:=Tryz.isAgg240
 z212:=Tryz.sizeOf240
 v212:=Tryz.zeroValue240
 t213:=underlying241
 a213:=Tryz.isAgg241
 z213:=Tryz.sizeOf241
 t232:=underlying268
 a232:=Tryz.isAgg268
 z232:=Tryz.sizeOf268
 v232:=Tryz.zeroValue268
 t233:=underlying269
 a233:=Tryz.isAgg269
 z233:=Tryz.sizeOf269
 v233:=Tryz.zeroValue269
 g17:=kR
 g18:=kR
 g19:=kR
 i0:=kR
 i2:=kR
 i3:=kR
 i4:=kR
 i5:=kR
 i9:=kR
 i20:=kR
 i37:=kR
 i46:=kR
 i51:=kR
 i53:=kR
 i171:=kR
 i173:=kR
 i212:=kR
 i232:=kR
 i233:=kR
 m17:=kR
 m18:=kR
 m19:=by kernel_rfl}
open Go.RowKit Go.Sort Go.Lib in
theorem Tryz.strconv_Itoa(n:Int)(h0: -9223372036854775808<=n)(h1:n<=9223372036854775807)(w:aa)(htab:Lib.TabIs prog w "internal/strconv.uint64pow10" .u64 Lib.pow10Tab):
 Calls prog 46 #[.int .i64 n] w λe w'=>e=.returned (.string ⟨(Lib.itoa n).toArray⟩)/\∃k os,w'=grow (w.drewN k) os:=Any.strconv_Itoa Tryz.PG n h0 h1 w htab
def Tryz.Dj:Go.Shelf.Ren:=⟨λ|172=>59|244=>88|245=>89|247=>116|279=>117|280=>118|281=>119|282=>120|287=>155|316=>156|171=>46|205=>157|321=>183|322=>184|243=>68|246=>94|283=>126|284=>127|285=>128|286=>129|129=>161|317=>160|318=>162|319=>163|320=>140|337=>177|338=>178|n=>n,λ|9=>9|3=>3|75=>25|76=>63|4=>4|5=>5|167=>190|37=>33|0=>0|85=>191|2=>2|168=>193|53=>40|175=>232|46=>47|210=>235|127=>95|145=>263|143=>261|21=>21|171=>205|173=>208|212=>240|51=>43|20=>20|213=>241|232=>268|233=>269|80=>65|n=>n,λ|15=>4|16=>5|17=>6|18=>7|19=>8|n=>n⟩
theorem Tryz.yv:Go.Proofs.LaysC.n172 prog Tryz.Dj:={
 mixed:=kR
 f129:=func161.trans (congrArg some kR)
 f171:=func46.trans (congrArg some kR)
 f172:=func59.trans (congrArg some kR)
 f205:=func157.trans (congrArg some kR)
 f243:=func68.trans (congrArg some kR)
 f244:=func88.trans (congrArg some kR)
 f245:=func89.trans (congrArg some kR)
 f246:=func94.trans (congrArg some kR)
 f247:=func116.trans (congrArg some kR)
 f279:=func117.trans (congrArg some kR)
 f280:=func118.trans (congrArg some kR)
 f281:=func119.trans (congrArg some kR)
 f282:=func120.trans (congrArg some kR)
 f283:=func126.trans (congrArg some kR)
 f284:=func127.trans (congrArg some kR)
 f285:=func128.trans (congrArg some kR)
 f286:=func129.trans (congrArg some kR)
 f287:=func155.trans (congrArg some kR)
 f316:=func156.trans (congrArg some kR)
 f317:=func160.trans (congrArg some kR)
 f318:=func162.trans (congrArg some kR)
 f319:=func163.trans (congrArg some kR)
 f320:=func140.trans (congrArg some kR)
 f321:=func183.trans (congrArg some kR)
 f322:=func184.trans (congrArg some kR)
 f337:=func177.trans (congrArg some kR)
 f338:=func178.trans (congrArg some kR)
 t0:=underlying0
 a0:=Tryz.isAgg0
 z0:=Tryz.sizeOf0
 v0:=Tryz.zeroValue0
 t2:=underlying2
 a2:=Tryz.isAgg2
 z2:=Tryz.sizeOf2
 v2:=Tryz.zeroValue2
 t3:=underlying3
 a3:=Tryz.isAgg3
 z3:=Tryz.sizeOf3
 v3:=Tryz.zeroValue3
 t4:=underlying4
 a4:=Tryz.isAgg4
 z4:=Tryz.sizeOf4
 v4:=Tryz.zeroValue4
 t5:=underlying5
 a5:=Tryz.isAgg5
 z5:=Tryz.sizeOf5
 v5:=Tryz.zeroValue5
 t9:=underlying9
 a9:=Tryz.isAgg9
 z9:=Tryz.sizeOf9
 v9:=Tryz.zeroValue9
 t20:=underlying20
 a20:=Tryz.isAgg20
 z20:=Tryz.sizeOf20
 v20:=Tryz.zeroValue20
 t21:=underlying21
 a21:=Tryz.isAgg21
 z21:=Tryz.sizeOf21
 v21:=Tryz.zeroValue21
 t37:=underlying33
 a37:=Tryz.isAgg33
 z37:=Tryz.sizeOf33
 v37:=Tryz.zeroValue33
 t46:=underlying47
 a46:=Tryz.isAgg47
 z46:=Tryz.sizeOf47
 v46:=Tryz.zeroValue47
 t51:=underlying43
 a51:=Tryz.isAgg43
 z51:=Tryz.sizeOf43
 v51:=Tryz.zeroValue43
 t53:=underlying40
 a53:=Tryz.isAgg40
 z53:=Tryz.sizeOf40
 v53:=Tryz.zeroValue40
 t75:=underlying25
 a75:=Tryz.isAgg25
 z75:=Tryz.sizeOf25
 v75:=Tryz.zeroValue25
 t76:=underlying63
 a76:=Tryz.isAgg63
 z76:=Tryz.sizeOf63
 v76:=Tryz.zeroValue63
 t85:=underlying191
 a85:=Tryz.isAgg191
 z85:=Tryz.sizeOf191
 v85:=Tryz.zeroValue191
 t127:=underlying95
 a127:=Tryz.isAgg95
 z127:=Tryz.sizeOf95
 v127:=Tryz.zeroValue95
 t143:=underlying261
 a143:=Tryz.isAgg261
 z143:=Tryz.sizeOf261
 v143:=Tryz.zeroValue261
 t145:=underlying263
 a145:=Tryz.isAgg263
 z145:=Tryz.sizeOf263
 v145:=Tryz.zeroValue263
 t167:=underlying190
 a167:=Tryz.isAgg190
 z167:=Tryz.sizeOf190
 v167:=Tryz.zeroValue190
 t168:=underlying193
 a168:=Tryz.isAgg193
 z168:=Tryz.sizeOf193
 v168:=Tryz.zeroValue193
 t171:=underlying205
 a171:=Tryz.isAgg205
 z171:=Tryz.sizeOf205
 v171:=Tryz.zeroValue205
 t173:=underlying208
 a173:=Tryz.isAgg208
 z173:=Tryz.sizeOf208
 v173:=Tryz.zeroValue208
 t175:=underlying232
 a175:=Tryz.isAgg232
 z175:=Tryz.sizeOf232
 v175:=Tryz.zeroValue232
 t210:=underlying235
 a210:=Tryz.isAgg235
 z210:=Tryz.sizeOf235
 v210:=Tryz.zeroValue235
 t212:=underlying240
 a212:=Tryz.isAgg240
 z212:=Tryz.sizeOf240
 v212:=Tryz.zeroValue240
 t213:=underlying241
 a213:=Tryz.isAgg241
 z213:=Tryz.sizeOf241
 t232:=underlying268
 a232:=Tryz.isAgg268
 z232:=Tryz.sizeOf268
 v232:=Tryz.zeroValue268
 t233:=underlying269
 a233:=Tryz.isAgg269
 z233:=Tryz.sizeOf269
 v233:=Tryz.zeroValue269
 g15:=kR
 g16:=kR
 g17:=kR
 g18:=kR
 g19:=kR
 t80:=underlying65
 a80:=Tryz.isAgg65
 z80:=Tryz.sizeOf65
 v80:=Tryz.zeroValue65
 i0:=kR
 i2:=kR
 i3:=kR
 i4:=kR
 i5:=kR
 i9:=kR
 i20:=kR
 i21:=kR
 i37:=kR
 i46:=kR
 i51:=kR
 i53:=kR
 i75:=kR
 i76:=kR
 i80:=kR
 i85:=kR
 i127:=kR
 i143:=kR
 i145:=kR
 i167:=kR
 i168:=kR
 i171:=kR
 i173:=kR
 i175:=kR
 i210:=kR
 i212:=kR
 i232:=kR
 i233:=kR
 m15:=kR
 m16:=kR
 m17:=kR
 m18:=kR
 m19:=kR
 c0:=kR
 c2:=kR
 c3:=kR
 c4:=kR
 c5:=kR
 c9:=kR
 c20:=kR
 c21:=kR
 c37:=kR
 c46:=kR
 c51:=kR
 c53:=kR
 c75:=kR
 c76:=kR
 c80:=kR
 c85:=kR
 c127:=kR
 c143:=kR
 c145:=kR
 c167:=kR
 c168:=kR
 c171:=kR
 c173:=kR
 c175:=kR
 c210:=kR
 c212:=kR
 c213:=kR
 c232:=kR
 c233:=by kernel_rfl}
open Go.RowKit in
theorem Tryz.strconv_Atoi_ok(s:ay)(hmax:s.size<=9223372036854775806)(v:Int)(h:Lib.atoiAll s.data.toList=.ok v)(w:aa):
 Calls prog 59 #[.string s] w λe w'=>e=.returned (.tuple #[.int .i64 v,.nilIface])/\(w'=w\/∃t,w'=Lib.bytesWorld w 5 t):=Any.strconv_Atoi_ok Tryz.yv s hmax v h w
open Go.RowKit in
theorem Tryz.strconv_Atoi_syntax(s:ay)(hlim:s.size<=281474976710656)(h1:∀v,Lib.atoiAll s.data.toList≠.ok v)(h2:Lib.atoiAll s.data.toList≠.range)(ev:ae)(w:aa)(hv:w.cell? ⟨4,0,none⟩=some ev)(hev:ev=.nilIface\/∃te pe,ev=.iface te pe):
 Calls prog 59 #[.string s] w λe w'=>∃N,e=.returned (.tuple #[.int .i64 (0),.iface 193 (pT N 0)])/\w.heap.size<=N/\w'.heap[N]?=some (.cells #[.string ⟨#[65,116,111,105]⟩,.string s,ev] 235 (0,0))/\Below w.heap.size w w':=Any.strconv_Atoi_syntax Tryz.yv s hlim (by rcases ha:Lib.atoiAll s.data.toList with v|_|_<;>first|rfl|exact absurd ha (h1 _)|exact absurd ha h2) ev w hv hev
open Go.RowKit in
theorem Tryz.strconv_Atoi_range(s:ay)(hlim:s.size<=281474976710656)(h:Lib.atoiAll s.data.toList=.range)(ev:ae)(w:aa)(hv:w.cell? ⟨5,0,none⟩=some ev)(hev:ev=.nilIface\/∃te pe,ev=.iface te pe):
 Calls prog 59 #[.string s] w λe w'=>∃N,e=.returned (.tuple #[.int .i64 (Lib.atoiSat s.data.toList),.iface 193 (pT N 0)])/\w.heap.size<=N/\w'.heap[N]?=some (.cells #[.string ⟨#[65,116,111,105]⟩,.string s,ev] 235 (0,0))/\Below w.heap.size w w':=Any.strconv_Atoi_range Tryz.yv s hlim h ev w hv hev
def Tryz.Gq:Go.Shelf.Ren:=⟨λ|143=>65|219=>93|217=>122|225=>123|224=>124|267=>125|266=>158|314=>159|n=>n,λ|9=>9|3=>3|4=>4|5=>5|46=>47|146=>237|51=>43|n=>n,λ|1=>3|n=>n⟩
theorem Tryz.Tv:Go.Proofs.Lays.n143 prog Tryz.Gq:={
 mixed:=kR
 f143:=func65.trans (congrArg some kR)
 f217:=func122.trans (congrArg some kR)
 f219:=func93.trans (congrArg some kR)
 f224:=func124.trans (congrArg some kR)
 f225:=func123.trans (congrArg some kR)
 f266:=func158.trans (congrArg some kR)
 f267:=func125.trans (congrArg some kR)
 f314:=func159.trans (congrArg some kR)
 t3:=underlying3
 a3:=Tryz.isAgg3
 z3:=Tryz.sizeOf3
 v3:=Tryz.zeroValue3
 t4:=underlying4
 a4:=Tryz.isAgg4
 z4:=Tryz.sizeOf4
 v4:=Tryz.zeroValue4
 t5:=underlying5
 a5:=Tryz.isAgg5
 z5:=Tryz.sizeOf5
 v5:=Tryz.zeroValue5
 t9:=underlying9
 a9:=Tryz.isAgg9
 z9:=Tryz.sizeOf9
 v9:=Tryz.zeroValue9
 t46:=underlying47
 a46:=Tryz.isAgg47
 z46:=Tryz.sizeOf47
 v46:=Tryz.zeroValue47
 t51:=underlying43
 a51:=Tryz.isAgg43
 z51:=Tryz.sizeOf43
 v51:=Tryz.zeroValue43
 t146:=underlying237
 a146:=Tryz.isAgg237
 z146:=Tryz.sizeOf237
 v146:=Tryz.zeroValue237
 g1:=by kernel_rfl}
open Go.RowKit Go.Lib in
theorem Tryz.strings_Index_one(s:ay)(c:UInt8)(w:aa):
 Calls prog 65 #[.string s,.string ⟨#[c]⟩] w λe w'=>e=.returned (.int .i64 (Lib.indexByte s.data.toList c))/\w'=w:=Any.strings_Index_one Tryz.Tv s c w
def Tryz.Gr:Go.Shelf.Ren:=⟨λ|102=>16|209=>43|207=>66|n=>n,λ|9=>9|4=>4|3=>3|n=>n,λ|n=>n⟩
theorem Tryz.Tw:Go.Proofs.Lays.n102 prog Tryz.Gr:={
 mixed:=kR
 f102:=func16.trans (congrArg some kR)
 f207:=func66.trans (congrArg some kR)
 f209:=func43.trans (congrArg some kR)
 t3:=underlying3
 a3:=Tryz.isAgg3
 z3:=Tryz.sizeOf3
 v3:=Tryz.zeroValue3
 t4:=underlying4
 a4:=Tryz.isAgg4
 z4:=Tryz.sizeOf4
 v4:=Tryz.zeroValue4
 t9:=underlying9
 a9:=Tryz.isAgg9
 z9:=Tryz.sizeOf9
 v9:=Tryz.zeroValue9}
open Go.RowKit Go.Lib in
theorem Tryz.strings_TrimSuffix(s p:ay)(w:aa)(hs:s.size<=9223372036854775807):
 Calls prog 16 #[.string s,.string p] w λe w'=>e=.returned (.string ⟨(Lib.trimSuffix s.data.toList p.data.toList).toArray⟩)/\w'=w:=Any.strings_TrimSuffix Tryz.Tw s p w hs
def Tryz.Gs:Go.Shelf.Ren:=⟨λ|229=>47|n=>n,λ|9=>9|40=>93|31=>22|152=>130|3=>3|0=>0|4=>4|21=>21|154=>132|n=>n,λ|n=>n⟩
theorem Tryz.Tx:Go.Proofs.Lays.n229 prog Tryz.Gs:={
 mixed:=kR
 f229:=func47.trans (congrArg some kR)
 t0:=underlying0
 a0:=Tryz.isAgg0
 z0:=Tryz.sizeOf0
 v0:=Tryz.zeroValue0
 t3:=underlying3
 a3:=Tryz.isAgg3
 z3:=Tryz.sizeOf3
 v3:=Tryz.zeroValue3
 t4:=underlying4
 a4:=Tryz.isAgg4
 z4:=Tryz.sizeOf4
 v4:=Tryz.zeroValue4
 t9:=underlying9
 a9:=Tryz.isAgg9
 z9:=Tryz.sizeOf9
 v9:=Tryz.zeroValue9
 t21:=underlying21
 a21:=Tryz.isAgg21
 z21:=Tryz.sizeOf21
 v21:=Tryz.zeroValue21
 t31:=underlying22
 a31:=Tryz.isAgg22
 z31:=Tryz.sizeOf22
 v31:=Tryz.zeroValue22
 t40:=underlying93
 a40:=Tryz.isAgg93
 z40:=Tryz.sizeOf93
 v40:=Tryz.zeroValue93
 t152:=underlying130
 a152:=Tryz.isAgg130
 z152:=Tryz.sizeOf130
 v152:=Tryz.zeroValue130
 t154:=underlying132
 a154:=Tryz.isAgg132
 z154:=Tryz.sizeOf132
 v154:=Tryz.zeroValue132}
open Go.RowKit Go.Lib in
theorem Tryz.strings_FieldsFunc(g:Nat)(lb:bw)(eg:∀args w,(callFunc g args).run prog w=.ok (.enter g args) w)(p:Nat->Bool)(s:ay)(w:aa)(hs:s.size<=4294967296)(hp:PredAt prog g lb encR p w):
 Calls prog 47 #[.string s,.func (.func g) #[] lb] w λe w'=>∃A,e=.returned (.slice (some ⟨A,0,none⟩) (Lib.goFieldsP p s).length (Lib.goFieldsP p s).length)/\w.heap.size<=A/\
  w'.ownsRow w.heap.size 9 1 (.slice (some ⟨A,0,none⟩) (Lib.goFieldsP p s).length (Lib.goFieldsP p s).length) (Lib.goFieldsP p s).length ((Lib.goFieldsP p s).map Value.string)/\Below w.heap.size w w':=Any.strings_FieldsFunc Tryz.Tx g lb eg p s w hs hp kR kR
end Go.Proofs
namespace Go.Proofs.YtdhekhlmdefcnaaGreatDoor
open Go.Extern Go.Extern.Stop Go.Proofs.Tryz Go.RowKit Go.Stop
theorem EA(t:Addr)(w:aa):(ReflectliteValue.unpack (.iface 67 (.pointer (some t)))).run prog w
 =.ok (.agg #[pT 9 67,pT w.heap.size 0,.int .u64 150]) (w.alloc (.cells #[.pointer (some t)] 67)):=kR
theorem Ty(a:Addr)(w:aa):(ReflectliteValue.methodAny (ReflectliteValue.valueError "reflectlite.Value.Type" 0) (λt _ _ _=>ReflectliteType.toType t) #[.agg #[pT 9 67,.pointer (some a),.int .u64 150]]).run prog w
 =.ok (.iface 135 (.agg #[pT 9 67])) w:=kR
theorem zv(h:ae)(w:aa):(Go.method 397 135 (.agg #[h]) "Kind").run prog w=.ok (203,h) w:=kR
theorem Tz(w:aa):((ReflectliteType.abiMethod λt=>(λa:Nat=>Value.int IntKind.u8 (a:Int))<$>Rtype.kind t) #[pT 9 67]).run prog w=.ok (.int .u8 22) w:=kR
theorem TB(w:aa):((ReflectliteType.abiMethod λt=>(λa:Nat=>Value.int IntKind.u8 (a:Int))<$>Rtype.kind t) #[pT 9 31]).run prog w=.ok (.int .u8 2) w:=kR
theorem rlm(z:Sem ae)(f:aw->Addr->Nat->Nat->Sem ae)(v:ae):
 ReflectliteValue.method z f #[v]=(do match<-ReflectliteValue.parts v with|none=>z|some (t,a,fl)=>f t a fl (fl %32)):=rfl
theorem NI(a:Addr)(w:aa):(ReflectliteValue.parts (.agg #[pT 9 67,.pointer (some a),.int .u64 150])).run prog w=.ok (some (67,a,150)) w:=kR
theorem NJ(a p:Addr)(W:aa)(ha:W.cell? a=some (.pointer (some p))):
 (ReflectliteValue.method (ReflectliteValue.valueError "reflectlite.Value.IsNil" 0) ReflectliteValue.isNil #[.agg #[pT 9 67,.pointer (some a),.int .u64 150]]).run prog W=.ok (.bool false) W:=by
 rw[rlm];simp only[Sem.run_bind,NI,Result.andThen];simp[ReflectliteValue.isNil,loadVar,isAgg,underlying,underlying67,ha,Result.andThen]
theorem zw(h:ae)(w:aa):(Go.method 397 135 (.agg #[h]) "Elem").run prog w=.ok (214,.agg #[h]) w:=kR
theorem oP(h:ae)(w:aa):(Go.method 397 135 (.agg #[h]) "Implements").run prog w=.ok (215,.agg #[h]) w:=kR
theorem mL(h:ae)(w:aa):(Go.method 397 135 (.agg #[h]) "AssignableTo").run prog w=.ok (212,.agg #[h]) w:=kR
theorem TC(w:aa):(ReflectliteType.method ReflectliteType.elem #[.agg #[pT 9 67]]).run prog w=.ok (.iface 135 (.agg #[pT 9 31])) w:=kR
theorem xj(w:aa):(ReflectliteType.relation "Implements" ReflectliteType.implements_ #[.agg #[pT 9 31],.iface 135 (.agg #[pT 9 25])]).run prog w=.ok (.bool true) w:=kR
theorem JL(v:ae)(w:aa):(ReflectliteType.typeOf #[.iface 31 v]).run prog w=.ok (.iface 135 (.agg #[pT 9 31])) w:=kR
theorem xk(w:aa):(ReflectliteType.relation "AssignableTo" ReflectliteType.assignableTo #[.agg #[pT 9 31],.iface 135 (.agg #[pT 9 31])]).run prog w=.ok (.bool true) w:=kR
theorem EB(e:Int)(w:aa):(ReflectliteValue.unpack (.iface 31 (I e))).run prog w
 =.ok (.agg #[pT 9 31,pT w.heap.size 0,.int .u64 130]) (w.alloc (.cells #[I e] 31)):=kR
theorem TD(w:aa):(Rtype.elem? 67).run prog w=.ok (some 31) w:=kR
theorem mkE(p:Addr)(w:aa):(ReflectliteValue.mk 31 p ReflectliteValue.flagAddr).run prog w=.ok (.agg #[pT 9 31,.pointer (some p),.int .u64 386]) w:=kR
theorem NK(a p:Addr)(W:aa)(ha:W.cell? a=some (.pointer (some p))):
 (ReflectliteValue.method (ReflectliteValue.valueError "reflectlite.Value.Elem" 0) ReflectliteValue.elem #[.agg #[pT 9 67,.pointer (some a),.int .u64 150]]).run prog W
  =.ok (.agg #[pT 9 31,.pointer (some p),.int .u64 386]) W:=by
 rw[rlm];simp only[Sem.run_bind,NI,Result.andThen];simp[ReflectliteValue.elem,loadVar,isAgg,underlying,underlying67,ha,Result.andThen,TD,mkE]
theorem rls(v x:ae):ReflectliteValue.set #[v,x]=(do
 let(some (dst,a,fl),some (src,b,_)):=(<-ReflectliteValue.parts v,<-ReflectliteValue.parts x)
  |unsupported (.noEntry "extern/(internal/reflectlite.Value).Set.zeroValue")
 if fl/ReflectliteValue.flagAddr %2==0 then unsupported (.noEntry "extern/(internal/reflectlite.Value).Set.unaddressable")
 let val<-loadVar src b
 if<-Rtype.directlyAssignable dst src then storeVar dst a val
 else if<-Rtype.implements dst src then
  if(<-Rtype.kind src)==20 then
   match val with
   |.nilIface=>unsupported (.noEntry "extern/reflectlite: a nil value of one interface type handed on as a value of another")
   |_=>storeVar dst a val
  else storeVar dst a (.iface src val)
 else panicString ("reflectlite.Set: value of type " ++(<-Rtype.spelt src)++ " is not assignable to type " ++(<-Rtype.spelt dst))
 pure (.tuple #[])):=rfl
theorem TE(a:Addr)(w:aa):(ReflectliteValue.parts (.agg #[pT 9 31,.pointer (some a),.int .u64 386])).run prog w=.ok (some (31,a,386)) w:=kR
theorem V7(a:Addr)(w:aa):(ReflectliteValue.parts (.agg #[pT 9 31,.pointer (some a),.int .u64 130])).run prog w=.ok (some (31,a,130)) w:=kR
theorem TF(w:aa):(Rtype.directlyAssignable 31 31).run prog w=.ok true w:=kR
theorem Xg(ta b:Addr)(e:Int)(old:ae)(W:aa)(hb:W.cell? b=some (I e))(ht:W.cell? ta=some old)(hf:W.frozen? ta=false):
 (ReflectliteValue.set #[.agg #[pT 9 31,.pointer (some ta),.int .u64 386],.agg #[pT 9 31,.pointer (some b),.int .u64 130]]).run prog W
  =.ok (.tuple #[]) (W.setCell ta (I e)):=by
 rw[rls];simp only[Sem.run_bind,TE,V7,Result.andThen];simp[ReflectliteValue.flagAddr,loadVar,isAgg,underlying,underlying31,hb,Result.andThen,TF,storeVar,Value.cells,storeCells,Addr.add];rw[run_store prog W ta _ _ rF];simp[ht,hf]
theorem V8(e:Int)(t:Addr)(old:ae)(w:aa)(hg:w.cell? ⟨0,0,none⟩=some (.iface 135 (.agg #[pT 9 25])))(ht0:w.cell? t=some old)(hf0:w.frozen? t=false):
 Calls prog 20 #[.iface 31 (I e),.iface 67 (.pointer (some t))] w λev w'=>ev=.returned (.bool true)/\w'=((((w.alloc (.cells #[.pointer (some t)] 67)).alloc (.cells #[pT 9 67,pT w.heap.size 0,.int .u64 150] 98)).alloc (.cells #[pT 9 67,pT w.heap.size 0,.int .u64 150] 98)).alloc (.cells #[I e] 31)).setCell t (I e):=by
 have h6:=@run_callFunc_extern prog 50 _ (λargs=>ReflectliteValue.unpack (args.getD 0 (.tuple #[]))) func50 kR kR kR kR;have h7:=@run_callFunc_extern prog 51 _ (ReflectliteValue.methodAny (ReflectliteValue.valueError "reflectlite.Value.Type" 0) (λt _ _ _=>ReflectliteType.toType t)) func51 kR kR kR kR;have h8:=@run_callFunc_extern prog 52 _ (ReflectliteValue.method (ReflectliteValue.valueError "reflectlite.Value.IsNil" 0) ReflectliteValue.isNil) func52 kR kR kR kR;have h27:=@run_callFunc_extern prog 203 _ (ReflectliteType.abiMethod λt=>do pure (.int .u8 (<-Rtype.kind t))) func203 kR kR kR kR;have h37:=@run_callFunc_extern prog 214 _ (ReflectliteType.method ReflectliteType.elem) func214 kR kR kR kR;have h38:=@run_callFunc_extern prog 215 _ (ReflectliteType.relation "Implements" ReflectliteType.implements_) func215 kR kR kR kR;have h10:=@run_callFunc_extern prog 85 _ ReflectliteType.typeOf func85 kR kR kR kR;have h35:=@run_callFunc_extern prog 212 _ (ReflectliteType.relation "AssignableTo" ReflectliteType.assignableTo) func212 kR kR kR kR;have h11:=@run_callFunc_extern prog 86 _ (ReflectliteValue.method (ReflectliteValue.valueError "reflectlite.Value.Elem" 0) ReflectliteValue.elem) func86 kR kR kR kR;have h12:=@run_callFunc_extern prog 87 _ ReflectliteValue.set func87 kR kR kR kR;have tO:=JL;have mA:=mL;have a25:=xk;have v25:=EB;have f6:=EA;have f7:=Ty;have mK:=zv;have mE:=zw;have mI:=oP;have k27:=Tz;have k25:=TB;have e27:=TC;have i25:=xj;have n8:=NJ ⟨w.heap.size,0,none⟩ t ((w.alloc (.cells #[.pointer (some t)] 67)).alloc (.cells #[pT 9 67,pT w.heap.size 0,.int .u64 150] 98)) sM;have hlt:0<w.heap.size:=World.block_lt_of_cell? w ⟨0,0,none⟩ hg;have hg2:((w.alloc (.cells #[.pointer (some t)] 67)).alloc (.cells #[pT 9 67,pT w.heap.size 0,.int .u64 150] 98)).cell? ⟨0,0,none⟩=some (.iface 135 (.agg #[pT 9 25])):=by exact zhc
 have htl:t.block<w.heap.size:=World.block_lt_of_cell? w t ht0;have el:=NK ⟨w.heap.size,0,none⟩ t (((w.alloc (.cells #[.pointer (some t)] 67)).alloc (.cells #[pT 9 67,pT w.heap.size 0,.int .u64 150] 98)).alloc (.cells #[pT 9 67,pT w.heap.size 0,.int .u64 150] 98)) zhd;have st:=Xg t ⟨w.heap.size+1+1+1,0,none⟩ e old ((((w.alloc (.cells #[.pointer (some t)] 67)).alloc (.cells #[pT 9 67,pT w.heap.size 0,.int .u64 150] 98)).alloc (.cells #[pT 9 67,pT w.heap.size 0,.int .u64 150] 98)).alloc (.cells #[I e] 31))
  zg6
  zhb
  zha
 go_enter func20,ntmps20;go_wp2;refine wp_loop_rounds 1 ?_;rw[rounds_succ];go_wp2;exact zgZ
theorem TG(v:ae)(w:aa):(ReflectliteType.typeOf #[.iface 149 v]).run prog w=.ok (.iface 135 (.agg #[pT 9 149])) w:=kR
theorem Gt(w:aa):(ReflectliteType.relation "AssignableTo" ReflectliteType.assignableTo #[.agg #[pT 9 149],.iface 135 (.agg #[pT 9 31])]).run prog w=.ok (.bool false) w:=kR
theorem TH(v:ae)(w:aa):(Instr.typeAssert (.iface 149 v) 25 140 true).run prog w=.ok (.tuple #[.nilIface,.bool false]) w:=run_typeAssert_lacksB underlying140 kR kR v 25 w
theorem Y6(v:ae)(w:aa):(Instr.typeAssert (.iface 149 v) 25 143 true).run prog w=.ok (.tuple #[.iface 149 v,.bool true]) w:=kR
theorem PH(v:ae)(w:aa):(Go.method 397 149 v "Unwrap").run prog w=.ok (223,v) w:=kR
theorem Y7(e:Int)(p:Addr)(t:Addr)(old:ae)(w:aa)(hp:w.cell? p=some (I e))(hg:w.cell? ⟨0,0,none⟩=some (.iface 135 (.agg #[pT 9 25])))(ht0:w.cell? t=some old)(hf0:w.frozen? t=false):
 Calls prog 20 #[.iface 149 (.pointer (some p)),.iface 67 (.pointer (some t))] w λev w'=>ev=.returned (.bool true)/\w'=((((w.alloc (.cells #[.pointer (some t)] 67)).alloc (.cells #[pT 9 67,pT w.heap.size 0,.int .u64 150] 98)).alloc (.cells #[pT 9 67,pT w.heap.size 0,.int .u64 150] 98)).alloc (.cells #[I e] 31)).setCell t (I e):=by
 have h6:=@run_callFunc_extern prog 50 _ (λargs=>ReflectliteValue.unpack (args.getD 0 (.tuple #[]))) func50 kR kR kR kR;have h7:=@run_callFunc_extern prog 51 _ (ReflectliteValue.methodAny (ReflectliteValue.valueError "reflectlite.Value.Type" 0) (λt _ _ _=>ReflectliteType.toType t)) func51 kR kR kR kR;have h8:=@run_callFunc_extern prog 52 _ (ReflectliteValue.method (ReflectliteValue.valueError "reflectlite.Value.IsNil" 0) ReflectliteValue.isNil) func52 kR kR kR kR;have h27:=@run_callFunc_extern prog 203 _ (ReflectliteType.abiMethod λt=>do pure (.int .u8 (<-Rtype.kind t))) func203 kR kR kR kR;have h37:=@run_callFunc_extern prog 214 _ (ReflectliteType.method ReflectliteType.elem) func214 kR kR kR kR;have h38:=@run_callFunc_extern prog 215 _ (ReflectliteType.relation "Implements" ReflectliteType.implements_) func215 kR kR kR kR;have h10:=@run_callFunc_extern prog 85 _ ReflectliteType.typeOf func85 kR kR kR kR;have h35:=@run_callFunc_extern prog 212 _ (ReflectliteType.relation "AssignableTo" ReflectliteType.assignableTo) func212 kR kR kR kR;have h11:=@run_callFunc_extern prog 86 _ (ReflectliteValue.method (ReflectliteValue.valueError "reflectlite.Value.Elem" 0) ReflectliteValue.elem) func86 kR kR kR kR;have h12:=@run_callFunc_extern prog 87 _ ReflectliteValue.set func87 kR kR kR kR;have tO:=JL;have tA:=TG;have aA:=Gt;have lA:=TH (.pointer (some p));have hU:=Y6 (.pointer (some p));have mU:=PH (.pointer (some p));have mA:=mL;have a25:=xk;have v25:=EB;have f6:=EA;have f7:=Ty;have mK:=zv;have mE:=zw;have mI:=oP;have k27:=Tz;have k25:=TB;have e27:=TC;have i25:=xj;have n8:=NJ ⟨w.heap.size,0,none⟩ t ((w.alloc (.cells #[.pointer (some t)] 67)).alloc (.cells #[pT 9 67,pT w.heap.size 0,.int .u64 150] 98)) sM;have hlt:0<w.heap.size:=World.block_lt_of_cell? w ⟨0,0,none⟩ hg;have hg2:((w.alloc (.cells #[.pointer (some t)] 67)).alloc (.cells #[pT 9 67,pT w.heap.size 0,.int .u64 150] 98)).cell? ⟨0,0,none⟩=some (.iface 135 (.agg #[pT 9 25])):=by exact zhc
 have hpl:p.block<w.heap.size:=World.block_lt_of_cell? w p hp;have hp2:(((w.alloc (.cells #[.pointer (some t)] 67)).alloc (.cells #[pT 9 67,pT w.heap.size 0,.int .u64 150] 98)).alloc (.cells #[pT 9 67,pT w.heap.size 0,.int .u64 150] 98)).cell? p=some (I e):=by rw[World.cell?_alloc_lt _ _ p zgU,World.cell?_alloc_lt _ _ p zgU,World.cell?_alloc_lt _ _ p hpl];exact hp
 have htl:t.block<w.heap.size:=World.block_lt_of_cell? w t ht0;have el:=NK ⟨w.heap.size,0,none⟩ t (((w.alloc (.cells #[.pointer (some t)] 67)).alloc (.cells #[pT 9 67,pT w.heap.size 0,.int .u64 150] 98)).alloc (.cells #[pT 9 67,pT w.heap.size 0,.int .u64 150] 98)) zhd;have st:=Xg t ⟨w.heap.size+1+1+1,0,none⟩ e old ((((w.alloc (.cells #[.pointer (some t)] 67)).alloc (.cells #[pT 9 67,pT w.heap.size 0,.int .u64 150] 98)).alloc (.cells #[pT 9 67,pT w.heap.size 0,.int .u64 150] 98)).alloc (.cells #[I e] 31))
  zg6
  zhb
  zha
 go_enter func20,ntmps20;go_wp2;refine wp_loop_rounds 2 ?_;rw[rounds_succ];go_wp2;rw[rounds_succ];go_wp2;exact zgZ
def jb(w:aa):Prop:=w.cell? ⟨0,0,none⟩=some (.iface 135 (.agg #[pT 9 25]))
theorem jb.lt{w:aa}(h:jb w):0<w.heap.size:=World.block_lt_of_cell? w ⟨0,0,none⟩ h
theorem jb.after{w w':aa}(h:jb w)(hb:Below w.heap.size w w'):jb w':=(hb.cell (p:=⟨0,0,none⟩) h.lt).trans h
theorem jb.below{w w':aa}{B:Nat}(h:jb w)(hB:0<B)(hb:Below B w w'):jb w':=(hb.cell (p:=⟨0,0,none⟩) hB).trans h
theorem Y8(n:Int)(g:Nat)(w:aa)(hg:Hid (jb w))(k:Has w g 31 #[I 0]):
 Calls prog 20 #[.iface 31 (I n),.iface 67 (pT g 0)] w λe w'=>e=.returned (.bool true)/\Has w' g 31 #[I n]/\Below g w w':=by
 refine(V8 n ⟨g,0,none⟩ (I 0) w hg.out (k.aJ 0 _ rfl) (k.free 0)).mono ?_;rintro e w' ⟨rfl,rfl⟩;have hsz:=bA k.lt;refine⟨rfl,?_,((((Below.refl _ _).alloc hsz _).alloc (by simp;omega) _).alloc (by simp;omega) _|>.alloc (by simp;omega) _).setCell (aj _) _⟩;exact zhe
theorem JM(n:Int)(w:aa)(hg:Hid (jb w)):Calls prog 9 #[.iface 31 (I n)] w λe w'=>e=.returned (I n)/\Below w.heap.size w w':=by
 have hb:Below w.heap.size w (w.alloc (.cells #[I 0] 31)):=(Below.refl _ _).alloc (aj _) _;have hg1:=hI (hg.out.after hb);have k0:=Has.new w 31 #[I 0];go_enter func9,ntmps9;go_upto_region 4 with(fail);generalize w.alloc (.cells #[I 0] 31)=w1 at*;have hl:=k0.lt;generalize hG:w.heap.size=g0 at*;have HG:=hI hG;clear hG;go_wp2_with (go_at_call 20;refine(Y8 n g0 w1 hg1 k0).mono ?_;rintro e w2 ⟨rfl,k2,hb2⟩;have c2:=k2.aJ 0 _ rfl)
 go_ret;exact⟨rfl,HG.out▸hb.trans hb2⟩
end Go.Proofs.YtdhekhlmdefcnaaGreatDoor
namespace Go.Proofs.YtdhekhlmdefcnaaGreatDoor
open Go.Proofs.Tryz Go.RowKit
theorem PI(n p:Int)(b g:Nat)(w:aa)(hg:Hid (jb w))(ka:Has w b 151 #[I n,I p])(k:Has w g 31 #[I 0]):
 Calls prog 20 #[.iface 149 (pT b 0),.iface 67 (pT g 0)] w λe w'=>e=.returned (.bool true)/\Has w' g 31 #[I n]/\Below g w w':=by
 refine(Y7 n ⟨b,0,none⟩ ⟨g,0,none⟩ (I 0) w (ka.aJ 0 _ rfl) hg.out (k.aJ 0 _ rfl) (k.free 0)).mono ?_;rintro e w' ⟨rfl,rfl⟩;have hsz:=bA k.lt;refine⟨rfl,?_,((((Below.refl _ _).alloc hsz _).alloc zgU _).alloc zgU _|>.alloc zgU _).setCell (aj _) _⟩;exact zhe
theorem TI(n p:Int)(b:Nat)(w:aa)(hg:Hid (jb w))(ka:Has w b 151 #[I n,I p]):
 Calls prog 9 #[.iface 149 (pT b 0)] w λe w'=>e=.returned (I n)/\Below w.heap.size w w':=by
 have hb:Below w.heap.size w (w.alloc (.cells #[I 0] 31)):=(Below.refl _ _).alloc (aj _) _;have hg1:=hI (hg.out.after hb);have k0:=Has.new w 31 #[I 0];have ka1:=hI (ka.after hb);clear ka;go_enter func9,ntmps9;go_upto_region 4 with(fail);generalize w.alloc (.cells #[I 0] 31)=w1 at*;have hl:=k0.lt;generalize hG:w.heap.size=g0 at*;have HG:=hI hG;clear hG;go_wp2_with (go_at_call 20;refine(PI n p b g0 w1 hg1 ka1.out k0).mono ?_;rintro e w2 ⟨rfl,k2,hb2⟩;have c2:=k2.aJ 0 _ rfl)
 go_ret;exact⟨rfl,HG.out▸hb.trans hb2⟩
def yw:List Nat:=[0,1,56,2,57,49,28,3,61,58,42,50,38,29,17,4,62,47,59,36,45,43,51,22,53,39,33,30,24,18,12,5,63,55,48,27,60,41,37,16,46,35,44,21,52,32,23,11,54,26,40,15,34,20,31,10,25,14,19,9,13,8,7,6]
def TabIs(w:aa):Prop:=∀(j v:Nat),yw[j]?=some v->w.cell? ⟨8,j,none⟩=some (.int .u8 v)
def ctz(x:Nat):Nat:=((List.range 8).find? λi=>x.testBit i).getD 8
theorem Y9:∀x:Nat,x<256->0<x->0<=IntKind.u64.wrap (bits .and .u64 (x:Int) (IntKind.u64.wrap (-(x:Int)))*285870213051353865)/288230376151711744/\IntKind.u64.wrap (bits .and .u64 (x:Int) (IntKind.u64.wrap (-(x:Int)))*285870213051353865)/288230376151711744<64/\yw[(IntKind.u64.wrap (bits .and .u64 (x:Int) (IntKind.u64.wrap (-(x:Int)))*285870213051353865)/288230376151711744).toNat]?=some (ctz x):=zg8
theorem Gv:∀x:Nat,x<256->0<x->ctz x<8:=zg8
theorem Mw(x:Nat)(h0:0<x)(hx:x<256)(w:aa)(hT:TabIs w):Calls prog 178 #[.int .u64 x] w λe w'=>e=.returned (I (ctz x))/\w=w':=by
 have t0:((x:Int)==0)=false:=by simp;omega
 obtain⟨i1,i2,i3⟩:=Y9 x hx h0;have hc:=hT _ _ i3;have hz:wrap64 ((ctz x:Nat):Int)=ctz x:=IntWalk.wrap64_in _ (by have:=Gv x hx h0;omega);have HZ:=hI hz;clear i3 hT hz;go_enter func178,ntmps178;go_wp2;go_ret;exact⟨congrArg (λz=>Ending.returned (.int .i64 z)) HZ.out,rfl⟩
theorem Dl(x:Nat)(h0:0<x)(hx:x<256)(w:aa)(hT:TabIs w):Calls prog 140 #[.int .u64 x] w λe w'=>e=.returned (I (ctz x))/\w=w':=by
 go_enter func140,ntmps140;go_wp2_with (go_at_call 178;refine(Mw x h0 hx _ hT).mono ?_;rintro e w' ⟨rfl,rfl⟩)
 exact zgZ
def yx(cs:List Nat)(set:Nat):Bool:=(List.range 8).all λi=>!set.testBit i||decide (cs.getD i 0&&&set=0)
def pu(cs:List Nat)(set m:Nat):Bool:=(List.range 8).all λi=>!(set.testBit i&&!m.testBit i)||decide (cs.getD i 0&&&set=0)
def je(cs:List Nat):Nat->Nat
 |0=>0
 |k+1=>if yx cs k then max (je cs k) (pop k)else je cs k
theorem Ci:∀m:Nat,m<256->0<m->∀i,i<8->(m&&&(m-1)).testBit i=(m.testBit i&&decide (i≠ctz m)):=zg8
theorem JN:∀m:Nat,m<256->0<m->m.testBit (ctz m)=true:=zg8
theorem PK(m:Nat)(h:0<m):m&&&(m-1)<m:=Nat.lt_of_le_of_lt Nat.and_le_right oM
theorem JO(cs:List Nat)(set:Nat):pu cs set set=true:=by unfold pu;rw[bj];intro i _;cases set.testBit i<;>rfl
theorem JP(cs:List Nat)(set:Nat):pu cs set 0=yx cs set:=by unfold pu yx;congr 1;funext i;simp
theorem JQ{cs:List Nat}{set m:Nat}(hm:m<256)(h0:0<m)(hs:∀i,m.testBit i=true->set.testBit i=true):
 pu cs set (m&&&(m-1))=(pu cs set m&&decide (cs.getD (ctz m) 0&&&set=0)):=by
 have hz:=Gv m hm h0;rw[Bool.eq_iff_iff];unfold pu;simp only[bj,bX,aV,decide_eq_true_eq];constructor
 ·intro h;refine⟨λi hi=>?_,?_⟩
  ·have:=h i hi;rw[Ci m hm h0 i hi]at this;cases hsb:set.testBit i<;>cases hmb:m.testBit i<;>simp_all
  ·have:=h (ctz m) hz;rw[Ci m hm h0 _ hz,hs _ (JN m hm h0)]at this;simpa using this
 ·rintro⟨h1,h2⟩ i hi;have:=h1 i hi;rw[Ci m hm h0 i hi];by_cases e:i=ctz m;subst e;rw[decide_eq_true h2,Bool.or_true];simpa[e]using this
theorem vq(cs:List Nat)(k:Nat):je cs k<=8:=by
 induction k with
 |zero=>simp[je]
 |succ k ih=>
  rw[je];have:pop k<=8:=by unfold pop;exact aS (List.length_filter_le _ _) sM
  split;omega;exact ih
theorem PL(m:Nat)(h:0<m)(hm:m<256):bits .and .i64 (m:Int) ((m:Int)-1)=((m&&&(m-1):Nat):Int):=by have:(m:Int)-1=((m-1:Nat):Int):=oM;rw[this,kY _ _ oM oM]
end Go.Proofs.YtdhekhlmdefcnaaGreatDoor
