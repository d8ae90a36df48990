/- What the claim rests on, part 4: gathered texts. -/
import Derived.Shelf.LaysC
import Derived.Shelf.LaysM
import Derived.Shelf.SlGeneric
import Derived.Shelf.SlLaysF0
import Derived.Ground.NamesProg
import Derived.Test.YtiidadfafmcdmaaGreatDoorProg
import Derived.Below
import Derived.Tactics
import Derived.Tactics2
import Derived.Laws.AppendOwn
import Derived.Shelf.Strconv.Itoa4
import Derived.Shelf.Bytes.SlIndexWhole
import Derived.Shelf.Strconv.AtoiAll
import Derived.Shelf.Strconv.ErrVarAll
import Derived.Shelf.SlicesE.Clone
import Derived.Shelf.SlSortCmp.NoneTotal
import Derived.Shelf.Strings.BuilderCap
import Derived.Shelf.Unicode.DecodeAny
import Derived.Laws.DeepStrings4
import Derived.Deep.LoopGhost
import Derived.Deep.DeepCutAuto
import Derived.Deep.DeepFit
import Derived.Deep.DeepMust
import Derived.Shelf.Unicode.ValidAny
import Derived.Shelf.Strings.Count
import Derived.Deep.OwnRows
import Derived.Laws.CopyRow
import Derived.Laws.IdiomStrings
import Derived.Laws.CopyOwn
import Derived.Lib.SlBytesConst
import Derived.Test.YtiidadfafmcdmaaGreatDoorRows
import Derived.Defers
import Derived.Laws.Pointers
import Derived.Laws.LoneSync
import Derived.RegionTactic
import Derived.RegionCalls
import Derived.ChangeAlike
import Derived.Laws.NewBlocks
import Derived.Laws.ByValue
import Derived.Test.YtiidadfafmcdmaaGreatDoorSyE3
set_option maxRecDepth 100000
set_option linter.defProp false
namespace Go.Proofs
open Go.Shelf
def Tryz.uniR:Go.Shelf.Ren:=⟨fun|115=>163|129=>212|138=>321|143=>324|165=>243|166=>244|167=>246|169=>247|171=>94|172=>219|185=>131|187=>149|195=>322|196=>137|197=>180|205=>284|217=>216|218=>323|219=>201|224=>165|225=>226|240=>273|241=>274|243=>128|244=>238|245=>239|246=>162|247=>258|253=>164|254=>166|255=>176|259=>173|260=>202|266=>237|267=>227|270=>245|276=>290|277=>291|279=>259|280=>260|281=>261|282=>262|283=>186|284=>187|285=>188|286=>189|287=>282|291=>190|314=>248|316=>283|317=>211|318=>213|319=>214|320=>215|321=>292|322=>293|337=>235|338=>236|n=>n,fun|0=>0|2=>2|3=>3|4=>4|5=>5|9=>9|12=>12|20=>20|21=>21|37=>23|46=>202|51=>179|53=>120|70=>289|72=>291|75=>262|76=>263|80=>268|85=>309|105=>220|119=>215|127=>322|138=>217|139=>218|143=>339|145=>341|146=>230|164=>300|167=>308|168=>311|171=>225|173=>228|175=>326|210=>329|212=>257|213=>258|232=>306|233=>307|n=>n,fun|1=>0|3=>1|4=>2|15=>6|16=>7|17=>3|18=>4|19=>5|n=>n⟩
abbrev Tryz.laysM171_ren:Go.Shelf.Ren:=Tryz.uniR
def Tryz.laysM171:Go.Proofs.LaysM.n171 Tryz.prog Tryz.laysM171_ren:={
 mixed:=by kernel_rfl
 f129:=Tryz.func212.trans (congrArg some (by kernel_rfl))
 f171:=Tryz.func94.trans (congrArg some (by kernel_rfl))
 f243:=Tryz.func128.trans (congrArg some (by kernel_rfl))
 f246:=Tryz.func162.trans (congrArg some (by kernel_rfl))
 f283:=Tryz.func186.trans (congrArg some (by kernel_rfl))
 f284:=Tryz.func187.trans (congrArg some (by kernel_rfl))
 f285:=Tryz.func188.trans (congrArg some (by kernel_rfl))
 f286:=Tryz.func189.trans (congrArg some (by kernel_rfl))
 f317:=Tryz.func211.trans (congrArg some (by kernel_rfl))
 f318:=Tryz.func213.trans (congrArg some (by kernel_rfl))
 f319:=Tryz.func214.trans (congrArg some (by kernel_rfl))
 f320:=Tryz.func215.trans (congrArg some (by kernel_rfl))
 f337:=Tryz.func235.trans (congrArg some (by kernel_rfl))
 f338:=Tryz.func236.trans (congrArg some (by kernel_rfl))
 t0:=Tryz.underlying0
 a0:=Tryz.isAgg0
 z0:=Tryz.sizeOf0
 v0:=Tryz.zeroValue0
 t2:=Tryz.underlying2
 a2:=Tryz.isAgg2
 z2:=Tryz.sizeOf2
 v2:=Tryz.zeroValue2
 t3:=Tryz.underlying3
 a3:=Tryz.isAgg3
 z3:=Tryz.sizeOf3
 v3:=Tryz.zeroValue3
 t4:=Tryz.underlying4
 a4:=Tryz.isAgg4
 z4:=Tryz.sizeOf4
 v4:=Tryz.zeroValue4
 t5:=Tryz.underlying5
 a5:=Tryz.isAgg5
 z5:=Tryz.sizeOf5
 v5:=Tryz.zeroValue5
 t9:=Tryz.underlying9
 a9:=Tryz.isAgg9
 z9:=Tryz.sizeOf9
 v9:=Tryz.zeroValue9
 t20:=Tryz.underlying20
 a20:=Tryz.isAgg20
 z20:=Tryz.sizeOf20
 v20:=Tryz.zeroValue20
 t37:=Tryz.underlying23
 a37:=Tryz.isAgg23
 z37:=Tryz.sizeOf23
 v37:=Tryz.zeroValue23
 t46:=Tryz.underlying202
 a46:=Tryz.isAgg202
 z46:=Tryz.sizeOf202
 v46:=Tryz.zeroValue202
 t51:=Tryz.underlying179
 a51:=Tryz.isAgg179
 z51:=Tryz.sizeOf179
 v51:=Tryz.zeroValue179
 t53:=Tryz.underlying120
 a53:=Tryz.isAgg120
 z53:=Tryz.sizeOf120
 v53:=Tryz.zeroValue120
 t171:=Tryz.underlying225
 a171:=Tryz.isAgg225
 z171:=Tryz.sizeOf225
 v171:=Tryz.zeroValue225
 t173:=Tryz.underlying228
 a173:=Tryz.isAgg228
 z173:=Tryz.sizeOf228
 v173:=Tryz.zeroValue228
 t212:=Tryz.underlying257
 a212:=Tryz.isAgg257
 z212:=Tryz.sizeOf257
 v212:=Tryz.zeroValue257
 t213:=Tryz.underlying258
 a213:=Tryz.isAgg258
 z213:=Tryz.sizeOf258
 t232:=Tryz.underlying306
 a232:=Tryz.isAgg306
 z232:=Tryz.sizeOf306
 v232:=Tryz.zeroValue306
 t233:=Tryz.underlying307
 a233:=Tryz.isAgg307
 z233:=Tryz.sizeOf307
 v233:=Tryz.zeroValue307
 g17:=by kernel_rfl
 g18:=by kernel_rfl
 g19:=by kernel_rfl
 i0:=by kernel_rfl
 i2:=by kernel_rfl
 i3:=by kernel_rfl
 i4:=by kernel_rfl
 i5:=by kernel_rfl
 i9:=by kernel_rfl
 i20:=by kernel_rfl
 i37:=by kernel_rfl
 i46:=by kernel_rfl
 i51:=by kernel_rfl
 i53:=by kernel_rfl
 i171:=by kernel_rfl
 i173:=by kernel_rfl
 i212:=by kernel_rfl
 i232:=by kernel_rfl
 i233:=by kernel_rfl
 m17:=by kernel_rfl
 m18:=by kernel_rfl
 m19:=by kernel_rfl }
abbrev Tryz.laysC172_ren:Go.Shelf.Ren:=Tryz.uniR
def Tryz.laysC172:Go.Proofs.LaysC.n172 Tryz.prog Tryz.laysC172_ren:={
 mixed:=by kernel_rfl
 f129:=Tryz.func212.trans (congrArg some (by kernel_rfl))
 f171:=Tryz.func94.trans (congrArg some (by kernel_rfl))
 f172:=Tryz.func219.trans (congrArg some (by kernel_rfl))
 f205:=Tryz.func284.trans (congrArg some (by kernel_rfl))
 f243:=Tryz.func128.trans (congrArg some (by kernel_rfl))
 f244:=Tryz.func238.trans (congrArg some (by kernel_rfl))
 f245:=Tryz.func239.trans (congrArg some (by kernel_rfl))
 f246:=Tryz.func162.trans (congrArg some (by kernel_rfl))
 f247:=Tryz.func258.trans (congrArg some (by kernel_rfl))
 f279:=Tryz.func259.trans (congrArg some (by kernel_rfl))
 f280:=Tryz.func260.trans (congrArg some (by kernel_rfl))
 f281:=Tryz.func261.trans (congrArg some (by kernel_rfl))
 f282:=Tryz.func262.trans (congrArg some (by kernel_rfl))
 f283:=Tryz.func186.trans (congrArg some (by kernel_rfl))
 f284:=Tryz.func187.trans (congrArg some (by kernel_rfl))
 f285:=Tryz.func188.trans (congrArg some (by kernel_rfl))
 f286:=Tryz.func189.trans (congrArg some (by kernel_rfl))
 f287:=Tryz.func282.trans (congrArg some (by kernel_rfl))
 f316:=Tryz.func283.trans (congrArg some (by kernel_rfl))
 f317:=Tryz.func211.trans (congrArg some (by kernel_rfl))
 f318:=Tryz.func213.trans (congrArg some (by kernel_rfl))
 f319:=Tryz.func214.trans (congrArg some (by kernel_rfl))
 f320:=Tryz.func215.trans (congrArg some (by kernel_rfl))
 f321:=Tryz.func292.trans (congrArg some (by kernel_rfl))
 f322:=Tryz.func293.trans (congrArg some (by kernel_rfl))
 f337:=Tryz.func235.trans (congrArg some (by kernel_rfl))
 f338:=Tryz.func236.trans (congrArg some (by kernel_rfl))
 t0:=Tryz.underlying0
 a0:=Tryz.isAgg0
 z0:=Tryz.sizeOf0
 v0:=Tryz.zeroValue0
 t2:=Tryz.underlying2
 a2:=Tryz.isAgg2
 z2:=Tryz.sizeOf2
 v2:=Tryz.zeroValue2
 t3:=Tryz.underlying3
 a3:=Tryz.isAgg3
 z3:=Tryz.sizeOf3
 v3:=Tryz.zeroValue3
 t4:=Tryz.underlying4
 a4:=Tryz.isAgg4
 z4:=Tryz.sizeOf4
 v4:=Tryz.zeroValue4
 t5:=Tryz.underlying5
 a5:=Tryz.isAgg5
 z5:=Tryz.sizeOf5
 v5:=Tryz.zeroValue5
 t9:=Tryz.underlying9
 a9:=Tryz.isAgg9
 z9:=Tryz.sizeOf9
 v9:=Tryz.zeroValue9
 t20:=Tryz.underlying20
 a20:=Tryz.isAgg20
 z20:=Tryz.sizeOf20
 v20:=Tryz.zeroValue20
 t21:=Tryz.underlying21
 a21:=Tryz.isAgg21
 z21:=Tryz.sizeOf21
 v21:=Tryz.zeroValue21
 t37:=Tryz.underlying23
 a37:=Tryz.isAgg23
 z37:=Tryz.sizeOf23
 v37:=Tryz.zeroValue23
 t46:=Tryz.underlying202
 a46:=Tryz.isAgg202
 z46:=Tryz.sizeOf202
 v46:=Tryz.zeroValue202
 t51:=Tryz.underlying179
 a51:=Tryz.isAgg179
 z51:=Tryz.sizeOf179
 v51:=Tryz.zeroValue179
 t53:=Tryz.underlying120
 a53:=Tryz.isAgg120
 z53:=Tryz.sizeOf120
 v53:=Tryz.zeroValue120
 t75:=Tryz.underlying262
 a75:=Tryz.isAgg262
 z75:=Tryz.sizeOf262
 v75:=Tryz.zeroValue262
 t76:=Tryz.underlying263
 a76:=Tryz.isAgg263
 z76:=Tryz.sizeOf263
 v76:=Tryz.zeroValue263
 t85:=Tryz.underlying309
 a85:=Tryz.isAgg309
 z85:=Tryz.sizeOf309
 v85:=Tryz.zeroValue309
 t127:=Tryz.underlying322
 a127:=Tryz.isAgg322
 z127:=Tryz.sizeOf322
 v127:=Tryz.zeroValue322
 t143:=Tryz.underlying339
 a143:=Tryz.isAgg339
 z143:=Tryz.sizeOf339
 v143:=Tryz.zeroValue339
 t145:=Tryz.underlying341
 a145:=Tryz.isAgg341
 z145:=Tryz.sizeOf341
 v145:=Tryz.zeroValue341
 t167:=Tryz.underlying308
 a167:=Tryz.isAgg308
 z167:=Tryz.sizeOf308
 v167:=Tryz.zeroValue308
 t168:=Tryz.underlying311
 a168:=Tryz.isAgg311
 z168:=Tryz.sizeOf311
 v168:=Tryz.zeroValue311
 t171:=Tryz.underlying225
 a171:=Tryz.isAgg225
 z171:=Tryz.sizeOf225
 v171:=Tryz.zeroValue225
 t173:=Tryz.underlying228
 a173:=Tryz.isAgg228
 z173:=Tryz.sizeOf228
 v173:=Tryz.zeroValue228
 t175:=Tryz.underlying326
 a175:=Tryz.isAgg326
 z175:=Tryz.sizeOf326
 v175:=Tryz.zeroValue326
 t210:=Tryz.underlying329
 a210:=Tryz.isAgg329
 z210:=Tryz.sizeOf329
 v210:=Tryz.zeroValue329
 t212:=Tryz.underlying257
 a212:=Tryz.isAgg257
 z212:=Tryz.sizeOf257
 v212:=Tryz.zeroValue257
 t213:=Tryz.underlying258
 a213:=Tryz.isAgg258
 z213:=Tryz.sizeOf258
 t232:=Tryz.underlying306
 a232:=Tryz.isAgg306
 z232:=Tryz.sizeOf306
 v232:=Tryz.zeroValue306
 t233:=Tryz.underlying307
 a233:=Tryz.isAgg307
 z233:=Tryz.sizeOf307
 v233:=Tryz.zeroValue307
 g15:=by kernel_rfl
 g16:=by kernel_rfl
 g17:=by kernel_rfl
 g18:=by kernel_rfl
 g19:=by kernel_rfl
 t80:=Tryz.underlying268
 a80:=Tryz.isAgg268
 z80:=Tryz.sizeOf268
 v80:=Tryz.zeroValue268
 i0:=by kernel_rfl
 i2:=by kernel_rfl
 i3:=by kernel_rfl
 i4:=by kernel_rfl
 i5:=by kernel_rfl
 i9:=by kernel_rfl
 i20:=by kernel_rfl
 i21:=by kernel_rfl
 i37:=by kernel_rfl
 i46:=by kernel_rfl
 i51:=by kernel_rfl
 i53:=by kernel_rfl
 i75:=by kernel_rfl
 i76:=by kernel_rfl
 i80:=by kernel_rfl
 i85:=by kernel_rfl
 i127:=by kernel_rfl
 i143:=by kernel_rfl
 i145:=by kernel_rfl
 i167:=by kernel_rfl
 i168:=by kernel_rfl
 i171:=by kernel_rfl
 i173:=by kernel_rfl
 i175:=by kernel_rfl
 i210:=by kernel_rfl
 i212:=by kernel_rfl
 i232:=by kernel_rfl
 i233:=by kernel_rfl
 m15:=by kernel_rfl
 m16:=by kernel_rfl
 m17:=by kernel_rfl
 m18:=by kernel_rfl
 m19:=by kernel_rfl
 c0:=by kernel_rfl
 c2:=by kernel_rfl
 c3:=by kernel_rfl
 c4:=by kernel_rfl
 c5:=by kernel_rfl
 c9:=by kernel_rfl
 c20:=by kernel_rfl
 c21:=by kernel_rfl
 c37:=by kernel_rfl
 c46:=by kernel_rfl
 c51:=by kernel_rfl
 c53:=by kernel_rfl
 c75:=by kernel_rfl
 c76:=by kernel_rfl
 c80:=by kernel_rfl
 c85:=by kernel_rfl
 c127:=by kernel_rfl
 c143:=by kernel_rfl
 c145:=by kernel_rfl
 c167:=by kernel_rfl
 c168:=by kernel_rfl
 c171:=by kernel_rfl
 c173:=by kernel_rfl
 c175:=by kernel_rfl
 c210:=by kernel_rfl
 c212:=by kernel_rfl
 c213:=by kernel_rfl
 c232:=by kernel_rfl
 c233:=by kernel_rfl }
abbrev Tryz.lays185_ren:Go.Shelf.Ren:=Tryz.uniR
def Tryz.lays185:Go.Proofs.Lays.n185 Tryz.prog Tryz.lays185_ren:={
 mixed:=by kernel_rfl
 f115:=Tryz.func163.trans (congrArg some (by kernel_rfl))
 f185:=Tryz.func131.trans (congrArg some (by kernel_rfl))
 f187:=Tryz.func149.trans (congrArg some (by kernel_rfl))
 f224:=Tryz.func165.trans (congrArg some (by kernel_rfl))
 f253:=Tryz.func164.trans (congrArg some (by kernel_rfl))
 f254:=Tryz.func166.trans (congrArg some (by kernel_rfl))
 f255:=Tryz.func176.trans (congrArg some (by kernel_rfl))
 f291:=Tryz.func190.trans (congrArg some (by kernel_rfl))
 t0:=Tryz.underlying0
 a0:=Tryz.isAgg0
 z0:=Tryz.sizeOf0
 v0:=Tryz.zeroValue0
 t3:=Tryz.underlying3
 a3:=Tryz.isAgg3
 z3:=Tryz.sizeOf3
 v3:=Tryz.zeroValue3
 t4:=Tryz.underlying4
 a4:=Tryz.isAgg4
 z4:=Tryz.sizeOf4
 v4:=Tryz.zeroValue4
 t5:=Tryz.underlying5
 a5:=Tryz.isAgg5
 z5:=Tryz.sizeOf5
 v5:=Tryz.zeroValue5
 t9:=Tryz.underlying9
 a9:=Tryz.isAgg9
 z9:=Tryz.sizeOf9
 v9:=Tryz.zeroValue9
 t37:=Tryz.underlying23
 a37:=Tryz.isAgg23
 z37:=Tryz.sizeOf23
 v37:=Tryz.zeroValue23
 t46:=Tryz.underlying202
 a46:=Tryz.isAgg202
 z46:=Tryz.sizeOf202
 v46:=Tryz.zeroValue202
 t51:=Tryz.underlying179
 a51:=Tryz.isAgg179
 z51:=Tryz.sizeOf179
 v51:=Tryz.zeroValue179
 t146:=Tryz.underlying230
 a146:=Tryz.isAgg230
 z146:=Tryz.sizeOf230
 v146:=Tryz.zeroValue230
 g1:=by kernel_rfl }
abbrev Tryz.lays138_ren:Go.Shelf.Ren:=Tryz.uniR
def Tryz.lays138:Go.Proofs.Lays.n138 Tryz.prog Tryz.lays138_ren:={
 mixed:=by kernel_rfl
 f138:=Tryz.func321.trans (congrArg some (by kernel_rfl))
 f143:=Tryz.func324.trans (congrArg some (by kernel_rfl))
 f195:=Tryz.func322.trans (congrArg some (by kernel_rfl))
 f217:=Tryz.func216.trans (congrArg some (by kernel_rfl))
 f218:=Tryz.func323.trans (congrArg some (by kernel_rfl))
 f219:=Tryz.func201.trans (congrArg some (by kernel_rfl))
 f224:=Tryz.func165.trans (congrArg some (by kernel_rfl))
 f225:=Tryz.func226.trans (congrArg some (by kernel_rfl))
 f266:=Tryz.func237.trans (congrArg some (by kernel_rfl))
 f267:=Tryz.func227.trans (congrArg some (by kernel_rfl))
 f314:=Tryz.func248.trans (congrArg some (by kernel_rfl))
 t0:=Tryz.underlying0
 a0:=Tryz.isAgg0
 z0:=Tryz.sizeOf0
 v0:=Tryz.zeroValue0
 t3:=Tryz.underlying3
 a3:=Tryz.isAgg3
 z3:=Tryz.sizeOf3
 v3:=Tryz.zeroValue3
 t4:=Tryz.underlying4
 a4:=Tryz.isAgg4
 z4:=Tryz.sizeOf4
 v4:=Tryz.zeroValue4
 t5:=Tryz.underlying5
 a5:=Tryz.isAgg5
 z5:=Tryz.sizeOf5
 v5:=Tryz.zeroValue5
 t9:=Tryz.underlying9
 a9:=Tryz.isAgg9
 z9:=Tryz.sizeOf9
 v9:=Tryz.zeroValue9
 t46:=Tryz.underlying202
 a46:=Tryz.isAgg202
 z46:=Tryz.sizeOf202
 v46:=Tryz.zeroValue202
 t51:=Tryz.underlying179
 a51:=Tryz.isAgg179
 z51:=Tryz.sizeOf179
 v51:=Tryz.zeroValue179
 t146:=Tryz.underlying230
 a146:=Tryz.isAgg230
 z146:=Tryz.sizeOf230
 v146:=Tryz.zeroValue230
 g1:=by kernel_rfl }
abbrev Tryz.lays165_ren:Go.Shelf.Ren:=Tryz.uniR
def Tryz.lays165:Go.Proofs.Lays.n165 Tryz.prog Tryz.lays165_ren:={
 mixed:=by kernel_rfl
 f165:=Tryz.func243.trans (congrArg some (by kernel_rfl))
 f240:=Tryz.func273.trans (congrArg some (by kernel_rfl))
 f241:=Tryz.func274.trans (congrArg some (by kernel_rfl))
 f276:=Tryz.func290.trans (congrArg some (by kernel_rfl))
 f277:=Tryz.func291.trans (congrArg some (by kernel_rfl))
 t0:=Tryz.underlying0
 a0:=Tryz.isAgg0
 z0:=Tryz.sizeOf0
 v0:=Tryz.zeroValue0
 t3:=Tryz.underlying3
 a3:=Tryz.isAgg3
 z3:=Tryz.sizeOf3
 v3:=Tryz.zeroValue3
 t4:=Tryz.underlying4
 a4:=Tryz.isAgg4
 z4:=Tryz.sizeOf4
 v4:=Tryz.zeroValue4
 t9:=Tryz.underlying9
 a9:=Tryz.isAgg9
 z9:=Tryz.sizeOf9
 v9:=Tryz.zeroValue9
 t20:=Tryz.underlying20
 a20:=Tryz.isAgg20
 z20:=Tryz.sizeOf20
 v20:=Tryz.zeroValue20
 t37:=Tryz.underlying23
 a37:=Tryz.isAgg23
 z37:=Tryz.sizeOf23
 v37:=Tryz.zeroValue23
 t70:=Tryz.underlying289
 a70:=Tryz.isAgg289
 z70:=Tryz.sizeOf289
 v70:=Tryz.zeroValue289
 t72:=Tryz.underlying291
 a72:=Tryz.isAgg291
 z72:=Tryz.sizeOf291
 v72:=Tryz.zeroValue291
 t164:=Tryz.underlying300
 a164:=Tryz.isAgg300
 z164:=Tryz.sizeOf300
 v164:=Tryz.zeroValue300 }
abbrev Tryz.lays169_ren:Go.Shelf.Ren:=Tryz.uniR
def Tryz.lays169:Go.Proofs.Lays.n169 Tryz.prog Tryz.lays169_ren:={
 mixed:=by kernel_rfl
 f169:=Tryz.func247.trans (congrArg some (by kernel_rfl))
 t0:=Tryz.underlying0
 a0:=Tryz.isAgg0
 z0:=Tryz.sizeOf0
 v0:=Tryz.zeroValue0
 t3:=Tryz.underlying3
 a3:=Tryz.isAgg3
 z3:=Tryz.sizeOf3
 v3:=Tryz.zeroValue3
 t9:=Tryz.underlying9
 a9:=Tryz.isAgg9
 z9:=Tryz.sizeOf9
 v9:=Tryz.zeroValue9
 t37:=Tryz.underlying23
 a37:=Tryz.isAgg23
 z37:=Tryz.sizeOf23
 v37:=Tryz.zeroValue23
 t70:=Tryz.underlying289
 a70:=Tryz.isAgg289
 z70:=Tryz.sizeOf289
 v70:=Tryz.zeroValue289
 t72:=Tryz.underlying291
 a72:=Tryz.isAgg291
 z72:=Tryz.sizeOf291
 v72:=Tryz.zeroValue291
 t127:=Tryz.underlying322
 a127:=Tryz.isAgg322
 z127:=Tryz.sizeOf322
 v127:=Tryz.zeroValue322 }
abbrev Tryz.lays196_ren:Go.Shelf.Ren:=Tryz.uniR
def Tryz.lays196:Go.Proofs.Lays.n196 Tryz.prog Tryz.lays196_ren:={
 mixed:=by kernel_rfl
 f196:=Tryz.func137.trans (congrArg some (by kernel_rfl))
 f259:=Tryz.func173.trans (congrArg some (by kernel_rfl))
 t0:=Tryz.underlying0
 a0:=Tryz.isAgg0
 z0:=Tryz.sizeOf0
 v0:=Tryz.zeroValue0
 t3:=Tryz.underlying3
 a3:=Tryz.isAgg3
 z3:=Tryz.sizeOf3
 v3:=Tryz.zeroValue3
 t4:=Tryz.underlying4
 a4:=Tryz.isAgg4
 z4:=Tryz.sizeOf4
 v4:=Tryz.zeroValue4
 t5:=Tryz.underlying5
 a5:=Tryz.isAgg5
 z5:=Tryz.sizeOf5
 v5:=Tryz.zeroValue5
 t9:=Tryz.underlying9
 a9:=Tryz.isAgg9
 z9:=Tryz.sizeOf9
 v9:=Tryz.zeroValue9
 t12:=Tryz.underlying12
 a12:=Tryz.isAgg12
 z12:=Tryz.sizeOf12
 v12:=Tryz.zeroValue12
 t46:=Tryz.underlying202
 a46:=Tryz.isAgg202
 z46:=Tryz.sizeOf202
 v46:=Tryz.zeroValue202
 t53:=Tryz.underlying120
 a53:=Tryz.isAgg120
 z53:=Tryz.sizeOf120
 v53:=Tryz.zeroValue120
 t119:=Tryz.underlying215
 a119:=Tryz.isAgg215
 z119:=Tryz.sizeOf215
 t138:=Tryz.underlying217
 a138:=Tryz.isAgg217
 z138:=Tryz.sizeOf217
 v138:=Tryz.zeroValue217
 t139:=Tryz.underlying218
 a139:=Tryz.isAgg218
 z139:=Tryz.sizeOf218
 v139:=Tryz.zeroValue218
 g3:=by kernel_rfl
 g4:=by kernel_rfl }
abbrev Tryz.lays197_ren:Go.Shelf.Ren:=Tryz.uniR
def Tryz.lays197:Go.Proofs.Lays.n197 Tryz.prog Tryz.lays197_ren:={
 mixed:=by kernel_rfl
 f197:=Tryz.func180.trans (congrArg some (by kernel_rfl))
 f260:=Tryz.func202.trans (congrArg some (by kernel_rfl))
 t0:=Tryz.underlying0
 a0:=Tryz.isAgg0
 z0:=Tryz.sizeOf0
 v0:=Tryz.zeroValue0
 t3:=Tryz.underlying3
 a3:=Tryz.isAgg3
 z3:=Tryz.sizeOf3
 v3:=Tryz.zeroValue3
 t4:=Tryz.underlying4
 a4:=Tryz.isAgg4
 z4:=Tryz.sizeOf4
 v4:=Tryz.zeroValue4
 t5:=Tryz.underlying5
 a5:=Tryz.isAgg5
 z5:=Tryz.sizeOf5
 v5:=Tryz.zeroValue5
 t9:=Tryz.underlying9
 a9:=Tryz.isAgg9
 z9:=Tryz.sizeOf9
 v9:=Tryz.zeroValue9
 t21:=Tryz.underlying21
 a21:=Tryz.isAgg21
 z21:=Tryz.sizeOf21
 v21:=Tryz.zeroValue21
 t46:=Tryz.underlying202
 a46:=Tryz.isAgg202
 z46:=Tryz.sizeOf202
 v46:=Tryz.zeroValue202
 t105:=Tryz.underlying220
 a105:=Tryz.isAgg220
 z105:=Tryz.sizeOf220
 v105:=Tryz.zeroValue220
 t119:=Tryz.underlying215
 a119:=Tryz.isAgg215
 z119:=Tryz.sizeOf215
 t138:=Tryz.underlying217
 a138:=Tryz.isAgg217
 z138:=Tryz.sizeOf217
 v138:=Tryz.zeroValue217
 t139:=Tryz.underlying218
 a139:=Tryz.isAgg218
 z139:=Tryz.sizeOf218
 v139:=Tryz.zeroValue218
 g3:=by kernel_rfl
 g4:=by kernel_rfl }
def Tryz.sortP_ren:Go.Shelf.Ren:=⟨fun|6=>221|15=>241|14=>240|28=>271|29=>212|20=>263|21=>264|22=>265|23=>266|24=>267|25=>268|26=>269|27=>270|46=>285|47=>286|48=>287|49=>288|50=>289|57=>294|n=>n,fun|22=>207|24=>209|25=>267|3=>3|39=>202|0=>0|53=>179|55=>120|4=>4|46=>316|45=>315|50=>235|5=>5|9=>9|66=>331|70=>335|76=>342|77=>170|n=>n,fun|n=>n⟩
def Tryz.sortP:Go.Proofs.SlLaysF0.n6 Tryz.prog Tryz.sortP_ren:={
 mixed:=by kernel_rfl
 f6:=⟨Tryz.f221.name,by decide,Tryz.func221.trans (congrArg some (by kernel_rfl))⟩
 f14:=⟨Tryz.f240.name,by decide,Tryz.func240.trans (congrArg some (by kernel_rfl))⟩
 f15:=Tryz.func241.trans (congrArg some (by kernel_rfl))
 f20:=⟨Tryz.f263.name,by decide,Tryz.func263.trans (congrArg some (by kernel_rfl))⟩
 f21:=⟨Tryz.f264.name,by decide,Tryz.func264.trans (congrArg some (by kernel_rfl))⟩
 f22:=⟨Tryz.f265.name,by decide,Tryz.func265.trans (congrArg some (by kernel_rfl))⟩
 f23:=⟨Tryz.f266.name,by decide,Tryz.func266.trans (congrArg some (by kernel_rfl))⟩
 f24:=⟨Tryz.f267.name,by decide,Tryz.func267.trans (congrArg some (by kernel_rfl))⟩
 f25:=⟨Tryz.f268.name,by decide,Tryz.func268.trans (congrArg some (by kernel_rfl))⟩
 f26:=⟨Tryz.f269.name,by decide,Tryz.func269.trans (congrArg some (by kernel_rfl))⟩
 f27:=⟨Tryz.f270.name,by decide,Tryz.func270.trans (congrArg some (by kernel_rfl))⟩
 f28:=Tryz.func271.trans (congrArg some (by kernel_rfl))
 f29:=Tryz.func212.trans (congrArg some (by kernel_rfl))
 f46:=⟨Tryz.f285.name,by decide,Tryz.func285.trans (congrArg some (by kernel_rfl))⟩
 f47:=Tryz.func286.trans (congrArg some (by kernel_rfl))
 f48:=Tryz.func287.trans (congrArg some (by kernel_rfl))
 f49:=⟨Tryz.f288.name,by decide,Tryz.func288.trans (congrArg some (by kernel_rfl))⟩
 f50:=⟨Tryz.f289.name,by decide,Tryz.func289.trans (congrArg some (by kernel_rfl))⟩
 f57:=⟨Tryz.f294.name,by decide,Tryz.func294.trans (congrArg some (by kernel_rfl))⟩
 t0:=Tryz.underlying0
 a0:=Tryz.isAgg0
 z0:=Tryz.sizeOf0
 v0:=Tryz.zeroValue0
 t3:=Tryz.underlying3
 a3:=Tryz.isAgg3
 z3:=Tryz.sizeOf3
 v3:=Tryz.zeroValue3
 t4:=Tryz.underlying4
 a4:=Tryz.isAgg4
 z4:=Tryz.sizeOf4
 v4:=Tryz.zeroValue4
 t5:=Tryz.underlying5
 a5:=Tryz.isAgg5
 z5:=Tryz.sizeOf5
 v5:=Tryz.zeroValue5
 t9:=Tryz.underlying9
 a9:=Tryz.isAgg9
 z9:=Tryz.sizeOf9
 v9:=Tryz.zeroValue9
 t22:=Tryz.underlying207
 a22:=Tryz.isAgg207
 z22:=Tryz.sizeOf207
 v22:=Tryz.zeroValue207
 t25:=Tryz.underlying267
 a25:=Tryz.isAgg267
 z25:=Tryz.sizeOf267
 v25:=Tryz.zeroValue267
 t39:=Tryz.underlying202
 a39:=Tryz.isAgg202
 z39:=Tryz.sizeOf202
 v39:=Tryz.zeroValue202
 t45:=Tryz.underlying315
 a45:=Tryz.isAgg315
 z45:=Tryz.sizeOf315
 v45:=Tryz.zeroValue315
 t46:=Tryz.underlying316
 a46:=Tryz.isAgg316
 z46:=Tryz.sizeOf316
 v46:=Tryz.zeroValue316
 t50:=Tryz.underlying235
 a50:=Tryz.isAgg235
 z50:=Tryz.sizeOf235
 v50:=Tryz.zeroValue235
 t53:=Tryz.underlying179
 a53:=Tryz.isAgg179
 z53:=Tryz.sizeOf179
 v53:=Tryz.zeroValue179
 t55:=Tryz.underlying120
 a55:=Tryz.isAgg120
 z55:=Tryz.sizeOf120
 v55:=Tryz.zeroValue120
 t66:=Tryz.underlying331
 a66:=Tryz.isAgg331
 z66:=Tryz.sizeOf331
 v66:=Tryz.zeroValue331
 t70:=Tryz.underlying335
 a70:=Tryz.isAgg335
 z70:=Tryz.sizeOf335
 v70:=Tryz.zeroValue335
 t76:=Tryz.underlying342
 a76:=Tryz.isAgg342
 z76:=Tryz.sizeOf342
 v76:=Tryz.zeroValue342
 t77:=Tryz.underlying170
 a77:=Tryz.isAgg170
 z77:=Tryz.sizeOf170
 v77:=Tryz.zeroValue170 }
end Go.Proofs
namespace Go.Sym
open Go.RowKit
variable[LC]
def dd.data{P:Program}{f:FuncId}{xs:List AV}{r:AV}
  (h:∀(w:World)(G:Gh)(vs:List Value),cn G [] w->al xs G vs->Calls P f vs.toArray w fun e w'=>∃v,e = .returned v/\ak r G v/\cd w w'):dd P f xs [] r []:=by
 intro w G vs hm hr;refine(h w G vs hm hr).mono ?_;rintro e w' ⟨v,rfl,hv,hs⟩
 refine⟨v,G,rfl,?_,hv⟩;exact(qcj hm).extend (new:=[]) (Gh.le.refl G) hs (fun _ _ _ h => .inl h) (fun b o v hv=>by
  have hc:=hm.agree b o v hv;have hlt:=World.block_lt_of_cell? _ _ hc;rw[World.cell?_of_block (w:=w) (hs.block b hlt (fun h=>h))];exact hc) hm.one (fun n bx h=>by cases h) (fun n bx h=>by cases h) (fun n m bx bx' b h=>by cases h)
def cd.of_below{w w':World}(h:Below w.heap.size w w'):cd w w':=⟨h.os,h.tape,h.output,h.size,fun k hk _=>h.block k hk⟩
def cd.refl(w:World):cd w w:=⟨rfl,rfl,rfl,wF _,fun _ _ _=>rfl⟩
def dd.fresh{P:Program}{f:FuncId}{xs:List AV}{τ:Ty}{l:List τ.den}{E:TypeId}
  (h:∀(w:World)(G:Gh)(vs:List Value),cn G [] w->al xs G vs->Calls P f vs.toArray w fun e w'=>∃ad c us,e = .returned (.slice ad l.length c)/\fe w' E τ.sz ad l.length c us/\al (l.flatMap τ.enc) G.data us/\(∀b,cv ad=some b->w.heap.size<=b)/\cd w w') :
  dd P f xs [] (.own 0) [(0,.row τ l E)]:=by
 intro w G vs hm hr;refine(h w G vs hm hr).mono ?_;rintro e w' ⟨ad,c,us,rfl,hrow,hus,hb,hs⟩
 let G':Gh:={ imm:=G.imm,box:=fun _=>none,own:=fun m=>bif Nat.beq m 0 then some (ad,l.length,c) else none }
 have hself:(G'.own 0)=some (ad,l.length,c):=rfl;have hag:∀b o v,G.imm b o=some v->w'.cell? ⟨b,o,none⟩=some v:=fun b o v hv=>by
  have hc:=hm.agree b o v hv;have hlt:=World.block_lt_of_cell? _ _ hc;rw[World.cell?_of_block (w:=w) (hs.block b hlt (fun h=>h))];exact hc
 have hlt:∀b o v,G.imm b o=some v->b<w.heap.size:=fun b o v hv=>World.block_lt_of_cell? _ _ (hm.agree b o v hv)
 have hlk:∀m b,ae [(0,ah.row τ l E)] m=some b->m=0/\b = .row τ l E:=fun m b hh=>by
  simp only[ae]at hh;cases hb:Nat.beq 0 m
  ·rw[hb]at hh;cases hh
  ·rw[hb]at hh;simp only[qT,qI]at hh;exact⟨(qN hb).symm,hh.symm⟩
 have hat:G'.at 0 (.row τ l E)=cv ad:=by
  simp only[Gh.at,hself];cases ad<;>rfl
 refine⟨.slice ad l.length c,G',rfl,⟨⟨hag,hm.one,fun m b hh => ?_,fun m m' b b' c' h1 h2 _ _ => ?_,LC.mono (fun _ _ _ h=>h) (fun b o v h=>hs.block b (hlt b o v h) fun h=>h) hm.tab⟩,⟨hs.os,hs.tape,hs.output,hs.size,fun k hk _=>hs.block k hk fun h=>h⟩,fun _ _ _ h=>h,fun _ _ _ h => .inl h,fun m b c' h1 h2 => ?_,fun _ _ _ h=>(by cases h),fun _ _ _ h=>(by cases h)⟩,ad,l.length,c,hself,rfl⟩
 ·obtain⟨rfl,rfl⟩:=hlk m b hh;refine dj.row hself hrow (al.data_le (fun _ _ _ h=>h) hus) fun b hb' o => ?_
  cases hq:G.imm b o with|none=>rfl|some v=>have:=hlt b o v hq;have:=hb b hb';omega
 ·obtain⟨rfl,_⟩:=hlk m b h1;obtain⟨rfl,_⟩:=hlk m' b' h2;rfl
 ·obtain⟨rfl,rfl⟩:=hlk m b h1;rw[hat]at h2;exact .inl (hb c' h2)
def q2f{P:Program}{G:Gh}{w:World}(hm:cn G [] w){τ:Ty}{l:List τ.den}{v:Value}(h:ak (.sl τ l) G v) :
  ∃news,(∀w,(Builtin.lenOf v).run P w = .ok l.length w)/\(∀w',(∀k,k<w.heap.size->w'.heap[k]? = w.heap[k]?)->(Builtin.firstCells τ.sz l.length v).run P w' = .ok news.toArray w')/\al (l.flatMap τ.enc) G.data news/\∀u∈news,u.oneCell'=true:=by
 let s:St:={ n:=0,fr:=[],hp:=[],nx:=0,df:=[] }
 have hr:aj w G.data [] G.data s { tmps:=#[],defers:=[] } w:=
  ⟨⟨[],rfl,rfl⟩,rfl,fun i x h=>(by cases h),fun _ _ _=>⟨rfl,rfl⟩,qcj ⟨hm.agree,hm.one,fun _ _ h=>(by cases h),fun _ _ _ _ _ h=>(by cases h),hm.tab⟩⟩
 rcases qjt hr (x := .sl τ l) (v:=v) (flat:=l.flatMap τ.enc) (n:=l.length) h rfl with⟨b,hb,_⟩|⟨ad,c,us,rfl,h1,h2,h3⟩
 ·cases hb
 ·refine⟨us,fun w=>by simp[Builtin.lenOf],fun w' hw' => ?_,h1,h2⟩
  have hul:us.length=l.length*τ.sz:=by rw[← h1.length,ll]
  cases ad with
  |none=>
   have:us=[]:=by
    rcases h3 with h3|⟨_,_,h3,_⟩
    ·exact h3
    ·cases h3
   subst this;simp[Builtin.firstCells]
  |some ad=>
   have h3':us=[]\/∃b o,some ad=some (⟨b,o,none⟩:Addr)/\∀j u,us[j]? = some u->w'.cell? ⟨b,o+j,none⟩=some u:=by
    rcases h3 with h3|⟨b,o,h4,h5⟩
    ·exact .inl h3
    ·refine .inr ⟨b,o,h4,fun j u hu => ?_⟩
     have hc:=h5 j u hu;rw[World.cell?_of_block (w:=w) (hw' _ (World.block_lt_of_cell? _ _ hc))];exact hc
   have:=qdr (P:=P) (w:=w') (ad:=ad) h3';rw[hul]at this;simp[Builtin.firstCells,this]
def q24{P:Program}{ops:Array Oper}{rest:List Oper}{o:Oper}{a:Act}{w:World}{Q:Exit->Act->World->Prop}(hgd:o.guard=none)(s x:Operand)(t:TypeId)
  (ho:o.op = .call { callee := .builtin .append,args:=#[s,x],argTypes:=#[t,t] }) {E:TypeId} {sz:Nat} (ht:P.underlying t=some (.slice E)) (hz:mb P E=true) (hsz:ef P E=some sz) (ht2:zk P t=true)
  {ad:Option Addr} {n c:Nat} {us:List Value} (hs:a.eval s = .slice ad n c) (hrow:fe w E sz ad n c us) {v:Value} (hx:a.eval x=v) {m:Nat} {news:List Value}
  (ac:∀w,(Builtin.lenOf v).run P w = .ok m w) (hcells:∀w',w'.heap=w.heap->(Builtin.firstCells sz m v).run P w' = .ok news.toArray w') (hnl:news.length=m*sz) (hn1:∀v∈news,v.oneCell'=true) (hmax:n+m<=a7)
  (h:∀ad' c' w',fe w' E sz ad' (n+m) c' (us++news)->(cv ad'=cv ad\/∃g,cv ad'=some g/\w.heap.size<=g)->ei (fun b=>cv ad=some b) w w'->wpList P ops Q rest (a.put o.dst (.slice ad' (n+m) c')) w'):wpList P ops Q (o::rest) a w:=by
 obtain⟨i,z,hi,hz',z1,z2,z3,z4,zs⟩:=qkv hz hsz;rw[← zs]at hrow hcells hnl h;refine wpList_plain hgd fun _ hK => ?_
 obtain⟨ad',c',w',r1,r2,r3,r4⟩:=zfb (ty:=o.type) ht hi hz' z1 z2 z3 z4 ht2 hrow ac hcells hnl hn1 hmax;unfold Oper.wp execOp;simp only[ho,resolve,invoke,builtin,Sem.run_bind,Sem.run_pure,Result.andThen_ok,List.map_toArray,List.map_cons,List.map_nil,hs,hx,r1];exact hK _ _ (h ad' c' w' r2 r3 r4)
end Go.Sym
namespace Go.Sym
open Go.Proofs Go.RowKit Go.Sort
open Go.Proofs.Tryz
variable[LC]
def cd.below{w w':World}(h:cd w w'):Below w.heap.size w w':=⟨h.os,h.tape,h.output,h.size,fun k hk=>h.block k hk (fun h=>h)⟩
def cn.still{G:Gh}{w w':World}(hm:cn G [] w)(hs:cd w w'):cn G [] w':=
 have hlt:∀b o v,G.imm b o=some v->w'.heap[b]? = w.heap[b]? := fun b o v hv=>hs.block b (World.block_lt_of_cell? _ _ (hm.agree b o v hv)) (fun h=>h)
 ⟨fun b o v hv=>by rw[World.cell?_of_block (w:=w) (hlt b o v hv)];exact hm.agree b o v hv,hm.one,fun n bx h=>(by cases h),fun n m bx bx' b h=>(by cases h),LC.mono (fun _ _ _ h=>h) hlt hm.tab⟩
def zs3{G:Gh}{w:World}(hm:cn G [] w)(hg:LC.glob 3=some ⟨.int .u64,Lib.pow10Tab⟩)(hs:(3,20)∈LC.sizes):∃t fr,w.heap[3]? = some (.cells (Lib.pow10Tab.map fun z=>Value.int .u64 z).toArray t fr):=by
 obtain⟨_,cs,t,fr,hh,hz⟩:=hm.tab.2.2.2 _ hs;refine⟨t,fr,hh.trans ?_⟩;congr 2;apply Array.ext
 ·rw[hz];simp[Lib.pow10Tab]
 ·intro j h1 h2;have hj:j<Lib.pow10Tab.length:=by simpa using h2
  have h3:=hm.agree _ _ _ (hm.tab.1 _ _ _ hg j _ (List.getElem?_eq_getElem hj));rw[show j*(Ty.int .u64).sz=j from Nat.mul_one j]at h3
  simp only[World.cell?,hh]at h3;rw[Array.getElem?_eq_getElem h1]at h3;simp only[List.getElem_toArray,List.getElem_map];exact qJ h3
def zby{G:Gh}{w:World}(hm:cn G [] w)(hg:LC.glob 3=some ⟨.int .u64,Lib.pow10Tab⟩)(hs:(3,20)∈LC.sizes)(n:Int)(h0 : -9223372036854775808<=n)(h1:n<=9223372036854775807) :
  Calls Tryz.prog 94 #[.int .i64 n] w fun e w'=>e = .returned (.string ⟨(Lib.itoa n).toArray⟩)/\cd w w':=
 (Any.strconv_Itoa Tryz.laysM171 n h0 h1 w (by
  unfold Lib.TabIs World.var?;obtain⟨t,fr,hh⟩:=zs3 hm hg hs;rw[show Tryz.prog.globalNamed _=some 3 by kernel_rfl,qB,hh])).mono fun e w'⟨he,k,os,hw⟩=>⟨he,by
   subst hw;refine⟨rfl,rfl,rfl,by simp[grow],fun j hj _ => ?_⟩
   show(w.heap++os)[j]? = _;rw[Array.getElem?_append_left hj]⟩
def q0f:IF:=⟨.fn 94,[.h (.int .i64)],[],_,RS.mk (.h .str) []⟩
def zbz(hg:LC.glob 3=some ⟨.int .u64,Lib.pow10Tab⟩)(hs:(3,20)∈LC.sizes):(q0f.e ov).Sound Tryz.prog:=fun d d' r h=>by
 have h:ov d.1=some r:=h;unfold ov at h;cases hd:decide (-9223372036854775808<=(show Int from d.1)/\(show Int from d.1)<=9223372036854775807)<;>rw[hd]at h<;>simp only[qT,qF,reduceCtorEq]at h
 have h:=qJ h;subst h;have hd:=of_decide_eq_true hd;refine⟨call94,dd.data fun w G vs hm hr => ?_⟩
 match vs,hr with
 |[v],⟨h1,_⟩=>
  have h1:v = .int .i64 d.1:=h1;subst h1;exact(zby hm hg hs _ hd.1 hd.2).mono fun e w'⟨he,hw⟩=>⟨_,he,rfl,hw⟩
def zp0{G:Gh}{w:World}(hm:cn G [] w)(hi:0∈LC.ints){a b:Bs}{u v:Value}(hu:ak (.sl .byte a) G u)(hv:ak (.sl .byte b) G v)(h2:2<=b.length)(hb:b.length<=maxLen)(ha:a.length<4294967281) :
  Calls Tryz.prog 131 #[u,v] w fun e w'=>e = .returned (.int .i64 (Lib.index a b))/\cd w w':=by
 obtain⟨p,c,rfl,hc,hp⟩:ja 1 (Ty.byte.At G.imm) a u:=hu;obtain⟨q,d,rfl,hd,hq⟩:ja 1 (Ty.byte.At G.imm) b v:=hv;by_cases hlt:a.length<b.length
 ·have h:=Any.bytes_Index_longer Tryz.lays185 p q a.length c b.length d w h2 hlt (by unfold maxLen at hb;omega)
  rw[Lib.index_past (i:=0) (by intro e;subst e;simp at h2) (fun j hj=>absurd hj (Nat.not_lt_zero _)) (by simpa using hlt)]
  exact h.mono fun e w'⟨he,hw⟩=>⟨he,by subst hw;exact cd.refl _⟩
 ·rcases hp with rfl|⟨g,o,rfl,hcells⟩
  ·exact absurd (show([]:Bs).length<b.length from by show 0<_;omega) hlt
  rcases hq with rfl|⟨g',o',rfl,hcells'⟩
  ·exact absurd h2 (by show ¬2<=0;omega)
  obtain⟨k,hk⟩:=hm.tab.2.1 _ hi;have hk:=hm.agree _ _ _ hk;have bb:∀l:Bs,Lib.bytesOf (l.map fun x=>(x.toNat:Int))=l:=fun l=>by
   unfold Lib.bytesOf;rw[List.map_map];have:((fun n:Int=>UInt8.ofNat n.toNat) ∘ fun x:UInt8=>(x.toNat:Int))=id:=by funext x;simp
   rw[this,List.map_id]
  have cl:∀(l:Bs)(g o:Nat),(∀(j:Nat)(x:UInt8),l[j]? = some x->Ty.byte.At G.imm x g (o+j*1))->∀i,i<l.length->w.cell? ((⟨g,o,none⟩:Addr).add i)=some (.int .u8 ((l.map fun x=>(x.toNat:Int)).getD i 0)):=fun l g o h i hi=>by
   have h1:G.imm g (o+i*1)=some (.int .u8 l[i].toNat):=h i _ (List.getElem?_eq_getElem hi);have h1:=hm.agree _ _ _ h1;rw[Nat.mul_one]at h1;rw[Lib.add_plain',h1];simp[List.getD_eq_getElem?_getD,hi]
  have rg:∀l:Bs,∀x∈l.map (fun x=>(x.toNat:Int)),0<=x/\x<256:=fun l x hx=>by
   obtain⟨c,_,rfl⟩:=List.mem_map.1 hx;have:=c.toNat_lt;omega
  have h:=Any.bytes_Index_at Tryz.lays185 ⟨g,o,none⟩ ⟨g',o',none⟩ a.length c b.length d (a.map fun x=>(x.toNat:Int)) (b.map fun x=>(x.toNat:Int)) k w (by simp) (by simp) (rg a) (rg b) (cl a g o hcells) (cl b g' o' hcells') hc ha (by unfold maxLen at hb;omega) hk
  rw[bb,bb]at h;exact h.mono fun e w'⟨he,n,hw⟩=>⟨he,by subst hw;exact⟨rfl,rfl,rfl,wF _,fun _ _ _=>rfl⟩⟩
def qy1:IF:=⟨.fn 131,[.h (.list .byte),.h (.list .byte)],[],_,RS.mk (.h (.int .i64)) []⟩
def q9b(hi:0∈LC.ints):(qy1.e oq).Sound Tryz.prog:=fun d d' r h=>by
 obtain⟨a,b,_⟩:=d;have h:oq a b=some r:=h;unfold oq at h;cases hd:decide (2<=List.length (α:=UInt8) b/\List.length (α:=UInt8) a<4294967281/\List.length (α:=UInt8) b<=maxLen)<;>rw[hd]at h<;>simp only[qT,qF,reduceCtorEq]at h
 have h:=qJ h;subst h;have hd:=of_decide_eq_true hd;refine⟨call131,dd.data fun w G vs hm hr => ?_⟩
 match vs,hr with
 |[u,v],⟨h1,h2,_⟩=>
  exact(zp0 hm hi h1 h2 hd.1 hd.2.2 hd.2.1).mono fun e w'⟨he,hw⟩=>⟨_,he,rfl,hw⟩
end Go.Sym
namespace Go.Sym
open Go.Proofs Go.RowKit Go.Sort
variable[LC]
def cd.trans{w w1 w2:World}(h:cd w w1)(k:cd w1 w2):cd w w2:=
 ⟨k.os.trans h.os,k.tape.trans h.tape,k.output.trans h.output,Nat.le_trans h.size k.size,fun j hj _=>(k.block j (Nat.lt_of_lt_of_le hj h.size) (fun h=>h)).trans (h.block j hj (fun h=>h))⟩
def zl8{l:Bs}{v:Int}(h:Lib.atoiAll l = .ok v) : -9223372036854775808<=v/\v<=9223372036854775807:=by
 unfold Lib.atoiAll at h;split at h
 ·cases h
 ·simp only at h;split at h
  ·cases h
  ·cases h
  ·split at h
   ·cases h
   ·split at h
    ·cases h
    ·rename_i h1 h2;injection h with h
     split at h<;>rename_i h3
     ·simp only[h3,not_true_eq_false,false_and,true_and]at h1 h2;omega
     ·simp only[h3,not_false_eq_true,true_and,false_and]at h1 h2;omega
def zr0{G:Gh}{w:World}(hm:cn G [] w)(hg:LC.glob 3=some ⟨.int .u64,Lib.pow10Tab⟩)(hs:(3,20)∈LC.sizes)(h1:6∈LC.ifs)(h2:7∈LC.ifs)(s:Bs)(most:Int)(hl:s.length<=281474976710656) :
  Calls Tryz.prog 195 #[.string ⟨s.toArray⟩,.int .i64 most] w fun e w'=>e = .returned (.tuple #[.int .i64 (gx s most).1,.bool (gx s most).2])/\cd w w':=by
 have hsz:(⟨s.toArray⟩:ByteArray).size=s.length:=sc s;have hd:(⟨s.toArray⟩:ByteArray).data.toList=s:=by simp
 have bw:∀t:ByteArray,cd w (Lib.bytesWorld w 5 t):=fun t=>by
  refine⟨rfl,rfl,rfl,?_,fun j hj _ => ?_⟩
  ·simp[Lib.bytesWorld,World.freeze]
  ·show((w.heap.push _).modify w.heap.size _)[j]? = _;rw[Array.getElem?_modify,qW (by omega),Array.getElem?_push_lt (by omega)]
   exact(Array.getElem?_eq_getElem hj).symm
 have bad:(Calls Tryz.prog 219 #[.string ⟨s.toArray⟩] w fun e w'=>(∃n t v,e = .returned (.tuple #[.int .i64 n,.iface t v]))/\cd w w') ->
   Calls Tryz.prog 195 #[.string ⟨s.toArray⟩,.int .i64 most] w fun e w'=>e = .returned (.tuple #[.int .i64 0,.bool false])/\cd w w':=fun cA=>by
  clear hg hs hm
  go_enter Tryz.func195,Tryz.ntmps195
  go_wp2_with (go_at_call 219;refine cA.mono ?_;rintro e wa ⟨⟨n,t,v,rfl⟩,sa⟩)
  all_goals (clear cA;go_ret2;exact⟨rfl,sa⟩)
 unfold gx
 cases hA:Lib.atoiAll s with
 |ok v=>
  obtain⟨b1,b2⟩:=zl8 hA;have cA:Calls Tryz.prog 219 #[.string ⟨s.toArray⟩] w fun e w'=>e = .returned (.tuple #[.int .i64 v,.nilIface])/\cd w w':=
   (Any.strconv_Atoi_ok Tryz.laysC172 ⟨s.toArray⟩ (by omega) v (by rw[hd];exact hA) w).mono fun e w'⟨he,hw⟩=>⟨he,by
    rcases hw with rfl|⟨t,rfl⟩
    ·exact cd.refl _
    ·exact bw t⟩
  have cI:∀w',cd w w'->Calls Tryz.prog 94 #[.int .i64 v] w' fun e w''=>e = .returned (.string ⟨(Lib.itoa v).toArray⟩)/\cd w' w'':=fun w' h=>zby (hm.still h) hg hs v b1 b2
  have hse:(⟨(Lib.itoa v).toArray⟩:ByteArray)=⟨s.toArray⟩↔Lib.itoa v=s:=by
   constructor
   ·intro h;have:=congrArg (fun x:ByteArray=>x.data.toList) h;simpa using this
   ·intro h;rw[h]
  show Calls Tryz.prog 195 _ w fun e w'=>e = .returned (.tuple #[.int .i64 (if Lib.itoa v=s/\0<=v/\v<=most then(v,true) else(0,false)).1,.bool (if Lib.itoa v=s/\0<=v/\v<=most then(v,true) else(0,false)).2])/\cd w w'
  generalize Lib.itoa v=t at cI hse ⊢;obtain⟨r,hr⟩:∃r,r=(if t=s/\0<=v/\v<=most then(v,true) else(0,false)):=⟨_,rfl⟩
  rw[← hr];clear hA hg hs hm
  go_enter Tryz.func195,Tryz.ntmps195
  go_wp2_with (first|(go_at_call 219;refine cA.mono ?_;rintro e wa ⟨rfl,sa⟩)|(go_at_call 94;refine(cI _ (by assumption)).mono ?_;rintro e wb ⟨rfl,sb⟩))
  all_goals (clear cA cI;go_ret2)
  all_goals (by_cases q:t=s/\0<=v/\v<=most)
  all_goals first
   |(rw[qX q]at hr;subst hr;first|exact⟨rfl,sa.trans sb⟩|(exfalso;omega)|(exfalso;exact absurd q.1 (by assumption)))
   |(rw[qW q]at hr;subst hr;first|exact⟨rfl,sa.trans sb⟩|(exfalso;exact q ⟨by assumption,by omega,by omega⟩))
 |range=>
  obtain⟨te,pe,hv⟩:=hm.tab.2.2.1 _ h2;have cA:Calls Tryz.prog 219 #[.string ⟨s.toArray⟩] w fun e w'=>(∃n t v,e = .returned (.tuple #[.int .i64 n,.iface t v]))/\cd w w':=
   (Any.strconv_Atoi_range Tryz.laysC172 ⟨s.toArray⟩ (by omega) (by rw[hd];exact hA) _ w (hm.agree _ _ _ hv) (.inr ⟨_,_,rfl⟩)).mono fun e w'⟨N,he,_,_,hw⟩=>⟨⟨_,_,_,he⟩,cd.of_below hw⟩
  exact bad cA
 |_=>
  obtain⟨te,pe,hv⟩:=hm.tab.2.2.1 _ h1;have cA:Calls Tryz.prog 219 #[.string ⟨s.toArray⟩] w fun e w'=>(∃n t v,e = .returned (.tuple #[.int .i64 n,.iface t v]))/\cd w w':=
   (Any.strconv_Atoi_syntax Tryz.laysC172 ⟨s.toArray⟩ (by omega) (by rw[hd];exact hA) _ w (hm.agree _ _ _ hv) (.inr ⟨_,_,rfl⟩)).mono fun e w'⟨N,he,_,_,hw⟩=>⟨⟨_,_,_,he⟩,cd.of_below hw⟩
  exact bad cA
def zc8:IF:=⟨.fn 195,[.h .str,.h (.int .i64)],[],_,RS.mk (.tup [.h (.int .i64),.h .bool]) []⟩
def zr2(hg:LC.glob 3=some ⟨.int .u64,Lib.pow10Tab⟩)(hs:(3,20)∈LC.sizes)(h1:6∈LC.ifs)(h2:7∈LC.ifs):(zc8.e xt).Sound Tryz.prog:=fun d d' r h=>by
 obtain⟨s,most,_⟩:=d;have h:xt s most=some r:=h;unfold xt at h;cases hd:decide (List.length (α:=UInt8) s<=281474976710656)<;>rw[hd]at h<;>simp only[qT,qF,reduceCtorEq]at h
 have h:=qJ h;subst h;refine⟨Tryz.call195,dd.data fun w G vs hm hr => ?_⟩
 match vs,hr with
 |[u,v],⟨e1,e2,_⟩=>
  have e1:u = .string ⟨List.toArray s⟩:=e1;have e2:v = .int .i64 most:=e2;subst e1 e2;exact(zr0 hm hg hs h1 h2 s most (of_decide_eq_true hd)).mono fun e w'⟨he,hw⟩=>⟨_,he,⟨_,rfl,rfl,rfl,trivial⟩,hw⟩
end Go.Sym
namespace Go.Sym
open Go.Proofs Go.RowKit
variable[LC]
def qc7(w:World)(o:Obj){k:Nat}(hk:k<w.heap.size):(w.alloc o).heap[k]? = w.heap[k]? := by
 show(w.heap.push _)[k]? = _;rw[Array.getElem?_push_lt hk];exact(Array.getElem?_eq_getElem hk).symm
def q16(w:World)(E:TypeId)(sz:Nat):fe (w.alloc (.cells #[] E)) E sz (some ⟨w.heap.size,0,none⟩) 0 0 []:=
 ⟨by simp,.inr ⟨w.heap.size,#[],(0,0),rfl,by show(w.heap.push _)[w.heap.size]? = _;simp,.inl rfl,wF _,by unfold maxLen;omega,by simp,by simp,by simp⟩⟩
def zna(l:List (.prod .str .str:Ty).den)(hd:l.length<=a7):dd Tryz.prog 38 [.sl (.prod .str .str) l] [] (.own 0) [(0,.row (.prod .str .str) l 50)]:=by
 refine dd.fresh fun w G vs hm hr => ?_
 match vs,hr with
 |[v],⟨h1,_⟩=>
  obtain⟨news,k1,k2,k3,k4⟩:=q2f (P:=Tryz.prog) hm h1;have hnl:news.length=l.length*(.prod .str .str:Ty).sz:=by rw[← k3.length];exact ll l
  obtain⟨p,c,rfl,hc,hp⟩:ja (.prod .str .str:Ty).sz ((.prod .str .str:Ty).At G.imm) l v:=h1
  cases p with
  |none=>
   have hl:l=[]:=by
    rcases hp with h|⟨_,_,h,_⟩
    ·exact h
    ·cases h
   subst hl;have e0:news=[]:=List.eq_nil_of_length_eq_zero (by rw[hnl];exact Nat.zero_mul _)
   subst e0;have hg:Calls Tryz.prog 38 #[.slice none 0 c] w fun e w'=>e = .returned (.slice none 0 0)/\w'=w:=by
    clear hp hr k1 k2 hm hnl hc hd k3 k4;have q22:∀(w:World)(a:Option Addr)(n c n' c':Nat),(binOp .eql 22 (.slice a n c) (.slice none n' c')).run Tryz.prog w = .ok (.bool a.isNone) w:=fun w a n c n' c'=>Lib.run_eql_slice_nil w _ _ a n c n' c' Tryz.underlying22
    have u22:∀w,Sem.run Tryz.prog (underlying 22) w = .ok (TypeDesc.slice 50) w:=run_underlying Tryz.underlying22
    go_enter Tryz.func38,Tryz.ntmps38
    go_wp2
    go_ret
    exact⟨rfl,rfl⟩
   exact hg.mono fun e w'⟨he,hw⟩=>⟨none,0,[],he,⟨rfl,.inl ⟨rfl,rfl,rfl⟩⟩,k3,fun b hb=>(by cases hb),by subst hw;exact cd.refl _⟩
  |some ad=>
   generalize hn:l.length=n at *;have hg:Calls Tryz.prog 38 #[.slice (some ad) n c] w fun e w'=>∃ad' c',e = .returned (.slice ad' n c')/\fe w' 50 (.prod .str .str:Ty).sz ad' n c' news/\(∀b,cv ad'=some b->w.heap.size<=b)/\cd w w':=by
    clear hm k3 hr hp hn;have q22:∀(w:World)(a:Option Addr)(n c n' c':Nat),(binOp .eql 22 (.slice a n c) (.slice none n' c')).run Tryz.prog w = .ok (.bool a.isNone) w:=fun w a n c n' c'=>Lib.run_eql_slice_nil w _ _ a n c n' c' Tryz.underlying22
    have u22:∀w,Sem.run Tryz.prog (underlying 22) w = .ok (TypeDesc.slice 50) w:=run_underlying Tryz.underlying22
    go_enter Tryz.func38,Tryz.ntmps38
    go_wp2_with (at_builtin;refine q24 rfl _ _ 22 rfl (E:=50) (sz:=(.prod .str .str:Ty).sz) (by kernel_rfl) (by kernel_rfl) (by kernel_rfl) (by kernel_rfl) rfl (q16 w 50 _) rfl k1 ?qc hnl k4 (by omega) ?_)
    case qc=>exact fun w' hw'=>k2 w' fun k hk=>by rw[hw'];exact qc7 w _ hk
    intro ad' c' w1 hrow hblk hbel
    go_wp2
    go_ret
    refine⟨ad',c',rfl,by simpa using hrow,fun b hb => ?_,⟨hbel.os,hbel.tape,hbel.output,Nat.le_trans (by show w.heap.size<=(w.heap.push _).size;simp) hbel.size,fun k hk _ => ?_⟩⟩
    ·rcases hblk with h|⟨g,h,hg⟩
     ·rw[h]at hb;injection hb with hb;have hb:w.heap.size=b:=hb;omega
     ·rw[h]at hb;injection hb with hb
      have:w.heap.size<=(w.alloc (.cells #[] 50)).heap.size:=by show w.heap.size<=(w.heap.push _).size;simp
      omega
    ·rw[hbel.block k (by show k<(w.heap.push _).size;simp;omega) (fun e=>by injection e with e;have e:w.heap.size=k:=e;omega)]
     exact qc7 w _ hk
   exact hg.mono fun e w'⟨ad',c',he,hrow,hb,hs⟩=>⟨ad',c',news,he,hrow,k3,hb,hs⟩
def yy:IF:=⟨.fn 38,[.h (.list (.prod .str .str))],[],_,RS.mk (.own 0) [(0,.row (.prod .str .str) 50)]⟩
def qcp:(yy.e (dm (α:=(.prod .str .str:Ty).den))).Sound Tryz.prog:=fun d d' r h=>by
 obtain⟨l,_⟩:=d;have h:(bif decide (List.length (α:=(.prod .str .str:Ty).den) l<=a7) then some (show List (.prod .str .str:Ty).den from l) else none)=some r:=h
 cases hd:decide (List.length (α:=(.prod .str .str:Ty).den) l<=a7)<;>rw[hd]at h<;>simp only[qT,qF,reduceCtorEq]at h
 have h:=qJ h;subst h;exact⟨Tryz.call38,zna l (of_decide_eq_true hd)⟩
def znb(l:List (.byte:Ty).den)(hd:l.length<=a7):dd Tryz.prog 39 [.sl (.byte) l] [] (.own 0) [(0,.row (.byte) l 5)]:=by
 refine dd.fresh fun w G vs hm hr => ?_
 match vs,hr with
 |[v],⟨h1,_⟩=>
  obtain⟨news,k1,k2,k3,k4⟩:=q2f (P:=Tryz.prog) hm h1;have hnl:news.length=l.length*(.byte:Ty).sz:=by rw[← k3.length];exact ll l
  obtain⟨p,c,rfl,hc,hp⟩:ja (.byte:Ty).sz ((.byte:Ty).At G.imm) l v:=h1
  cases p with
  |none=>
   have hl:l=[]:=by
    rcases hp with h|⟨_,_,h,_⟩
    ·exact h
    ·cases h
   subst hl;have e0:news=[]:=List.eq_nil_of_length_eq_zero (by rw[hnl];exact Nat.zero_mul _)
   subst e0;have hg:Calls Tryz.prog 39 #[.slice none 0 c] w fun e w'=>e = .returned (.slice none 0 0)/\w'=w:=by
    clear hp hr k1 k2 hm hnl hc hd k3 k4;have q22:∀(w:World)(a:Option Addr)(n c n' c':Nat),(binOp .eql 23 (.slice a n c) (.slice none n' c')).run Tryz.prog w = .ok (.bool a.isNone) w:=fun w a n c n' c'=>Lib.run_eql_slice_nil w _ _ a n c n' c' Tryz.underlying23
    have u22:∀w,Sem.run Tryz.prog (underlying 23) w = .ok (TypeDesc.slice 5) w:=run_underlying Tryz.underlying23
    go_enter Tryz.func39,Tryz.ntmps39
    go_wp2
    go_ret
    exact⟨rfl,rfl⟩
   exact hg.mono fun e w'⟨he,hw⟩=>⟨none,0,[],he,⟨rfl,.inl ⟨rfl,rfl,rfl⟩⟩,k3,fun b hb=>(by cases hb),by subst hw;exact cd.refl _⟩
  |some ad=>
   generalize hn:l.length=n at *;have hg:Calls Tryz.prog 39 #[.slice (some ad) n c] w fun e w'=>∃ad' c',e = .returned (.slice ad' n c')/\fe w' 5 (.byte:Ty).sz ad' n c' news/\(∀b,cv ad'=some b->w.heap.size<=b)/\cd w w':=by
    clear hm k3 hr hp hn;have q22:∀(w:World)(a:Option Addr)(n c n' c':Nat),(binOp .eql 23 (.slice a n c) (.slice none n' c')).run Tryz.prog w = .ok (.bool a.isNone) w:=fun w a n c n' c'=>Lib.run_eql_slice_nil w _ _ a n c n' c' Tryz.underlying23
    have u22:∀w,Sem.run Tryz.prog (underlying 23) w = .ok (TypeDesc.slice 5) w:=run_underlying Tryz.underlying23
    go_enter Tryz.func39,Tryz.ntmps39
    go_wp2_with (at_builtin;refine q24 rfl _ _ 23 rfl (E:=5) (sz:=(.byte:Ty).sz) (by kernel_rfl) (by kernel_rfl) (by kernel_rfl) (by kernel_rfl) rfl (q16 w 5 _) rfl k1 ?qc hnl k4 (by omega) ?_)
    case qc=>exact fun w' hw'=>k2 w' fun k hk=>by rw[hw'];exact qc7 w _ hk
    intro ad' c' w1 hrow hblk hbel
    go_wp2
    go_ret
    refine⟨ad',c',rfl,by simpa using hrow,fun b hb => ?_,⟨hbel.os,hbel.tape,hbel.output,Nat.le_trans (by show w.heap.size<=(w.heap.push _).size;simp) hbel.size,fun k hk _ => ?_⟩⟩
    ·rcases hblk with h|⟨g,h,hg⟩
     ·rw[h]at hb;injection hb with hb;have hb:w.heap.size=b:=hb;omega
     ·rw[h]at hb;injection hb with hb
      have:w.heap.size<=(w.alloc (.cells #[] 5)).heap.size:=by show w.heap.size<=(w.heap.push _).size;simp
      omega
    ·rw[hbel.block k (by show k<(w.heap.push _).size;simp;omega) (fun e=>by injection e with e;have e:w.heap.size=k:=e;omega)]
     exact qc7 w _ hk
   exact hg.mono fun e w'⟨ad',c',he,hrow,hb,hs⟩=>⟨ad',c',news,he,hrow,k3,hb,hs⟩
def qif:IF:=⟨.fn 39,[.h (.list (.byte))],[],_,RS.mk (.own 0) [(0,.row (.byte) 5)]⟩
def qoj:(qif.e (dm (α:=(.byte:Ty).den))).Sound Tryz.prog:=fun d d' r h=>by
 obtain⟨l,_⟩:=d;have h:(bif decide (List.length (α:=(.byte:Ty).den) l<=a7) then some (show List (.byte:Ty).den from l) else none)=some r:=h
 cases hd:decide (List.length (α:=(.byte:Ty).den) l<=a7)<;>rw[hd]at h<;>simp only[qT,qF,reduceCtorEq]at h
 have h:=qJ h;subst h;exact⟨Tryz.call39,znb l (of_decide_eq_true hd)⟩
def znd(l:List (.prod .str .str:Ty).den)(hd:l.length<=a7):dd Tryz.prog 71 [.sl (.prod .str .str) l] [] (.own 0) [(0,.row (.prod .str .str) l 86)]:=by
 refine dd.fresh fun w G vs hm hr => ?_
 match vs,hr with
 |[v],⟨h1,_⟩=>
  obtain⟨news,k1,k2,k3,k4⟩:=q2f (P:=Tryz.prog) hm h1;have hnl:news.length=l.length*(.prod .str .str:Ty).sz:=by rw[← k3.length];exact ll l
  obtain⟨p,c,rfl,hc,hp⟩:ja (.prod .str .str:Ty).sz ((.prod .str .str:Ty).At G.imm) l v:=h1
  cases p with
  |none=>
   have hl:l=[]:=by
    rcases hp with h|⟨_,_,h,_⟩
    ·exact h
    ·cases h
   subst hl;have e0:news=[]:=List.eq_nil_of_length_eq_zero (by rw[hnl];exact Nat.zero_mul _)
   subst e0;have hg:Calls Tryz.prog 71 #[.slice none 0 c] w fun e w'=>e = .returned (.slice none 0 0)/\w'=w:=by
    clear hp hr k1 k2 hm hnl hc hd k3 k4;have q22:∀(w:World)(a:Option Addr)(n c n' c':Nat),(binOp .eql 81 (.slice a n c) (.slice none n' c')).run Tryz.prog w = .ok (.bool a.isNone) w:=fun w a n c n' c'=>Lib.run_eql_slice_nil w _ _ a n c n' c' Tryz.underlying81
    have u22:∀w,Sem.run Tryz.prog (underlying 81) w = .ok (TypeDesc.slice 86) w:=run_underlying Tryz.underlying81
    go_enter Tryz.func71,Tryz.ntmps71
    go_wp2
    go_ret
    exact⟨rfl,rfl⟩
   exact hg.mono fun e w'⟨he,hw⟩=>⟨none,0,[],he,⟨rfl,.inl ⟨rfl,rfl,rfl⟩⟩,k3,fun b hb=>(by cases hb),by subst hw;exact cd.refl _⟩
  |some ad=>
   generalize hn:l.length=n at *;have hg:Calls Tryz.prog 71 #[.slice (some ad) n c] w fun e w'=>∃ad' c',e = .returned (.slice ad' n c')/\fe w' 86 (.prod .str .str:Ty).sz ad' n c' news/\(∀b,cv ad'=some b->w.heap.size<=b)/\cd w w':=by
    clear hm k3 hr hp hn;have q22:∀(w:World)(a:Option Addr)(n c n' c':Nat),(binOp .eql 81 (.slice a n c) (.slice none n' c')).run Tryz.prog w = .ok (.bool a.isNone) w:=fun w a n c n' c'=>Lib.run_eql_slice_nil w _ _ a n c n' c' Tryz.underlying81
    have u22:∀w,Sem.run Tryz.prog (underlying 81) w = .ok (TypeDesc.slice 86) w:=run_underlying Tryz.underlying81
    go_enter Tryz.func71,Tryz.ntmps71
    go_wp2_with (at_builtin;refine q24 rfl _ _ 81 rfl (E:=86) (sz:=(.prod .str .str:Ty).sz) (by kernel_rfl) (by kernel_rfl) (by kernel_rfl) (by kernel_rfl) rfl (q16 w 86 _) rfl k1 ?qc hnl k4 (by omega) ?_)
    case qc=>exact fun w' hw'=>k2 w' fun k hk=>by rw[hw'];exact qc7 w _ hk
    intro ad' c' w1 hrow hblk hbel
    go_wp2
    go_ret
    refine⟨ad',c',rfl,by simpa using hrow,fun b hb => ?_,⟨hbel.os,hbel.tape,hbel.output,Nat.le_trans (by show w.heap.size<=(w.heap.push _).size;simp) hbel.size,fun k hk _ => ?_⟩⟩
    ·rcases hblk with h|⟨g,h,hg⟩
     ·rw[h]at hb;injection hb with hb;have hb:w.heap.size=b:=hb;omega
     ·rw[h]at hb;injection hb with hb
      have:w.heap.size<=(w.alloc (.cells #[] 86)).heap.size:=by show w.heap.size<=(w.heap.push _).size;simp
      omega
    ·rw[hbel.block k (by show k<(w.heap.push _).size;simp;omega) (fun e=>by injection e with e;have e:w.heap.size=k:=e;omega)]
     exact qc7 w _ hk
   exact hg.mono fun e w'⟨ad',c',he,hrow,hb,hs⟩=>⟨ad',c',news,he,hrow,k3,hb,hs⟩
def q9y:IF:=⟨.fn 71,[.h (.list (.prod .str .str))],[],_,RS.mk (.own 0) [(0,.row (.prod .str .str) 86)]⟩
def znc:(q9y.e (dm (α:=(.prod .str .str:Ty).den))).Sound Tryz.prog:=fun d d' r h=>by
 obtain⟨l,_⟩:=d;have h:(bif decide (List.length (α:=(.prod .str .str:Ty).den) l<=a7) then some (show List (.prod .str .str:Ty).den from l) else none)=some r:=h
 cases hd:decide (List.length (α:=(.prod .str .str:Ty).den) l<=a7)<;>rw[hd]at h<;>simp only[qT,qF,reduceCtorEq]at h
 have h:=qJ h;subst h;exact⟨Tryz.call71,znd l (of_decide_eq_true hd)⟩
end Go.Sym
namespace Go.Sym
open Go.Proofs Go.RowKit Go.Sort
variable[LC]
def dd.inPlaceA{ys:List AV}{P:Program}{f:FuncId}{τ:Ty}{l l':List τ.den}{E:TypeId}(ac:l'.length=l.length)(h:∀(w:World)(G:Gh)(ad:Option Addr)(c:Nat)(us vs:List Value),fe w E τ.sz ad l.length c us->al (l.flatMap τ.enc) G.data us->al ys G vs ->
  Calls P f (Value.slice ad l.length c::vs).toArray w fun e w'=>e = .returned (.tuple #[])/\∃us',fe w' E τ.sz ad l.length c us'/\al (l'.flatMap τ.enc) G.data us'/\ei (fun b=>cv ad=some b) w w') :
  dd P f (.own 0::ys) [(0,.row τ l E)] (.tup []) [(0,.row τ l' E)]:=by
 intro w G vs hm hreps;have hl:ae [(0,ah.row τ l E)] 0=some (.row τ l E):=rfl;obtain⟨ad,c,us,h1,h3,h4,h5⟩:=(hm.holds 0 _ hl).rowAt
 match vs,hreps with
 |v::vs,hreps=>
  obtain⟨⟨a',n',c',q1,rfl⟩,hys⟩:=hreps;rw[h1]at q1;simp only[qI,qP]at q1;obtain⟨rfl,rfl,rfl⟩:=q1;refine(h w G ad c us vs h3 h4 hys).mono ?_;rintro e w' ⟨rfl,us',r1,r2,r3⟩
  refine⟨_,G,rfl,?_,#[],rfl,trivial⟩;have hself:=qcj hm;have hbox:dj G w' 0 (.row τ l' E):=dj.row (by rw[ac];exact h1) (by rw[ac];exact r1) r2 (fun b hb=>h5 b hb)
  cases had:cv ad with
  |none=>
   have hst:cd w w':=⟨r3.os,r3.tape,r3.output,r3.size,fun k hk _=>r3.block k hk (fun e=>by rw[had]at e;cases e)⟩
   have hf:=hself.extend (new:=[]) (Gh.le.refl G) hst (fun _ _ _ h => .inl h) (fun b o v hv=>by
    have hc:=hm.agree b o v hv;have hlt:=World.block_lt_of_cell? _ _ hc;rw[World.cell?_of_block (w:=w) (hst.block b hlt (fun h=>h))];exact hc) hm.one (fun n bx h=>by cases h) (fun n bx h=>by cases h) (fun n m bx bx' b h=>by cases h)
   have hlk:∀m b,ae [(0,ah.row τ l' E)] m=some b->m=0/\b = .row τ l' E:=fun m b hh=>by
    simp only[ae]at hh;cases hb:Nat.beq 0 m
    ·rw[hb]at hh;cases hh
    ·rw[hb]at hh;simp only[qT,qI]at hh;exact⟨(qN hb).symm,hh.symm⟩
   have hat:G.at 0 (.row τ l' E)=none:=by
    simp only[Gh.at,h1]
    cases ad with|none=>rfl|some a=>cases had
   refine⟨⟨hf.mem.agree,hf.mem.one,fun m b hh => ?_,fun m m' b b' c h1 h2 h3 _ => ?_,hf.mem.tab⟩,hf.bel,hf.imm_le,hf.imm_new,fun m b c h1 h2 => ?_,hf.keep,hf.keepOwn⟩
   ·obtain⟨rfl,rfl⟩:=hlk m b hh;exact hbox
   ·obtain⟨rfl,_⟩:=hlk m b h1;obtain⟨rfl,_⟩:=hlk m' b' h2;rfl
   ·obtain⟨rfl,rfl⟩:=hlk m b h1;rw[hat]at h2;cases h2
  |some B=>
   have hat:∀l:List τ.den,G.at 0 (.row τ l E)=some B:=fun l=>by
    simp only[Gh.at,h1]
    cases ad with
    |none=>cases had
    |some a=>exact had
   have hf:=hself.update (bx' := .row τ l' E) hl (hat l) (hat l') ⟨r3.os,r3.tape,r3.output,r3.size,fun k hk hne=>r3.block k hk (fun e=>by rw[had]at e;injection e with e;exact hne e.symm)⟩ hbox (h5 B had)
   have hlk:∀m b,ae [(0,ah.row τ l' E)] m=some b->ae (r7 [(0,ah.row τ l E)] 0 (.row τ l' E)) m=some b:=fun m b hh=>by
    simp only[ae]at hh;simp only[r7,ae];cases hb:Nat.beq 0 m
    ·rw[hb]at hh;cases hh
    ·rw[hb]at hh;exact hh
   exact⟨⟨hf.mem.agree,hf.mem.one,fun m b hh=>hf.mem.holds m b (hlk m b hh),fun m m' b b' c h1 h2 h3 h4=>hf.mem.apart m m' b b' c (hlk _ _ h1) (hlk _ _ h2) h3 h4,hf.mem.tab⟩,hf.bel,hf.imm_le,hf.imm_new,fun m b c h1 h2=>hf.base m b c (hlk _ _ h1) h2,hf.keep,hf.keepOwn⟩
 |[],hreps=>exact hreps.elim
def ztf(w:World)(n g:Nat)(d:Array Value)(os:Array Obj)(k:Nat)(hk:k<w.heap.size)(hne:k≠g):(grow (putRow id (Sort.ahead w n) g 0 d) os).heap[k]? = w.heap[k]? := by
 show((w.heap.modify g (onCells (putCells id 0 d)))++os)[k]? = _;rw[Array.getElem?_append_left (by simpa using hk),Array.getElem?_modify,qW (by omega)]
def ztg(w:World)(n g:Nat)(d:Array Value)(os:Array Obj){cur:Array Value}{e:TypeId}{fr:Nat×Nat}(hh:w.heap[g]? = some (.cells cur e fr)) :
  (grow (putRow id (Sort.ahead w n) g 0 d) os).heap[g]? = some (.cells (putCells id 0 d cur) e fr):=by
 have hg:g<w.heap.size:=(Array.getElem?_eq_some_iff.1 hh).1;show((w.heap.modify g (onCells (putCells id 0 d)))++os)[g]? = _;rw[Array.getElem?_append_left (by simpa using hg),Array.getElem?_modify,qX rfl,hh]
 rfl
def zti(zs:List Value)(cur:Array Value)(h:zs.length<=cur.size):(putCells id 0 zs.toArray cur).toList.take zs.length=zs:=by
 apply List.ext_getElem?;intro j;rw[List.getElem?_take];by_cases hj:j<zs.length
 ·rw[qX hj,Array.getElem?_toList];unfold putCells;rw[Array.getElem?_mapIdx,Array.getElem?_eq_getElem (by omega)]
  simp[hj]
 ·rw[qW hj];exact(List.getElem?_eq_none (by omega)).symm
def zth(w:World)(n g:Nat)(d:Array Value)(os:Array Obj):w.heap.size<=(grow (putRow id (Sort.ahead w n) g 0 d) os).heap.size:=by
 show w.heap.size<=((w.heap.modify g (onCells (putCells id 0 d)))++os).size;simp
def zte(zs:List Value)(cur:Array Value)(v:Value)(hv:v∈(putCells id 0 zs.toArray cur).toList):v∈cur.toList\/v∈zs:=by
 unfold putCells at hv;rw[Array.mem_toList_iff,Array.mem_mapIdx]at hv;obtain⟨j,hj,rfl⟩:=hv;split
 ·rename_i hj2;have hj3:j<zs.length:=by simpa using hj2
  refine .inr ?_;simp[hj3]
 ·exact .inl (by simp)
end Go.Sym
namespace Go.Sym
open Go.Proofs Go.RowKit Go.Sort
variable[LC]
def za1{α:Type}[Inhabited α](enc:α->List Value)(k:Nat)(hk:∀x,(enc x).length=k)(l:List α):flatK enc k l.toArray=(l.flatMap enc).toArray:=by
 have key:∀(l:List α)(t:Nat),t<l.length*k->(l.flatMap enc)[t]? = some ((enc l[t/k]!)[t%k]!):=by
  intro l
  induction l with
  |nil=>intro t ht;simp at ht|cons x l ih=>
   intro t ht;have k0:0<k:=by
    rcases Nat.eq_zero_or_pos k with h|h;· subst h;simp at ht
    ·exact h
   rw[List.flatMap_cons];by_cases h:t<k
   ·rw[List.getElem?_append_left (by rw[hk];exact h),Nat.div_eq_of_lt h,Nat.mod_eq_of_lt h,List.getElem?_eq_getElem (by rw[hk];exact h)]
    simp[hk,h]
   ·rw[List.getElem?_append_right (by rw[hk];omega),hk,ih (t-k) (by rw[qL,Nat.add_mul,Nat.one_mul]at ht;omega)]
    obtain⟨u,rfl⟩:∃u,t=u+k:=⟨t-k,by omega⟩
    rw[Nat.add_sub_cancel,Nat.add_mod_right,Nat.add_div_right _ k0];simp
 have ac:(l.flatMap enc).length=l.length*k:=by
  clear key
  induction l with|nil=>simp|cons x l ih=>rw[List.flatMap_cons,qM,hk,ih,qL,Nat.add_mul,Nat.one_mul,Nat.add_comm]
 refine ext_get! (by simp[ac]) fun t ht => ?_
 have ht':t<l.length*k:=by simpa using ht
 rw[get_flatK enc k l.toArray t (by simpa using ht')]
 have:=key l t ht';simp only[List.getElem!_toArray];rw[List.getElem!_eq_getElem?_getD (l:=l.flatMap enc),this];rfl
def eu(x:Pq):List Value:=[.string ⟨x.1.1.toArray⟩,.int .i64 x.1.2.1,.bool x.1.2.2.1,.string ⟨x.1.2.2.2.toArray⟩]
def zf0:SWO (ltOf jc):=by
 have e:∀x y:Pq,ltOf jc x y=decide (x.1.2.1<y.1.2.1):=fun x y=>by
  have:=x.2;have:=y.2;unfold ltOf jc;have h:af (x.1.2.1-y.1.2.1)=x.1.2.1-y.1.2.1:=by unfold af;simp[IntKind.wrap,IntKind.bits,IntKind.signed];omega
  rw[h];by_cases q:x.1.2.1<y.1.2.1<;>simp[q]<;>omega
 exact⟨fun x=>by rw[e];simp,fun x y z h1 h2=>by rw[e]at *;simp at *;omega,fun x y z h1 h2=>by rw[e]at *;simp at *;omega⟩
set_option maxHeartbeats 1000000 in
def zne(x y:Pq)(W:World):Calls Tryz.prog 222 #[.agg (eu x).toArray,.agg (eu y).toArray] W fun e w'=>e = .returned (.int .i64 (jc x y))/\∃q os',w'=grow (W.drewN q) os':=by
 unfold eu jc;obtain⟨⟨a,n,s,v⟩,hx⟩:=x;obtain⟨⟨a',n',s',v'⟩,hy⟩:=y;simp only;have hw:af (n-n')=wrap64 (n-n'):=by show IntKind.i64.wrap (n-n')=_;rw[IntKind.wrap_i64];unfold Go.RowKit.wrap64;rfl
 rw[hw];clear hx hy hw
 go_enter Tryz.func222,Tryz.ntmps222
 go_wp2
 go_ret
 exact⟨rfl,0,_,by rw[alloc_eq_grow,alloc_eq_grow,grow_grow];rfl⟩
abbrev τQ:Ty := .prod .str (.prod (.int .i64) (.prod .bool .str))
def zen{G:Gh}:∀{l:List Pq}{us:List Value},al (List.flatMap (β:=AV) τQ.enc (l.map (·.1))) G us->us=l.flatMap eu
 |[],[],_=>rfl|[],_::_,h=>h.elim|x::l,us,h=>by
  match us,h with
  |a::b::c::d::us,h=>
   have h1:a = .string ⟨x.1.1.toArray⟩:=h.1;have h2:b = .int .i64 x.1.2.1:=h.2.1;have h3:c = .bool x.1.2.2.1:=h.2.2.1;have h4:d = .string ⟨x.1.2.2.2.toArray⟩:=h.2.2.2.1;have h5:=zen (l:=l) h.2.2.2.2;rw[h1,h2,h3,h4,h5];rfl
  |[],h=>exact h.elim|[_],h=>exact h.2.elim|[_,_],h=>exact h.2.2.elim|[_,_,_],h=>exact h.2.2.2.elim
def zeo{G:Gh}:∀(l:List Pq),al (List.flatMap (β:=AV) τQ.enc (l.map (·.1))) G (l.flatMap eu)
 |[]=>trivial|_::l=>⟨rfl,rfl,rfl,rfl,zeo l⟩
def zga:∀(l:List Pc)(q:List Pq),pw l=some q->l=q.map (·.1)
 |[],_,h=>by cases h;rfl
 |x::l,q,h=>by
  unfold pw at h;split at h
  ·split at h
   ·rename_i r hr;cases h;rw[zga l r hr];rfl
   ·cases h
  ·cases h
def q2h(l:List Pq):(il l).length=l.length:=by
 have h:=(pdq_sorts (ltOf jc) zf0 l.toArray 0 l.length (Lib.bitLen l.length) true true (Nat.zero_le _) (by simp) (Or.inl rfl)).1.1
 unfold il;rw[Array.length_toList,h];simp
def qos(x:Pq):(eu x).length=4:=rfl
def zai(l:List Pq):(l.flatMap eu).length=l.length*4:=by
 induction l with|nil=>rfl|cons x l ih=>rw[List.flatMap_cons,qM,qos,ih,qL];omega
def zpm{w:World}{g:Nat}{vs:Array Value}{fz:Nat×Nat}{E:TypeId}{l:List Pq}(h2:w.heap[g]? = some (.cells vs E fz))(h3:fz=(0,0)\/vs.size<=fz.1)(h4:l.length*4<=vs.size)(h7:vs.toList.take (l.length*4)=l.flatMap eu):HoldsK eu 4 w g 0 l.toArray:=by
 unfold HoldsK;rw[za1 eu 4 qos];intro j hj;have hl:=zai l;have hj':j<(l.flatMap eu).length:=by simpa using hj
 have hjv:j<vs.size:=by omega
 refine⟨?_,?_⟩
 ·have hc:(vs.toList.take (l.length*4))[j]? = some ((l.flatMap eu)[j]):=by
   rw[h7,List.getElem?_eq_getElem hj']
  rw[List.getElem?_take,qX (by omega)]at hc
  simp only[World.cell?,h2,wO];have hg:(l.flatMap eu).toArray[j]! = (l.flatMap eu)[j]:=by rw[getElem!_pos _ j hj];rfl
  rw[hg];simpa using hc
 ·simp only[World.frozen?,h2];rcases h3 with rfl|h3
  ·simp
  ·simp;omega
set_option maxHeartbeats 1000000 in
def zvy(q:List Pq)(ac:q.length<=a7):dd Tryz.prog 221 [.own 0,.fn (.func 222) [] []] [(0,.row τQ (q.map (·.1)) 209)] (.tup []) [(0,.row τQ ((il q).map (·.1)) 209)]:=by
 unfold a7 at ac
 refine dd.inPlaceA (by show((il q).map (·.1)).length=(q.map (·.1)).length;rw[wC,wC,q2h]) (fun w G ad c us fvs hrow hreps hfv => ?_)
 have hus:=zen hreps;have hfv:fvs=[.func (.func 222) #[] #[]]:=by
  match fvs,hfv with
  |[v],⟨h,_⟩=>
   obtain⟨us1,us2,k1,k2,k3⟩:=h;have e1:us1=#[]:=Array.eq_empty_of_size_eq_zero k2.length.symm;have e2:us2=#[]:=Array.eq_empty_of_size_eq_zero k3.length.symm;subst e1;subst e2;rw[k1]
 subst hfv;have hml:(q.map (fun x=>x.1)).length=q.length:=wC ..
 obtain⟨hul,hrow⟩:=hrow
 have hnone:q=[]->Calls Tryz.prog 221 (Value.slice ad (q.map (fun x=>x.1)).length c::[.func (.func 222) #[] #[]]).toArray w fun e w'=>e = .returned (.tuple #[])/\∃us',fe w' 209 τQ.sz ad (q.map (fun x=>x.1)).length c us'/\al (List.flatMap (β:=AV) τQ.enc ((il q).map (·.1))) G.data us'/\ei (fun b=>cv ad=some b) w w':=fun hq=>by
  subst hq;refine(AnyF.slices_SortFunc_none Tryz.sortP ad c (.func (.func 222) #[] #[]) w).mono ?_;rintro e w' ⟨rfl,rfl⟩
  refine⟨rfl,us,⟨hul,hrow⟩,?_,⟨rfl,rfl,rfl,wF _,fun _ _ _=>rfl⟩⟩
  rw[hus];have e:il []=[]:=List.eq_nil_of_length_eq_zero (q2h []);rw[e];exact trivial
 by_cases hq:q=[]
 ·exact hnone hq
 rcases hrow with⟨rfl,h2,rfl⟩|⟨g,vs,fz,rfl,h2,h3,h4,h5,h6,h7,h8⟩
 ·exact absurd (List.eq_nil_of_length_eq_zero (by rw[← hml];exact h2)) hq
 ·have hlt:g<w.heap.size:=(Array.getElem?_eq_some_iff.1 h2).1;have hs4:τQ.sz=4:=rfl;rw[hs4]at h6 h7 hul;have h4':q.length<=c:=by rw[← hml];exact h4
  have hH:=zpm (l:=q) h2 h3 (by omega) (by rw[← hus];have h7':=h7;rw[show(List.length (α:=τQ.den) (q.map fun x=>x.1))=q.length from hml]at h7';exact h7')
  have hcmp:CmpLays Tryz.prog 222 #[] eu 4 jc g 0 q.toArray.size w:=fun m os dk _ x y=>zne x y _
  have key:=AnyQ.slices_SortFunc_eq (P:=Tryz.prog) Tryz.sortP 4 Tryz.isAgg209 Tryz.sizeOf209 eu qos (by intro x v hv;simp only[eu,wE,List.not_mem_nil,or_false]at hv;rcases hv with rfl|rfl|rfl|rfl<;>rfl) jc zf0 222 #[] g 0 c q.toArray w Tryz.call222 hcmp hH hlt (by simp;omega)
  have hargs:#[Value.slice (some ⟨g,0,none⟩) (List.length (α:=τQ.den) (List.map (β:=τQ.den) (fun x:Pq=>x.1) q)) c,Value.func (.func 222) #[] #[]]=#[.slice (some ⟨g,0,none⟩) q.toArray.size c,.func (.func 222) #[] #[]]:=by
   rw[show List.length (α:=τQ.den) (List.map (β:=τQ.den) (fun x:Pq=>x.1) q)=q.toArray.size from hml.trans (by simp)]
  refine Eq.mpr (congrArg (fun a=>Calls _ _ a _ _) hargs) (key.mono ?_)
  rintro e w' ⟨rfl,n,os,rfl⟩
  have hsl:=q2h q;have hw:sortWorldK eu 4 w g 0 n (pdq (ltOf jc) q.toArray 0 q.toArray.size (Lib.bitLen q.toArray.size) true true) os=grow (putRow id (Sort.ahead w n) g 0 ((il q).flatMap eu).toArray) os:=by
   unfold sortWorldK putRowK;rw[show pdq (ltOf jc) q.toArray 0 q.toArray.size (Lib.bitLen q.toArray.size) true true=(il q).toArray from by unfold il;simp,za1 eu 4 qos]
  rw[hw];have hzl:((il q).flatMap eu).length=q.length*4:=by rw[zai,hsl]
  refine⟨rfl,(il q).flatMap eu,⟨?_,.inr ⟨g,putCells id 0 ((il q).flatMap eu).toArray vs,fz,rfl,ztg w n g _ os h2,?_,h4,h5,?_,?_,?_⟩⟩,zeo _,⟨rfl,rfl,rfl,zth w n g _ os,fun k hk hne=>ztf w n g _ os k hk (fun e=>hne (by subst e;rfl))⟩⟩
  ·rw[hzl];show q.length*4=(q.map (fun x=>x.1)).length*4;rw[hml]
  ·have:(putCells id 0 ((il q).flatMap eu).toArray vs).size=vs.size:=by unfold putCells;rw[Array.size_mapIdx]
   rw[this];exact h3
  ·unfold putCells;rw[Array.size_mapIdx];exact h6
  ·rw[show List.length (α:=τQ.den) (q.map (fun x=>x.1))*τQ.sz=((il q).flatMap eu).length from by rw[hzl];show(q.map (fun x=>x.1)).length*4=_;rw[hml]]
   exact zti _ vs (by rw[hzl];omega)
  ·intro v hv;rcases zte _ _ _ hv with h|h
   ·exact h8 v h
   ·obtain⟨x,_,hx⟩:=List.mem_flatMap.1 h;simp only[eu,wE,List.not_mem_nil,or_false]at hx;rcases hx with rfl|rfl|rfl|rfl<;>rfl
def zfq:IF:=⟨.fn 221,[.own 0,.fn 222 []],[(0,.row τQ 209)],_,RS.mk (.tup []) [(0,.row τQ 209)]⟩
def zvz:(zfq.e ye).Sound Tryz.prog:=fun d d' r h=>by
 obtain⟨l,_⟩:=d';have h:ye l=some r:=h;unfold ye at h;cases hd:decide (List.length (α:=Pc) l<=a7)<;>rw[hd]at h<;>simp only[qT,qF,reduceCtorEq]at h
 cases hq:pw l with
 |none=>rw[hq]at h;cases h
 |some q=>
  rw[hq]at h;have h:=qJ h;subst h;have hl:=zga l q hq;subst hl;refine⟨Tryz.call221,zvy q ?_⟩;have:=of_decide_eq_true hd
  rwa [wC]at this
end Go.Sym
set_option linter.unusedVariables false
namespace Go.Proofs.ToValid
open Go.Shelf Go.RowKit Go.Lib Go.Sym
def bx:Builder.Extra Tryz.prog Tryz.uniR:={
 sizeBuilder:=by kernel_rfl
 liesBuilder:=by kernel_rfl
 t5:=Tryz.laysM171.t5
 a5:=Tryz.laysM171.a5
 z5:=Tryz.laysM171.z5
 v5:=Tryz.laysM171.v5
 infoByte:=by kernel_rfl
 cellsByte:=by kernel_rfl
 sizeByte:=by kernel_rfl
 neB5:=by decide }
def zqq:Lays.n166 Tryz.prog Tryz.uniR:={ Tryz.lays165,Tryz.lays169,Tryz.laysC172 with f166:=Tryz.func244.trans (congrArg some (by kernel_rfl)) }
def zqr:Lays.n167 Tryz.prog Tryz.uniR:={ Tryz.lays165,Tryz.lays169,Tryz.laysC172 with f167:=Tryz.func246.trans (congrArg some (by kernel_rfl)) }
def q9r(b:Nat)(p:Option Addr)(n cap:Nat)(w:World)(c1:w.cell? ⟨b,1,none⟩=some (.slice p n cap)) :
  Calls Tryz.prog 245 #[.pointer (some ⟨b,0,none⟩)] w fun e w'=>e = .returned (.int .i64 cap)/\w'=w:=by
 go_enter Tryz.func245,Tryz.ntmps245
 go_wp2
 go_ret
 exact⟨rfl,rfl⟩
def zpa(b n:Nat)(w:World)(hbk:w.heap[b]? = some (.cells #[.pointer none,.slice none 0 0] 291 (0,0)))(hBw:b<=w.heap.size)(hn:n<=281474976710656) :
  Calls Tryz.prog 243 #[.pointer (some ⟨b,0,none⟩),.int .i64 n] w fun e w'=>e = .returned (.tuple #[])/\(Lib.BuilderAt 291 5 b b (.pointer (some ⟨b,0,none⟩)) [] w'/\Below b w w')/\∃p cap,w'.cell? ⟨b,1,none⟩=some (.slice p 0 cap)/\n<=cap:=
 Any.Builder_Grow_fresh_cap Tryz.lays165 bx b b n w (wF _) hbk hBw hn
def q27(b:Nat)(bs:List Value)(s:ByteArray)(w:World)(h:Lib.IsBuilderF 291 5 b b bs w)(ac:bs.length+s.size<=140737488355328)(hBw:b<=w.heap.size) :
  Calls Tryz.prog 244 #[.pointer (some ⟨b,0,none⟩),.string s] w fun e w'=>e = .returned (.tuple #[.int .i64 s.size,.nilIface])/\(Lib.BuilderAtF 291 5 b b (.pointer (some ⟨b,0,none⟩)) (bs++Lib.strCells s) w'/\Below b w w'/\Lib.OthersKept 5 (some b) w w')/\∀v0,w.cell? ⟨b,1,none⟩=some v0->∃v1,w'.cell? ⟨b,1,none⟩=some v1/\v0.capOf<=v1.capOf:=
 Any.Builder_WriteString_kc zqq bx b b bs s w h ac hBw
def zxt(b:Nat)(bs:List Value)(c:Int)(w:World)(h:Lib.IsBuilderF 291 5 b b bs w)(ac:bs.length+1<=140737488355328)(hBw:b<=w.heap.size) :
  Calls Tryz.prog 246 #[.pointer (some ⟨b,0,none⟩),.int .u8 c] w fun e w'=>e = .returned .nilIface/\(Lib.BuilderAtF 291 5 b b (.pointer (some ⟨b,0,none⟩)) (bs++[.int .u8 c]) w'/\Below b w w'/\Lib.OthersKept 5 (some b) w w'):=
 Any.Builder_WriteByte_k zqr bx b b bs c w h ac hBw
def zv8(b:Nat)(l:List UInt8)(w:World)(h:Lib.IsBuilderF 291 5 b b (Lib.byteCells l) w)(hBw:b<=w.heap.size) :
  Calls Tryz.prog 247 #[.pointer (some ⟨b,0,none⟩)] w fun e w'=>e = .returned (.string ⟨l.toArray⟩)/\(Lib.IsBuilderF 291 5 b b (Lib.byteCells l) w'/\Below b w w'):=
 Any.Builder_String_any_f Tryz.lays169 bx b b l w h hBw
def zaa(s:ByteArray)(w:World)(hT:Lib.Utf8Tabs 1 2 w) :
  Calls Tryz.prog 180 #[.string s] w fun e w'=>e = .returned (.tuple #[.int .i32 (Lib.decodeGo s).1,.int .i64 (Lib.decodeGo s).2])/\Below w.heap.size w w':=
 Any.utf8_DecodeRuneInString Tryz.lays197 s w hT
def zac(s:ByteArray)(pos:Nat)(h:pos<s.size):decodeGo (s.extract pos s.size)=Utf8.decode s pos:=by
 have hx:(s.extract pos s.size).data.toList=s.data.toList.drop pos:=by
  rw[extract_data,List.take_of_length_le (by rw[List.length_drop,← size_eq];omega)]
 have hsz:(s.extract pos s.size).size≠0:=by rw[size_eq,hx,List.length_drop,← size_eq];omega
 unfold decodeGo;rw[qW hsz,← decodeL_drop s pos,← hx];rfl
def zgy(n:Int)(h0:0<=n:=by omega)(h1:n<=4000000:=by omega):wrap64 n=n:=by unfold wrap64;omega
def zxy(p n:Nat)(h:p+n<=4000000):wrap64 ((p:Int)+(n:Int))=(p:Int)+(n:Int):=zgy _
def zxz(p:Nat)(h:p+1<=4000000):wrap64 ((p:Int)+1)=(p:Int)+1:=zgy _
def vI(p k:Nat):Value.int .i64 ((p:Int)+(k:Int)) = .int .i64 ((p+k:Nat):Int):=by rw[Int.natCast_add]
def pz(p:Nat):Value.int .i64 ((p:Int)+1) = .int .i64 ((p+1:Nat):Int):=by rw[Int.natCast_add];rfl
def q2z(rep:Bs)(n:Nat)(inv:Bool)(l:Bs)(hne:l≠[])(h:(Lib.decodeL l).1=65533/\(Lib.decodeL l).2=1):vu rep (n+1) inv l=(if inv then[] else rep)++vu rep n true (l.drop 1):=by
 cases l with|nil=>exact absurd rfl hne|cons c l=>rw[vu,qX h];rfl
def qq6(rep:Bs)(n:Nat)(inv:Bool)(l:Bs)(hne:l≠[])(h:¬((Lib.decodeL l).1=65533/\(Lib.decodeL l).2=1)):vu rep (n+1) inv l=l.take (Lib.decodeL l).2++vu rep n false (l.drop (Lib.decodeL l).2):=by
 cases l with|nil=>exact absurd rfl hne|cons c l=>rw[vu,qW h]
def ws(rep:Bs)(n:Nat)(inv:Bool):vu rep n inv []=[]:=by cases n<;>rfl
def qd3(rep:Bs):∀(n m:Nat)(inv:Bool)(l:Bs),l.length<=n->l.length<=m->vu rep n inv l=vu rep m inv l
 |0,m,inv,l,h1,_=>by
  have:l=[]:=by cases l with|nil=>rfl|cons c l=>simp at h1
  subst this;rw[ws,ws]
 |n+1,0,inv,l,_,h2=>by
  have:l=[]:=by cases l with|nil=>rfl|cons c l=>simp at h2
  subst this;rw[ws,ws]
 |n+1,m+1,inv,l,h1,h2=>by
  cases l with
  |nil=>rw[ws,ws]|cons c l=>
   have hw:=Lib.decodeL_width (c::l);simp only[qL]at h1 h2;by_cases h:(Lib.decodeL (c::l)).1=65533/\(Lib.decodeL (c::l)).2=1
   ·rw[q2z rep n inv _ (by simp) h,q2z rep m inv _ (by simp) h,qd3 rep n m true _ (by simp;omega) (by simp;omega)]
   ·rw[qq6 rep n inv _ (by simp) h,qq6 rep m inv _ (by simp) h,qd3 rep n m false _ (by simp only[List.length_drop,qL];omega) (by simp only[List.length_drop,qL];omega)]
def znu(s:ByteArray)(pos:Nat)(h:pos<s.size)(hc:(s.get! pos).toNat<128):Utf8.decode s pos=((s.get! pos).toNat,1):=by
 unfold Utf8.decode;simp only[Nat.add_zero,hc,if_true]
def znt(s:ByteArray)(pos:Nat)(h:pos<s.size)(hc:¬(s.get! pos).toNat<128)(h1:(Utf8.decode s pos).2=1):(Utf8.decode s pos).1=65533:=by
 revert h1;unfold Utf8.decode;simp only[Nat.add_zero,hc,if_false]
 repeat' split
 all_goals first|(intro _;rfl)|(intro h1;exact absurd h1 (by simp))
def qy2{T e:TypeId}{B b:Nat}{bs:List Value}{W W':World}(h:Lib.IsBuilderF T e B b bs W)(hb:Below W.heap.size W W'):Lib.IsBuilderF T e B b bs W':=by
 have k:∀p,Lib.BuilderAtF T e B b p bs W->Lib.BuilderAtF T e B b p bs W':=fun p h=>by
  have hlt:=h.lt;obtain⟨hB,v,hv,hown,hne⟩:=h;exact⟨hB,v,(hb.block b hlt).trans hv,hown.kept (row:=none) ⟨hb.os,hb.tape,hb.output,hb.size,fun k hk _=>hb.block k hk⟩ (Classical.em _),hne⟩
 exact h.elim (fun x => .inl (k _ x)) (fun x => .inr (k _ x))
set_option maxHeartbeats 4000000 in
set_option maxRecDepth 1000000 in
def tovalid(s rep:ByteArray)(w:World)(hs:s.size<=1000000)(hr:rep.size<=1000)(hT:Lib.Utf8Tabs 1 2 w) :
  Calls Tryz.prog 224 #[.string s,.string rep] w fun e w'=>e = .returned (.string ⟨(vu rep.data.toList s.size false s.data.toList).toArray⟩)/\Below w.heap.size w w':=by
 obtain⟨ANS,hANS⟩:∃ANS,vu rep.data.toList s.size false s.data.toList=ANS:=⟨_,rfl⟩;rw[hANS];have ac:s.data.toList.length=s.size:=(Lib.size_eq s).symm
 go_enter Tryz.func224,Tryz.ntmps224
 go_wp2
 go_loopg [0] s.size (fun gk s0 wx=>s0 = .string s/\∃pos:Nat,wx.heap[w.heap.size]? = some (.cells #[.pointer none,.slice none 0 0] 291 (0,0))/\wx.heap[w.heap.size+1]? = some (.stringIter s pos)/\Below w.heap.size w wx /\
  s.data.toList.take pos++vu rep.data.toList (s.size-pos) false (s.data.toList.drop pos)=ANS/\s.size<=pos+gk/\pos<=s.size)
 case atStart=>
  refine⟨rfl,0,?_,?_,((Below.refl _ w).alloc (wF _) _).alloc (by simp) _,by simpa using hANS,by omega,by omega⟩
  ·have h1:=heap_alloc_new w (.cells #[.pointer none,.slice none 0 0] 291);exact(Below.heap_alloc _ _ _ (by simp)).trans h1
  ·have:=World.iter_heap (w.alloc (.cells #[.pointer none,.slice none 0 0] 291)) s 0;simpa using this
 case round=>
  obtain⟨rfl,pos,hfr,hit,hbw,hsp,hfu,hps⟩:=hrel;by_cases hlt:pos<s.size
  ·obtain⟨g',rfl⟩:∃g',gk=g'+1:=⟨gk-1,by omega⟩
   have hnx:∀ty,(Instr.next (.pointer (some ⟨w.heap.size+1,0,none⟩)) true ty).run Tryz.prog wr=_:=fun ty=>Lib.run_next_any_at wr (w.heap.size+1) s pos ty hit hlt
   have hne:s.data.toList.drop pos≠[]:=by
    intro h0;have:=congrArg List.length h0;rw[List.length_drop,ac]at this;simp at this;omega
   have hwd:=Lib.width_pos s pos;have hwn:pos+(Utf8.decode s pos).2<=s.size:=by
    have:=Lib.decodeL_le _ hne;rw[Lib.decodeL_drop,List.length_drop,ac]at this;omega
   have hgood:=qq6 rep.data.toList (s.size-pos-1) false _ hne;have hdg:=zac s pos hlt;rw[Lib.decodeL_drop]at hgood;obtain⟨R,hR⟩:∃R,(Utf8.decode s pos).1=R:=⟨_,rfl⟩;obtain⟨K,hK⟩:∃K,(Utf8.decode s pos).2=K:=⟨_,rfl⟩;rw[hR,hK]at hnx hgood;rw[hK]at hwd hwn;rw[List.drop_drop,show s.size-pos-1+1=s.size-pos by omega]at hgood
   have hit2:=Lib.iterAt_heap wr (w.heap.size+1) s pos (pos+K) hit;have hbw2:=Lib.below_iterAt hbw (k:=w.heap.size+1) (by omega) s (pos+K)
   have hfr2:(wr.iterAt (w.heap.size+1) s (pos+K)).heap[w.heap.size]? = _:=(Lib.iterAt_other wr (w.heap.size+1) w.heap.size s (pos+K) (by omega)).trans hfr
   obtain⟨W,hWd⟩:∃W,wr.iterAt (w.heap.size+1) s (pos+K)=W:=⟨_,rfl⟩;rw[hWd]at hnx hit2 hbw2 hfr2;clear hit hbw hfr hWd;have HS:Aside (¬(R=65533/\K=1)->s.data.toList.take (pos+K)++vu rep.data.toList (s.size-(pos+K)) false (s.data.toList.drop (pos+K))=ANS):=by
    intro h;rw[← hsp,hgood h,← qS,← List.take_add];congr 1;exact qd3 _ _ _ _ _ (by rw[List.length_drop,ac];omega) (by rw[List.length_drop,ac];omega)
   have HP:Aside (s.data.toList.take pos++vu rep.data.toList (s.size-pos) false (s.data.toList.drop pos)=ANS):=hsp;clear hgood hsp;have hszW:w.heap.size+1<W.heap.size:=(Array.getElem?_eq_some_iff.1 hit2).1;by_cases h5:R=65533
   ·have h5z:(R:Int)=65533:=by omega
    have cD:=zaa (s.extract pos s.size) W (Utf8Tabs_below hT hbw2);rw[hdg,hR,hK]at cD;by_cases hk:K=1
    ·
     have hkz:(K:Int)=1:=by omega
     have hkb:((K:Int)==1)=true:=by simp[hkz]
     go_wp2_with (go_at_call 180;go_must (refine cD.mono ?_;rintro e W3 ⟨rfl,b3⟩))
     have hfr3:=(b3.block _ (show w.heap.size<W.heap.size by omega)).trans hfr2
     have hbw3:=hbw2.trans (b3.mono (show w.heap.size<=W.heap.size by omega))
     have hs0:=HP.out;clear cD hnx hit2 hfr2 hbw2 hdg HS hszW HP;have cG:=zpa w.heap.size (s.size+rep.size) W3 hfr3 hbw3.size (by omega)
     go_fit cG
     rintro e W4 ⟨rfl,⟨h4,b4⟩,p4,cap4,hc4,hcap4⟩
     have hxs:(s.extract 0 pos).size=pos:=by rw[Lib.size_eq,Lib.extract_data,List.length_take,List.length_drop,ac];omega
     have hxd:(s.extract 0 pos).data.toList=s.data.toList.take pos:=by rw[Lib.extract_data];simp
     have cW:=q27 w.heap.size [] (s.extract 0 pos) W4 (Lib.IsBuilderF.of (Or.inr h4)) (by rw[hxs];simp;omega) (Nat.le_trans hbw3.size b4.size)
     go_wp2_with (go_at_call 244;go_must (refine cW.mono ?_;rintro e W5 ⟨rfl,⟨h5w,b5,-⟩,hcp⟩))
     have hb5:Below w.heap.size w W5:=(hbw3.trans b4).trans b5;have hcells:[]++Lib.strCells (s.extract 0 pos)=Lib.byteCells (s.data.toList.take pos):=by
      rw[List.nil_append,Lib.strCells_eq,hxd]
     rw[hcells]at h5w;obtain⟨p5,n5,cap5,hc5,hcap5⟩:∃p5 n5 cap5,W5.cell? ⟨w.heap.size,1,none⟩=some (.slice p5 n5 cap5)/\1<=cap5:=by
      obtain⟨v1,hv1,hle⟩:=hcp _ hc4;obtain⟨_,v6,hv6,hown6,_⟩:=h5w;have hv:W5.cell? ⟨w.heap.size,1,none⟩=some v6:=by rw[Lib.cell_of_heap hv6];rfl
      rw[hv1]at hv;have:=qJ hv;subst this;have hle:cap4<=v1.capOf:=hle;rcases hown6.2 with⟨rfl,h0⟩|⟨g6,cap6,_,_,rfl,_⟩
      ·have:cap4<=0:=hle;omega
      ·have:cap4<=cap6:=hle;exact⟨_,_,cap6,hv1,by omega⟩
     clear hcp hc4;have hcapz:¬((cap5:Int)=0):=by omega
     have hcapb:((cap5:Int)==0)=false:=by simp;omega
     have cC:=q9r w.heap.size p5 n5 cap5 W5 hc5;obtain⟨s2,hs2⟩:∃s2,s.extract pos s.size=s2:=⟨_,rfl⟩;have hl2:s2.data.toList=s.data.toList.drop pos:=by
      rw[← hs2,Lib.extract_data,List.take_of_length_le (by rw[List.length_drop,ac];omega)]
     have hz2:s2.size=s.size-pos:=by rw[Lib.size_eq,hl2,List.length_drop,ac]
     go_wp2_with (go_at_call 245;go_must (refine cC.mono ?_;rintro e W6 ⟨rfl,rfl⟩))
     have hrl:rep.data.toList.length=rep.size:=(Lib.size_eq rep).symm
     go_loopg [10,11] s2.size (fun gk s10 s11 wx=>∃(p2:Nat)(acc:List UInt8)(inv:Bool),s10 = .bool inv/\s11 = .int .i64 p2/\Lib.IsBuilderF 291 5 w.heap.size w.heap.size (Lib.byteCells acc) wx/\Below w.heap.size w wx /\
      acc++vu rep.data.toList (s2.size-p2) inv (s2.data.toList.drop p2)=ANS/\s2.size<=p2+gk/\p2<=s2.size/\acc.length<=pos+1001*p2)
     case atStart=>
      refine⟨0,s.data.toList.take pos,false,rfl,rfl,Or.inr h5w,hb5,?_,by omega,by omega,?_⟩
      ·rw[List.drop_zero,hl2,hz2];exact hs0
      ·rw[List.length_take,ac];omega
     case round=>
      obtain⟨p2,acc,inv,rfl,rfl,hI,hbw,hacc,hfu2,hp2,hal⟩:=hrel;have hbs:w.heap.size<=wr.heap.size:=hbw.size;by_cases hlt2:p2<s2.size
      ·obtain⟨g2,rfl⟩:∃g2,gk=g2+1:=⟨gk-1,by omega⟩
       have hne2:s2.data.toList.drop p2≠[]:=by
        intro h0;have:=congrArg List.length h0;rw[List.length_drop,← Lib.size_eq,qZ]at this;omega
       have hwd2:=Lib.width_pos s2 p2;have hwn2:p2+(Utf8.decode s2 p2).2<=s2.size:=by
        have:=Lib.decodeL_le _ hne2;rw[Lib.decodeL_drop,List.length_drop,← Lib.size_eq]at this;omega
       have hgood:=qq6 rep.data.toList (s2.size-p2-1) inv _ hne2;have hbad:=q2z rep.data.toList (s2.size-p2-1) inv _ hne2;have hdg:=zac s2 p2 hlt2;have hlow:=znu s2 p2 hlt2;have hhigh:=znt s2 p2 hlt2;rw[Lib.decodeL_drop,List.drop_drop,show s2.size-p2-1+1=s2.size-p2 by omega]at hgood hbad
       have hl3:s2.data.toList.length=s2.size:=(Lib.size_eq s2).symm;obtain⟨c,hc⟩:∃c,s2[p2]'hlt2=c:=⟨_,rfl⟩;have hd2:p2<s2.data.size:=hlt2;have hcd:s2.data[p2]'hd2=c:=hc;have hcg:s2.get! p2=c:=by
        show s2.data[p2]! = c;rw[getElem!_pos s2.data p2 hd2];exact hcd
       rw[hcg]at hlow hhigh;obtain⟨R2,hR2⟩:∃R2,(Utf8.decode s2 p2).1=R2:=⟨_,rfl⟩;obtain⟨K2,hK2⟩:∃K2,(Utf8.decode s2 p2).2=K2:=⟨_,rfl⟩;rw[hK2]at hwd2 hwn2;have HG:Aside (¬(R2=65533/\K2=1)->(acc++(s2.data.toList.drop p2).take K2)++vu rep.data.toList (s2.size-(p2+K2)) false (s2.data.toList.drop (p2+K2))=ANS):=by
        intro h;rw[← hacc,hgood (by rw[hR2,hK2];exact h),hK2,qS]
        congr 2;exact qd3 _ _ _ _ _ (by rw[List.length_drop,hl3];omega) (by rw[List.length_drop,hl3];omega)
       have HB:Aside (R2=65533/\K2=1->(acc++(if inv then[] else rep.data.toList))++vu rep.data.toList (s2.size-(p2+1)) true (s2.data.toList.drop (p2+1))=ANS):=by
        intro h;rw[← hacc,hbad (by rw[hR2,hK2];exact h),qS]
        congr 2
       have hxl:(s2.extract p2 (p2+K2)).data.toList=(s2.data.toList.drop p2).take K2:=by
        rw[Lib.extract_data,Nat.add_sub_cancel_left]
       have hxz:(s2.extract p2 (p2+K2)).size=K2:=by rw[Lib.size_eq,hxl,List.length_take,List.length_drop,hl3];omega
       have hcl:acc.length<=1001000000:=by omega
       have hbl:(Lib.byteCells acc).length=acc.length:=Lib.byteCells_length acc;clear hgood hbad hacc hs0;have H1:Aside (s2.data.toList.length=s2.size/\(s2.extract p2 (p2+K2)).data.toList=(s2.data.toList.drop p2).take K2/\(Lib.byteCells acc).length=acc.length/\rep.data.toList.length=rep.size):=⟨hl3,hxl,hbl,hrl⟩;have H2:Aside (c.toNat<128->R2=c.toNat/\K2=1):=fun h=>by
        have hd:=hlow h;rw[hd]at hR2 hK2;exact⟨hR2.symm,hK2.symm⟩
       have H3:Aside (¬c.toNat<128->K2=1->R2=65533):=fun h hk=>by
        have:=hhigh h (by rw[hK2];exact hk)
        rw[← hR2];exact this
       have H4:Aside ((List.drop p2 s2.data.toList).take 1=[c]):=by
        show _=_;have hlt':p2<s2.data.toList.length:=by rw[hl3];exact hlt2
        rw[List.drop_eq_getElem_cons hlt',List.take_succ_cons,List.take_zero,Array.getElem_toList,hcd]
       have cD:=zaa (s2.extract p2 s2.size) wr (Utf8Tabs_below hT hbw);rw[hdg,hR2,hK2]at cD;have hsz2:s2.size<=s.size:=by rw[hz2];exact Nat.sub_le _ _
       have HW1:Aside (wrap64 ((p2:Int)+1)=(p2:Int)+1):=zxz _ (Nat.le_trans hlt2 (Nat.le_trans hsz2 (Nat.le_trans hs (by decide))))
       have HWK:Aside (wrap64 ((p2:Int)+(K2:Int))=(p2:Int)+(K2:Int)):=zxy _ _ (Nat.le_trans hwn2 (Nat.le_trans hsz2 (Nat.le_trans hs (by decide))))
       have HM:Aside (s2.size<=p2+1+g2/\s2.size<=p2+K2+g2/\acc.length+1<=pos+1001*(p2+1)/\acc.length+rep.size<=pos+1001*(p2+1)/\acc.length+K2<=pos+1001*(p2+K2)/\acc.length<=pos+1001*(p2+1)/\acc.length+1<=140737488355328/\acc.length+rep.size<=140737488355328/\acc.length+K2<=140737488355328):=by
        refine⟨?_,?_,?_,?_,?_,?_,?_,?_,?_⟩<;>omega
       clear hal hcl hfu2;clear hcd hcg hlow hhigh hdg hR2 hK2 hl3 hxl hbl hrl hs2 hl2 ac hne2 hz2 hxs hxd hcells hne hR hK;by_cases h128:c.toNat<128
       ·
        obtain⟨_,hk1⟩:=H2.out h128;subst hk1;have H5:Aside (acc++[c]++vu rep.data.toList (s2.size-(p2+1)) false (List.drop (p2+1) s2.data.toList)=ANS):=by
         have:=HG.out (by omega)
         rw[H4.out]at this;exact this
        have cB:=zxt w.heap.size (Lib.byteCells acc) c.toNat wr hI (by rw[H1.out.2.2.1];exact HM.out.2.2.2.2.2.2.1) hbs
        clear HG HB H2 H3 H4 cD;have h128z:(c.toNat:Int)<128:=by omega
        go_wp2_with (go_at_call 246;go_must (refine cB.mono ?_;rintro e W7 ⟨rfl,h7,b7,k7⟩))
        go_roundg g2
        case measure=>exact Nat.lt_succ_self _
        case rel=>
         refine⟨p2+1,acc++[c],false,rfl,by first|exact pz p2|exact(congrArg (Value.int .i64) HW1.out).trans (pz p2),Or.inr ?_,hbw.trans b7,H5.out,HM.out.1,hlt2,by rw[qM];exact HM.out.2.2.1⟩
         rw[Lib.byteCells_append];exact h7
       ·have h128z:¬((c.toNat:Int)<128):=by omega
        by_cases hk:K2=1
        ·have hr2:=H3.out h128 hk;have H5:Aside ((acc++(if inv then[] else rep.data.toList))++vu rep.data.toList (s2.size-(p2+1)) true (List.drop (p2+1) s2.data.toList)=ANS):=HB.out ⟨hr2,hk⟩
         have hkz:(K2:Int)=1:=by omega
         have hkb:((K2:Int)==1)=true:=by simp[hkz]
         clear HG HB H2 H3 H4
         cases inv with
         |true=>
          go_wp2_with (go_at_call 180;go_must (refine cD.mono ?_;rintro e W7 ⟨rfl,b7⟩))
          go_roundg g2
          case measure=>exact Nat.lt_succ_self _
          case rel=>
           refine⟨p2+1,acc,true,rfl,by first|exact pz p2|exact(congrArg (Value.int .i64) HW1.out).trans (pz p2),qy2 hI b7,hbw.trans (b7.mono hbs),?_,HM.out.1,hlt2,HM.out.2.2.2.2.2.1⟩
           have h:(acc++[])++vu rep.data.toList (s2.size-(p2+1)) true (List.drop (p2+1) s2.data.toList)=ANS:=H5.out;rw[List.append_nil]at h;exact h
         |false=>
          go_wp2_with (go_at_call 180;go_must (refine cD.mono ?_;rintro e W7 ⟨rfl,b7⟩))
          have cW:=q27 w.heap.size (Lib.byteCells acc) rep W7 (qy2 hI b7) (by rw[H1.out.2.2.1];exact HM.out.2.2.2.2.2.2.2.1) (Nat.le_trans hbs b7.size)
          go_wp2_with (go_at_call 244;go_must (refine cW.mono ?_;rintro e W8 ⟨rfl,⟨h8,b8,-⟩,-⟩))
          go_roundg g2
          case measure=>exact Nat.lt_succ_self _
          case rel=>
           refine⟨p2+1,acc++rep.data.toList,true,rfl,by first|exact pz p2|exact(congrArg (Value.int .i64) HW1.out).trans (pz p2),Or.inr ?_,(hbw.trans (b7.mono hbs)).trans b8,?_,HM.out.1,hlt2,by rw[qM,H1.out.2.2.2];exact HM.out.2.2.2.1⟩
           ·rw[Lib.byteCells_append,← Lib.strCells_eq];exact h8
           ·have h:(acc++rep.data.toList)++vu rep.data.toList (s2.size-(p2+1)) true (List.drop (p2+1) s2.data.toList)=ANS:=H5.out;exact h
        ·have hkz:¬((K2:Int)=1):=by omega
         have hkb:((K2:Int)==1)=false:=by simp;omega
         have H5:=HG.out (fun h=>hk h.2)
         go_wp2_with (go_at_call 180;go_must (refine cD.mono ?_;rintro e W7 ⟨rfl,b7⟩))
         have cW:=q27 w.heap.size (Lib.byteCells acc) (s2.extract p2 (p2+K2)) W7 (qy2 hI b7) (by rw[H1.out.2.2.1,hxz];exact HM.out.2.2.2.2.2.2.2.2) (Nat.le_trans hbs b7.size)
         go_wp2_with (go_at_call 244;go_must (refine cW.mono ?_;rintro e W8 ⟨rfl,⟨h8,b8,-⟩,-⟩))
         go_roundg g2
         case measure=>exact Nat.lt_succ_self _
         case rel=>
          refine⟨p2+K2,acc++(s2.data.toList.drop p2).take K2,false,rfl,by first|exact vI p2 K2|exact(congrArg (Value.int .i64) HWK.out).trans (vI p2 K2),Or.inr ?_,(hbw.trans (b7.mono hbs)).trans b8,H5,HM.out.2.1,hwn2,?_⟩
          ·rw[Lib.byteCells_append,← H1.out.2.1,← Lib.strCells_eq];exact h8
          ·rw[qM,← H1.out.2.1,← Lib.size_eq,hxz];exact HM.out.2.2.2.2.1
      ·
       obtain rfl:p2=s2.size:=by omega
       have cS:=zv8 w.heap.size acc wr hI hbs
       go_wp2_with (go_at_call 247;go_must (refine cS.mono ?_;rintro e W8 ⟨rfl,_,b8⟩))
       go_ret
       refine⟨?_,hbw.trans b8⟩;rw[Lib.size_eq,List.drop_length,ws,List.append_nil]at hacc;subst hacc;rfl
    ·have hkz:¬((K:Int)=1):=by omega
     have hkb:((K:Int)==1)=false:=by simp;omega
     have hs3:=HS.out (fun h=>hk h.2)
     go_wp2_with (go_at_call 180;go_must (refine cD.mono ?_;rintro e W3 ⟨rfl,b3⟩))
     go_roundg g'
     case measure=>omega
     case rel=>exact⟨rfl,pos+K,(b3.block _ (by show _<W.heap.size;omega)).trans hfr2,(b3.block _ (by show _<W.heap.size;omega)).trans hit2,hbw2.trans (b3.mono (by show _<=W.heap.size;omega)),hs3,by omega,hwn⟩
   ·have h5':¬((R:Int)=65533):=by omega
    have hs3:=HS.out (fun h=>h5 h.1)
    go_wp2
    go_roundg g'
    case measure=>omega
    case rel=>exact⟨rfl,pos+K,hfr2,hit2,hbw2,hs3,by omega,hwn⟩
  ·
   obtain rfl:pos=s.size:=by omega
   have hnx:∀ty,(Instr.next (.pointer (some ⟨w.heap.size+1,0,none⟩)) true ty).run Tryz.prog wr=_:=fun ty=>Lib.run_next_end_at wr (w.heap.size+1) s s.size ty hit hlt
   have cC:=q9r w.heap.size none 0 0 wr (by rw[Lib.cell_of_heap hfr];rfl)
   go_wp2_with (go_at_call 245;go_must (refine cC.mono ?_;rintro e W' ⟨rfl,rfl⟩))
   go_ret
   refine⟨?_,hbw⟩;rw[← hsp,← ac,List.drop_length,List.take_length,ws,List.append_nil];rfl
end Go.Proofs.ToValid
namespace Go.Sym
open Go.Proofs Go.RowKit
open Go.Proofs.Tryz
variable[LC]
def qcn(t:List UInt8):Bool:=(List.range 256).all fun c=>match t[c]? with|some x=>Nat.beq x.toNat (Lib.firstT c)|none=>false
def qco(t:List (UInt8×UInt8)):Bool:=(List.range 16).all fun c=>match t[c]? with|some x=>Nat.beq x.1.toNat (Lib.accLo c)&&Nat.beq x.2.toNat (Lib.accHi c)|none=>false
def zgp{G:Gh}{w:World}(hm:cn G [] w){t0:List UInt8}{t1:List (UInt8×UInt8)}(h0:LC.glob 1=some ⟨.byte,t0⟩)(h1:LC.glob 2=some ⟨.prod .byte .byte,t1⟩)(e0:qcn t0=true)(e1:qco t1=true):Lib.Utf8Tabs 1 2 w:=by
 refine⟨fun c hc => ?_,fun i hi => ?_⟩
 ·have h:=List.all_eq_true.1 e0 c (List.mem_range.2 hc)
  cases hx:t0[c]? with
  |none=>rw[hx]at h;cases h
  |some x=>
   rw[hx]at h;have ha:G.imm 1 (c*1)=some (.int .u8 x.toNat):=hm.tab.1 _ _ _ h0 c x hx;rw[Nat.mul_one]at ha;rw[hm.agree _ _ _ ha,qN h]
 ·have h:=List.all_eq_true.1 e1 i (List.mem_range.2 hi)
  cases hx:t1[i]? with
  |none=>rw[hx]at h;cases h
  |some x=>
   rw[hx]at h;simp only[qA]at h;have ha:G.imm 2 (i*2)=some (.int .u8 x.1.toNat)/\G.imm 2 (i*2+1)=some (.int .u8 x.2.toNat):=hm.tab.1 _ _ _ h1 i x hx;rw[Nat.mul_comm]at ha;exact⟨by rw[hm.agree _ _ _ ha.1,qN h.1],by rw[hm.agree _ _ _ ha.2,qN h.2]⟩
def zww{G:Gh}{w:World}(hm:cn G [] w){t0:List UInt8}{t1:List (UInt8×UInt8)}(h0:LC.glob 1=some ⟨.byte,t0⟩)(h1:LC.glob 2=some ⟨.prod .byte .byte,t1⟩)(e0:qcn t0=true)(e1:qco t1=true)(s o:Bs)(d1:s.length<=1000000)(d2:o.length<=1000) :
  Calls Tryz.prog 224 #[.string ⟨s.toArray⟩,.string ⟨o.toArray⟩] w fun e w'=>e = .returned (.string ⟨(vu o s.length false s).toArray⟩)/\cd w w':=by
 refine(ToValid.tovalid ⟨s.toArray⟩ ⟨o.toArray⟩ w (by rw[sc];exact d1) (by rw[sc];exact d2) (zgp hm h0 h1 e0 e1)).mono ?_
 rintro e w' ⟨rfl,hw⟩
 exact⟨by rw[sc],cd.of_below hw⟩
def zgc:IF:=⟨.fn 224,[.h .str,.h .str],[],_,RS.mk (.h .str) []⟩
def zwx{t0:List UInt8}{t1:List (UInt8×UInt8)}(h0:LC.glob 1=some ⟨.byte,t0⟩)(h1:LC.glob 2=some ⟨.prod .byte .byte,t1⟩)(e0:qcn t0=true)(e1:qco t1=true):(zgc.e yf).Sound Tryz.prog:=fun d d' r h=>by
 obtain⟨s,o,_⟩:=d;have h:yf s o=some r:=h;unfold yf at h;cases hd:decide (List.length (α:=UInt8) s<=1000000/\List.length (α:=UInt8) o<=1000)<;>rw[hd]at h<;>simp only[qT,qF,reduceCtorEq]at h
 have h:=qJ h;subst h;obtain⟨d1,d2⟩:=of_decide_eq_true hd;refine⟨call224,dd.data fun w G vs hm hr => ?_⟩
 match vs,hr with
 |[u,v],⟨h1',h2',_⟩=>
  have h1':u = .string ⟨s.toArray⟩:=h1';have h2':v = .string ⟨o.toArray⟩:=h2';subst h1' h2';exact(zww hm h0 h1 e0 e1 s o d1 d2).mono fun e w'⟨he,hw⟩=>⟨_,he,rfl,hw⟩
def zxi{G:Gh}{w:World}(hm:cn G [] w){t0:List UInt8}{t1:List (UInt8×UInt8)}(h0:LC.glob 1=some ⟨.byte,t0⟩)(h1:LC.glob 2=some ⟨.prod .byte .byte,t1⟩)(e0:qcn t0=true)(e1:qco t1=true)(s:Bs)(d1:s.length<=9223372036854775807) :
  Calls Tryz.prog 137 #[.string ⟨s.toArray⟩] w fun e w'=>e = .returned (.bool (Lib.validD s))/\cd w w':=by
 refine(Any.utf8_ValidString Tryz.lays196 ⟨s.toArray⟩ w (by rw[sc];exact d1) (zgp hm h0 h1 e0 e1)).mono ?_
 rintro e w' ⟨rfl,hw⟩
 exact⟨rfl,cd.of_below hw⟩
def zgq:IF:=⟨.fn 137,[.h .str],[],_,RS.mk (.h .bool) []⟩
def zxl{t0:List UInt8}{t1:List (UInt8×UInt8)}(h0:LC.glob 1=some ⟨.byte,t0⟩)(h1:LC.glob 2=some ⟨.prod .byte .byte,t1⟩)(e0:qcn t0=true)(e1:qco t1=true):(zgq.e yg).Sound Tryz.prog:=fun d d' r h=>by
 obtain⟨s,_⟩:=d;have h:yg s=some r:=h;unfold yg at h;cases hd:decide (List.length (α:=UInt8) s<=9223372036854775807)<;>rw[hd]at h<;>simp only[qT,qF,reduceCtorEq]at h
 have h:=qJ h;subst h;have d1:=of_decide_eq_true hd;refine⟨call137,dd.data fun w G vs hm hr => ?_⟩
 match vs,hr with
 |[u],⟨h1',_⟩=>
  have h1':u = .string ⟨s.toArray⟩:=h1';subst h1';exact(zxi hm h0 h1 e0 e1 s d1).mono fun e w'⟨he,hw⟩=>⟨_,he,rfl,hw⟩
end Go.Sym
namespace Go.Sym
open Go.RowKit
variable[LC]
section
variable{P:Program}{vj6:World}{vj1:Gh}{vj3:List (Nat×ah)}{G:Gh}{s:St}{a:Act}{w:World}
def aj.drewOk(hr:aj vj6 vj1 vj3 G s a w):aj vj6 vj1 vj3 G s a w.drew:=
 ⟨hr.defers,hr.size,hr.frame,hr.fresh,⟨⟨hr.fin.mem.agree,hr.fin.mem.one,hr.fin.mem.holds,hr.fin.mem.apart,LC.mono (fun _ _ _ h=>h) (fun _ _ _ _=>rfl) hr.fin.mem.tab⟩,⟨hr.fin.bel.os,hr.fin.bel.tape,hr.fin.bel.output,hr.fin.bel.size,hr.fin.bel.block⟩,hr.fin.imm_le,hr.fin.imm_new,hr.fin.base,hr.fin.keep,hr.fin.keepOwn⟩⟩
def al.setAt{G:Gh}{x:AV}{v:Value}(hx:ak x G v):∀{xs:List AV}{vs:List Value}{i:Nat},al xs G vs->al (xs.set i x) G (vs.set i v)|[],[],_,_=>trivial|_::_,_::_,0,h=>⟨hx,h.2⟩|_::_,_::_,_+1,h=>⟨h.1,al.setAt hx h.2⟩|[],_::_,_,h=>h.elim|_::_,[],_,h=>h.elim
def aj.setCellAt(hr:aj vj6 vj1 vj3 G s a w){n B i:Nat}{cs:List AV}{T:TypeId}{x:AV}{v:Value}(hn:ae s.hp n=some (.cells cs T))(hB:G.box n=some B)(hx:ak x G v)(h1:v.oneCell'=true) :
  aj vj6 vj1 vj3 G { s with hp:=(n,.cells (cs.set i x) T)::s.hp } a (w.setCell ⟨B,i,none⟩ v):=by
 obtain⟨B',vs,k1,k2,k3,k4,k5⟩:=hr.fin.mem.holds n _ hn;rw[hB]at k1;cases k1;have hheap:(w.setCell ⟨B,i,none⟩ v).heap[B]? = some (.cells (vs.setIfInBounds i v) T (0,0)):=by
  simp[World.setCell,Array.getElem?_modify,k2]
 have hbel:ei (fun b=>b=B) w (w.setCell ⟨B,i,none⟩ v):=
  ⟨rfl,rfl,rfl,by simp[World.setCell],fun k _ hne=>by
   simp only[World.setCell,Array.getElem?_modify];rw[qW (fun e=>hne e.symm)]⟩
 have hat:∀cs',G.at n (.cells cs' T)=some B:=fun _=>hB
 refine⟨hr.defers,hr.size,hr.frame,fun m hm hl=>hr.fresh m hm (by
  simp only[ae]at hl;cases hb:Nat.beq n m
  ·rw[hb]at hl;exact hl
  ·rw[hb]at hl;cases hl),hr.fin.update hn (hat cs) (hat _) hbel ⟨B,_,hB,hheap,?_,?_,k5⟩ k5⟩
 ·rw[Array.toList_setIfInBounds];exact al.setAt hx k3
 ·intro u hu;rw[Array.toList_setIfInBounds]at hu;rcases List.mem_or_eq_of_mem_set hu with hu|hu
  ·exact k4 u hu
  ·rw[hu];exact h1
def aj.cellAt(hr:aj vj6 vj1 vj3 G s a w){n B i:Nat}{cs:List AV}{T:TypeId}{x:AV}(hn:ae s.hp n=some (.cells cs T))(hB:G.box n=some B)(hx:cs[i]? = some x) :
  ∃v,w.cell? ⟨B,i,none⟩=some v/\ak x G v/\w.frozen? ⟨B,i,none⟩=false:=by
 obtain⟨B',vs,k1,k2,k3,k4,k5⟩:=hr.fin.mem.holds n _ hn;rw[hB]at k1;cases k1;obtain⟨v,v1,v2⟩:=jy k3 hx;refine⟨v,cell_of_heap k2 v1,v2,?_⟩;simp only[World.frozen?,k2];simp
def aj.start{G:Gh}{hp:List (Nat×ah)}{w:World}{N:NM}(hm:cn G hp w)(h:∀n b,ae hp n=some b->ax N n=some n/\dy (ax N) b=b)(hN:∀n,ae hp n=none->a6 N n=none)(k:Nat) :
  aj w (G.view N) hp (G.view N) { n:=k,fr:=[],hp:=hp,nx:=64,df:=[] } { tmps:=Array.replicate k undef,defers:=[] } w:=by
 refine⟨⟨[],rfl,rfl⟩,by simp,fun i x hx=>(by cases hx),fun m _ hl => ?_,qcj (hm.only h)⟩
 have:=hN m hl;simp[Gh.view,this]
end
end Go.Sym
set_option linter.unusedVariables false
namespace Go.Proofs.Repl
open Go.Shelf Go.RowKit Go.Lib Go.Sym
def rv(a b:UInt8)(ga gb ca cb:Nat)(c:UInt8):Value:=if c=a then .slice (some ⟨ga,0,none⟩) 2 ca else if c=b then .slice (some ⟨gb,0,none⟩) 2 cb else .slice none 0 0
structure kq(R:Nat)(a b a1 a2 b1 b2:UInt8)(w:World):Prop where
 ex:∃ga gb gt ca cb ct,(∀c:UInt8,w.cell? ⟨R,c.toNat,none⟩=some (rv a b ga gb ca cb c))/\w.cell? ⟨R,256,none⟩=some (.slice (some ⟨gt,0,none⟩) 2 ct) /\
  w.cell? ⟨gt,0,none⟩=some (.string ⟨#[b]⟩)/\w.cell? ⟨gt,1,none⟩=some (.string ⟨#[a]⟩) /\
  w.cell? ⟨ga,0,none⟩=some (.int .u8 a1.toNat)/\w.cell? ⟨ga,1,none⟩=some (.int .u8 a2.toNat)/\w.cell? ⟨gb,0,none⟩=some (.int .u8 b1.toNat)/\w.cell? ⟨gb,1,none⟩=some (.int .u8 b2.toNat)
def kq.below{R:Nat}{a b a1 a2 b1 b2:UInt8}{w w':World}(h:kq R a b a1 a2 b1 b2 w)(hb:Below w.heap.size w w'):kq R a b a1 a2 b1 b2 w':=by
 have k:∀{p:Addr}{v:Value},w.cell? p=some v->w'.cell? p=some v:=fun{p v} hc=>(hb.cell (World.block_lt_of_cell? _ _ hc)).trans hc
 obtain⟨ga,gb,gt,ca,cb,ct,h1,h2,h3,h4,h5,h6,h7,h8⟩:=h.ex;exact⟨ga,gb,gt,ca,cb,ct,fun c=>k (h1 c),k h2,k h3,k h4,k h5,k h6,k h7,k h8⟩
def q93(s:ByteArray)(c:UInt8)(w:World) :
  Calls Tryz.prog 321 #[.string s,.string ⟨#[c]⟩] w fun e w'=>e = .returned (.int .i64 (Lib.countByte s.data.toList c))/\w'=w:=
 Any.strings_Count_one Tryz.lays138 s c w
def zut{w:World}{g:Nat}{t:TypeId}{N:Nat}{f:Nat->Value}{cur:Array Value}(hg:w.heap[g]? = some (.cells cur t (0,0)))(hz:cur.size=N)(hc:∀i,i<N->cur[i]? = some (f i)){j:Nat}(hj:j+2<=N)(v1 v2:Value) :
  (w.setRow g (cur.toList.take j++[v1,v2]++cur.toList.drop (j+2)).toArray).rowIs g t N (fun i=>if i=j then v1 else if i=j+1 then v2 else f i):=by
 have hl:cur.toList.length=N:=by simpa using hz
 refine⟨_,setRow_heap w g cur _ t _ hg,by simp;omega,fun i hi => ?_⟩
 simp only[List.getElem?_toArray];rw[qS];by_cases h1:i<j
 ·rw[List.getElem?_append_left (by simp;omega),List.getElem?_take,qX h1,qW (by omega),qW (by omega),← hc i hi];simp
 ·rw[List.getElem?_append_right (by simp;omega),show(cur.toList.take j).length=j by simp;omega]
  by_cases h2:i=j
  ·subst h2;simp
  ·by_cases h3:i=j+1
   ·subst h3;rw[qW h2,qX rfl,show j+1-j=1 by omega];rfl
   ·rw[qW h2,qW h3,List.getElem?_append_right (by simp;omega),List.getElem?_drop,← hc i hi]
    simp;congr 1;omega
def kz(b o n:Nat):(⟨b,o,none⟩:Addr).add n=⟨b,o+n,none⟩:=by unfold Addr.add;split<;>simp_all
def q92{w:World}{G ga j M c:Nat}{f:Nat->Value}{x1 x2:UInt8}(hrow:w.rowIs G 5 M f)(hj:j+2<=M)(h0:w.cell? ⟨ga,0,none⟩=some (.int .u8 x1.toNat))(h1:w.cell? ⟨ga,1,none⟩=some (.int .u8 x2.toNat)) :
  ∃ROW,(Builtin.copy_ #[23,23] 3 #[.slice (some ⟨G,j,none⟩) (M-j) (M-j),.slice (some ⟨ga,0,none⟩) 2 c]).run Tryz.prog w = .ok (.int .i64 2) (w.setRow G ROW) /\
   (w.setRow G ROW).rowIs G 5 M (fun i=>if i=j then .int .u8 x1.toNat else if i=j+1 then .int .u8 x2.toNat else f i):=by
 obtain⟨cur,k1,k2,k3⟩:=hrow;refine⟨_,?_,zut k1 k2 k3 hj _ _⟩;exact run_copy_row (P:=Tryz.prog) w 23 23 3 5 G j (M-j) (M-j) ⟨ga,0,none⟩ 2 c cur 5 [.int .u8 x1.toNat,.int .u8 x2.toNat] Tryz.underlying23 (by kernel_rfl) k1
  (by show 2=Nat.min 2 (M-j);exact(Nat.min_eq_left (by omega)).symm)
  (fun i v hv=>by
   rw[kz]
   match i,hv with
   |0,hv=>cases hv;exact h0
   |1,hv=>cases hv;exact h1
   | i+2,hv=>cases hv)
  (by show j+2<=cur.size;omega) (fun v hv=>by
   rcases List.mem_cons.1 hv with rfl|hv
   ·rfl
   ·rcases List.mem_cons.1 hv with rfl|hv
    ·rfl
    ·cases hv)
def bv(l:Bs)(j:Nat):Value := .int .u8 (l.getD j 0).toNat
def q9n(l m:Bs)(j:Nat)(h:j<l.length):bv (l++m) j=bv l j:=by unfold bv;rw[List.getD_eq_getElem?_getD,List.getD_eq_getElem?_getD,List.getElem?_append_left h]
def q9m(l m:Bs)(c:UInt8):bv (l++c::m) l.length = .int .u8 c.toNat:=by unfold bv;rw[List.getD_eq_getElem?_getD,List.getElem?_append_right (wF _),Nat.sub_self];rfl
def zmz(l m:Bs)(c d:UInt8):bv (l++c::d::m) (l.length+1) = .int .u8 d.toNat:=by unfold bv;rw[List.getD_eq_getElem?_getD,List.getElem?_append_right (by omega),show l.length+1-l.length=1 by omega];rfl
def qid(l:Bs)(j:Nat)(h:l.length<=j:=by omega):bv l j = .int .u8 0:=by unfold bv;rw[List.getD_eq_getElem?_getD,List.getElem?_eq_none h];rfl
def q9o(l:Bs)(c d:UInt8)(i:Nat):(if i=l.length then Value.int .u8 c.toNat else if i=l.length+1 then .int .u8 d.toNat else bv l i)=bv (l++[c,d]) i:=by
 by_cases h:i<l.length
 ·rw[qW (by omega),qW (by omega),q9n _ _ _ h]
 ·by_cases h1:i=l.length
  ·subst h1;rw[qX rfl,q9m]
  ·by_cases h2:i=l.length+1
   ·subst h2;rw[qW h1,qX rfl,zmz]
   ·rw[qW h1,qW h2,qid _ _,qid _ _ (by simp;omega)]
def zm0(l:Bs)(c:UInt8)(i:Nat):(if i=l.length then Value.int .u8 c.toNat else bv l i)=bv (l++[c]) i:=by
 by_cases h:i<l.length
 ·rw[qW (by omega),q9n _ _ _ h]
 ·by_cases h1:i=l.length
  ·subst h1;rw[qX rfl,q9m]
  ·rw[qW h1,qid _ _,qid _ _ (by simp;omega)]
def vI2(p:Nat):Value.int .i64 ((p:Int)+2) = .int .i64 ((p+2:Nat):Int):=by rw[Int.natCast_add];rfl
def pz(p:Nat):Value.int .i64 ((p:Int)+1) = .int .i64 ((p+1:Nat):Int):=by rw[Int.natCast_add];rfl
def zgz(n:Nat)(h:n<=4000000:=by omega):wrap64 (n:Int)=(n:Int):=by unfold wrap64;omega
def zrt(p:Addr)(n c:Nat)(w:World):(binOp .neq 23 (.slice (some p) n c) (.slice none 0 0)).run Tryz.prog w = .ok (.bool true) w:=by kernel_rfl
def zrs(w:World):(binOp .neq 23 (.slice none 0 0) (.slice none 0 0)).run Tryz.prog w = .ok (.bool false) w:=by kernel_rfl
def zoi(p:Addr)(n c:Nat)(w:World):(binOp .eql 23 (.slice (some p) n c) (.slice none 0 0)).run Tryz.prog w = .ok (.bool false) w:=by kernel_rfl
def zoh(w:World):(binOp .eql 23 (.slice none 0 0) (.slice none 0 0)).run Tryz.prog w = .ok (.bool true) w:=by kernel_rfl
set_option maxHeartbeats 4000000 in
set_option maxRecDepth 1000000 in
def zmt(R:Nat)(a b a1 a2 b1 b2:UInt8)(s:ByteArray)(w:World)(hab:a≠b)(hs:s.size<=1000000)(hB:kq R a b a1 a2 b1 b2 w) :
  Calls Tryz.prog 319 #[.pointer (some ⟨R,0,none⟩),.string s] w fun e w'=>e = .returned (.string ⟨(ej a b [a1,a2] [b1,b2] s.data.toList).toArray⟩)/\Below w.heap.size w w':=by
 obtain⟨ga,gb,gt,ca,cb,ct,-,hT,ht0,ht1,-⟩:=hB.ex;obtain⟨L,hL⟩:∃L,s.data.toList=L:=⟨_,rfl⟩;have ac:L.length=s.size:=by rw[← hL];exact(Lib.size_eq s).symm
 rw[hL];have HB:Aside (kq R a b a1 a2 b1 b2 w):=hB;clear hB;have cBc:=fun w=>q93 s b w
 have cAc:=fun w=>q93 s a w
 rw[hL]at cBc cAc;obtain⟨Z,hZ⟩:∃Z,jd a b L=Z:=⟨_,rfl⟩;have HZ:Aside (jd a b L=Z):=hZ;have hZ2:Z<=2000000:=by
  rw[← hZ];unfold jd;have h1:=List.count_le_length (a:=a) (l:=L);have h2:=List.count_le_length (a:=b) (l:=L);omega
 clear hZ;obtain⟨M,hM⟩:∃M,s.size+Z=M:=⟨_,rfl⟩;have HM:Aside (s.size+Z=M):=hM;have hMb:M<=3000000:=by omega
 clear hM;have hn1:=zrt;have hn2:=zrs
 go_enter Tryz.func319,Tryz.ntmps319
 go_upto_if 26 with(fail)
 go_cut [5,6] (fun s5 s6 wx=>s5 = .int .i64 (M:Nat)/\s6 = .bool (decide (0<Z))/\Below w.heap.size w wx)
 case first=>
  obtain⟨X,hX⟩:∃X,L.count b=X:=⟨_,rfl⟩;obtain⟨Y,hY⟩:∃Y,L.count a=Y:=⟨_,rfl⟩;have HXY:Aside (Z=Y+X):=by show Z=Y+X;rw[← HZ.out];unfold jd;rw[hX,hY]
  have hXl:X<=s.size:=by rw[← hX,← ac];exact List.count_le_length
  have hYl:Y<=s.size:=by rw[← hY,← ac];exact List.count_le_length
  have cBc:∀w,Calls Tryz.prog 321 #[.string s,.string ⟨#[b]⟩] w fun e w'=>e = .returned (.int .i64 (X:Nat))/\w'=w:=fun w=>by rw[← hX];exact cBc w
  have cAc:∀w,Calls Tryz.prog 321 #[.string s,.string ⟨#[a]⟩] w fun e w'=>e = .returned (.int .i64 (Y:Nat))/\w'=w:=fun w=>by rw[← hY];exact cAc w
  clear hX hY
  go_wp2
  ·rename_i h16;clear h16
   go_loopg [5,6,32] 2 (fun gk s5 s6 s32 wx=>Below w.heap.size w wx/\((s32 = .int .i64 0/\s5 = .int .i64 (s.size:Nat)/\s6 = .bool false/\gk=2)\/(s32 = .int .i64 1/\s5 = .int .i64 ((s.size+X:Nat):Int)/\s6 = .bool (decide (0<X))/\gk=1)\/(s32 = .int .i64 2/\s5 = .int .i64 ((s.size+(Y+X):Nat):Int)/\s6 = .bool (decide (0<Y+X))/\gk=0)))
   case atStart=>exact⟨Below.refl _ _,Or.inl ⟨rfl,rfl,rfl,rfl⟩⟩
   case round=>
    obtain⟨hbw,h⟩:=hrel;have ht0':wr.cell? ⟨gt,0,none⟩=some (.string ⟨#[b]⟩):=(hbw.cell (World.block_lt_of_cell? _ _ ht0)).trans ht0;have ht1':wr.cell? ⟨gt,1,none⟩=some (.string ⟨#[a]⟩):=(hbw.cell (World.block_lt_of_cell? _ _ ht1)).trans ht1;clear ht0 ht1;rcases h with⟨rfl,rfl,rfl,rfl⟩|⟨rfl,rfl,rfl,rfl⟩|⟨rfl,rfl,rfl,rfl⟩
    ·have cX:=cBc wr;by_cases h0:X=0
     ·subst h0
      go_wp2_with (go_at_call 321;go_must (refine cX.mono ?_;rintro e W1 ⟨rfl,rfl⟩))
      go_roundg 1
      case measure=>omega
      case rel=>exact⟨hbw,Or.inr (Or.inl ⟨rfl,rfl,rfl,rfl⟩)⟩
     ·have hz:¬((X:Int)=0):=by omega
      obtain⟨ga',gb',gt',ca',cb',ct',hR,-⟩:=(HB.out.below hbw).ex;have hRb:wr.cell? ⟨R,b.toNat,none⟩=some (.slice (some ⟨gb',0,none⟩) 2 cb'):=by rw[hR b];unfold rv;rw[qW (fun h=>hab h.symm),qX rfl]
      clear hR;have g0:∀h,(⟨#[b]⟩:ByteArray)[0]'h=b:=fun _=>rfl
      have g1:(b.toNat:Int)<256:=by have:=b.toNat_lt;omega
      go_wp2_with (go_at_call 321;go_must (refine cX.mono ?_;rintro e W1 ⟨rfl,rfl⟩))
      go_region
      all_goals go_wp2
      go_roundg 1
      case measure=>omega
      case rel=>exact⟨hbw.drew,Or.inr (Or.inl ⟨rfl,congrArg _ (by omega),by rw[decide_eq_true (Nat.pos_of_ne_zero h0)],rfl⟩)⟩
    ·have cX:=cAc wr;by_cases h0:Y=0
     ·subst h0
      go_wp2_with (go_at_call 321;go_must (refine cX.mono ?_;rintro e W1 ⟨rfl,rfl⟩))
      go_roundg 0
      case measure=>omega
      case rel=>exact⟨hbw,Or.inr (Or.inr ⟨rfl,congrArg _ (by omega),by rw[wO],rfl⟩)⟩
     ·have hz:¬((Y:Int)=0):=by omega
      obtain⟨ga',gb',gt',ca',cb',ct',hR,-⟩:=(HB.out.below hbw).ex;have hRb:wr.cell? ⟨R,a.toNat,none⟩=some (.slice (some ⟨ga',0,none⟩) 2 ca'):=by rw[hR a];unfold rv;rw[qX rfl]
      clear hR;have g0:∀h,(⟨#[a]⟩:ByteArray)[0]'h=a:=fun _=>rfl
      have g1:(a.toNat:Int)<256:=by have:=a.toNat_lt;omega
      go_wp2_with (go_at_call 321;go_must (refine cX.mono ?_;rintro e W1 ⟨rfl,rfl⟩))
      go_region
      all_goals go_wp2
      go_roundg 0
      case measure=>omega
      case rel=>exact⟨hbw.drew,Or.inr (Or.inr ⟨rfl,congrArg _ (by omega),by rw[decide_eq_true (show 0<Y+X by omega)],rfl⟩)⟩
    ·go_wp2
     go_meet
     case rel=>exact⟨by rw[← HM.out,HXY.out],by rw[HXY.out],hbw⟩
  ·rename_i h16;clear h16
   go_loopg [5,6,10] s.size (fun gk s5 s6 s10 wx=>wx=w/\∃k C:Nat,s10 = .int .i64 k/\s5 = .int .i64 ((s.size+C:Nat):Int)/\s6 = .bool (decide (0<C))/\k<=s.size/\s.size<=k+gk/\Aside (jd a b (L.take k)=C)/\C<=2000000)
   case atStart=>exact⟨rfl,0,0,rfl,rfl,rfl,Nat.zero_le _,by omega,rfl,by omega⟩
   case round=>
    obtain⟨rfl,k,C,rfl,rfl,rfl,hk,hgk,HC,hC⟩:=hrel;by_cases hk2:k<s.size
    ·obtain⟨g,rfl⟩:∃g,gk=g+1:=⟨gk-1,by omega⟩
     obtain⟨c,hc⟩:∃c,s[k]'hk2=c:=⟨_,rfl⟩;have hstep:Aside (jd a b (L.take (k+1))=C+(if c=a then 1 else if c=b then 1 else 0)):=by
      have h1:k<L.length:=by rw[ac];exact hk2
      have h2:L[k]'h1=c:=by subst hL;exact hc
      show _=_;rw[zf5 L k h1,qy9,HC.out,qza hab,h2]
     have hC3:Aside (jd a b (L.take (k+1))<=2000000):=by
      show _<=_;unfold jd;have h1:=List.count_le_length (a:=a) (l:=L.take (k+1));have h2:=List.count_le_length (a:=b) (l:=L.take (k+1));rw[List.length_take]at h1 h2;omega
     obtain⟨ga',gb',gt',ca',cb',ct',hR,-⟩:=HB.out.ex;have hRc:=hR c;unfold rv at hRc;clear hR;have g1:(c.toNat:Int)<256:=by have:=c.toNat_lt;omega
     by_cases h1:c=a
     ·rw[qX h1]at hRc;rw[qX h1]at hstep;clear h1
      go_wp2
      go_roundg g
      case measure=>omega
      case rel=>exact⟨rfl,k+1,C+1,congrArg _ (by omega),congrArg _ (by omega),by rw[decide_eq_true (Nat.succ_pos C)],by omega,by omega,hstep,by have:=hC3.out;rw[hstep.out]at this;exact this⟩
     ·rw[qW h1]at hRc;rw[qW h1]at hstep;by_cases h2:c=b
      ·rw[qX h2]at hRc;rw[qX h2]at hstep;clear h1 h2
       go_wp2
       go_roundg g
       case measure=>omega
       case rel=>exact⟨rfl,k+1,C+1,congrArg _ (by omega),congrArg _ (by omega),by rw[decide_eq_true (Nat.succ_pos C)],by omega,by omega,hstep,by have:=hC3.out;rw[hstep.out]at this;exact this⟩
      ·rw[qW h2]at hRc;rw[qW h2]at hstep;clear h1 h2
       go_wp2
       go_roundg g
       case measure=>omega
       case rel=>exact⟨rfl,k+1,C,congrArg _ (by omega),congrArg _ (by omega),rfl,by omega,by omega,hstep,hC⟩
    ·obtain rfl:k=s.size:=by omega
     have HC2:C=Z:=by rw[← HC.out,← ac,List.take_length,HZ.out]
     subst HC2
     go_wp2
     go_meet
     case rel=>exact⟨by rw[HM.out],rfl,Below.refl _ _⟩
 case rest=>
  obtain⟨rfl,hs6,hbw⟩:=hcut;cases h0:decide (0<Z)<;>rw[h0]at hs6<;>subst hs6
  ·have hz0:=of_decide_eq_false h0;have hid:=zao hab [a1,a2] [b1,b2] L (by rw[HZ.out];omega)
   clear h0 hz0;have HI:Aside (ej a b [a1,a2] [b1,b2] L=L):=hid;clear hid
   go_wp2
   go_ret
   exact⟨by rw[HI.out,← hL];rfl,hbw⟩
  ·clear h0;have hmk:∀w:World,(Instr.makeSlice 23 (.int .i64 (M:Int)) (.int .i64 (M:Int))).run Tryz.prog w = .ok (.slice (some ⟨w.heap.size,0,none⟩) M M) (w.alloc (.cells (madeCells #[.int .u8 0] M) 5)):=fun w=>
    run_make_row' (P:=Tryz.prog) 23 5 (.int .u8 0) 1 Tryz.underlying23 (by kernel_rfl) rfl .i64 .i64 M (by omega) (by omega) w
   go_wp2
   obtain⟨G,hG⟩:∃G,wc.heap.size=G:=⟨_,rfl⟩;have hrow0:=World.rowIs_made wc (.int .u8 0) M 5;have hGle:w.heap.size<=G:=by rw[← hG];exact hbw.size
   have hbw1:=hbw.alloc hbw.size (Obj.cells (madeCells #[.int .u8 0] M) 5);rw[hG]at hrow0 ⊢;have hLM:Aside (∀k,(ej a b [a1,a2] [b1,b2] (L.take k)).length<=M):=fun k=>by
    have h1:ej a b [a1,a2] [b1,b2] L=ej a b [a1,a2] [b1,b2] (L.take k)++ej a b [a1,a2] [b1,b2] (L.drop k):=by rw[← qoy,List.take_append_drop]
    have h2:=congrArg List.length h1;rw[qoz hab,ac,HZ.out,HM.out,qM]at h2;omega
   go_loopg [13,14] s.size (fun gk s13 s14 wx=>∃k j:Nat,s13 = .int .i64 j/\s14 = .int .i64 k/\k<=s.size/\s.size<=k+gk/\j<=M/\Aside ((ej a b [a1,a2] [b1,b2] (L.take k)).length=j)/\Aside (wx.rowIs G 5 M (bv (ej a b [a1,a2] [b1,b2] (L.take k))))/\Below w.heap.size w wx)
   case atStart=>exact⟨0,0,rfl,rfl,Nat.zero_le _,by omega,Nat.zero_le _,rfl,hrow0.congr (fun i _=>(qid [] i (Nat.zero_le _)).symm),hbw1⟩
   case round=>
    obtain⟨k,j,rfl,rfl,hk,hgk,hjM,HJ,hrow,hbx⟩:=hrel;clear hrow0 hbw1;by_cases hk2:k<s.size
    ·obtain⟨g,rfl⟩:∃g,gk=g+1:=⟨gk-1,by omega⟩
     have HG:Aside (s.size<=k+1+g):=by show _<=_;omega
     clear hgk hk;obtain⟨c,hc⟩:∃c,s[k]'hk2=c:=⟨_,rfl⟩;have hk1:k<L.length:=by rw[ac];exact hk2
     have hLk:L[k]'hk1=c:=by subst hL;exact hc
     have hstep:Aside (ej a b [a1,a2] [b1,b2] (L.take (k+1))=ej a b [a1,a2] [b1,b2] (L.take k)++nt a b [a1,a2] [b1,b2] c):=by
      show _=_;rw[zf5 L k hk1,qoy,hLk];show _++(nt a b [a1,a2] [b1,b2] c++[])=_;rw[List.append_nil]
     have hfit:Aside (j+(nt a b [a1,a2] [b1,b2] c).length<=M):=by
      have:=hLM.out (k+1);rw[hstep.out,qM,HJ.out]at this;exact this
     clear hLk hk1;obtain⟨ga',gb',gt',ca',cb',ct',hR,hT',ht0',ht1',ha0,ha1,hb0,hb1⟩:=(HB.out.below hbx).ex;have hRc:=hR c;unfold rv at hRc;clear hR hT' ht0' ht1';have g1:(c.toNat:Int)<256:=by have:=c.toNat_lt;omega
     unfold nt at hstep hfit;by_cases h1:c=a
     ·rw[qX h1]at hRc hstep hfit;have hf2:j+2<=M:=hfit.out;clear h1;have hMj:¬M=j:=by omega
      obtain⟨ROW,hcp,hnew⟩:=q92 (w:=wr.drew) (c:=ca') hrow.out.drew hf2 (by rw[World.cell?_drew];exact ha0) (by rw[World.cell?_drew];exact ha1)
      have HN:Aside (_):=hnew;have HW:Aside (wrap64 ((j:Int)+2)=(j:Int)+2):=by have:=zgz (j+2);rw[Int.natCast_add]at this;exact this
      clear hnew
      go_wp2
      go_region
      all_goals go_wp2
      go_roundg g
      case measure=>exact Nat.lt_succ_self _
      case rel=>exact⟨k+1,j+2,by first|exact vI2 j|exact(congrArg (Value.int .i64) HW.out).trans (vI2 j),pz k,hk2,HG.out,hf2,by show _=_;rw[hstep.out,qM,HJ.out];rfl,World.rowIs.congr HN.out (fun i _=>by rw[hstep.out,← q9o,HJ.out]),below_setRow hbx.drew hGle _⟩
     ·rw[qW h1]at hRc hstep hfit;by_cases h2:c=b
      ·rw[qX h2]at hRc hstep hfit;have hf2:j+2<=M:=hfit.out;clear h1 h2;have hMj:¬M=j:=by omega
       obtain⟨ROW,hcp,hnew⟩:=q92 (w:=wr.drew) (c:=cb') hrow.out.drew hf2 (by rw[World.cell?_drew];exact hb0) (by rw[World.cell?_drew];exact hb1)
       have HN:Aside (_):=hnew;have HW:Aside (wrap64 ((j:Int)+2)=(j:Int)+2):=by have:=zgz (j+2);rw[Int.natCast_add]at this;exact this
       clear hnew
       go_wp2
       go_region
       all_goals go_wp2
       go_roundg g
       case measure=>exact Nat.lt_succ_self _
       case rel=>exact⟨k+1,j+2,by first|exact vI2 j|exact(congrArg (Value.int .i64) HW.out).trans (vI2 j),pz k,hk2,HG.out,hf2,by show _=_;rw[hstep.out,qM,HJ.out];rfl,World.rowIs.congr HN.out (fun i _=>by rw[hstep.out,← q9o,HJ.out]),below_setRow hbx.drew hGle _⟩
      ·rw[qW h2]at hRc hstep hfit;have hf1:j+1<=M:=hfit.out;clear h1 h2;have hcell:wr.cell? ⟨G,j,none⟩=some (bv (ej a b [a1,a2] [b1,b2] (L.take k)) j):=hrow.out.cell (by omega)
       have hfroz:wr.frozen? ⟨G,j,none⟩=false:=hrow.out.frozen j
       go_wp2
       go_roundg g
       case measure=>exact Nat.lt_succ_self _
       case rel=>exact⟨k+1,j+1,pz j,pz k,hk2,HG.out,hf1,by show _=_;rw[hstep.out,qM,HJ.out];rfl,World.rowIs.congr (World.rowIs.set hrow.out j _) (fun i _=>by rw[hstep.out,← zm0,HJ.out]),hbx.setCell hGle _⟩
    ·obtain rfl:k=s.size:=by omega
     have HT:Aside (L.take s.size=L):=by show _=_;rw[← ac,List.take_length]
     have HE:Aside (∃l,l=ej a b [a1,a2] [b1,b2] L/\l.length=M):=⟨_,rfl,by rw[qoz hab,ac,HZ.out,HM.out]⟩
     obtain⟨E,hE,hEl⟩:=HE.out;have hcv:(convert 23 9 (.slice (some ⟨G,0,none⟩) M M)).run Tryz.prog wr = .ok (.string ⟨E.toArray⟩) wr:=by
      have h:=run_convert_bytes_back (P:=Tryz.prog) wr 23 9 5 ⟨G,0,none⟩ M E Tryz.underlying23 Tryz.underlying5 Tryz.underlying9 (fun i hi=>by
       rw[kz,wO,hrow.out.cell (by omega),HT.out,← hE]
       unfold bv;rw[List.getD_eq_getElem?_getD,List.getElem?_eq_getElem hi];rfl)
      rw[hEl]at h;exact h
     have HEq:Aside (E=ej a b [a1,a2] [b1,b2] L):=hE;clear hE hEl
     go_wp2
     go_ret
     exact⟨by rw[← HEq.out];rfl,hbx⟩
end Go.Proofs.Repl
set_option linter.unusedVariables false
namespace Go.Proofs.Repl
open Go.Shelf Go.RowKit Go.Lib Go.Sym
def zp1:(Tryz.prog.info? 9).map (fun i=>(i.zero,i.size,i.bytes))=some (some (Value.string ⟨#[]⟩),1,16):=by kernel_rfl
def mk2(w:World):(Instr.makeSlice 100 (.int .i64 0) (.int .i64 2)).run Tryz.prog w = .ok (.slice (some ⟨w.heap.size,0,none⟩) 0 2) (w.alloc (.cells #[.string ⟨#[]⟩,.string ⟨#[]⟩] 9)):=by
 obtain⟨i,hi,hzz⟩:=Option.map_eq_some_iff.1 zp1;simp only[qP]at hzz;obtain⟨hz,hs,hb⟩:=hzz;have h:=run_make (P:=Tryz.prog) w 100 9 i (.string ⟨#[]⟩) Tryz.underlying100 hi hz .i64 .i64 0 2 (by decide) (by decide) (by rw[hb];decide) (by decide)
 rw[hs,show madeCells (Value.string ⟨#[]⟩).cells (Int.toNat 2*1)=#[.string ⟨#[]⟩,.string ⟨#[]⟩] from by kernel_rfl]at h
 exact h
def zr(V:Value)(j:Nat):Value:=if j=256 then V else .slice none 0 0
def z1(b:UInt8)(g c:Nat)(V:Value)(j:Nat):Value:=if j=b.toNat then .slice (some ⟨g,0,none⟩) 2 c else zr V j
def vj0:Tryz.zeroCells254.toList.length=257:=by kernel_rfl
def vjx:Tryz.zeroCells254.toList.all (fun v=>v.oneCell')=true:=by kernel_rfl
def lu:Option Value->Bool|some (.slice none n c)=>Nat.beq n 0&&Nat.beq c 0|_=>false
def zp7{v:Option Value}(h:lu v=true):v=some (.slice none 0 0):=by
 unfold lu at h;split at h
 ·simp only[qA]at h;rw[qN h.1,qN h.2]
 ·cases h
def vjy:(List.range 257).all (fun j=>lu Tryz.zeroCells254.toList[j]?)=true:=by kernel_rfl
def zv2(w:World)(T:Nat):∃ROW,(storeCells ⟨w.heap.size,0,none⟩ (Tryz.zeroCells254.toList.set 256 (.slice (some ⟨T,0,none⟩) 0 2))).run Tryz.prog (w.alloc (.cells Tryz.zeroCells254 254)) = .ok () ((w.alloc (.cells Tryz.zeroCells254 254)).setRow w.heap.size ROW) /\
  ((w.alloc (.cells Tryz.zeroCells254 254)).setRow w.heap.size ROW).rowIs w.heap.size 254 257 (zr (.slice (some ⟨T,0,none⟩) 0 2)):=by
 have hnew:(w.alloc (.cells Tryz.zeroCells254 254)).heap[w.heap.size]? = some (.cells Tryz.zeroCells254 254):=heap_alloc_new w _;have hz:=vj0;have h:=run_storeCells_at Tryz.prog w.heap.size 0 254 (Tryz.zeroCells254.toList.set 256 (.slice (some ⟨T,0,none⟩) 0 2)) 0 _ _ hnew (by rw[List.length_set,hz,← Array.length_toList,hz];decide) (fun v hv=>by
  rcases List.mem_or_eq_of_mem_set hv with hv|rfl
  ·exact List.all_eq_true.1 vjx v hv
  ·rfl)
 refine⟨_,h,?_⟩;refine⟨_,setRow_heap _ _ _ _ _ _ hnew,?_,fun i hi => ?_⟩
 ·simp only[List.size_toArray,qM,List.length_set,List.length_take,List.length_drop,hz];decide
 ·rw[List.getElem?_toArray,List.length_set,hz,List.drop_eq_nil_of_le (by rw[hz];decide),List.append_nil]
  show([]++_)[i]? = _;rw[List.nil_append,List.getElem?_set];unfold zr;by_cases h2:256=i
  ·subst h2;rw[qX rfl,qX rfl,hz];rfl
  ·rw[qW h2,qW (fun e=>h2 e.symm)]
   exact zp7 (List.all_eq_true.1 vjy i (List.mem_range.2 hi))
def qcl(w:World)(x y:UInt8):Obj := .cells (bytesRow ⟨#[x,y]⟩ (grownCap w 2 0 5)) 5 ((bytesRow ⟨#[x,y]⟩ (grownCap w 2 0 5)).size,(bytesRow ⟨#[x,y]⟩ (grownCap w 2 0 5)).size+1)
def qcg(w:World):Nat:=grownCap w 2 0 5
def cv2(w:World)(x y:UInt8):(convert 9 23 (.string ⟨#[x,y]⟩)).run Tryz.prog w = .ok (.slice (some ⟨w.heap.size,0,none⟩) 2 (qcg w)) (w.drew.alloc (qcl w x y)):=
 run_bytes_of_string (P:=Tryz.prog) w 9 23 5 ⟨#[x,y]⟩ Tryz.underlying9 Tryz.underlying23 Tryz.underlying5
def zmw(w W:World)(x y:UInt8):(W.alloc (qcl w x y)).cell? ⟨W.heap.size,0,none⟩=some (.int .u8 x.toNat)/\(W.alloc (qcl w x y)).cell? ⟨W.heap.size,1,none⟩=some (.int .u8 y.toNat):=by
 unfold qcl;rw[World.cell?_alloc_mark,World.cell?_alloc_mark];exact⟨bytesRow_at ⟨#[x,y]⟩ _ 0 (by show 0<2;decide),bytesRow_at ⟨#[x,y]⟩ _ 1 (by show 1<2;decide)⟩
def cv1(w:World)(x:UInt8):(convert 23 9 (.slice (some ⟨w.heap.size,0,none⟩) 1 1)).run Tryz.prog (w.alloc (.cells #[.int .u8 x.toNat] 5)) = .ok (.string ⟨#[x]⟩) (w.alloc (.cells #[.int .u8 x.toNat] 5)):=
 run_convert_bytes_back (P:=Tryz.prog) _ 23 9 5 ⟨w.heap.size,0,none⟩ 1 [x] Tryz.underlying23 Tryz.underlying5 Tryz.underlying9 (fun i hi=>by
  have:i=0:=by simpa using hi
  subst this;rw[kz];show World.cell? _ ⟨w.heap.size,0,none⟩=_;unfold World.cell?;rw[show(w.alloc (.cells #[.int .u8 (x.toNat:Int)] 5)).heap[w.heap.size]? = _ from heap_alloc_new w _]
  rfl)
def w4(wr:World)(T k n:Nat)(c:UInt8):World:=(((wr.alloc (.cells #[.int .u8 c.toNat] 5)).alloc (.cells #[.string ⟨#[c]⟩] 9)).setCell ⟨T,k,none⟩ (.string ⟨#[c]⟩)).setCell ⟨T+1,256,none⟩ (.slice (some ⟨T,0,none⟩) n 2)
def w5(wr:World)(T k n:Nat)(c x y:UInt8):World:=(((w4 wr T k n c).alloc (qcl (w4 wr T k n c) x y)).setCell ⟨T+1,c.toNat,none⟩ (.slice (some ⟨wr.heap.size+1+1,0,none⟩) 2 (qcg (w4 wr T k n c)))).drew
def zfv(wr:World)(T k n:Nat)(c x y:UInt8)(hT:T+2<=wr.heap.size){f h:Nat->Value}(hR:wr.rowIs (T+1) 254 257 f)(hTr:wr.rowIs T 9 2 h) :
  (w5 wr T k n c x y).rowIs (T+1) 254 257 (fun j=>if j=c.toNat then .slice (some ⟨wr.heap.size+1+1,0,none⟩) 2 (qcg (w4 wr T k n c)) else if j=256 then .slice (some ⟨T,0,none⟩) n 2 else f j)/\(w5 wr T k n c x y).rowIs T 9 2 (fun i=>if i=k then .string ⟨#[c]⟩ else h i) /\
   (w5 wr T k n c x y).cell? ⟨wr.heap.size+1+1,0,none⟩=some (.int .u8 x.toNat)/\(w5 wr T k n c x y).cell? ⟨wr.heap.size+1+1,1,none⟩=some (.int .u8 y.toNat)/\(∀p:Addr,T+2<=p.block->p.block<wr.heap.size->(w5 wr T k n c x y).cell? p=wr.cell? p)/\Below T wr (w5 wr T k n c x y)/\T+2<=(w5 wr T k n c x y).heap.size:=by
 unfold w5;generalize hWb:qcl (w4 wr T k n c) x y=B;generalize (Value.slice (some ⟨wr.heap.size+1+1,0,none⟩) 2 (qcg (w4 wr T k n c)))=V3;have hbc0:=fun W=>zmw (w4 wr T k n c) W x y
 rw[hWb]at hbc0;unfold w4;clear hWb;generalize (Obj.cells #[.int .u8 c.toNat] 5)=o1;generalize (Obj.cells #[.string ⟨#[c]⟩] 9)=o2;generalize (Value.string ⟨#[c]⟩)=S;generalize (Value.slice (some ⟨T,0,none⟩) n 2)=V2;have hsz:((((wr.alloc o1).alloc o2).setCell ⟨T,k,none⟩ S).setCell ⟨T+1,256,none⟩ V2).heap.size=wr.heap.size+1+1:=by simp[World.setCell]
 have hbc:=hbc0 ((((wr.alloc o1).alloc o2).setCell ⟨T,k,none⟩ S).setCell ⟨T+1,256,none⟩ V2);rw[hsz]at hbc;refine⟨?_,?_,?_,?_,fun p h1 h2 => ?_,?_,?_⟩
 ·exact(((((hR.alloc o1).alloc o2).setOther (a:=⟨T,k,none⟩) (by simp) S).set 256 V2).alloc _).set _ V3
 ·exact(((((hTr.alloc o1).alloc o2).set k S).setOther (a:=⟨T+1,256,none⟩) (by simp) V2).alloc _).setOther (a:=⟨T+1,c.toNat,none⟩) (by simp) V3
 ·rw[World.cell?_drew,World.cell?_setCell_other _ _ _ _ (by intro h;have:=congrArg Addr.block h;simp at this;omega)];exact hbc.1
 ·rw[World.cell?_drew,World.cell?_setCell_other _ _ _ _ (by intro h;have:=congrArg Addr.block h;simp at this;omega)];exact hbc.2
 ·refine World.cell?_of_block (w:=wr) ?_;show(World.setCell _ _ _).heap[p.block]? = _;rw[Below.heap_setCell _ _ _ _ (by simp;omega),Below.heap_alloc _ _ _ (by rw[hsz];omega),Below.heap_setCell _ _ _ _ (by simp;omega),Below.heap_setCell _ _ _ _ (by simp;omega),Below.heap_alloc _ _ _ (by simp;omega),Below.heap_alloc _ _ _ h2]
 ·have hsz2:wr.heap.size+1+1=((((wr.alloc o1).alloc o2).setCell ⟨T,k,none⟩ S).setCell ⟨T+1,256,none⟩ V2).heap.size:=hsz.symm;exact(((((((Below.refl T wr).alloc (by omega) o1).alloc (by simp;omega) o2).setCell (p:=⟨T,k,none⟩) (wF _) S).setCell (p:=⟨T+1,256,none⟩) (Nat.le_succ _) V2).alloc (by omega) _).setCell (p:=⟨T+1,c.toNat,none⟩) (Nat.le_succ _) V3).drew
 ·show _<=(World.setCell _ _ _).heap.size;simp[World.setCell];omega
set_option maxHeartbeats 4000000 in
set_option maxRecDepth 1000000 in
def zml(q ro cap:Nat)(a b a1 a2 b1 b2:UInt8)(w:World)(hab:a≠b)
  (hc:w.cell? ⟨q,4,none⟩=some (.slice (some ⟨ro,0,none⟩) 4 cap)) (h0:w.cell? ⟨ro,0,none⟩=some (.string ⟨#[a]⟩)) (h1:w.cell? ⟨ro,1,none⟩=some (.string ⟨#[a1,a2]⟩)) (h2:w.cell? ⟨ro,2,none⟩=some (.string ⟨#[b]⟩)) (h3:w.cell? ⟨ro,3,none⟩=some (.string ⟨#[b1,b2]⟩)) :
  Calls Tryz.prog 185 #[.pointer (some ⟨q,0,none⟩)] w fun e w'=>∃R,e = .returned (.iface 255 (.pointer (some ⟨R,0,none⟩)))/\kq R a b a1 a2 b1 b2 w'/\Below w.heap.size w w':=by
 go_enter Tryz.func185,Tryz.ntmps185
 go_wp2
 go_loopg [4,5] 2 (fun gk s4 s5 wx=>wx=w/\((s5 = .int .i64 0/\s4 = .bool true/\gk=2)\/(s5 = .int .i64 2/\s4 = .bool false/\gk=1)\/(s5 = .int .i64 4/\s4 = .bool false/\gk=0)))
 case atStart=>exact⟨rfl,Or.inl ⟨rfl,rfl,rfl⟩⟩
 case round=>
  obtain⟨rfl,⟨rfl,rfl,rfl⟩|⟨rfl,rfl,rfl⟩|⟨rfl,rfl,rfl⟩⟩:=hrel
  ·go_wp2
   go_roundg 1
   case measure=>exact Nat.lt_succ_self _
   case rel=>exact⟨rfl,Or.inr (Or.inl ⟨rfl,rfl,rfl⟩)⟩
  ·go_wp2
   go_roundg 0
   case measure=>exact Nat.lt_succ_self _
   case rel=>exact⟨rfl,Or.inr (Or.inr ⟨rfl,rfl,rfl⟩)⟩
  ·have hmk:=mk2;obtain⟨W1,hW1⟩:∃W1,wr.alloc (.cells #[.string ⟨#[]⟩,.string ⟨#[]⟩] 9)=W1:=⟨_,rfl⟩;have hz1:W1.heap.size=wr.heap.size+1:=by rw[← hW1];simp
   have hT1:W1.rowIs wr.heap.size 9 2 (fun _ => .string ⟨#[]⟩):=by rw[← hW1];exact World.rowIs_alloc wr _ _ _ (fun i hi=>by match i,hi with|0,_=>rfl|1,_=>rfl)
   have hb1:Below wr.heap.size wr W1:=by rw[← hW1];exact(Below.refl _ _).alloc (wF _) _
   obtain⟨ROW,hst,hrow⟩:=zv2 W1 wr.heap.size;rw[hz1]at hst hrow;have hT2:=(hT1.alloc (.cells Tryz.zeroCells254 254)).of_block (setRow_other (W1.alloc (.cells Tryz.zeroCells254 254)) (wr.heap.size+1) wr.heap.size ROW (by omega))
   have hb2:=below_setRow (hb1.alloc hb1.size (.cells Tryz.zeroCells254 254)) (Nat.le_succ wr.heap.size) ROW;obtain⟨W2,hW2⟩:∃W2,(W1.alloc (.cells Tryz.zeroCells254 254)).setRow (wr.heap.size+1) ROW=W2:=⟨_,rfl⟩;rw[hW2]at hst hrow hT2 hb2;have HB2:Aside (W2.rowIs (wr.heap.size+1) 254 257 (zr (.slice (some ⟨wr.heap.size,0,none⟩) 0 2))/\W2.rowIs wr.heap.size 9 2 (fun _ => .string ⟨#[]⟩)/\Below wr.heap.size wr W2):=⟨hrow,hT2,hb2⟩
   clear hrow hT2 hb2 hT1 hb1 hW2
   go_wp2
   obtain⟨T,hT⟩:∃T,wr.heap.size=T:=⟨_,rfl⟩;rw[hT]at HB2 ⊢;have hS:Aside (wr.heap.size=T):=hT;clear hst hmk hz1 hW1 hT
   go_loopg [12] 2 (fun gk s12 wx=>Below T wr wx/\T+2<=wx.heap.size/\(
    (s12 = .int .i64 2/\gk=2/\Aside (wx.rowIs (T+1) 254 257 (zr (.slice (some ⟨T,0,none⟩) 0 2))/\wx.rowIs T 9 2 (fun _ => .string ⟨#[]⟩))) \/
    (s12 = .int .i64 0/\gk=1/\∃gb cb,T+2<=gb/\gb<wx.heap.size/\Aside (wx.rowIs (T+1) 254 257 (fun j=>if j=b.toNat then .slice (some ⟨gb,0,none⟩) 2 cb else if j=256 then .slice (some ⟨T,0,none⟩) 1 2 else .slice none 0 0)/\wx.rowIs T 9 2 (fun i=>if i=0 then .string ⟨#[b]⟩ else .string ⟨#[]⟩)/\wx.cell? ⟨gb,0,none⟩=some (.int .u8 b1.toNat)/\wx.cell? ⟨gb,1,none⟩=some (.int .u8 b2.toNat))) \/
    (s12 = .int .i64 (-2)/\gk=0/\Aside (kq (T+1) a b a1 a2 b1 b2 wx))))
   case atStart=>exact⟨HB2.out.2.2,by have:=HB2.out.1.lt;omega,Or.inl ⟨rfl,rfl,HB2.out.1,HB2.out.2.1⟩⟩
   case round=>
    obtain⟨hbx,hsz,h⟩:=hrel;have k0:=(hbx.cell (p:=⟨ro,0,none⟩) (by rw[← hS.out];exact World.block_lt_of_cell? _ _ h0)).trans h0
    have k1:=(hbx.cell (p:=⟨ro,1,none⟩) (by rw[← hS.out];exact World.block_lt_of_cell? _ _ h1)).trans h1
    have k2:=(hbx.cell (p:=⟨ro,2,none⟩) (by rw[← hS.out];exact World.block_lt_of_cell? _ _ h2)).trans h2
    have k3:=(hbx.cell (p:=⟨ro,3,none⟩) (by rw[← hS.out];exact World.block_lt_of_cell? _ _ h3)).trans h3
    clear h0 h1 h2 h3 hc HB2;have e1:=zoi;have e2:=zoh;have e3:=cv1;have e4:=cv2;rcases h with⟨rfl,rfl,hr⟩|⟨rfl,rfl,gb,cb,hgb,hgs,hr⟩|⟨rfl,rfl,hr⟩
    ·have g0:∀h,(⟨#[b]⟩:ByteArray)[0]'h=b:=fun _=>rfl
     have g1:(b.toNat:Int)<256:=by have:=b.toNat_lt;omega
     have g2:b.toNat<256:=b.toNat_lt;have hRb:wr.cell? ⟨T+1,b.toNat,none⟩=some (.slice none 0 0):=by
      rw[hr.out.1.cell (by omega)];unfold zr;rw[qW (by have:=b.toNat_lt;omega)]
     have hR2:wr.cell? ⟨T+1,256,none⟩=some (.slice (some ⟨T,0,none⟩) 0 2):=by rw[hr.out.1.cell (by decide)];rfl
     have hT0:∀o1 o2,((wr.alloc o1).alloc o2).cell? ⟨T,0,none⟩=some (.string ⟨#[]⟩):=fun o1 o2=>((hr.out.2.alloc o1).alloc o2).cell (by decide)
     have hTf:∀o1 o2,((wr.alloc o1).alloc o2).frozen? ⟨T,0,none⟩=false:=fun o1 o2=>((hr.out.2.alloc o1).alloc o2).frozen _
     have hR3:∀o1 o2,((wr.alloc o1).alloc o2).cell? ⟨T+1,256,none⟩=some (.slice (some ⟨T,0,none⟩) 0 2):=fun o1 o2=>by rw[((hr.out.1.alloc o1).alloc o2).cell (by decide)];rfl
     have hRf:∀o1 o2,((wr.alloc o1).alloc o2).frozen? ⟨T+1,256,none⟩=false:=fun o1 o2=>((hr.out.1.alloc o1).alloc o2).frozen _
     have hR4:∀o1 o2 v1 v2 o3,(((((wr.alloc o1).alloc o2).setCell ⟨T,0,none⟩ v1).setCell ⟨T+1,256,none⟩ v2).alloc o3).cell? ⟨T+1,b.toNat,none⟩=some (.slice none 0 0):=fun o1 o2 v1 v2 o3=>by
      rw[((((((hr.out.1.alloc o1).alloc o2).setOther (a:=⟨T,0,none⟩) (by simp) v1).set 256 v2)).alloc o3).cell (by omega)]
      rw[qW (by omega)];unfold zr;rw[qW (by have:=b.toNat_lt;omega)]
     have hRg:∀o1 o2 v1 v2 o3,(((((wr.alloc o1).alloc o2).setCell ⟨T,0,none⟩ v1).setCell ⟨T+1,256,none⟩ v2).alloc o3).frozen? ⟨T+1,b.toNat,none⟩=false:=fun o1 o2 v1 v2 o3=>
      ((((((hr.out.1.alloc o1).alloc o2).setOther (a:=⟨T,0,none⟩) (by simp) v1).set 256 v2)).alloc o3).frozen _
     clear g2
     go_wp2
     go_roundg 1
     case measure=>exact Nat.lt_succ_self _
     case rel=>
      have HS:=zfv wr T 0 1 b b1 b2 hsz hr.out.1 hr.out.2;obtain⟨q1,q2,q3,q4,q5,q6,q7⟩:=HS;have q8:=World.block_lt_of_cell? _ _ q3;refine⟨hbx.trans q6,q7,Or.inr (Or.inl ⟨rfl,rfl,wr.heap.size+1+1,qcg (w4 wr T 0 1 b),by omega,q8,(?_:_/\_/\_/\_)⟩)⟩
      refine⟨q1.congr (fun j _ => ?_),q2,q3,q4⟩
      ·show(if _ then _ else if _ then _ else zr _ j)=_
       unfold zr;by_cases h1:j=b.toNat
       ·rw[qX h1,qX h1]
       ·by_cases h2:j=256
        ·rw[qW h1,qX h2,qW h1,qX h2]
        ·rw[qW h1,qW h2,qW h2,qW h1,qW h2]
    ·have g0:∀h,(⟨#[a]⟩:ByteArray)[0]'h=a:=fun _=>rfl
     have g1:(a.toNat:Int)<256:=by have:=a.toNat_lt;omega
     have g2:a.toNat<256:=a.toNat_lt;have hne:¬a.toNat=b.toNat:=fun h=>hab (UInt8.toNat_inj.1 h)
     have HNE:Aside (¬a.toNat=b.toNat):=hne;have hRb:wr.cell? ⟨T+1,a.toNat,none⟩=some (.slice none 0 0):=by
      rw[hr.out.1.cell (by omega)];rw[qW (by omega),qW (by omega)]
     have hR2:wr.cell? ⟨T+1,256,none⟩=some (.slice (some ⟨T,0,none⟩) 1 2):=by rw[hr.out.1.cell (by decide)];rw[qW (by have:=b.toNat_lt;omega),qX rfl]
     have hT0:∀o1 o2,((wr.alloc o1).alloc o2).cell? ⟨T,1,none⟩=some (.string ⟨#[]⟩):=fun o1 o2=>((hr.out.2.1.alloc o1).alloc o2).cell (by decide)
     have hTf:∀o1 o2,((wr.alloc o1).alloc o2).frozen? ⟨T,1,none⟩=false:=fun o1 o2=>((hr.out.2.1.alloc o1).alloc o2).frozen _
     have hR3:∀o1 o2,((wr.alloc o1).alloc o2).cell? ⟨T+1,256,none⟩=some (.slice (some ⟨T,0,none⟩) 1 2):=fun o1 o2=>by rw[((hr.out.1.alloc o1).alloc o2).cell (by decide)];rw[qW (by have:=b.toNat_lt;omega),qX rfl]
     have hRf:∀o1 o2,((wr.alloc o1).alloc o2).frozen? ⟨T+1,256,none⟩=false:=fun o1 o2=>((hr.out.1.alloc o1).alloc o2).frozen _
     have hR4:∀o1 o2 v1 v2 o3,(((((wr.alloc o1).alloc o2).setCell ⟨T,1,none⟩ v1).setCell ⟨T+1,256,none⟩ v2).alloc o3).cell? ⟨T+1,a.toNat,none⟩=some (.slice none 0 0):=fun o1 o2 v1 v2 o3=>by
      rw[((((((hr.out.1.alloc o1).alloc o2).setOther (a:=⟨T,1,none⟩) (by simp) v1).set 256 v2)).alloc o3).cell (by omega)]
      rw[qW (by omega)];rw[qW (by omega),qW (by omega)]
     have hRg:∀o1 o2 v1 v2 o3,(((((wr.alloc o1).alloc o2).setCell ⟨T,1,none⟩ v1).setCell ⟨T+1,256,none⟩ v2).alloc o3).frozen? ⟨T+1,a.toNat,none⟩=false:=fun o1 o2 v1 v2 o3=>
      ((((((hr.out.1.alloc o1).alloc o2).setOther (a:=⟨T,1,none⟩) (by simp) v1).set 256 v2)).alloc o3).frozen _
     clear g2 hne
     go_wp2
     go_roundg 0
     case measure=>exact Nat.lt_succ_self _
     case rel=>
      have HS:=zfv wr T 1 2 a a1 a2 hsz hr.out.1 hr.out.2.1;obtain⟨q1,q2,q3,q4,q5,q6,q7⟩:=HS;have hgbR:=(q5 ⟨gb,0,none⟩ hgb hgs).trans hr.out.2.2.1;have hgbS:=(q5 ⟨gb,1,none⟩ hgb hgs).trans hr.out.2.2.2;have hB:kq (T+1) a b a1 a2 b1 b2 (w5 wr T 1 2 a a1 a2):=by
       refine⟨wr.heap.size+1+1,gb,T,qcg (w4 wr T 1 2 a),cb,2,fun d => ?_,?_,?_,?_,q3,q4,hgbR,hgbS⟩
       ·rw[q1.cell (by have:=d.toNat_lt;omega)]
        unfold rv;by_cases h1:d=a
        ·rw[qX (congrArg _ h1),qX h1]
        ·rw[qW (fun h=>h1 (UInt8.toNat_inj.1 h)),qW h1,qW (by have:=d.toNat_lt;omega)]
         by_cases h2:d=b
         ·rw[qX (congrArg _ h2),qX h2]
         ·rw[qW (fun h=>h2 (UInt8.toNat_inj.1 h)),qW h2,qW (by have:=d.toNat_lt;omega)]
       ·rw[q1.cell (by decide),qW (by have:=a.toNat_lt;omega),qX rfl]
       ·rw[q2.cell (by decide)];rfl
       ·rw[q2.cell (by decide)];rfl
      exact⟨hbx.trans q6,q7,Or.inr (Or.inr ⟨rfl,rfl,hB⟩)⟩
    ·go_wp2
     go_ret
     exact⟨T+1,rfl,hr.out,by rw[hS.out];exact hbx⟩
end Go.Proofs.Repl
namespace Go.Proofs.YtiidadfafmcdmaaGreatDoor.Once
def disable(w:World):(callFunc 249 #[]).run Tryz.prog w = .ok (.value (.tuple #[])) w:=run_call_mark0 Tryz.func249 (by kernel_rfl) (by kernel_rfl) (by kernel_rfl) .disable (by kernel_rfl) w
def enable(w:World):(callFunc 251 #[]).run Tryz.prog w = .ok (.value (.tuple #[])) w:=run_call_mark0 Tryz.func251 (by kernel_rfl) (by kernel_rfl) (by kernel_rfl) .enable (by kernel_rfl) w
def acquire(a:Addr)(w:World):(callFunc 252 #[.pointer (some a)]).run Tryz.prog w = .ok (.value (.tuple #[])) w:=run_call_marked Tryz.func252 (by kernel_rfl) (by kernel_rfl) (by kernel_rfl) .acquire (by kernel_rfl) a w
def releaseMerge(a:Addr)(w:World):(callFunc 254 #[.pointer (some a)]).run Tryz.prog w = .ok (.value (.tuple #[])) w:=run_call_marked Tryz.func254 (by kernel_rfl) (by kernel_rfl) (by kernel_rfl) .releaseMerge (by kernel_rfl) a w
set_option maxHeartbeats 1600000 in
def zv7(a:Addr)(x:Value)(u:FrameMode)(w:World)(hc:w.cell? a=some x)(hz:w.frozen? a=false) :
  CallsD Tryz.prog 208 #[.pointer (some a),.bool true] u w fun e u' w'=>u'=u/\(e = .returned (.tuple #[])/\w'=w.drew.setCell a (.int .u32 1)):=by
 have hc':w.drew.cell? a=some x:=by go_simp
 have hz':w.drew.frozen? a=false:=by go_simp
 have hst:=run_call_store (P:=Tryz.prog) Tryz.func231 (by kernel_rfl) (by kernel_rfl) (by kernel_rfl) (by kernel_rfl) (k := .u32) (y:=1) hc' hz'
 go_enter_d Tryz.func208,Tryz.ntmps208
 go_wp2
 go_region_calls
 all_goals (go_end0;exact⟨rfl,rfl⟩)
set_option maxHeartbeats 1600000 in
def zxc(a:Addr)(u:FrameMode)(w:World)(hc:w.cell? a=some (.int .i32 1))(hz:w.frozen? a=false) :
  CallsD Tryz.prog 207 #[.pointer (some a)] u w fun e u' w'=>u'=u/\(e = .returned (.tuple #[])/\w'=w.setCell a (.int .i32 0)):=by
 have hd:=disable;have he:=enable;have hr:=releaseMerge;have hadd:=run_call_add (P:=Tryz.prog) Tryz.func255 (by kernel_rfl) (by kernel_rfl) (by kernel_rfl) .i32 (by kernel_rfl) (y := -1) (s:=0) hc hz (by simp[go_sem];rfl)
 have hcv:=run_convert_to_unsafe (P:=Tryz.prog) (src:=296) (dst:=300) Tryz.underlying296 Tryz.underlying300 (by kernel_rfl) hc
 go_enter_d Tryz.func207,Tryz.ntmps207
 go_wp2
 go_end0
 go_wp2
 go_end0
 exact⟨rfl,rfl⟩
set_option maxHeartbeats 1600000 in
def zq3(a:Addr)(w:World)(hc:w.cell? a=some (.int .i32 0))(hz:w.frozen? a=false) :
  Calls Tryz.prog 206 #[.pointer (some a)] w fun e w'=>e = .returned (.tuple #[])/\w'=w.setCell a (.int .i32 1):=by
 have hd:=disable;have he:=enable;have ha:=acquire;have hcas:=run_call_cas_hit (P:=Tryz.prog) Tryz.func250 (by kernel_rfl) (by kernel_rfl) (by kernel_rfl) .i32 (by kernel_rfl) (y:=1) hc hz
 have hc':(w.setCell a (.int .i32 1)).cell? a=some (.int .i32 1):=World.cell?_setCell_same w a _ hc;have hcv:=run_convert_to_unsafe (P:=Tryz.prog) (src:=296) (dst:=300) Tryz.underlying296 Tryz.underlying300 (by kernel_rfl) hc'
 go_enter Tryz.func206,Tryz.ntmps206
 go_wp2
 first|go_end0|(simp only[Exit.inBlock,Exit.then];refine bodyPost_ret (results_none rfl _ _ _) rfl ?_)|refine bodyPost_ret (results_none rfl _ _ _) rfl ?_
 go_wp2
 go_end0
 exact⟨rfl,rfl⟩
end Go.Proofs.YtiidadfafmcdmaaGreatDoor.Once
namespace Go.Proofs.YtiidadfafmcdmaaGreatDoor.Once
set_option maxHeartbeats 1600000 in
def zvw(b:Nat)(w:World)(R:World->Prop)
  (h0:w.cell? ⟨b,0,none⟩=some (.int .u32 0)) (h1:w.cell? ⟨b,0+1,none⟩=some (.int .i32 0)) (f0:w.frozen? ⟨b,0,none⟩=false) (f1:w.frozen? ⟨b,0+1,none⟩=false)
  (hf:Calls Tryz.prog 161 #[.pointer (some ⟨b,0,none⟩)] (w.setCell ⟨b,0+1,none⟩ (.int .i32 1)) fun e w'=>e = .returned (.tuple #[])/\R w')
  (hR:∀w',R w'->w'.cell? ⟨b,0,none⟩=some (.int .u32 0)/\w'.frozen? ⟨b,0,none⟩=false/\w'.cell? ⟨b,0+1,none⟩=some (.int .i32 1)/\w'.frozen? ⟨b,0+1,none⟩=false) :
  Calls Tryz.prog 184 #[.pointer (some ⟨b,0,none⟩),.func (.func 161) #[.pointer (some ⟨b,0,none⟩)] #[]] w fun e w'=>e = .returned (.tuple #[])/\∃w1,R w1/\w'=(w1.drew.setCell ⟨b,0,none⟩ (.int .u32 1)).setCell ⟨b,0+1,none⟩ (.int .i32 0):=by
 have hl:=run_call_load (P:=Tryz.prog) Tryz.func205 (by kernel_rfl) (by kernel_rfl) (by kernel_rfl) .u32 (by kernel_rfl) (w:=w.setCell ⟨b,0+1,none⟩ (.int .i32 1)) (a:=⟨b,0,none⟩) (x:=0) ((World.cell?_setCell_other _ ⟨b,0+1,none⟩ ⟨b,0,none⟩ _ (by simp)).trans h0)
 have hnot:∀(x:Bool)(w:World),(Op.unary .not (.bool x)).run Tryz.prog w = .ok (.bool (!x)) w:=fun _ _=>rfl
 go_enter_defers Tryz.func184,Tryz.ntmps184
 go_wp2_with (first|(go_at_call 206;refine(zq3 ⟨b,0+1,none⟩ _ (by go_simp) (by go_simp)).mono ?_;rintro e w' ⟨rfl,rfl⟩)|(go_at_call 183;go_in)|(go_at_call 161;refine hf.mono ?_;rintro e w' ⟨rfl,hw⟩))
 obtain⟨r0,rf0,r1,rf1⟩:=hR w' hw
 first|go_end0|skip
 first|go_wp2|skip
 refine leaves_cons (f:=208) (args:=#[.pointer (some ⟨b,0,none⟩),.bool true]) (by simp) (by simp[go_sem]) ?_
 refine(zv7 ⟨b,0,none⟩ (.int .u32 0) .returning _ r0 rf0).mono ?_;rintro e u' w'' ⟨rfl,rfl,rfl⟩
 refine leaves_cons (f:=207) (args:=#[.pointer (some ⟨b,0+1,none⟩)]) (by simp[settle]) (by simp[go_sem]) ?_
 have r1':(w'.drew.setCell ⟨b,0,none⟩ (.int .u32 1)).cell? ⟨b,0+1,none⟩=some (.int .i32 1):=by
  refine(World.cell?_setCell_other _ ⟨b,0,none⟩ ⟨b,0+1,none⟩ _ (by simp)).trans ?_
  rw[World.cell?_drew];exact r1
 refine(zxc ⟨b,0+1,none⟩ _ _ r1' (by simp[rf1])).mono ?_
 rintro e u' w'' ⟨rfl,rfl,rfl⟩
 simp[Leaves,settle,results,Tryz.results184];exact⟨w',hw,rfl⟩
set_option maxHeartbeats 1600000 in
def zah(b:Nat)(w:World)(R:World->Prop)
  (h0:w.cell? ⟨b,0,none⟩=some (.int .u32 0)) (h1:w.cell? ⟨b,0+1,none⟩=some (.int .i32 0)) (f0:w.frozen? ⟨b,0,none⟩=false) (f1:w.frozen? ⟨b,0+1,none⟩=false)
  (hf:Calls Tryz.prog 161 #[.pointer (some ⟨b,0,none⟩)] (w.setCell ⟨b,0+1,none⟩ (.int .i32 1)) fun e w'=>e = .returned (.tuple #[])/\R w')
  (hR:∀w',R w'->w'.cell? ⟨b,0,none⟩=some (.int .u32 0)/\w'.frozen? ⟨b,0,none⟩=false/\w'.cell? ⟨b,0+1,none⟩=some (.int .i32 1)/\w'.frozen? ⟨b,0+1,none⟩=false) :
  Calls Tryz.prog 160 #[.pointer (some ⟨b,0,none⟩),.func (.func 161) #[.pointer (some ⟨b,0,none⟩)] #[]] w fun e w'=>e = .returned (.tuple #[])/\∃w1,R w1/\w'=(w1.drew.setCell ⟨b,0,none⟩ (.int .u32 1)).setCell ⟨b,0+1,none⟩ (.int .i32 0):=by
 have hl:=run_call_load (P:=Tryz.prog) Tryz.func205 (by kernel_rfl) (by kernel_rfl) (by kernel_rfl) .u32 (by kernel_rfl) h0
 have hnot:∀(x:Bool)(w:World),(Op.unary .not (.bool x)).run Tryz.prog w = .ok (.bool (!x)) w:=fun _ _=>rfl
 go_enter Tryz.func160,Tryz.ntmps160
 go_wp2_with (first|(go_at_call 183;go_in)|(go_at_call 184;refine(zvw b w R h0 h1 f0 f1 hf hR).mono ?_;rintro e w' ⟨rfl,w1,hw1,rfl⟩))
 go_end0
 exact⟨rfl,w1,hw1,rfl⟩
set_option maxHeartbeats 1600000 in
def zn3(a:Addr)(d:Int)(hd:¬d=0)(fv:Value)(w:World)(h0:w.cell? a=some (.int .u32 d)) :
  Calls Tryz.prog 160 #[.pointer (some a),fv] w fun e w'=>e = .returned (.tuple #[])/\w'=w:=by
 have hl:=run_call_load (P:=Tryz.prog) Tryz.func205 (by kernel_rfl) (by kernel_rfl) (by kernel_rfl) .u32 (by kernel_rfl) h0
 have hnot:∀(x:Bool)(w:World),(Op.unary .not (.bool x)).run Tryz.prog w = .ok (.bool (!x)) w:=fun _ _=>rfl
 have hd':(d != 0)=true:=by simp[hd]
 go_enter Tryz.func160,Tryz.ntmps160
 go_wp2
 go_end0
 exact⟨rfl,rfl⟩
end Go.Proofs.YtiidadfafmcdmaaGreatDoor.Once
namespace Go.Proofs.YtiidadfafmcdmaaGreatDoor.Once
set_option maxHeartbeats 1600000 in
def replace_first(b:Nat)(s:ByteArray)(w:World)(R:World->Prop)(Q:Value->World->Prop)
  (h0:w.cell? ⟨b,0,none⟩=some (.int .u32 0)) (h1:w.cell? ⟨b,0+1,none⟩=some (.int .i32 0)) (f0:w.frozen? ⟨b,0,none⟩=false) (f1:w.frozen? ⟨b,0+1,none⟩=false)
  (hf:Calls Tryz.prog 161 #[.pointer (some ⟨b,0,none⟩)] (w.setCell ⟨b,0+1,none⟩ (.int .i32 1)) fun e w'=>e = .returned (.tuple #[])/\R w')
  (hR:∀w',R w'->w'.cell? ⟨b,0,none⟩=some (.int .u32 0)/\w'.frozen? ⟨b,0,none⟩=false/\w'.cell? ⟨b,0+1,none⟩=some (.int .i32 1)/\w'.frozen? ⟨b,0+1,none⟩=false)
  (hg:∀w',R w'->∃g,w'.cell? ⟨b,3,none⟩=some (.iface 251 (.pointer (some ⟨g,0,none⟩))) /\
   Calls Tryz.prog 317 #[.pointer (some ⟨g,0,none⟩),.string s] ((w'.drew.setCell ⟨b,0,none⟩ (.int .u32 1)).setCell ⟨b,0+1,none⟩ (.int .i32 0)) fun e w''=>∃v,e = .returned v/\Q v w'') :
  Calls Tryz.prog 127 #[.pointer (some ⟨b,0,none⟩),.string s] w fun e w'=>∃v,e = .returned v/\Q v w':=by
 have hme : ∀ (g : Nat) (w : World), (method 471 251 (.pointer (some ⟨g, 0, none⟩)) "Replace").run Tryz.prog w = .ok (317, .pointer (some ⟨g, 0, none⟩)) w := fun _ _ => by kernel_rfl
 go_enter Tryz.func127,Tryz.ntmps127
 go_wp2_with (first|(go_at_call 160;refine(zah b w R h0 h1 f0 f1 hf hR).mono ?_;rintro e w' ⟨rfl,w1,hw1,rfl⟩;obtain⟨g,hg1,hg2⟩:=hg w1 hw1;have hc3:((w1.drew.setCell ⟨b,0,none⟩ (.int .u32 1)).setCell ⟨b,0+1,none⟩ (.int .i32 0)).cell? ⟨b,3,none⟩=some (.iface 251 (.pointer (some ⟨g,0,none⟩))):=((World.cell?_setCell_other _ ⟨b,0+1,none⟩ ⟨b,3,none⟩ _ (by simp)).trans ((World.cell?_setCell_other _ ⟨b,0,none⟩ ⟨b,3,none⟩ _ (by simp)).trans (by rw[World.cell?_drew];exact hg1))))|(go_at_call 317;refine hg2.mono ?_;rintro e w' ⟨v,rfl,hq⟩))
 go_ret
 exact⟨_,rfl,hq⟩
set_option maxHeartbeats 1600000 in
def replace_done(b g:Nat)(s:ByteArray)(w:World)(Q:Value->World->Prop)(d:Int)(hd:¬d=0)
  (h0:w.cell? ⟨b,0,none⟩=some (.int .u32 d)) (hc3:w.cell? ⟨b,3,none⟩=some (.iface 251 (.pointer (some ⟨g,0,none⟩))))
  (hg2:Calls Tryz.prog 317 #[.pointer (some ⟨g,0,none⟩),.string s] w fun e w''=>∃v,e = .returned v/\Q v w'') :
  Calls Tryz.prog 127 #[.pointer (some ⟨b,0,none⟩),.string s] w fun e w'=>∃v,e = .returned v/\Q v w':=by
 have hme : ∀ (g : Nat) (w : World), (method 471 251 (.pointer (some ⟨g, 0, none⟩)) "Replace").run Tryz.prog w = .ok (317, .pointer (some ⟨g, 0, none⟩)) w := fun _ _ => by kernel_rfl
 go_enter Tryz.func127,Tryz.ntmps127
 go_wp2_with (first|(go_at_call 160;refine(zn3 ⟨b,0,none⟩ d hd _ w h0).mono ?_;rintro e w' ⟨rfl,rfl⟩)|(go_at_call 317;refine hg2.mono ?_;rintro e w' ⟨v,rfl,hq⟩))
 go_ret
 exact⟨_,rfl,hq⟩
set_option maxHeartbeats 1600000 in
def replaceS_first(b:Nat)(s:ByteArray)(w:World)(R:World->Prop)(Q:Value->World->Prop)
  (h0:w.cell? ⟨b,0,none⟩=some (.int .u32 0)) (h1:w.cell? ⟨b,0+1,none⟩=some (.int .i32 0)) (f0:w.frozen? ⟨b,0,none⟩=false) (f1:w.frozen? ⟨b,0+1,none⟩=false)
  (hf:Calls Tryz.prog 161 #[.pointer (some ⟨b,0,none⟩)] (w.setCell ⟨b,0+1,none⟩ (.int .i32 1)) fun e w'=>e = .returned (.tuple #[])/\R w')
  (hR:∀w',R w'->w'.cell? ⟨b,0,none⟩=some (.int .u32 0)/\w'.frozen? ⟨b,0,none⟩=false/\w'.cell? ⟨b,0+1,none⟩=some (.int .i32 1)/\w'.frozen? ⟨b,0+1,none⟩=false)
  (hg:∀w',R w'->∃g,w'.cell? ⟨b,3,none⟩=some (.iface 255 (.pointer (some ⟨g,0,none⟩))) /\
   Calls Tryz.prog 319 #[.pointer (some ⟨g,0,none⟩),.string s] ((w'.drew.setCell ⟨b,0,none⟩ (.int .u32 1)).setCell ⟨b,0+1,none⟩ (.int .i32 0)) fun e w''=>∃v,e = .returned v/\Q v w'') :
  Calls Tryz.prog 127 #[.pointer (some ⟨b,0,none⟩),.string s] w fun e w'=>∃v,e = .returned v/\Q v w':=by
 have hme : ∀ (g : Nat) (w : World), (method 471 255 (.pointer (some ⟨g, 0, none⟩)) "Replace").run Tryz.prog w = .ok (319, .pointer (some ⟨g, 0, none⟩)) w := fun _ _ => by kernel_rfl
 go_enter Tryz.func127,Tryz.ntmps127
 go_wp2_with (first|(go_at_call 160;refine(zah b w R h0 h1 f0 f1 hf hR).mono ?_;rintro e w' ⟨rfl,w1,hw1,rfl⟩;obtain⟨g,hg1,hg2⟩:=hg w1 hw1;have hc3:((w1.drew.setCell ⟨b,0,none⟩ (.int .u32 1)).setCell ⟨b,0+1,none⟩ (.int .i32 0)).cell? ⟨b,3,none⟩=some (.iface 255 (.pointer (some ⟨g,0,none⟩))):=((World.cell?_setCell_other _ ⟨b,0+1,none⟩ ⟨b,3,none⟩ _ (by simp)).trans ((World.cell?_setCell_other _ ⟨b,0,none⟩ ⟨b,3,none⟩ _ (by simp)).trans (by rw[World.cell?_drew];exact hg1))))|(go_at_call 319;refine hg2.mono ?_;rintro e w' ⟨v,rfl,hq⟩))
 go_ret
 exact⟨_,rfl,hq⟩
end Go.Proofs.YtiidadfafmcdmaaGreatDoor.Once
namespace Go.Sym
open Go.RowKit
variable[LC]
def cn.blocks_none{G:Gh}{hp:List (Nat×ah)}{w:World}(hm:cn G hp w){b:Nat}(h:o7 G hp b)(o:Nat):G.imm b o=none:=by
 obtain⟨n,bx,hl,ha⟩:=h;have hb:=hm.holds n bx hl
 cases bx with
 |cells cs T=>obtain⟨B,vs,h1,_,_,_,h5⟩:=hb;simp only[Gh.at,h1,qI]at ha;subst ha;exact h5 o
 |row τ l E=>
  obtain⟨a,c,h1,h2⟩:=hb;rcases h2 with⟨rfl,_⟩|⟨g,vs,fz,rfl,_,_,_,_,_,_,_,h9⟩
  ·simp only[Gh.at,h1]at ha;cases ha
  ·simp only[Gh.at,h1,qI]at ha;subst ha;exact h9 o
 |loop st pe f m fr ps tag D=>obtain⟨B,tmps,DB,h1,_,_,_,_,h5⟩:=hb;simp only[Gh.at,h1,qI]at ha;subst ha;exact h5 o
 |dfr=>obtain⟨B,h1,_,h5⟩:=hb;simp only[Gh.at,h1,qI]at ha;subst ha;exact h5 o
 |it s p=>obtain⟨B,h1,_,h5⟩:=hb;simp only[Gh.at,h1,qI]at ha;subst ha;exact h5 o
 |dead=>cases ha
def dd.gone{P:Program}{f:FuncId}{xs:List AV}{hp:List (Nat×ah)}{r:AV}
  (h:∀(w:World)(G:Gh)(vs:List Value),cn G hp w->al xs G vs->Calls P f vs.toArray w fun e w'=>∃v,e = .returned v/\ak r G v/\ei (o7 G hp) w w'):dd P f xs hp r []:=by
 intro w G vs hm hr;refine(h w G vs hm hr).mono ?_;rintro e w' ⟨v,rfl,hv,hs⟩
 have hblk:∀b o v,G.imm b o=some v->w'.heap[b]? = w.heap[b]? := fun b o v hv=>hs.block b (World.block_lt_of_cell? _ _ (hm.agree b o v hv)) fun hb=>by
  rw[hm.blocks_none hb o]at hv;cases hv
 refine⟨v,G,rfl,⟨⟨fun b o v hv=>by rw[World.cell?_of_block (w:=w) (hblk b o v hv)];exact hm.agree b o v hv,hm.one,fun n bx h=>(by cases h),fun n m bx bx' b h=>(by cases h),LC.mono (fun _ _ _ h=>h) hblk hm.tab⟩,hs,fun _ _ _ h=>h,fun _ _ _ h => .inl h,fun n bx b h=>(by cases h),fun _ _ _ _ h=>h,fun _ _ _ _ h=>h⟩,hv⟩
end Go.Sym
set_option linter.unusedVariables false
namespace Go.Proofs.Repl
open Go.Shelf Go.RowKit Go.Lib Go.Sym
def kq.setCell{R q n:Nat}{u:Int}{a b a1 a2 b1 b2:UInt8}{w:World}(h:kq R a b a1 a2 b1 b2 w)(hq:w.cell? ⟨q,0,none⟩=some (.int .u32 u))(v:Value):kq R a b a1 a2 b1 b2 (w.setCell ⟨q,n,none⟩ v):=by
 obtain⟨ga,gb,gt,ca,cb,ct,h1,h2,h3,h4,h5,h6,h7,h8⟩:=h.ex;have kR:¬R=q:=fun e=>by
  have:=h1 0;subst e;rw[show(0:UInt8).toNat=0 from rfl,hq]at this
  unfold rv at this;split at this
  ·cases this
  ·split at this<;>cases this
 have kt:¬gt=q:=fun e=>by subst e;rw[hq]at h3;cases h3
 have ka:¬ga=q:=fun e=>by subst e;rw[hq]at h5;cases h5
 have kb:¬gb=q:=fun e=>by subst e;rw[hq]at h7;cases h7
 have k:∀{p:Nat}{o:Nat}{x:Value},¬p=q->w.cell? ⟨p,o,none⟩=some x->(w.setCell ⟨q,n,none⟩ v).cell? ⟨p,o,none⟩=some x:=fun{p o x} hp hx=>by
  rw[World.cell?_of_block (w:=w) (Below.heap_setCell w ⟨q,n,none⟩ v p hp)];exact hx
 exact⟨ga,gb,gt,ca,cb,ct,fun c=>k kR (h1 c),k kR h2,k kt h3,k kt h4,k ka h5,k ka h6,k kb h7,k kb h8⟩
structure Once(q:Nat)(w w':World):Prop where
 bel:ei (fun k=>k=q) w w'
 c0:w'.cell? ⟨q,0,none⟩=some (.int .u32 0)
 c1:w'.cell? ⟨q,0+1,none⟩=some (.int .i32 1)
 f0:w'.frozen? ⟨q,0,none⟩=false
 f1:w'.frozen? ⟨q,0+1,none⟩=false
def zmg(S:Nat->Prop)(w:World):ei S w w.drew:=⟨rfl,rfl,rfl,wF _,fun _ _ _=>rfl⟩
def qyz{S:Nat->Prop}{w w':World}(h:Below w.heap.size w w'):ei S w w':=⟨h.os,h.tape,h.output,h.size,fun k hk _=>h.block k hk⟩
def qib{q:Nat}{w w':World}(h:ei (fun k=>k=q) w w')(n:Nat)(v:Value):ei (fun k=>k=q) w (w'.setCell ⟨q,n,none⟩ v):=
 ⟨h.os,h.tape,h.output,by simp[World.setCell];exact h.size,fun k hk hn=>(Below.heap_setCell w' ⟨q,n,none⟩ v k hn).trans (h.block k hk hn)⟩
def qy0{S:Nat->Prop}{a b c:World}(h:ei S a b)(k:ei S b c):ei S a c:=
 ⟨k.os.trans h.os,k.tape.trans h.tape,k.output.trans h.output,Nat.le_trans h.size k.size,fun i hi hn=>(k.block i (Nat.lt_of_lt_of_le hi h.size) hn).trans (h.block i hi hn)⟩
set_option maxHeartbeats 1600000 in
def zmp(q ro cap:Nat)(v3:Value)(a b a1 a2 b1 b2:UInt8)(w:World)(hab:a≠b)
  (c0:w.cell? ⟨q,0,none⟩=some (.int .u32 0)) (c1:w.cell? ⟨q,0+1,none⟩=some (.int .i32 1)) (hf:∀j,w.frozen? ⟨q,j,none⟩=false) (c3:w.cell? ⟨q,3,none⟩=some v3)
  (hc:w.cell? ⟨q,4,none⟩=some (.slice (some ⟨ro,0,none⟩) 4 cap)) (h0:w.cell? ⟨ro,0,none⟩=some (.string ⟨#[a]⟩)) (h1:w.cell? ⟨ro,1,none⟩=some (.string ⟨#[a1,a2]⟩)) (h2:w.cell? ⟨ro,2,none⟩=some (.string ⟨#[b]⟩)) (h3:w.cell? ⟨ro,3,none⟩=some (.string ⟨#[b1,b2]⟩)) :
  Calls Tryz.prog 161 #[.pointer (some ⟨q,0,none⟩)] w fun e w'=>e = .returned (.tuple #[])/\Once q w w'/\∃R,w'.cell? ⟨q,3,none⟩=some (.iface 255 (.pointer (some ⟨R,0,none⟩)))/\kq R a b a1 a2 b1 b2 w':=by
 have hqlt:q<w.heap.size:=World.block_lt_of_cell? _ _ c0;have hB:=zml q ro cap a b a1 a2 b1 b2 w hab hc h0 h1 h2 h3
 go_enter Tryz.func161,Tryz.ntmps161
 go_wp2_with (go_at_call 185;go_must (refine hB.mono ?_;rintro e W ⟨R,rfl,hBu,hbe⟩;have k0:∀{j:Nat}{v:Value},w.cell? ⟨q,j,none⟩=some v->W.cell? ⟨q,j,none⟩=some v:=(fun hj=>(hbe.cell (World.block_lt_of_cell? _ _ hj)).trans hj);have kf:∀j,W.frozen? ⟨q,j,none⟩=false:=(fun j=>(hbe.frozen (p:=⟨q,j,none⟩) hqlt).trans (hf j));have d0:=k0 c0;have d1:=k0 c1;have d3:=k0 c3;have d4:=k0 hc;clear hB hf k0))
 have d0':(W.setCell ⟨q,3,none⟩ (.iface 255 (.pointer (some ⟨R,0,none⟩)))).cell? ⟨q,0,none⟩=some (.int .u32 0):=by rw[World.cell?_setCell_other _ _ _ _ (by simp)];exact d0
 have d1':(W.setCell ⟨q,3,none⟩ (.iface 255 (.pointer (some ⟨R,0,none⟩)))).cell? ⟨q,0+1,none⟩=some (.int .i32 1):=by rw[World.cell?_setCell_other _ _ _ _ (by simp)];exact d1
 have d3':=World.cell?_setCell_same W ⟨q,3,none⟩ (.iface 255 (.pointer (some ⟨R,0,none⟩))) d3
 go_end0
 refine⟨rfl,⟨qib (qib (qyz hbe) 3 _) 4 _,?_,?_,?_,?_⟩,R,?_,(hBu.setCell d0 _).setCell d0' _⟩
 ·rw[World.cell?_setCell_other _ _ _ _ (by simp)];exact d0'
 ·rw[World.cell?_setCell_other _ _ _ _ (by simp)];exact d1'
 ·simp[kf]
 ·simp[kf]
 ·rw[World.cell?_setCell_other _ _ _ _ (by simp)];exact d3'
def replS(q ro cap:Nat)(v3:Value)(a b a1 a2 b1 b2:UInt8)(s:ByteArray)(w:World)(hab:a≠b)(hs:s.size<=1000000)
  (c0:w.cell? ⟨q,0,none⟩=some (.int .u32 0)) (c1:w.cell? ⟨q,0+1,none⟩=some (.int .i32 0)) (hf:∀j,w.frozen? ⟨q,j,none⟩=false) (c3:w.cell? ⟨q,3,none⟩=some v3)
  (hc:w.cell? ⟨q,4,none⟩=some (.slice (some ⟨ro,0,none⟩) 4 cap)) (h0:w.cell? ⟨ro,0,none⟩=some (.string ⟨#[a]⟩)) (h1:w.cell? ⟨ro,1,none⟩=some (.string ⟨#[a1,a2]⟩)) (h2:w.cell? ⟨ro,2,none⟩=some (.string ⟨#[b]⟩)) (h3:w.cell? ⟨ro,3,none⟩=some (.string ⟨#[b1,b2]⟩)) :
  Calls Tryz.prog 127 #[.pointer (some ⟨q,0,none⟩),.string s] w fun e w'=>∃v,e = .returned v/\v = .string ⟨(ej a b [a1,a2] [b1,b2] s.data.toList).toArray⟩/\ei (fun k=>k=q) w w':=by
 have hne:¬ro=q:=fun e=>by subst e;rw[c0]at h0;cases h0
 have k:∀{p:Addr}{x:Value},p≠⟨q,0+1,none⟩->w.cell? p=some x->(w.setCell ⟨q,0+1,none⟩ (.int .i32 1)).cell? p=some x:=fun{p x} hp hx=>by
  rw[World.cell?_setCell_other _ _ _ _ (fun e=>hp e.symm)];exact hx
 have kb:ei (fun k=>k=q) w (w.setCell ⟨q,0+1,none⟩ (.int .i32 1)):=qib (qyz (Below.refl _ _)) _ _
 refine Go.Proofs.YtiidadfafmcdmaaGreatDoor.Once.replaceS_first q s w (fun w'=>Once q (w.setCell ⟨q,0+1,none⟩ (.int .i32 1)) w'/\∃R,w'.cell? ⟨q,3,none⟩=some (.iface 255 (.pointer (some ⟨R,0,none⟩)))/\kq R a b a1 a2 b1 b2 w') (fun v w'=>v = .string ⟨(ej a b [a1,a2] [b1,b2] s.data.toList).toArray⟩/\ei (fun k=>k=q) w w') c0 c1 (hf _) (hf _) ?_ ?_ ?_
 ·exact zmp q ro cap v3 a b a1 a2 b1 b2 _ hab (k (by simp) c0) (World.cell?_setCell_same w _ _ c1) (fun j=>by simp[hf]) (k (by simp) c3) (k (by simp) hc) (k (by intro h;exact hne (congrArg Addr.block h)) h0) (k (by intro h;exact hne (congrArg Addr.block h)) h1) (k (by intro h;exact hne (congrArg Addr.block h)) h2) (k (by intro h;exact hne (congrArg Addr.block h)) h3)
 ·rintro w' ⟨ho,_⟩
  exact⟨ho.c0,ho.f0,ho.c1,ho.f1⟩
 ·rintro w' ⟨ho,R,hR,hBu⟩
  refine⟨R,hR,?_⟩;have e0:w'.drew.cell? ⟨q,0,none⟩=some (.int .u32 0):=by rw[World.cell?_drew];exact ho.c0
  have e1:=World.cell?_setCell_same w'.drew ⟨q,0,none⟩ (.int .u32 1) e0;have hB2:kq R a b a1 a2 b1 b2 ((w'.drew.setCell ⟨q,0,none⟩ (.int .u32 1)).setCell ⟨q,0+1,none⟩ (.int .i32 0)):=
   ((hBu.below (Below.refl _ w').drew).setCell e0 _).setCell e1 _
  have hBel:ei (fun k=>k=q) w ((w'.drew.setCell ⟨q,0,none⟩ (.int .u32 1)).setCell ⟨q,0+1,none⟩ (.int .i32 0)):=
   qib (qib (qy0 (qy0 kb ho.bel) (zmg _ _)) 0 _) (0+1) _
  refine(zmt R a b a1 a2 b1 b2 s _ hab hs hB2).mono ?_;rintro e w2 ⟨rfl,hb2⟩
  exact⟨_,rfl,rfl,qy0 hBel (qyz hb2)⟩
end Go.Proofs.Repl
namespace Go.Sym
open Go.Proofs Go.RowKit
variable[LC]
def zt6(a b a1 a2 b1 b2:UInt8)(s:Bs)(p2:Int)(hab:a≠b)(hs:s.length<=1000000) :
  dd Tryz.prog 127 [.ptr 0 0,.str s] [(0,.cells [.int .u32 0,.int .i32 0,.int .u32 p2,.val .nilIface,.own 1] 191),(1,.row .str [[a],[a1,a2],[b],[b1,b2]] 9)] (.str (ej a b [a1,a2] [b1,b2] s)) []:=by
 refine dd.gone fun w G vs hm hr => ?_
 match vs,hr with
 |[v1,v2],hr=>
 obtain⟨⟨q,hG,rfl⟩,r2,_⟩:=hr;have r2:v2 = .string ⟨s.toArray⟩:=r2;subst r2;obtain⟨B,cs,g1,g2,g3,g4,g5⟩:=hm.holds 0 _ rfl;rw[show G.box 0=some q from hG]at g1
 cases g1
 obtain⟨ad,c,us,o1,o2,o3,o4⟩:=(hm.holds 1 (.row .str [[a],[a1,a2],[b],[b1,b2]] 9) rfl).rowAt;obtain⟨u0,c0,x0⟩:=jy g3 (i:=0) rfl;obtain⟨u1,c1,x1⟩:=jy g3 (i:=1) rfl;obtain⟨u3,c3,x3⟩:=jy g3 (i:=3) rfl;obtain⟨u4,c4,x4⟩:=jy g3 (i:=4) rfl;have x0:u0 = .int .u32 0:=x0;have x1:u1 = .int .i32 0:=x1;obtain⟨ad',n',c',x5,x4⟩:=x4;rw[o1]at x5;cases x5
 subst x0 x1 x4;have k:∀{i:Nat}{v:Value},cs.toList[i]? = some v->w.cell? ⟨q,i,none⟩=some v:=fun{i v} h=>cell_of_heap g2 h
 obtain⟨ho1,ho2⟩:=o2;rcases ho2 with⟨_,h0,_⟩|⟨g,vr,fz,rfl,e1,_,e3,e4,e5,e6,_⟩
 ·cases h0
 ·have hus:us=[.string ⟨#[a]⟩,.string ⟨#[a1,a2]⟩,.string ⟨#[b]⟩,.string ⟨#[b1,b2]⟩]:=by
   match us,o3 with
   |[y0,y1,y2,y3],⟨z0,z1,z2,z3,_⟩=>
    have z0:y0 = .string ⟨#[a]⟩:=z0;have z1:y1 = .string ⟨#[a1,a2]⟩:=z1;have z2:y2 = .string ⟨#[b]⟩:=z2;have z3:y3 = .string ⟨#[b1,b2]⟩:=z3;rw[z0,z1,z2,z3]
  have kr:∀{i:Nat}{v:Value},us[i]? = some v->w.cell? ⟨g,i,none⟩=some v:=fun{i v} h=>by
   rw[← e6,List.getElem?_take]at h;split at h
   ·exact cell_of_heap e1 h
   ·cases h
  subst hus;refine(Go.Proofs.Repl.replS q g c u3 a b a1 a2 b1 b2 ⟨s.toArray⟩ w hab (by rw[sc];exact hs) (k c0) (k c1) (fun j=>by simp[World.frozen?,g2]) (k c3) (k c4) (kr (i:=0) rfl) (kr (i:=1) rfl) (kr (i:=2) rfl) (kr (i:=3) rfl)).mono ?_
  rintro e w' ⟨v,rfl,rfl,hb⟩
  refine⟨_,rfl,rfl,⟨hb.os,hb.tape,hb.output,hb.size,fun k hk hn=>hb.block k hk (fun e=>hn ?_)⟩⟩
  subst e;exact⟨0,_,rfl,hG⟩
def zei:IF:=⟨.fn 127,[.ptr 0 0,.h .str],[(0,.cells [.h (.int .u32),.h (.int .i32),.h (.int .u32),.c .nilIface,.own 1] 191),(1,.row .str 9)],_,RS.mk (.h .str) []⟩
def zt7:(zei.e u6).Sound Tryz.prog:=fun d d' r h=>by
 obtain⟨_,s,_⟩:=d;obtain⟨⟨p0,p1,p2,_,_,_⟩,on,_⟩:=d';have h:u6 s p0 p1 p2 on=some r:=h;obtain⟨a,a1,a2,b,b1,b2,rfl,rfl,rfl,hab,hs,rfl⟩:=zua h;exact⟨Tryz.call127,zt6 a b a1 a2 b1 b2 s p2 hab hs⟩
end Go.Sym
namespace Go.Sym
noncomputable section
open Go.Proofs
set_option linter.unusedVariables false
set_option maxRecDepth 100000
set_option maxHeartbeats 2000000
open Tryz
abbrev wT : Ty := .tree (.prod (.list (.prod .str .str)) (.list .byte))
abbrev wL : Ty := .list (.prod .str .str)
abbrev wP : Ty := .prod .str .str
abbrev wH : Pt := .h (.int .i64)
abbrev wI : Ty := .int .i64
abbrev wB : Ty := .list .byte
abbrev wN : Pt := .c .nilS
abbrev wS : Pt := .h .str
abbrev wG : Program := Tryz.prog
section
variable(fu:Nat)
def qz9:Nat->Option ((τ:Ty)×List τ.den)|1=>some ⟨.byte,qqw⟩|2=>some ⟨.prod .byte .byte,qqx⟩|3=>some ⟨.int .u64,zwf⟩|_=>none
def zqu:Nat->Option (Code×Code)|0=>some (lh 0 (sub (ql f10) [0,1,0,1,1]),lh 1 (sub (ql f10) [0,1,0,1,1]))|1=>some (lh 0 (sub (ql f10) [0,1,0,1,1,1,1]),lh 1 (sub (ql f10) [0,1,0,1,1,1,1]))|2=>some (lh 0 (sub (ql f84) [0,1,0,1,1,1]),lh 1 (sub (ql f84) [0,1,0,1,1,1]))|3=>some (lh 0 (sub (ql f96) [0,1,0,1]),lh 1 (sub (ql f96) [0,1,0,1]))|_=>none
instance:LC:=⟨zqu,qz9,[0],[6,7],[(1,256),(2,32),(3,20)]⟩
def Fx.fi{P:Program}{i:IF}(x:Fx P i)(f:i.T)(l:List (SL x))(hp:ta P x.f)(hk:i.key = .fn x.f:=by exact rfl)(hb:x.fn.body=some x.body:=by exact rfl)(hfine:qpb x.cx i.args i.hp=true:=by kernel_rfl)(h:∀d d',q2b x.cx x.body i.out (SL.qs l) i.args i.hp (Pts.put i.args d) (ck i.hp d')=app f (Pts.pk i.args d (gp i.hp d' pf)):=by intro d d';kernel_rfl):EI P i:=x.fin f l hp hk hb hfine h
def Fx.jm{P:Program}{i:IF}{x:Fx P i}{k:Nat}(f:(kl k x.ls).T i.R)(l:List (SL x))(h:∀d,run x.cx i.out (SL.qs l) 1000000 false (mq x.body (kl k x.ls).1) ((kl k x.ls).2.st d)=app f (mp (kl k x.ls).2.fr d.1 (gp (kl k x.ls).2.hp d.2 ())):=by intro d;kernel_rfl):PL x k:=Fx.jn f l h
def Fx.lq{P:Program}{i:IF}{x:Fx P i}{k:Nat}(g:Nat->(kl k x.ls).T i.R)(b:(kl k x.ls).T i.R->(kl k x.ls).T i.R)(l:PL x k->List (SL x))(h0:∀d:(kl k x.ls).2.den,app (g 0) (mp (kl k x.ls).2.fr d.1 (gp (kl k x.ls).2.hp d.2 ()))=none:=by intro _;exact rfl)(hg:∀n,g (n+1)=b (g n):=by intro _;exact rfl)(h:∀r d,run x.cx i.out (SL.qs (l r)) 1000000 false (mq x.body (kl k x.ls).1) ((kl k x.ls).2.st d)=app (b r.f) (mp (kl k x.ls).2.fr d.1 (gp (kl k x.ls).2.hp d.2 ())):=by intro _ d;kernel_rfl)(n:Nat):PL x k:=Fx.lp g b h0 hg l h n
def zkt:wG.follows .mixedOrders=true:=by kernel_rfl
def etys:List (Nat×Ty):=[(3,.int .i64),(5,.byte),(9,.str),(23,.list .byte),(26,.tree (.prod wL wB)),(50,.prod .str .str),(86,.prod .str .str),(149,.prod .str (.prod .str (.prod wI .bool))),(209,.prod .str (.prod wI (.prod .bool .str)))]
abbrev fx{i:IF}:=@Fx.mk inferInstance wG i etys zkt
def zj8:(qul 176 uu).Sound wG:=zj7 func176 (by kernel_rfl) (by kernel_rfl) (by kernel_rfl) (by kernel_rfl)
def zj6:(quk 237 uu).Sound wG:=zj5 func237 (by kernel_rfl) (by kernel_rfl) (by kernel_rfl) (by kernel_rfl)
def x0i:IF:=⟨.fn 22,[],[],_,RS.mk (.h wT) []⟩
def x0:Fx wG x0i:=fx f22 22 func22 [] false [] ao []
def x0s:=x0.fi quc [] call22
def x1i:IF:=⟨.fn 23,[.h wT],[],_,RS.mk (.fn 49 [.ptr 0 0]) [(0,.dat wT 26)]⟩
def x1:Fx wG x1i:=fx f23 23 func23 [] false [] ao []
def x1s:=x1.fi qmp [] call23
def x2i:IF:=⟨.fn 24,[wH,wH],[],_,RS.mk (.h (.prod wI wI)) []⟩
def x2:Fx wG x2i:=fx f24 24 func24 [] false [] ao []
def kp:=x2.fi da [] call24
def x3i:IF:=⟨.yld 0,[wH,.agg [.h wL,.h wB,.h (.list wT),wH]],[(0,.loop .ready none 10 36 [(2,.ptr 1 0),(3,.ptr 2 0)] [11,12] 0 3),(1,.dat (.prod wI wI) 30),(2,.cells [.h .bool] 4),(3,.dfr)],_,.two (RS.mk (.c (.bool false)) [(0,.loop .done (some .ret) 10 36 [(2,.ptr 1 0),(3,.ptr 2 0)] [11,12] 0 3),(1,.dat (.prod wI wI) 30),(2,.cells [.h .bool] 4),(3,.dfr)]) (RS.mk (.c (.bool true)) [(0,.loop .ready none 10 36 [(2,.ptr 1 0),(3,.ptr 2 0)] [11,12] 0 3),(1,.dat (.prod wI wI) 30),(2,.cells [.h .bool] 4),(3,.dfr)])⟩
def x3:Fx wG x3i:=fx f10 10 func10 [kp.p] false [([0,1,0,1,1],0)] (wk rfl ao) []
def x3s:EI wG x3i:=x3.fiy qvp [] 0 rfl [0,1,0,1,1] (by kernel_rfl) (by kernel_rfl) fun d d'=>by kernel_rfl
def x4i:IF:=⟨.fn 50,[.h wT,wH,.ptr 0 0,.ptr 1 0,.ptr 2 0],[(0,.cells [.yld 3] 92),(1,.cells [wH] 3),(2,.cells [.fn 50 [.ptr 0 0,.ptr 1 0,.ptr 2 0]] 93),(3,.loop .ready none 10 36 [(2,.ptr 4 0),(3,.ptr 5 0)] [11,12] 0 6),(4,.dat (.prod wI wI) 30),(5,.cells [.h .bool] 4),(6,.dfr)],_,.two (RS.mk (.c (.bool false)) [(0,.cells [.yld 3] 92),(1,.cells [wH] 3),(2,.cells [.fn 50 [.ptr 0 0,.ptr 1 0,.ptr 2 0]] 93),(3,.loop .done (some .ret) 10 36 [(2,.ptr 4 0),(3,.ptr 5 0)] [11,12] 0 6),(4,.dat (.prod wI wI) 30),(5,.cells [.h .bool] 4),(6,.dfr)]) (RS.mk (.c (.bool true)) [(0,.cells [.yld 3] 92),(1,.cells [wH] 3),(2,.cells [.fn 50 [.ptr 0 0,.ptr 1 0,.ptr 2 0]] 93),(3,.loop .ready none 10 36 [(2,.ptr 4 0),(3,.ptr 5 0)] [11,12] 0 6),(4,.dat (.prod wI wI) 30),(5,.cells [.h .bool] 4),(6,.dfr)])⟩
def x4(s8:EI wG x4i)(fu:Nat):Fx wG x4i:=fx f50 50 func50 [x3s.p,s8.p] false [] ao [(ai [(0,488),(0,489),(2,122),(1,61),(0,31)],⟨33,[(1,wH),(4,.ptr 2 0),(20,.h (.list wT)),(21,wH),(22,wH)],[(0,.cells [.yld 3] 92),(1,.cells [wH] 3),(2,.cells [.fn 50 [.ptr 0 0,.ptr 1 0,.ptr 2 0]] 93),(3,.loop .ready none 10 36 [(2,.ptr 4 0),(3,.ptr 5 0)] [11,12] 0 6),(4,.dat (.prod wI wI) 30),(5,.cells [.h .bool] 4),(6,.dfr)],64,[]⟩)]
def vd7(s8:EI wG x4i)(fu:Nat):Nat->(x4 s8 fu).L 0:=Fx.lq (qg8 s8.f fu) (qvt s8.f fu) (fun r0=>[r0.s])
def x4k(s8:EI wG x4i)(fu:Nat):EI wG x4i:=(x4 s8 fu).fi (qmr s8.f fu) [(vd7 s8 fu fu).s] call50
def x4s:EI wG x4i := .rc (qbt fu) (fun r=>qmr r fu) (fun _ _=>rfl) (fun _=>rfl) (fun s8=>x4k s8 fu) (fun _=>rfl) fu
def x5i:IF:=⟨.fn 49,[.yld 0,.ptr 1 0],[(0,.loop .ready none 10 36 [(2,.ptr 2 0),(3,.ptr 3 0)] [11,12] 0 4),(1,.dat wT 26),(2,.dat (.prod wI wI) 30),(3,.cells [.h .bool] 4),(4,.dfr)],_,.two (RS.mk (.tup []) [(0,.loop .done (some .ret) 10 36 [(2,.ptr 2 0),(3,.ptr 3 0)] [11,12] 0 4),(1,.dat wT 26),(2,.dat (.prod wI wI) 30),(3,.cells [.h .bool] 4),(4,.dfr)]) (RS.mk (.tup []) [(0,.loop .ready none 10 36 [(2,.ptr 2 0),(3,.ptr 3 0)] [11,12] 0 4),(1,.dat wT 26),(2,.dat (.prod wI wI) 30),(3,.cells [.h .bool] 4),(4,.dfr)])⟩
def x5:Fx wG x5i:=fx f49 49 func49 [(x4s fu).p] false [] ao []
def x5s:=(x5 fu).fi (qmq fu) [] call49
def x6i:IF:=⟨.fn 145,[.h .byte],[],_,RS.mk (.h .bool) []⟩
def x6:Fx wG x6i:=fx f145 145 func145 [] false [] ao []
def x6s:=x6.fi ql4 [] call145
def x7i:IF:=⟨.fn 117,[wS,.fn 145 []],[],_,RS.mk (.h .bool) []⟩
def x7(fu:Nat):Fx wG x7i:=fx f117 117 func117 [x6s.p] false [] ao [(ai [(0,104),(0,105),(2,26),(1,13),(0,7)],⟨18,[(0,wS),(1,.fn 145 []),(7,wH),(8,wH)],[],64,[]⟩)]
def vhn:Nat->(x7 fu).L 0:=Fx.lq (qf7 fu) (quf fu) (fun r0=>[r0.s])
def x7s:=(x7 fu).fi (que fu) [(vhn fu fu).s] call117
def x8i:IF:=⟨.fn 113,[wS],[],_,RS.mk (.h .bool) []⟩
def x8:Fx wG x8i:=fx f113 113 func113 [(x7s fu).p] false [] ao []
def x8s:=(x8 fu).fi (ql3 fu) [] call113
def x9i:IF:=⟨.fn 225,[wH],[],_,RS.mk (.h .bool) []⟩
def x9:Fx wG x9i:=fx f225 225 func225 [] false [] ao []
def x9s:=x9.fi qxd [] call225
def zyw:IF:=⟨.fn 155,[wS],[],_,RS.mk (.tup [.arr .bool,.h .bool]) []⟩
def x10(fu:Nat):Fx wG zyw:=fx f155 155 func155 [] false [] ao [(ai [(0,208),(0,209),(0,105),(2,26),(1,13),(0,7)],⟨21,[(0,wS),(2,.el 32 1),(4,wH)],[(32,.row .bool 194)],64,[]⟩)]
def zyx:Nat->(x10 fu).L 0:=Fx.lq (qxc fu) (q7o fu) (fun r0=>[r0.s])
def qrc:=(x10 fu).fi (qb0 fu) [(zyx fu fu).s] call155
def zzq:IF:=⟨.fn 216,[wS,.h .byte],[],_,RS.mk (wH) []⟩
def x11:Fx wG zzq:=fx f216 216 func216 [⟨quk 237 uu,zj6⟩] false [] ao []
def zhc:=x11.fi quz [] call216
def z0j:IF:=⟨.fn 191,[wS,.h .byte],[],_,RS.mk (wH) []⟩
def x12:Fx wG z0j:=fx f191 191 func191 [zhc.p] false [] ao []
def zhi:=x12.fi qhn [] call191
def z1s:IF:=⟨.fn 228,[.h (.int .i32)],[],_,RS.mk (.h .bool) []⟩
def x13:Fx wG z1s:=fx f228 228 func228 [] false [] ao []
def z1t:=x13.fi qnh [] call228
def z2n:IF:=⟨.fn 203,[wS,.h (.int .i32)],[],_,RS.mk (wH) []⟩
def p8(fu:Nat):Fx wG z2n:=fx f203 203 func203 [zhi.p,z1t.p] false [] ao [(ai [(0,3528),(0,3529),(2,882),(1,441),(0,221),(1,3)],⟨187,[(175,.ptr 32 0)],[(32,.it)],64,[]⟩),(ai [(0,117301840),(0,117301841),(0,58650921),(2,14662730),(1,7331365),(0,3665683),(3,458210),(1,229105),(2,57276),(1,28638),(0,28639),(3,447),(1,3)],⟨187,[(0,wS),(7,wS),(8,wH),(9,wH),(12,wH)],[],64,[]⟩),(ai [(0,7331364),(0,7331365),(0,3665683),(3,458210),(1,229105),(2,57276),(1,28638),(0,28639),(3,447),(1,3)],⟨187,[(0,wS),(7,wS),(8,wH),(9,wH)],[],64,[]⟩),(ai [(0,458208),(0,458209),(0,229105),(2,57276),(1,28638),(0,28639),(3,447),(1,3)],⟨187,[(0,wS),(7,wS),(8,wH),(9,wH)],[],64,[]⟩),(ai [(0,13),(1,3)],⟨187,[(0,wS),(1,.h (.int .i32)),(160,.h .bool)],[],64,[]⟩)]
def z2p:Nat->(p8 fu).L 0:=Fx.lq (qhp fu) (qwr fu) (fun r1=>[r1.s])
def z2s(r2:(p8 fu).L 3):Nat->(p8 fu).L 1:=Fx.lq (qwu fu r2.f) (q7c fu r2.f) (fun r4=>[r4.s])
def z2r(r2:(p8 fu).L 3):(p8 fu).L 2:=Fx.jm (qwt fu r2.f) [(z2s fu r2 fu).s]
def z2q:Nat->(p8 fu).L 3:=Fx.lq (qm7 fu) (qws fu) (fun r2=>[(z2r fu r2).s])
def z2o:(p8 fu).L 4:=Fx.jm (qho fu) [(z2p fu fu).s,(z2q fu fu).s]
def zhv:=(p8 fu).fi (u7 fu) [(z2o fu).s] call203
def z33:IF:=⟨.fn 179,[.el 0 1,.h .byte],[(0,.row .bool 194)],_,RS.mk (.h .bool) [(0,.row .bool 194)]⟩
def x15:Fx wG z33:=fx f179 179 func179 [] false [] ao []
def q4a:=x15.fi qbz [] call179
def z5g:IF:=⟨.fn 200,[wS,wS],[],_,RS.mk (wH) []⟩
def x16:Fx wG z5g:=fx f200 200 func200 [x9s.p,(qrc fu).p,(zhv fu).p,q4a.p] false [] ao [(ai [(0,470),(0,471),(0,15)],⟨55,[(0,wS),(5,.h (.int .i32))],[],64,[]⟩),(ai [(0,62864),(0,62865),(0,31433),(2,7858),(1,3929),(0,1965),(0,31)],⟨55,[(0,wS),(6,.el 32 1),(8,wH)],[(32,.row .bool 194)],64,[]⟩),(ai [(0,1000),(0,1001),(2,250),(1,125),(0,63)],⟨55,[(1,wS),(45,.ptr 32 0)],[(32,.it)],64,[]⟩),(ai [(0,124),(0,125),(0,63)],⟨55,[(0,wS),(1,wS)],[],64,[]⟩)]
def z5h:(x16 fu).L 0:=Fx.jm (qwq fu) []
def z5i:Nat->(x16 fu).L 1:=Fx.lq (qhl fu) (qwo fu) (fun r1=>[r1.s])
def z5k:Nat->(x16 fu).L 2:=Fx.lq (qhm fu) (qwp fu) (fun r3=>[r3.s])
def z5j:(x16 fu).L 3:=Fx.jm (qm6 fu) [(z5k fu fu).s]
def z5l:=(x16 fu).fi (qm5 fu) [(z5h fu).s,(z5i fu fu).s,(z5j fu).s] call200
def z8c:IF:=⟨.fn 175,[wS,wS],[],_,RS.mk (.h .bool) []⟩
def x17:Fx wG z8c:=fx f175 175 func175 [(z5l fu).p] false [] ao []
def z8d:=(x17 fu).fi (qm0 fu) [] call175
def z92:IF:=⟨.fn 146,[wS],[],_,RS.mk (.h .bool) []⟩
def x18:Fx wG z92:=fx f146 146 func146 [(z8d fu).p] false [] ao []
def z93:=(x18 fu).fi (qup fu) [] call146
def vak:IF:=⟨.fn 123,[.h .byte],[],_,RS.mk (.h .bool) []⟩
def x19:Fx wG vak:=fx f123 123 func123 [] false [] ao []
def q4y:=x19.fi ut [] call123
def va2:IF:=⟨.fn 114,[wS],[],_,RS.mk (.h .bool) []⟩
def x20:Fx wG va2:=fx f114 114 func114 [(z93 fu).p,q4y.p] false [] ao []
def va3:=(x20 fu).fi (ql7 fu) [] call114
def va4:IF:=⟨.fn 115,[wS,wH],[],_,RS.mk (wH) []⟩
def x21(fu:Nat):Fx wG va4:=fx f115 115 func115 [q4y.p] false [] ao [(ai [(0,3729),(0,1865),(1,466),(0,467),(2,58),(1,29),(0,15)],⟨35,[(0,wS),(5,wH),(6,wH),(26,.h .bool)],[],64,[]⟩),(ai [(0,464),(0,465),(0,233),(2,58),(1,29),(0,15)],⟨35,[(0,wS),(5,wH),(6,wH)],[],64,[]⟩)]
def va6(r0:(x21 fu).L 1):(x21 fu).L 0:=Fx.jm (ql6 fu r0.f) [r0.s]
def va5:Nat->(x21 fu).L 1:=Fx.lq (qgg fu) (quq fu) (fun r0=>[(va6 fu r0).s])
def va7:=(x21 fu).fi (ql5 fu) [(va5 fu fu).s] call115
def vba:IF:=⟨.fn 26,[],[],_,RS.mk (.h (.prod wI wI)) []⟩
def x22:Fx wG vba:=fx f26 26 func26 [] false [] ao []
def oh:=x22.fi ig [] call26
def vbb:IF:=⟨.fn 80,[wS,wS],[],_,RS.mk (.tup [.own 0,.h (.prod wI wI)]) [(0,.row .str 9)]⟩
def x23:Fx wG vbb:=fx f80 80 func80 [(x8s fu).p,kp.p,(va3 fu).p,(va7 fu).p,oh.p] false [] ao [(ai [(0,4072),(0,4073),(2,1018),(1,509),(0,255)],⟨70,[(5,.ptr 32 0),(8,.own 33),(55,.own 33),(56,wH),(57,wH)],[(32,.dat (.prod wI wI) 30),(33,.row .str 9)],64,[]⟩),(ai [(0,126),(0,127)],⟨70,[(5,.ptr 32 0),(6,wS),(8,.own 33)],[(32,.dat (.prod wI wI) 30),(33,.row .str 9)],64,[]⟩),(ai [(0,992),(0,993),(0,497),(2,124),(1,62),(0,63)],⟨70,[(5,.ptr 32 0),(6,wS),(7,wH),(8,.own 33)],[(32,.dat (.prod wI wI) 30),(33,.row .str 9)],64,[]⟩)]
def vbe:Nat->(x23 fu).L 0:=Fx.lq (qgf fu) (qun fu) (fun r2=>[r2.s])
def vbd:(x23 fu).L 1:=Fx.jm (qge fu) [(vbe fu fu).s]
def vbc:Nat->(x23 fu).L 2:=Fx.lq (qgd fu) (qum fu) (fun r0=>[(vbd fu).s,r0.s])
def qrz:=(x23 fu).fi (xu fu) [(vbc fu fu).s] call80
def vbh:IF:=⟨.fn 29,[.h (.prod wI wI)],[],_,RS.mk (.h .bool) []⟩
def x24:Fx wG vbh:=fx f29 29 func29 [] false [] ao []
def ma:=x24.fi e7 [] call29
def vbi:IF:=⟨.fn 51,[.h wL],[],_,RS.mk (.h (.prod wI wI)) []⟩
def x25:Fx wG vbi:=fx f51 51 func51 [kp.p,(qrz fu).p,ma.p,oh.p] false [] ao [(ai [(0,232),(0,233),(2,58),(1,29),(0,15)],⟨34,[(2,.ptr 32 0),(11,.h wL),(12,wH),(13,wH)],[(32,.dat (.prod wI wI) 30)],64,[]⟩)]
def vbj:Nat->(x25 fu).L 0:=Fx.lq (qgi fu) (quv fu) (fun r0=>[r0.s])
def ziu:=(x25 fu).fi (qgh fu) [(vbj fu fu).s] call51
def vbk:IF:=⟨.fn 116,[wS],[],_,RS.mk (wS) []⟩
def x26(fu:Nat):Fx wG vbk:=fx f116 116 func116 [] false [] ao [(ai [(0,232),(0,233),(2,58),(1,29),(0,15)],⟨30,[(3,.own 32),(8,.own 32),(9,wH),(10,wH)],[(32,.row .byte 5)],64,[]⟩)]
def vbl:Nat->(x26 fu).L 0:=Fx.lq (qbh fu) (ql2 fu) (fun r0=>[r0.s])
def vbm:=(x26 fu).fi (qgb fu) [(vbl fu fu).s] call116
def vbo:IF:=⟨.fn 81,[wS,wS],[],_,RS.mk (.h .bool) []⟩
def x27:Fx wG vbo:=fx f81 81 func81 [(vbm fu).p] false [] ao []
def wz:=(x27 fu).fi (kv fu) [] call81
def vbp:IF:=⟨.fn 153,[wS,.h .byte],[],_,RS.mk (wS) []⟩
def x28(fu:Nat):Fx wG vbp:=fx f153 153 func153 [] false [] ao [(ai [(0,96),(0,97),(0,49),(2,12),(1,6),(0,7)],⟨17,[(0,wS),(1,.h .byte)],[],64,[]⟩)]
def vbq:Nat->(x28 fu).L 0:=Fx.lq (qxg fu) (q7p fu) (fun r0=>[r0.s])
def zix:=(x28 fu).fi (qxf fu) [(vbq fu fu).s] call153
def vbr:IF:=⟨.fn 156,[wS,.el 0 1],[(0,.row .bool 194)],_,RS.mk (wS) [(0,.row .bool 194)]⟩
def x29(fu:Nat):Fx wG vbr:=fx f156 156 func156 [q4a.p] false [] ao [(ai [(0,96),(0,97),(0,49),(2,12),(1,6),(0,7)],⟨16,[(0,wS),(1,.el 0 1)],[(0,.row .bool 194)],64,[]⟩)]
def vbs:Nat->(x29 fu).L 0:=Fx.lq (qhr fu) (qxe fu) (fun r0=>[r0.s])
def ziz:=(x29 fu).fi (qnf fu) [(vbs fu fu).s] call156
def vbu:IF:=⟨.fn 202,[wS],[],_,RS.mk (.tup [.h (.int .i32),wH]) []⟩
def x30:Fx wG vbu:=fx f202 202 func202 [] false [] ao [(ai [(0,524286),(0,524287)],⟨117,[(5,.h .byte),(10,.h .byte),(11,.h .byte),(12,.h .byte)],[],64,[]⟩),(ai [(0,524285),(0,262143)],⟨117,[(5,.h .byte),(10,.h .byte),(11,.h .byte),(12,.h .byte),(98,.h .bool)],[],64,[]⟩),(ai [(0,131068),(0,131069),(0,65535)],⟨117,[(0,wS),(5,.h .byte),(8,wH),(10,.h .byte),(11,.h .byte)],[],64,[]⟩),(ai [(0,65533),(0,32767)],⟨117,[(0,wS),(5,.h .byte),(8,wH),(10,.h .byte),(11,.h .byte),(75,.h .bool)],[],64,[]⟩),(ai [(0,16380),(0,16381),(0,8191)],⟨117,[(0,wS),(5,.h .byte),(8,wH),(10,.h .byte)],[],64,[]⟩),(ai [(0,8189),(0,4095)],⟨117,[(0,wS),(5,.h .byte),(8,wH),(10,.h .byte),(57,.h .bool)],[],64,[]⟩)]
def vb0:x30.L 0:=Fx.jn q7y [] fun d=>by kernel_rfl
def vbz:x30.L 1:=Fx.jn qxv [(vb0).s] fun d=>by kernel_rfl
def vby:x30.L 2:=Fx.jn q7x [(vbz).s] fun d=>by kernel_rfl
def vbx:x30.L 3:=Fx.jn qxu [(vby).s] fun d=>by kernel_rfl
def vbw:x30.L 4:=Fx.jn q7w [(vbx).s] fun d=>by kernel_rfl
def vbv:x30.L 5:=Fx.jn qxt [(vbw).s] fun d=>by kernel_rfl
def vb1:=x30.fi qxs [(vbv).s] call202
def vb9:IF:=⟨.fn 180,[wS],[],_,RS.mk (.tup [.h (.int .i32),wH]) []⟩
def x31:Fx wG vb9:=fx f180 180 func180 [vb1.p] false [] ao []
def zi0:=x31.fi qxr [] call180
def vcb:IF:=⟨.fn 181,[wS,.h (.int .i32)],[],_,RS.mk (.h .bool) []⟩
def x32:Fx wG vcb:=fx f181 181 func181 [(zhv fu).p] false [] ao []
def zi1:=(x32 fu).fi (qm1 fu) [] call181
def vcc:IF:=⟨.fn 158,[wS,wS],[],_,RS.mk (wS) []⟩
def x33:Fx wG vcc:=fx f158 158 func158 [zi0.p,(zi1 fu).p] false [] ao [(ai [(0,96),(0,97),(0,49),(2,12),(1,6),(0,7)],⟨23,[(0,wS),(1,wS)],[],64,[]⟩)]
def vcd:Nat->(x33 fu).L 0:=Fx.lq (qxi fu) (q7q fu) (fun r0=>[r0.s])
def zi3:=(x33 fu).fi (qxh fu) [(vcd fu fu).s] call158
def vce:IF:=⟨.fn 196,[wS,wS],[],_,RS.mk (wS) []⟩
def x34:Fx wG vce:=fx f196 196 func196 [(zix fu).p,(qrc fu).p,(ziz fu).p,(zi3 fu).p] false [] ao [(ai [(0,60),(0,61),(0,31)],⟨37,[(0,wS),(1,wS)],[],64,[]⟩),(ai [(0,29),(0,15)],⟨37,[(0,wS),(1,wS),(21,.h .bool)],[],64,[]⟩),(ai [(0,28),(0,29),(0,15)],⟨37,[(0,wS),(1,wS)],[],64,[]⟩),(ai [(0,13),(0,7)],⟨37,[(0,wS),(1,wS),(12,.h .bool)],[],64,[]⟩)]
def vci:(x34 fu).L 0:=Fx.jm (qw4 fu) []
def vch:(x34 fu).L 1:=Fx.jm (qnb fu) [(vci fu).s]
def vcg:(x34 fu).L 2:=Fx.jm (qw3 fu) [(vch fu).s]
def vcf:(x34 fu).L 3:=Fx.jm (qna fu) [(vcg fu).s]
def vcj:=(x34 fu).fi (qm9 fu) [(vcf fu).s] call196
def vcp:IF:=⟨.fn 171,[.ptr 0 0],[(0,.cells [wS] 205)],_,RS.mk (.tup []) [(0,.cells [wS] 205)]⟩
def x35:Fx wG vcp:=fx f171 171 func171 [(vcj fu).p] false [] ao []
def qkn:=(x35 fu).fi (uy fu) [] call171
def vcr:IF:=⟨.fn 168,[.h .byte],[],_,RS.mk (.h .bool) []⟩
def x36:Fx wG vcr:=fx f168 168 func168 [zhi.p] false [] ao []
def qko:=x36.fi ot [] call168
def vcs:IF:=⟨.fn 167,[.ptr 0 0,.fn 168 []],[(0,.cells [wS] 205)],_,RS.mk (wS) [(0,.cells [wS] 205)]⟩
def x37:Fx wG vcs:=fx f167 167 func167 [(qkn fu).p,qko.p] false [] ao [(ai [(0,482),(1,241),(2,60),(1,30),(0,31)],⟨44,[(0,.ptr 0 0),(1,.fn 168 []),(5,wH)],[(0,.cells [wS] 205)],64,[]⟩),(ai [(0,481),(0,241),(2,60),(1,30),(0,31)],⟨44,[(0,.ptr 0 0),(1,.fn 168 []),(5,wH),(25,.h .bool)],[(0,.cells [wS] 205)],64,[]⟩),(ai [(0,480),(0,481),(0,241),(2,60),(1,30),(0,31)],⟨44,[(0,.ptr 0 0),(1,.fn 168 []),(5,wH)],[(0,.cells [wS] 205)],64,[]⟩)]
def vcv(r0:(x37 fu).L 2):(x37 fu).L 0:=Fx.jm (q6q fu r0.f) [r0.s]
def vcu(r0:(x37 fu).L 2):(x37 fu).L 1:=Fx.jm (qve fu r0.f) [(vcv fu r0).s]
def vct:Nat->(x37 fu).L 2:=Fx.lq (qg0 fu) (q6p fu) (fun r0=>[(vcu fu r0).s])
def vcw:=(x37 fu).fi (qgz fu) [(vct fu fu).s] call167
def vc0:IF:=⟨.fn 169,[.ptr 0 0,.h .byte],[(0,.cells [wS] 205)],_,RS.mk (.h .bool) [(0,.cells [wS] 205)]⟩
def x38:Fx wG vc0:=fx f169 169 func169 [(qkn fu).p] false [] ao []
def q5a:=(x38 fu).fi (xw fu) [] call169
def vc2:IF:=⟨.fn 192,[.h .byte],[],_,RS.mk (.h .bool) []⟩
def x39:Fx wG vc2:=fx f192 192 func192 [qko.p] false [] ao []
def vc3:=x39.fi qgy [] call192
def vc5:IF:=⟨.fn 167,[.ptr 0 0,.fn 192 []],[(0,.cells [wS] 205)],_,RS.mk (wS) [(0,.cells [wS] 205)]⟩
def x40:Fx wG vc5:=fx f167 167 func167 [(qkn fu).p,vc3.p] false [] ao [(ai [(0,482),(1,241),(2,60),(1,30),(0,31)],⟨44,[(0,.ptr 0 0),(1,.fn 192 []),(5,wH)],[(0,.cells [wS] 205)],64,[]⟩),(ai [(0,481),(0,241),(2,60),(1,30),(0,31)],⟨44,[(0,.ptr 0 0),(1,.fn 192 []),(5,wH),(25,.h .bool)],[(0,.cells [wS] 205)],64,[]⟩),(ai [(0,480),(0,481),(0,241),(2,60),(1,30),(0,31)],⟨44,[(0,.ptr 0 0),(1,.fn 192 []),(5,wH)],[(0,.cells [wS] 205)],64,[]⟩)]
def vc8(r0:(x40 fu).L 2):(x40 fu).L 0:=Fx.jm (q6s fu r0.f) [r0.s]
def vc7(r0:(x40 fu).L 2):(x40 fu).L 1:=Fx.jm (qvf fu r0.f) [(vc8 fu r0).s]
def vc6:Nat->(x40 fu).L 2:=Fx.lq (qg1 fu) (q6r fu) (fun r0=>[(vc7 fu r0).s])
def vc9:=(x40 fu).fi (qmg fu) [(vc6 fu fu).s] call167
def vdd:IF:=⟨.fn 217,[.h .byte],[],_,RS.mk (.h .bool) []⟩
def x41:Fx wG vdd:=fx f217 217 func217 [qko.p] false [] ao []
def vde:=x41.fi qg3 [] call217
def vdf:IF:=⟨.fn 167,[.ptr 0 0,.fn 217 []],[(0,.cells [wS] 205)],_,RS.mk (wS) [(0,.cells [wS] 205)]⟩
def x42:Fx wG vdf:=fx f167 167 func167 [(qkn fu).p,vde.p] false [] ao [(ai [(0,482),(1,241),(2,60),(1,30),(0,31)],⟨44,[(0,.ptr 0 0),(1,.fn 217 []),(5,wH)],[(0,.cells [wS] 205)],64,[]⟩),(ai [(0,481),(0,241),(2,60),(1,30),(0,31)],⟨44,[(0,.ptr 0 0),(1,.fn 217 []),(5,wH),(25,.h .bool)],[(0,.cells [wS] 205)],64,[]⟩),(ai [(0,480),(0,481),(0,241),(2,60),(1,30),(0,31)],⟨44,[(0,.ptr 0 0),(1,.fn 217 []),(5,wH)],[(0,.cells [wS] 205)],64,[]⟩)]
def vdi(r0:(x42 fu).L 2):(x42 fu).L 0:=Fx.jm (q6u fu r0.f) [r0.s]
def vdh(r0:(x42 fu).L 2):(x42 fu).L 1:=Fx.jm (qvg fu r0.f) [(vdi fu r0).s]
def vdg:Nat->(x42 fu).L 2:=Fx.lq (qg2 fu) (q6t fu) (fun r0=>[(vdh fu r0).s])
def vdj:=(x42 fu).fi (qmh fu) [(vdg fu fu).s] call167
def vdm:IF:=⟨.fn 193,[.ptr 0 0],[(0,.cells [wS] 205)],_,RS.mk (.tup [wS,.h .bool]) [(0,.cells [wS] 205)]⟩
def x43:Fx wG vdm:=fx f193 193 func193 [(q5a fu).p,(vdj fu).p] false [] ao [(ai [(0,976),(0,977),(0,489),(2,122),(1,61),(0,31)],⟨66,[(0,.ptr 0 0),(4,.own 32),(5,wH)],[(0,.cells [wS] 205),(32,.row .byte 5)],64,[]⟩)]
def vdn:Nat->(x43 fu).L 0:=Fx.lq (qg4 fu) (qvh fu) (fun r0=>[r0.s])
def vdo:=(x43 fu).fi (qmi fu) [(vdn fu fu).s] call193
def vdp:IF:=⟨.fn 201,[wS,wS],[],_,RS.mk (wH) []⟩
def x44:Fx wG vdp:=fx f201 201 func201 [zhc.p] false [] ao [(ai [(0,57),(1,14),(0,15)],⟨143,[(0,wS),(1,wS),(5,wH),(16,.h .bool)],[],64,[]⟩)]
def vdq:x44.L 0:=Fx.jn qma [] fun d=>by kernel_rfl
def vdr:=x44.fi ql9 [(vdq).s] call201
def vdu:IF:=⟨.fn 178,[wS,wS],[],_,RS.mk (.tup [wS,wS,.h .bool]) []⟩
def x45:Fx wG vdu:=fx f178 178 func178 [vdr.p] false [] ao []
def vdv:=x45.fi quw [] call178
def vdx:IF:=⟨.fn 151,[wS,wS],[],_,RS.mk (.tup [wS,wS,.h .bool]) []⟩
def x46:Fx wG vdx:=fx f151 151 func151 [vdv.p] false [] ao []
def zi7:=x46.fi qhk [] call151
def vdz:IF:=⟨.fn 147,[wS,wS],[],_,RS.mk (.h .bool) []⟩
def x47:Fx wG vdz:=fx f147 147 func147 [] false [] ao []
def zi8:=x47.fi qgj [] call147
def vd1:IF:=⟨.fn 218,[wS,wS],[],_,RS.mk (.tup [wS,.h .bool]) []⟩
def x48:Fx wG vd1:=fx f218 218 func218 [zi8.p] false [] ao []
def vd2:=x48.fi qux [] call218
def vd4:IF:=⟨.fn 194,[wS,wS],[],_,RS.mk (.tup [wS,.h .bool]) []⟩
def x49:Fx wG vd4:=fx f194 194 func194 [vd2.p] false [] ao []
def vd5:=x49.fi qm2 [] call194
def q1s:LC.glob 3=some ⟨.int .u64,Lib.pow10Tab⟩:=rfl
def q1t:(3,20)∈LC.sizes:=by decide
def vea:IF:=⟨.fn 170,[.ptr 0 0],[(0,.cells [wS] 205)],_,RS.mk (.tup [.h (.prod .str (.prod wI (.prod .bool .str))),.h .bool]) [(0,.cells [wS] 205)]⟩
def x50:Fx wG vea:=fx f170 170 func170 [(vc9 fu).p,(q5a fu).p,(vdo fu).p,zi7.p,vd5.p,⟨zc8.e xt,zr2 q1s q1t (by decide) (by decide)⟩] false [] ao []
def veb:=(x50 fu).fi (qmf fu) [] call170
def ved:IF:=⟨.fn 197,[.h (.prod .str (.prod wI (.prod .bool .str))),.ptr 0 0],[(0,.dat (.prod .str (.prod wI (.prod .bool .str))) 209)],_,RS.mk (.h .bool) [(0,.dat (.prod .str (.prod wI (.prod .bool .str))) 209)]⟩
def x51:Fx wG ved:=fx f197 197 func197 [(wz fu).p] false [] ao []
def zi9:=(x51 fu).fi (qgs fu) [] call197
def vee:IF:=⟨.fn 220,[.h (.list (.prod .str (.prod wI (.prod .bool .str)))),.fn 197 [.ptr 0 0]],[(0,.dat (.prod .str (.prod wI (.prod .bool .str))) 209)],_,RS.mk (wH) [(0,.dat (.prod .str (.prod wI (.prod .bool .str))) 209)]⟩
def x52:Fx wG vee:=fx f220 220 func220 [(zi9 fu).p] false [] ao [(ai [(0,104),(0,105),(2,26),(1,13),(0,7)],⟨19,[(0,.h (.list (.prod .str (.prod wI (.prod .bool .str))))),(1,.fn 197 [.ptr 0 0]),(7,wH),(8,wH)],[(0,.dat (.prod .str (.prod wI (.prod .bool .str))) 209)],64,[]⟩)]
def vef:Nat->(x52 fu).L 0:=Fx.lq (qhj fu) (qwn fu) (fun r0=>[r0.s])
def veg:=(x52 fu).fi (qwm fu) [(vef fu fu).s] call220
def vei:IF:=⟨.fn 198,[.h (.list (.prod .str (.prod wI (.prod .bool .str)))),.fn 197 [.ptr 0 0]],[(0,.dat (.prod .str (.prod wI (.prod .bool .str))) 209)],_,RS.mk (.h .bool) [(0,.dat (.prod .str (.prod wI (.prod .bool .str))) 209)]⟩
def x53:Fx wG vei:=fx f198 198 func198 [(veg fu).p] false [] ao []
def vej:=(x53 fu).fi (qmz fu) [] call198
def vek:IF:=⟨.fn 272,[.h .byte],[],_,RS.mk (.tup [.h .byte,.h .bool]) []⟩
def x55:Fx wG vek:=fx f272 272 func272 [] false [] ao [(ai [(0,103),(1,6),(0,7)],⟨33,[(0,.h .byte),(13,.h .bool)],[],64,[]⟩),(ai [(0,25),(1,6),(0,7)],⟨33,[(0,.h .byte),(4,.h .bool)],[],64,[]⟩)]
def vem:x55.L 0:=Fx.jn quj [] fun d=>by kernel_rfl
def vel:x55.L 1:=Fx.jn qui [(vem).s] fun d=>by kernel_rfl
def ven:=x55.fi qbg [(vel).s] call272
def ver:IF:=⟨.fn 242,[wS],[],_,RS.mk (.tup [.h .byte,.h .bool]) []⟩
def x56:Fx wG ver:=fx f242 242 func242 [ven.p] false [] ao []
def ves:=x56.fi qgc [] call242
def vet:IF:=⟨.fn 223,[.h (.prod .str (.prod wI (.prod .bool .str)))],[],_,RS.mk (wS) []⟩
def x57:Fx wG vet:=fx f223 223 func223 [(wz fu).p,ves.p] false [] ao [(ai [(0,4048),(0,4049),(0,2025),(2,506),(1,253),(0,127)],⟨62,[(3,wS),(4,.own 32),(5,wH)],[(32,.row .byte 5)],64,[]⟩),(ai [(0,62),(0,63)],⟨62,[(3,wS)],[],64,[]⟩),(ai [(0,61),(0,31)],⟨62,[(3,wS),(26,.h .bool)],[],64,[]⟩)]
def vew:Nat->(x57 fu).L 0:=Fx.lq (qgw fu) (qvc fu) (fun r2=>[r2.s])
def vev:(x57 fu).L 1:=Fx.jm (qbn fu) [(vew fu fu).s]
def veu:(x57 fu).L 2:=Fx.jm (ux fu) [(vev fu).s]
def vex:=(x57 fu).fi (qmd fu) [(veu fu).s] call223
def zaz:LC.glob 1=some ⟨.byte,qqw⟩:=rfl
def q8e:LC.glob 2=some ⟨.prod .byte .byte,qqx⟩:=rfl
def zay:qcn qqw=true:=by kernel_rfl
def q8d:qco qqx=true:=by kernel_rfl
def ve0:IF:=⟨.fn 199,[.own 0],[(0,.row (.prod .str (.prod wI (.prod .bool .str))) 209)],_,RS.mk (.tup [.h wP,.h .bool]) [(0,.dead)]⟩
def x58:Fx wG ve0:=fx f199 199 func199 [⟨zfq.e ye,zvz⟩,(vex fu).p,⟨zgc.e yf,zwx zaz q8e zay q8d⟩] true [] ao [(ai [(0,2024),(0,2025),(2,506),(1,253),(0,127)],⟨52,[(2,.ptr 32 0),(4,.ptr 33 0),(28,.own 34),(29,wH),(30,wH)],[(0,.dead),(32,.dat wP 86),(33,.dat wP 86),(34,.row (.prod .str (.prod wI (.prod .bool .str))) 209)],64,[]⟩)]
def ve1:Nat->(x58 fu).L 0:=Fx.lq (qgp fu) (qu5 fu) (fun r0=>[r0.s])
def ve2:=(x58 fu).fi (qgo fu) [(ve1 fu fu).s] call199
def ve3:IF:=⟨.fn 172,[.h (.list (.prod .str (.prod wI (.prod .bool .str))))],[],_,RS.mk (.tup [.own 0,.h .bool]) [(0,.row wP 86)]⟩
def x59:Fx wG ve3:=fx f172 172 func172 [(vej fu).p,(zi9 fu).p,(ve2 fu).p] false [] ao [(ai [(0,3827623),(2,239226),(1,119613),(0,59807),(1,934),(0,935),(2,58),(1,29),(0,15)],⟨56,[(0,.h (.list (.prod .str (.prod wI (.prod .bool .str))))),(4,.own 34),(6,.ptr 32 0),(7,.fn 197 [.ptr 32 0]),(8,.own 33),(13,.h (.list (.prod .str (.prod wI (.prod .bool .str))))),(14,wH),(15,wH),(26,.h (.list (.prod .str (.prod wI (.prod .bool .str))))),(27,wH),(28,wH)],[(32,.dat (.prod .str (.prod wI (.prod .bool .str))) 209),(33,.row (.prod .str (.prod wI (.prod .bool .str))) 209),(34,.row wP 86)],64,[]⟩),(ai [(0,956904),(0,956905),(2,239226),(1,119613),(0,59807),(1,934),(0,935),(2,58),(1,29),(0,15)],⟨56,[(0,.h (.list (.prod .str (.prod wI (.prod .bool .str))))),(4,.own 33),(6,.ptr 32 0),(7,.fn 197 [.ptr 32 0]),(8,.own 34),(13,.h (.list (.prod .str (.prod wI (.prod .bool .str))))),(14,wH),(15,wH),(26,.h (.list (.prod .str (.prod wI (.prod .bool .str))))),(27,wH),(28,wH)],[(32,.dat (.prod .str (.prod wI (.prod .bool .str))) 209),(33,.row wP 86),(34,.row (.prod .str (.prod wI (.prod .bool .str))) 209)],64,[]⟩),(ai [(0,232),(0,233),(2,58),(1,29),(0,15)],⟨56,[(0,.h (.list (.prod .str (.prod wI (.prod .bool .str))))),(4,.own 32),(13,.h (.list (.prod .str (.prod wI (.prod .bool .str))))),(14,wH),(15,wH)],[(32,.row wP 86)],64,[]⟩)]
def ve6(r0:(x59 fu).L 2)(r1:(x59 fu).L 1):(x59 fu).L 0:=Fx.jm (qgu fu r0.f r1.f) [r1.s]
def ve5(r0:(x59 fu).L 2):Nat->(x59 fu).L 1:=Fx.lq (qgt fu r0.f) (qu9 fu r0.f) (fun r1=>[(ve6 fu r0 r1).s,r0.s])
def ve4:Nat->(x59 fu).L 2:=Fx.lq (qbm fu) (qu8 fu) (fun r0=>[r0.s,(ve5 fu r0 fu).s])
def ve7:=(x59 fu).fi (qbl fu) [(ve4 fu fu).s] call172
def vfb:IF:=⟨.fn 133,[wS],[],_,.two (RS.mk (.tup [.agg [wS,wS,wN],.h .bool]) []) (RS.mk (.tup [.agg [wS,wS,.own 0],.h .bool]) [(0,.row wP 86)])⟩
def x60:Fx wG vfb:=fx f133 133 func133 [(vcw fu).p,(q5a fu).p,(veb fu).p,(qkn fu).p,(ve7 fu).p] false [] ao [(ai [(0,16352),(0,16353),(0,8177),(2,2044),(1,1022),(0,1023)],⟨66,[(2,.ptr 32 0),(4,.ptr 33 0),(5,.ptr 34 0),(7,.own 35)],[(32,.cells [wS,wS,wN] 83),(33,.cells [wS] 205),(34,.cells [wS,wS,wN] 83),(35,.row (.prod .str (.prod wI (.prod .bool .str))) 209)],64,[]⟩),(ai [(0,510),(0,511)],⟨66,[(2,.ptr 32 0),(4,.ptr 33 0),(5,.ptr 34 0)],[(32,.cells [wS,wS,wN] 83),(33,.cells [wS] 205),(34,.cells [wS,wS,wN] 83)],64,[]⟩),(ai [(0,509),(0,255)],⟨66,[(2,.ptr 32 0),(4,.ptr 33 0),(5,.ptr 34 0),(33,.h .bool)],[(32,.cells [wS,wS,wN] 83),(33,.cells [wS] 205),(34,.cells [wS,wS,wN] 83)],64,[]⟩)]
def vfe:Nat->(x60 fu).L 0:=Fx.lq (qgv fu) (qva fu) (fun r2=>[r2.s])
def vfd:(x60 fu).L 1:=Fx.jm (qvb fu) [(vfe fu fu).s]
def vfc:(x60 fu).L 2:=Fx.jm (uw fu) [(vfd fu).s]
def vff:=(x60 fu).fi (qmc fu) [(vfc fu).s] call133
def vfi:IF:=⟨.fn 117,[wS,.fn 168 []],[],_,RS.mk (.h .bool) []⟩
def x61(fu:Nat):Fx wG vfi:=fx f117 117 func117 [qko.p] false [] ao [(ai [(0,104),(0,105),(2,26),(1,13),(0,7)],⟨18,[(0,wS),(1,.fn 168 []),(7,wH),(8,wH)],[],64,[]⟩)]
def vfj:Nat->(x61 fu).L 0:=Fx.lq (qf8 fu) (q6a fu) (fun r0=>[r0.s])
def vfk:=(x61 fu).fi (qlz fu) [(vfj fu fu).s] call117
def vfm:IF:=⟨.fn 134,[wS],[],_,RS.mk (.h .bool) []⟩
def x62:Fx wG vfm:=fx f134 134 func134 [(vfk fu).p] false [] ao []
def zjd:=(x62 fu).fi (xx fu) [] call134
def vfo:IF:=⟨.fn 136,[.h wP,.ptr 0 0],[(0,.dat wP 86)],_,RS.mk (.h .bool) [(0,.dat wP 86)]⟩
def x63:Fx wG vfo:=fx f136 136 func136 [(wz fu).p] false [] ao []
def vfp:=(x63 fu).fi (qu2 fu) [] call136
def vfq:IF:=⟨.fn 121,[.h wL,.fn 136 [.ptr 0 0]],[(0,.dat wP 86)],_,RS.mk (wH) [(0,.dat wP 86)]⟩
def x64:Fx wG vfq:=fx f121 121 func121 [(vfp fu).p] false [] ao [(ai [(0,104),(0,105),(2,26),(1,13),(0,7)],⟨19,[(0,.h wL),(1,.fn 136 [.ptr 0 0]),(7,wH),(8,wH)],[(0,.dat wP 86)],64,[]⟩)]
def vfr:Nat->(x64 fu).L 0:=Fx.lq (qhh fu) (qwh fu) (fun r0=>[r0.s])
def vfs:=(x64 fu).fi (qwg fu) [(vfr fu fu).s] call121
def vfu:IF:=⟨.fn 135,[.h wL,.fn 136 [.ptr 0 0]],[(0,.dat wP 86)],_,RS.mk (.h .bool) [(0,.dat wP 86)]⟩
def x65:Fx wG vfu:=fx f135 135 func135 [(vfs fu).p] false [] ao []
def vfv:=(x65 fu).fi (qmy fu) [] call135
def vfw:IF:=⟨.fn 100,[.h (.prod .str (.prod .str wL))],[],_,RS.mk (.h (.prod wI wI)) []⟩
def x66:Fx wG vfw:=fx f100 100 func100 [(zjd fu).p,kp.p,oh.p,(vfv fu).p,⟨zgq.e yg,zxl zaz q8e zay q8d⟩] false [] ao [(ai [(0,31333),(1,7833),(1,1958),(0,1959),(2,122),(1,61),(0,31)],⟨67,[(1,.ptr 32 0),(2,.ptr 33 0),(3,wH),(4,.ptr 34 0),(22,.h wL),(23,wH),(24,wH),(29,.h .bool)],[(32,.dat (.prod .str (.prod .str wL)) 83),(33,.dat (.prod wI wI) 30),(34,.dat wP 86)],64,[]⟩),(ai [(0,488),(0,489),(2,122),(1,61),(0,31)],⟨67,[(1,.ptr 32 0),(2,.ptr 33 0),(22,.h wL),(23,wH),(24,wH)],[(32,.dat (.prod .str (.prod .str wL)) 83),(33,.dat (.prod wI wI) 30)],64,[]⟩),(ai [(0,28),(0,29),(0,15)],⟨67,[(1,.ptr 32 0),(2,.ptr 33 0)],[(32,.dat (.prod .str (.prod .str wL)) 83),(33,.dat (.prod wI wI) 30)],64,[]⟩),(ai [(0,13),(0,7)],⟨67,[(1,.ptr 32 0),(2,.ptr 33 0),(14,.h .bool)],[(32,.dat (.prod .str (.prod .str wL)) 83),(33,.dat (.prod wI wI) 30)],64,[]⟩)]
def vf0(r2:(x66 fu).L 1):(x66 fu).L 0:=Fx.jm (xv fu r2.f) [r2.s]
def vfz:Nat->(x66 fu).L 1:=Fx.lq (qbj fu) (qu3 fu) (fun r2=>[(vf0 fu r2).s])
def vfy:(x66 fu).L 2:=Fx.jm (qu4 fu) [(vfz fu fu).s]
def vfx:(x66 fu).L 3:=Fx.jm (qbi fu) [(vfy fu).s]
def q5k:=(x66 fu).fi (s9 fu) [(vfx fu).s] call100
def vf5:IF:=⟨.fn 99,[wS],[],_,.two (RS.mk (.tup [.agg [wS,wS,wN],.agg [wH,wH]]) []) (RS.mk (.tup [.agg [wS,wS,.own 0],.agg [wH,wH]]) [(0,.row wP 86)])⟩
def x67:Fx wG vf5:=fx f99 99 func99 [kp.p,(vff fu).p,(q5k fu).p,ma.p,oh.p] false [] ao []
def vf6:=(x67 fu).fi (qgm fu) [] call99
def vf7:IF:=⟨.fn 70,[.h wL],[],_,.two (RS.mk (.tup [.agg [wS,wS,wN],wH,.h .bool]) []) (RS.mk (.tup [.agg [wS,wS,.own 0],wH,.h .bool]) [(0,.row wP 86)])⟩
def x68:Fx wG vf7:=fx f70 70 func70 [(wz fu).p,(vf6 fu).p,ma.p] false [] ao [(ai [(0,935),(2,58),(1,29),(0,15)],⟨42,[(0,.h wL),(2,.ptr 32 0),(5,wH),(10,.h wL),(11,wH),(12,wH)],[(32,.cells [wS,wS,wN] 83)],64,[]⟩),(ai [(0,232),(0,233),(2,58),(1,29),(0,15)],⟨42,[(0,.h wL),(2,.ptr 32 0),(5,wH),(10,.h wL),(11,wH),(12,wH)],[(32,.cells [wS,wS,wN] 83)],64,[]⟩)]
def vf9(r0:(x68 fu).L 1):(x68 fu).L 0:=Fx.jm (qbq fu r0.f) [r0.s]
def vf8:Nat->(x68 fu).L 1:=Fx.lq (uz fu) (qmk fu) (fun r0=>[(vf9 fu r0).s])
def qr6:=(x68 fu).fi (xz fu) [(vf8 fu fu).s] call70
def vgb:IF:=⟨.fn 82,[.h (.prod .str (.prod .str wL)),wS],[],_,RS.mk (.tup [wS,.h .bool,.h (.prod wI wI)]) []⟩
def x69:Fx wG vgb:=fx f82 82 func82 [(q5k fu).p,ma.p,(wz fu).p,oh.p] false [] ao [(ai [(0,232),(0,233),(2,58),(1,29),(0,15)],⟨31,[(1,wS),(6,.ptr 32 0),(16,.h wL),(17,wH),(18,wH)],[(32,.dat (.prod wI wI) 30)],64,[]⟩)]
def vgc:Nat->(x69 fu).L 0:=Fx.lq (qgl fu) (qu0 fu) (fun r0=>[r0.s])
def zjg:=(x69 fu).fi (qgk fu) [(vgc fu fu).s] call82
def vgg:IF:=⟨.fn 138,[.h .byte],[],_,RS.mk (.h .bool) []⟩
def x70:Fx wG vgg:=fx f138 138 func138 [] false [] ao []
def vgh:=x70.fi qgq [] call138
def vgi:IF:=⟨.fn 117,[wS,.fn 138 []],[],_,RS.mk (.h .bool) []⟩
def x71(fu:Nat):Fx wG vgi:=fx f117 117 func117 [vgh.p] false [] ao [(ai [(0,104),(0,105),(2,26),(1,13),(0,7)],⟨18,[(0,wS),(1,.fn 138 []),(7,wH),(8,wH)],[],64,[]⟩)]
def vgj:Nat->(x71 fu).L 0:=Fx.lq (qf9 fu) (q6b fu) (fun r0=>[r0.s])
def vgk:=(x71 fu).fi (ql0 fu) [(vgj fu fu).s] call117
def vgm:IF:=⟨.fn 125,[.own 0],[(0,.row .str 9)],_,RS.mk (.ptr 1 0) [(0,.dead),(1,.cells [.h (.int .u32),.h (.int .i32),.h (.int .u32),.c .nilIface,.own 2] 191),(2,.row .str 9)]⟩
def x72:Fx wG vgm:=fx f125 125 func125 [] true [] ao []
def zji:=x72.fi qm8 [] call125
def vgn:IF:=⟨.fn 185,[.ptr 0 0],[(0,.cells [.h (.int .u32),.h (.int .i32),.h (.int .u32),.c .nilIface,.own 1] 191),(1,.row .str 9)],_,RS.mk (.iel 251 2 1) [(0,.cells [.h (.int .u32),.h (.int .i32),.h (.int .u32),.c .nilIface,.own 3] 191),(1,.dead),(2,.row .byte 250),(3,.row .str 9)]⟩
def uj(fu:Nat):Fx wG vgn:=fx f185 185 func185 [] false [] ao [(ai [(0,2003),(2,250),(1,125),(0,63)],⟨132,[(3,.own 32),(4,.h .bool),(5,wH)],[(0,.cells [.h (.int .u32),.h (.int .i32),.h (.int .u32),.c .nilIface,.own 32] 191),(1,.dead),(32,.row .str 9)],64,[]⟩),(ai [(0,129744),(0,129745),(0,64873),(2,16218),(1,8109),(0,4055),(0,127)],⟨132,[(3,.own 32),(6,.el 33 1),(8,wH)],[(0,.cells [.h (.int .u32),.h (.int .i32),.h (.int .u32),.c .nilIface,.own 32] 191),(1,.dead),(32,.row .str 9),(33,.row .byte 250)],64,[]⟩),(ai [(0,32424),(0,32425),(2,8106),(1,4053),(0,2027),(0,127)],⟨132,[(3,.own 32),(6,.el 33 1),(61,wH)],[(0,.cells [.h (.int .u32),.h (.int .i32),.h (.int .u32),.c .nilIface,.own 32] 191),(1,.dead),(32,.row .str 9),(33,.row .byte 250)],64,[]⟩),(ai [(0,16336),(0,16337),(0,8169),(2,2042),(1,1021),(0,511)],⟨132,[(3,.own 32),(11,.ptr 33 0),(12,wH)],[(0,.cells [.h (.int .u32),.h (.int .i32),.h (.int .u32),.c .nilIface,.own 32] 191),(1,.dead),(32,.row .str 9),(33,.cells [wN,wN,wN,wN,wN,wN,wN,wN,wN,wN,wN,wN,wN,wN,wN,wN,wN,wN,wN,wN,wN,wN,wN,wN,wN,wN,wN,wN,wN,wN,wN,wN,wN,wN,wN,wN,wN,wN,wN,wN,wN,wN,wN,wN,wN,wN,wN,wN,wN,wN,wN,wN,wN,wN,wN,wN,wN,wN,wN,wN,wN,wN,wN,wN,wN,wN,wN,wN,wN,wN,wN,wN,wN,wN,wN,wN,wN,wN,wN,wN,wN,wN,wN,wN,wN,wN,wN,wN,wN,wN,wN,wN,wN,wN,wN,wN,wN,wN,wN,wN,wN,wN,wN,wN,wN,wN,wN,wN,wN,wN,wN,wN,wN,wN,wN,wN,wN,wN,wN,wN,wN,wN,wN,wN,wN,wN,wN,wN,wN,wN,wN,wN,wN,wN,wN,wN,wN,wN,wN,wN,wN,wN,wN,wN,wN,wN,wN,wN,wN,wN,wN,wN,wN,wN,wN,wN,wN,wN,wN,wN,wN,wN,wN,wN,wN,wN,wN,wN,wN,wN,wN,wN,wN,wN,wN,wN,wN,wN,wN,wN,wN,wN,wN,wN,wN,wN,wN,wN,wN,wN,wN,wN,wN,wN,wN,wN,wN,wN,wN,wN,wN,wN,wN,wN,wN,wN,wN,wN,wN,wN,wN,wN,wN,wN,wN,wN,wN,wN,wN,wN,wN,wN,wN,wN,wN,wN,wN,wN,wN,wN,wN,wN,wN,wN,wN,wN,wN,wN,wN,wN,wN,wN,wN,wN,wN,wN,wN,wN,wN,wN,wN,wN,wN,wN,wN,wN,.own 34] 254),(34,.row .str 9)],64,[]⟩),(ai [(0,2000),(0,2001),(0,1001),(2,250),(1,125),(0,63)],⟨132,[(3,.own 32),(4,.h .bool),(5,wH)],[(0,.cells [.h (.int .u32),.h (.int .i32),.h (.int .u32),.c .nilIface,.own 32] 191),(1,.dead),(32,.row .str 9)],64,[]⟩),(ai [(0,30),(0,31)],⟨132,[(3,.own 32)],[(0,.cells [.h (.int .u32),.h (.int .i32),.h (.int .u32),.c .nilIface,.own 32] 191),(1,.dead),(32,.row .str 9)],64,[]⟩),(ai [(0,29),(0,15)],⟨132,[(3,.own 32),(28,.h .bool)],[(0,.cells [.h (.int .u32),.h (.int .i32),.h (.int .u32),.c .nilIface,.own 32] 191),(1,.dead),(32,.row .str 9)],64,[]⟩)]
def vgr(r2:(uj fu).L 4):(uj fu).L 0:=Fx.jm (qwy fu r2.f) [r2.s]
def vgu:Nat->(uj fu).L 1:=Fx.lq (qw1 fu) (q7h fu) (fun r6=>[r6.s])
def vgs:Nat->(uj fu).L 2:=Fx.lq (qwz fu) (q7f fu) (fun r4=>[r4.s,(vgu fu fu).s])
def vgt:Nat->(uj fu).L 3:=Fx.lq (qw0 fu) (q7g fu) (fun r5=>[])
def vgq:Nat->(uj fu).L 4:=Fx.lq (qwx fu) (q7e fu) (fun r2=>[(vgr fu r2).s,(vgs fu fu).s,(vgt fu fu).s])
def vgp:(uj fu).L 5:=Fx.jm (q7i fu) [(vgq fu fu).s]
def vgo:(uj fu).L 6:=Fx.jm (qww fu) [(vgp fu).s]
def vgv:=(uj fu).fi (q7d fu) [(vgo fu).s] call185
end
end
noncomputable section
open Go.Proofs
set_option linter.unusedVariables false
set_option maxRecDepth 100000
set_option maxHeartbeats 2000000
open Tryz
section
variable(fu:Nat)
def zjj:IF:=⟨.fn 161,[.ptr 0 0],[(0,.cells [.h (.int .u32),.h (.int .i32),.h (.int .u32),.c .nilIface,.own 1] 191),(1,.row .str 9)],_,RS.mk (.tup []) [(0,.cells [.h (.int .u32),.h (.int .i32),.h (.int .u32),.iel 251 2 1,.own 3] 191),(1,.dead),(2,.row .byte 250),(3,.row .str 9)]⟩
def x74:Fx wG zjj:=fx f161 161 func161 [(vgv fu).p] false [] ao []
def vg0:=(x74 fu).fi (qwv fu) [] call161
def zkd:(zjj.e (qwv fu)).Sound wG:=(vg0 fu).h
def zjk:IF:=⟨.fn 317,[.el 0 1,wS],[(0,.row .byte 250)],_,RS.mk (wS) [(0,.row .byte 250)]⟩
def x75(fu:Nat):Fx wG zjk:=fx f317 317 func317 [] false [] ao [(ai [(0,14925),(1,466),(0,467),(2,58),(1,29),(0,15)],⟨41,[(0,.el 0 1),(1,wS),(5,.own 32),(6,wH),(7,.h .byte)],[(0,.row .byte 250),(32,.row .byte 5)],64,[]⟩),(ai [(0,464),(0,465),(0,233),(2,58),(1,29),(0,15)],⟨41,[(0,.el 0 1),(1,wS),(5,.own 32),(6,wH)],[(0,.row .byte 250),(32,.row .byte 5)],64,[]⟩),(ai [(0,464),(0,465),(0,233),(2,58),(1,29),(0,15)],⟨41,[(0,.el 0 1),(1,wS),(5,wN),(6,wH)],[(0,.row .byte 250)],64,[]⟩)]
def zjl(r2:(x75 fu).L 1):(x75 fu).L 0:=Fx.jm (qxa fu r2.f) [r2.s]
def vg2:Nat->(x75 fu).L 1:=Fx.lq (qxb fu) (q7m fu) (fun r2=>[(zjl fu r2).s,r2.s])
def vg1:Nat->(x75 fu).L 2:=Fx.lq (qw9 fu) (q7l fu) (fun r0=>[r0.s,(zjl fu (vg2 fu fu)).s])
def vg3:=(x75 fu).fi (qne fu) [(vg1 fu fu).s] call317
def q7n:(zjk.e (qne fu)).Sound wG:=(vg3 fu).h
def zeg:IF:=⟨.fn 127,[.ptr 0 0,wS],[(0,.cells [.h (.int .u32),.h (.int .i32),.h (.int .u32),.c .nilIface,.own 1] 191),(1,.row .str 9)],_,RS.mk (wS) [(0,.cells [.h (.int .u32),.h (.int .i32),.h (.int .u32),.iel 251 2 1,.u] 191),(1,.dead),(2,.row .byte 250)]⟩
def zeh:IF:=⟨.fn 127,[.ptr 0 0,wS],[(0,.cells [.h (.int .u32),.h (.int .i32),.h (.int .u32),.iel 251 1 1,.u] 191),(1,.row .byte 250)],_,RS.mk (wS) [(0,.cells [.h (.int .u32),.h (.int .i32),.h (.int .u32),.iel 251 1 1,.u] 191),(1,.row .byte 250)]⟩
def zkb(s:Bs)(p0 p1 p2:Int)(on:List Bs)(r:Bs×Int×Int×Int×Bs)(hr:qhe fu s p0 p1 p2 on=some r) :
  dd wG 127 [.ptr 0 0,.str s] [(0,.cells [.int .u32 p0,.int .i32 p1,.int .u32 p2,.val .nilIface,.own 1] 191),(1,.row .str on 9)] (.str r.1) [(0,.cells [.int .u32 r.2.1,.int .i32 r.2.2.1,.int .u32 r.2.2.2.1,.iface 251 (.oel 2 1 0 0),.undef] 191),(1,.dead),(2,.row .byte r.2.2.2.2 250)]:=by
 unfold qhe at hr;cases hc:decide (p0=0)&&decide (p1=0)<;>rw[hc]at hr<;>simp only[qT,qF,reduceCtorEq]at hr
 simp only[qA,decide_eq_true_eq]at hc;obtain⟨rfl,rfl⟩:=hc;obtain⟨x,hx,hr⟩:=Option.bind_eq_some_iff.1 hr;obtain⟨x0,x1,x2,tab,on'⟩:=x;simp only at hr;cases hc2:decide (x0=0)&&decide (x1=1)<;>rw[hc2]at hr<;>simp only[qT,qF,reduceCtorEq]at hr
 simp only[qA,decide_eq_true_eq]at hc2;obtain⟨rfl,rfl⟩:=hc2;obtain⟨y,hy,hr⟩:=Option.bind_eq_some_iff.1 hr;obtain⟨out,tab'⟩:=y;simp only[qI]at hr;subst hr;have hB:dd wG 161 [.ptr 0 0] [(0,.cells [.int .u32 0,.int .i32 1,.int .u32 p2,.val .nilIface,.own 1] 191),(1,.row .str on 9)] (.tup []) [(0,.cells [.int .u32 0,.int .i32 1,.int .u32 x2,.iface 251 (.oel 2 1 0 0),.own 3] 191),(1,.dead),(2,.row .byte tab 250),(3,.row .str on' 9)]:=
  (zkd fu ((),()) (((0:Int),((1:Int),(p2,((),((),()))))),(on,())) ((0:Int),(1:Int),x2,tab,on') hx).2
 have hP:dd wG 317 [.oel 0 1 0 0,.str s] [(0,.row .byte tab 250)] (.str out) [(0,.row .byte tab' 250)]:=
  (q7n fu ((),(s,())) (tab,()) (out,tab') hy).2
 intro w G vs hm hv;show Calls _ _ _ _ (ng w G [(0,.cells [.int .u32 0,.int .i32 0,.int .u32 p2,.val .nilIface,.own 1] 191),(1,.row .str on 9)] (.str out) [(0,.cells [.int .u32 1,.int .i32 0,.int .u32 x2,.iface 251 (.oel 2 1 0 0),.undef] 191),(1,.dead),(2,.row .byte tab' 250)]);have hm:cn G [(0,.cells [.int .u32 0,.int .i32 0,.int .u32 p2,.val .nilIface,.own 1] 191),(1,.row .str on 9)] w:=hm;have hv:al [.ptr 0 0,.str s] G vs:=hv
 match vs,hv with
 |[v1,v2],hv=>
 obtain⟨⟨B,hGB,rfl⟩,rfl,_⟩:=hv;have hid:∀n b,ae ([(0,.cells [.int .u32 0,.int .i32 0,.int .u32 p2,.val .nilIface,.own 1] 191),(1,.row .str on 9)]:List (Nat×ah)) n=some b->ax [(0,0),(1,1)] n=some n/\dy (ax [(0,0),(1,1)]) b=b:=by
  intro n b h
  match n,h with
  |0,h=>cases h;exact⟨rfl,rfl⟩
  |1,h=>cases h;exact⟨rfl,rfl⟩
  |n+2,h=>cases h
 have hr0:=aj.start (N:=[(0,0),(1,1)]) hm hid (fun n h=>by
  match n,h with
  |0,h=>cases h
  |1,h=>cases h
  | n+2,h=>rfl) 4
 have hGB0:(G.view [(0,0),(1,1)]).box 0=some B:=hGB;obtain⟨c0,e0,r0,z0⟩:=hr0.cellAt (i:=0) rfl hGB0 rfl;obtain⟨c1,e1,r1,z1⟩:=hr0.cellAt (i:=1) rfl hGB0 rfl;have r0:c0 = .int .u32 0:=r0;have r1:c1 = .int .i32 0:=r1;subst r0 r1;have hr1:=hr0.setCellAt (i:=1) (x := .int .i32 1) (v := .int .i32 1) rfl hGB0 rfl rfl
 -- the building
 have hmB:cn ((G.view [(0,0),(1,1)]).view [(0,0),(1,1)]) [(0,.cells [.int .u32 0,.int .i32 1,.int .u32 p2,.val .nilIface,.own 1] 191),(1,.row .str on 9)] (w.setCell ⟨B,1,none⟩ (.int .i32 1)):=
  hr1.fin.mem.view (names:=[(0,0),(1,1)]) rfl (fun m m' n h1 h2=>by
   match m,m',h1,h2 with
   |0,0,_,_=>rfl|1,1,_,_=>rfl|0,1,h1,h2=>cases h1;cases h2
   |1,0,h1,h2=>cases h1;cases h2
   |0,m'+2,_,h2=>cases h2
   |1,m'+2,_,h2=>cases h2
   | m+2,_,h1,_=>cases h1)
 have hcB:=hB (w.setCell ⟨B,1,none⟩ (.int .i32 1)) ((G.view [(0,0),(1,1)]).view [(0,0),(1,1)]) [.pointer (some ⟨B,0,none⟩)] hmB ⟨⟨B,hGB,rfl⟩,trivial⟩
 let s2:St:={ n:=4,fr:=[(0,.tup [])],hp:=[(0,.cells [.int .u32 0,.int .i32 1,.int .u32 x2,.iface 251 (.oel 66 1 0 0),.own 67] 191),(1,.dead),(66,.row .byte tab 250),(67,.row .str on' 9),(0,.dead),(1,.dead),(0,.cells [.int .u32 0,.int .i32 1,.int .u32 p2,.val .nilIface,.own 1] 191),(0,.cells [.int .u32 0,.int .i32 0,.int .u32 p2,.val .nilIface,.own 1] 191),(1,.row .str on 9)],nx:=64,df:=[] }
 let hp0:List (Nat×ah):=[(0,.cells [.int .u32 0,.int .i32 0,.int .u32 p2,.val .nilIface,.own 1] 191),(1,.row .str on 9)]
 let R:World->Prop:=fun w'=>∃G2 a2,aj w (G.view [(0,0),(1,1)]) hp0 G2 s2 a2 w'
 have hBw:∀{w':World}{G2:Gh}{a2:Act},aj w (G.view [(0,0),(1,1)]) hp0 G2 s2 a2 w'->G2.box 0=some B:=fun h=>h.fin.keep 0 _ B rfl hGB0
 refine(Go.Proofs.YtiidadfafmcdmaaGreatDoor.Once.replace_first B ⟨s.toArray⟩ w R (fun v w'=>∃G4,Fin w G hp0 G4 [(0,.cells [.int .u32 1,.int .i32 0,.int .u32 x2,.iface 251 (.oel 2 1 0 0),.undef] 191),(1,.dead),(2,.row .byte tab' 250)] w'/\ak (.str out) G4 v) e0 e1 z0 z1 ?_ ?_ ?_).mono ?_
 ·refine hcB.mono ?_;intro e w' hpost;obtain⟨G2,v,he,hr2⟩:=qi7 hr1 (t:=0) (names:=[(0,0),(1,1)]) (hpv:=[(0,.cells [.int .u32 0,.int .i32 1,.int .u32 p2,.val .nilIface,.own 1] 191),(1,.row .str on 9)]) (hp:=[(0,.cells [.int .u32 0,.int .i32 1,.int .u32 p2,.val .nilIface,.own 1] 191),(1,.row .str on 9)]) rfl rfl (show 0<4 by decide) rfl rfl (by repeat (first|trivial|refine⟨rfl,?_⟩)) hpost
  obtain⟨u,u1,u2⟩:=hr2.frame 0 _ rfl;have u3:u=v:=by simpa [Act.put] using u1.symm
  obtain⟨us,h1,h2⟩:=u2;have:us=#[]:=by
   cases hq:us.toList with|nil=>simpa using hq|cons _ _=>rw[hq]at h2;exact h2.elim
  subst this;subst u3;exact⟨by rw[he,h1],G2,_,hr2⟩
 ·rintro w' ⟨G2,a2,hr2⟩
  obtain⟨d0,f0,q0,y0⟩:=hr2.cellAt (i:=0) rfl (hBw hr2) rfl;obtain⟨d1,f1,q1,y1⟩:=hr2.cellAt (i:=1) rfl (hBw hr2) rfl;have q0:d0 = .int .u32 0:=q0;have q1:d1 = .int .i32 1:=q1;subst q0 q1;exact⟨f0,y0,f1,y1⟩
 ·rintro w' ⟨G2,a2,hr2⟩
  obtain⟨d3,f3,q3,_⟩:=hr2.cellAt (i:=3) rfl (hBw hr2) rfl;obtain⟨u3,rfl,g,n3,c3,o3,rfl⟩:=q3;refine⟨g,by simpa using f3,?_⟩
  have hr3:=(hr2.drewOk.setCellAt (i:=0) (x := .int .u32 1) (v := .int .u32 1) rfl (hBw hr2) rfl rfl).setCellAt (i:=0+1) (x := .int .i32 0) (v := .int .i32 0) rfl (hBw hr2) rfl rfl;have hmP:cn (G2.view [(0,66)]) [(0,.row .byte tab 250)] ((w'.drew.setCell ⟨B,0,none⟩ (.int .u32 1)).setCell ⟨B,0+1,none⟩ (.int .i32 0)):=
   hr3.fin.mem.view (names:=[(0,66)]) rfl (fun m m' n h1 h2=>by
    cases m with
    |zero=>cases m' with|zero=>rfl|succ m'=>cases h2
    | succ m=>cases h1)
  have hcP:=hP _ (G2.view [(0,66)]) [.pointer (some ⟨g,0,none⟩),.string ⟨s.toArray⟩] hmP ⟨⟨g,n3,c3,o3,by simp⟩,rfl,trivial⟩
  refine hcP.mono ?_;intro e w4 hpost;obtain⟨G4,v,he,hr4⟩:=qi7 hr3 (t:=1) (names:=[(0,66)]) (hpv:=[(0,.row .byte tab 250)]) (hp:=[(0,.row .byte tab 250)]) rfl rfl (show 1<4 by decide) rfl rfl ⟨rfl,trivial⟩ hpost
  obtain⟨u,u1,u2⟩:=hr4.frame 1 _ rfl;have u3:u=v:=by
   have hs:=hr3.size;have hlt:1<a2.tmps.size:=by rw[hs];exact(show 1<4 by decide)
   simp only[Act.put]at u1;rw[Array.getElem?_setIfInBounds]at u1;simp[hlt]at u1;exact u1.symm
  subst u3;obtain⟨G5,k1,k2⟩:=qo5 hr4 (ids:=[(0,0),(1,1)]) (fun n bx h=>by
   match n,h with
   |0,h=>rfl|1,h=>rfl| n+2,h=>cases h) (v := .str out) (p := wS) (hp:=[(0,.cells [.h (.int .u32),.h (.int .i32),.h (.int .u32),.iel 251 2 1,.u] 191),(1,.dead),(2,.row .byte 250)]) (y:=(out,(((1:Int),((0:Int),(x2,((),((),()))))),((),(tab',()))))) (by rfl)
  exact⟨u,he,G5,k1.only hid,k2 u u2⟩
 ·rintro e w4 ⟨v,rfl,G4,k1,k2⟩
  exact⟨v,G4,rfl,k1,k2⟩
def zt8:(zeg.e (qhe fu)).Sound wG:=fun d d' r hr=>
 ⟨call127,zkb fu d.2.1 d'.1.1 d'.1.2.1 d'.1.2.2.1 d'.2.1 r hr⟩
def zkc(s:Bs)(p0 p1 p2:Int)(tab:Bs)(r:Bs×Int×Int×Int×Bs)(hr:qhf fu s p0 p1 p2 tab=some r) :
  dd wG 127 [.ptr 0 0,.str s] [(0,.cells [.int .u32 p0,.int .i32 p1,.int .u32 p2,.iface 251 (.oel 1 1 0 0),.undef] 191),(1,.row .byte tab 250)] (.str r.1) [(0,.cells [.int .u32 r.2.1,.int .i32 r.2.2.1,.int .u32 r.2.2.2.1,.iface 251 (.oel 1 1 0 0),.undef] 191),(1,.row .byte r.2.2.2.2 250)]:=by
 unfold qhf at hr;cases hc : !decide (p0=0)<;>rw[hc]at hr<;>simp only[qT,qF,reduceCtorEq]at hr
 simp only[Bool.not_eq_true',decide_eq_false_iff_not]at hc;obtain⟨y,hy,hr⟩:=Option.bind_eq_some_iff.1 hr;obtain⟨out,tab'⟩:=y;simp only[qI]at hr;subst hr;have hP:dd wG 317 [.oel 0 1 0 0,.str s] [(0,.row .byte tab 250)] (.str out) [(0,.row .byte tab' 250)]:=
  (q7n fu ((),(s,())) (tab,()) (out,tab') hy).2
 intro w G vs hm hv
 let hp0:List (Nat×ah):=[(0,.cells [.int .u32 p0,.int .i32 p1,.int .u32 p2,.iface 251 (.oel 1 1 0 0),.undef] 191),(1,.row .byte tab 250)]
 show Calls _ _ _ _ (ng w G hp0 (.str out) [(0,.cells [.int .u32 p0,.int .i32 p1,.int .u32 p2,.iface 251 (.oel 1 1 0 0),.undef] 191),(1,.row .byte tab' 250)]);have hm:cn G hp0 w:=hm;have hv:al [.ptr 0 0,.str s] G vs:=hv
 match vs,hv with
 |[v1,v2],hv=>
 obtain⟨⟨B,hGB,rfl⟩,rfl,_⟩:=hv;have hid:∀n b,ae hp0 n=some b->ax [(0,0),(1,1)] n=some n/\dy (ax [(0,0),(1,1)]) b=b:=by
  intro n b h
  match n,h with
  |0,h=>cases h;exact⟨rfl,rfl⟩
  |1,h=>cases h;exact⟨rfl,rfl⟩
  |n+2,h=>cases h
 have hr0:=aj.start (N:=[(0,0),(1,1)]) hm hid (fun n h=>by
  match n,h with
  |0,h=>cases h
  |1,h=>cases h
  | n+2,h=>rfl) 4
 have hGB0:(G.view [(0,0),(1,1)]).box 0=some B:=hGB;obtain⟨c0,e0,r0,_⟩:=hr0.cellAt (i:=0) rfl hGB0 rfl;have r0:c0 = .int .u32 p0:=r0;subst r0;obtain⟨d3,f3,q3,_⟩:=hr0.cellAt (i:=3) rfl hGB0 rfl;obtain⟨u3,rfl,g,n3,c3,o3,rfl⟩:=q3;have hmP:cn ((G.view [(0,0),(1,1)]).view [(0,1)]) [(0,.row .byte tab 250)] w:=
  hr0.fin.mem.view (names:=[(0,1)]) rfl (fun m m' n h1 h2=>by
   cases m with
   |zero=>cases m' with|zero=>rfl|succ m'=>cases h2
   | succ m=>cases h1)
 have hcP:=hP w ((G.view [(0,0),(1,1)]).view [(0,1)]) [.pointer (some ⟨g,0,none⟩),.string ⟨s.toArray⟩] hmP ⟨⟨g,n3,c3,o3,by simp⟩,rfl,trivial⟩
 refine(Go.Proofs.YtiidadfafmcdmaaGreatDoor.Once.replace_done B g ⟨s.toArray⟩ w (fun v w'=>∃G4,Fin w G hp0 G4 [(0,.cells [.int .u32 p0,.int .i32 p1,.int .u32 p2,.iface 251 (.oel 1 1 0 0),.undef] 191),(1,.row .byte tab' 250)] w'/\ak (.str out) G4 v) p0 hc e0 (by simpa using f3) ?_).mono ?_
 ·refine hcP.mono ?_;intro e w4 hpost;obtain⟨G4,v,he,hr4⟩:=qi7 hr0 (t:=1) (names:=[(0,1)]) (hpv:=[(0,.row .byte tab 250)]) (hp:=[(0,.row .byte tab 250)]) rfl rfl (show 1<4 by decide) rfl rfl ⟨rfl,trivial⟩ hpost
  obtain⟨u,u1,u2⟩:=hr4.frame 1 _ rfl;have u3:u=v:=by simpa [Act.put] using u1.symm
  subst u3;obtain⟨G5,k1,k2⟩:=qo5 hr4 (ids:=[(0,0),(1,1)]) (fun n bx h=>by
   match n,h with
   |0,h=>rfl|1,h=>rfl| n+2,h=>cases h) (v := .str out) (p := wS) (hp:=[(0,.cells [.h (.int .u32),.h (.int .i32),.h (.int .u32),.iel 251 1 1,.u] 191),(1,.row .byte 250)]) (y:=(out,((p0,(p1,(p2,((),((),()))))),(tab',())))) (by rfl)
  exact⟨u,he,G5,k1.only hid,k2 u u2⟩
 ·rintro e w4 ⟨v,rfl,G4,k1,k2⟩
  exact⟨v,G4,rfl,k1,k2⟩
def zt9:(zeh.e (qhf fu)).Sound wG:=fun d d' r hr=>
 ⟨call127,zkc fu d.2.1 d'.1.1 d'.1.2.1 d'.1.2.2.1 d'.2.1 r hr⟩
def vg6:IF:=⟨.fn 174,[.h .byte],[],_,RS.mk (.h .byte) []⟩
def x76:Fx wG vg6:=fx f174 174 func174 [] false [] ao []
def vg7:=x76.fi oo [] call174
def vg8:IF:=⟨.fn 139,[wS],[],_,RS.mk (.own 0) [(0,.row .str 9)]⟩
def x77(fu:Nat):Fx wG vg8:=fx f139 139 func139 [qko.p,vg7.p] false [] ao [(ai [(0,29902),(0,29903),(1,934),(0,935),(2,58),(1,29),(0,15)],⟨59,[(0,wS),(3,.own 32),(5,wS),(9,wH),(10,wH)],[(32,.row .str 9)],64,[]⟩),(ai [(0,232),(0,233),(2,58),(1,29),(0,15)],⟨59,[(0,wS),(3,.own 32),(9,wH),(10,wH)],[(32,.row .str 9)],64,[]⟩)]
def vha(r0:(x77 fu).L 1):(x77 fu).L 0:=Fx.jm (qgx fu r0.f) [r0.s]
def vg9:Nat->(x77 fu).L 1:=Fx.lq (qbo fu) (qvd fu) (fun r0=>[(vha fu r0).s])
def vhb:=(x77 fu).fi (qme fu) [(vg9 fu fu).s] call139
def vhd:IF:=⟨.fn 101,[.h wP],[],_,RS.mk (wS) []⟩
def x78:Fx wG vhd:=fx f101 101 func101 [(zjd fu).p,(vgk fu).p,zji.p,⟨zei.e u6,zt7⟩,(vhb fu).p,⟨q0f.e ov,zbz q1s q1t⟩] false [] ao [(ai [(0,1000),(0,1001),(2,250),(1,125),(0,63)],⟨59,[(1,.ptr 32 0),(3,wS),(38,.own 33),(39,wH),(40,wH)],[(32,.dat wP 86),(33,.row .str 9)],64,[]⟩),(ai [(0,30),(0,31)],⟨59,[(1,.ptr 32 0)],[(32,.dat wP 86)],64,[]⟩),(ai [(0,29),(0,15)],⟨59,[(1,.ptr 32 0),(24,.h .bool)],[(32,.dat wP 86)],64,[]⟩)]
def vhg:Nat->(x78 fu).L 0:=Fx.lq (qgr fu) (qu6 fu) (fun r2=>[r2.s])
def vhf:(x78 fu).L 1:=Fx.jm (qu7 fu) [(vhg fu fu).s]
def vhe:(x78 fu).L 2:=Fx.jm (qbk fu) [(vhf fu).s]
def vhh:=(x78 fu).fi (qmb fu) [(vhe fu).s] call101
def vhk:IF:=⟨.fn 72,[.h (.prod .str (.prod .str wL))],[],_,RS.mk (.tup [wS,.h (.prod wI wI)]) []⟩
def x79:Fx wG vhk:=fx f72 72 func72 [(q5k fu).p,ma.p,(vhh fu).p,kp.p,oh.p] false [] ao [(ai [(0,488),(0,489),(2,122),(1,61),(0,31)],⟨37,[(3,.ptr 32 0),(5,wS),(20,.h wL),(21,wH),(22,wH)],[(32,.dat (.prod wI wI) 30)],64,[]⟩)]
def vhl:Nat->(x79 fu).L 0:=Fx.lq (qgn fu) (qu1 fu) (fun r0=>[r0.s])
def q5s:=(x79 fu).fi (uv fu) [(vhl fu fu).s] call72
def vhp:IF:=⟨.fn 52,[.h wT],[],_,RS.mk (wH) []⟩
def x80:Fx wG vhp:=fx f52 52 func52 [(qr6 fu).p,(wz fu).p,(zjg fu).p,(q5s fu).p,ma.p] false [] ao [(ai [(0,30),(0,31)],⟨69,[(1,.ptr 32 0),(3,.ptr 33 0),(4,wH)],[(32,.dat wT 26),(33,.cells [wS,wS,.own 34] 83),(34,.row wP 86)],64,[]⟩),(ai [(0,29),(0,15)],⟨69,[(1,.ptr 32 0),(3,.ptr 33 0),(4,wH),(31,.h .bool)],[(32,.dat wT 26),(33,.cells [wS,wS,.own 34] 83),(34,.row wP 86)],64,[]⟩)]
def vhr:(x80 fu).L 0:=Fx.jm (qwa fu) []
def vhq:(x80 fu).L 1:=Fx.jm (ou fu) [(vhr fu).s]
def vhs:=(x80 fu).fi (qmx fu) [(vhq fu).s] call52
def vhv:IF:=⟨.fn 53,[.h wB],[],_,RS.mk (wH) []⟩
def x81(fu:Nat):Fx wG vhv:=fx f53 53 func53 [] false [] ao [(ai [(0,14924),(0,14925),(0,7463),(1,466),(0,467),(2,58),(1,29),(0,15)],⟨45,[(0,.h wB),(3,wH),(4,wH),(5,.h .byte)],[],64,[]⟩),(ai [(0,7461),(0,3731),(1,466),(0,467),(2,58),(1,29),(0,15)],⟨45,[(0,.h wB),(3,wH),(4,wH),(5,.h .byte),(32,.h .bool)],[],64,[]⟩),(ai [(0,464),(0,465),(0,233),(2,58),(1,29),(0,15)],⟨45,[(0,.h wB),(3,wH),(4,wH)],[],64,[]⟩)]
def vhy(r0:(x81 fu).L 2):(x81 fu).L 0:=Fx.jm (quh fu r0.f) [r0.s]
def vhx(r0:(x81 fu).L 2):(x81 fu).L 1:=Fx.jm (qbf fu r0.f) [r0.s,(vhy fu r0).s]
def vhw:Nat->(x81 fu).L 2:=Fx.lq (xq fu) (qug fu) (fun r0=>[(vhx fu r0).s])
def zjn:=(x81 fu).fi (qbe fu) [(vhw fu fu).s] call53
def vh2:IF:=⟨.fn 118,[.h .byte],[],_,RS.mk (.h .bool) []⟩
def x82:Fx wG vh2:=fx f118 118 func118 [] false [] ao []
def vh3:=x82.fi qg7 [] call118
def vh4:IF:=⟨.fn 117,[wS,.fn 118 []],[],_,RS.mk (.h .bool) []⟩
def x83(fu:Nat):Fx wG vh4:=fx f117 117 func117 [vh3.p] false [] ao [(ai [(0,104),(0,105),(2,26),(1,13),(0,7)],⟨18,[(0,wS),(1,.fn 118 []),(7,wH),(8,wH)],[],64,[]⟩)]
def vh5:Nat->(x83 fu).L 0:=Fx.lq (qga fu) (q6c fu) (fun r0=>[r0.s])
def vh6:=(x83 fu).fi (ql1 fu) [(vh5 fu fu).s] call117
def vh8:IF:=⟨.fn 119,[wS,wS],[],_,RS.mk (.h .bool) []⟩
def x84:Fx wG vh8:=fx f119 119 func119 [zi8.p] false [] ao []
def vh9:=x84.fi qm4 [] call119
def vib:IF:=⟨.fn 83,[.h wL],[],_,RS.mk (.tup [wS,.h .bool]) []⟩
def x85:Fx wG vib:=fx f83 83 func83 [(qr6 fu).p,(wz fu).p,(zjg fu).p,(vh6 fu).p,vh9.p] false [] ao [(ai [(0,30),(0,31)],⟨52,[(4,.ptr 32 0)],[(32,.cells [wS,wS,.own 33] 83),(33,.row wP 86)],64,[]⟩),(ai [(0,29),(0,15)],⟨52,[(4,.ptr 32 0),(24,.h .bool)],[(32,.cells [wS,wS,.own 33] 83),(33,.row wP 86)],64,[]⟩)]
def vid:(x85 fu).L 0:=Fx.jm (qvs fu) []
def vic:(x85 fu).L 1:=Fx.jm (ya fu) [(vid fu).s]
def vie:=(x85 fu).fi (qmm fu) [(vic fu).s] call83
def vii:IF:=⟨.fn 97,[.h wB],[],_,RS.mk (.fn 130 [.ptr 0 0]) [(0,.cells [.h wB] 23)]⟩
def x86:Fx wG vii:=fx f97 97 func97 [] false [] ao []
def zjp:=x86.fi qhc [] call97
def vij:IF:=⟨.fn 154,[wS,.h .byte],[],_,RS.mk (wS) []⟩
def x87(fu:Nat):Fx wG vij:=fx f154 154 func154 [] false [] ao [(ai [(0,96),(0,97),(0,49),(2,12),(1,6),(0,7)],⟨23,[(0,wS),(1,.h .byte)],[],64,[]⟩)]
def vik:Nat->(x87 fu).L 0:=Fx.lq (qxl fu) (q7r fu) (fun r0=>[r0.s])
def zjr:=(x87 fu).fi (qxk fu) [(vik fu fu).s] call154
def vil:IF:=⟨.fn 157,[wS,.el 0 1],[(0,.row .bool 194)],_,RS.mk (wS) [(0,.row .bool 194)]⟩
def x88(fu:Nat):Fx wG vil:=fx f157 157 func157 [q4a.p] false [] ao [(ai [(0,96),(0,97),(0,49),(2,12),(1,6),(0,7)],⟨22,[(0,wS),(1,.el 0 1)],[(0,.row .bool 194)],64,[]⟩)]
def vim:Nat->(x88 fu).L 0:=Fx.lq (qhs fu) (qxj fu) (fun r0=>[r0.s])
def zjt:=(x88 fu).fi (qng fu) [(vim fu fu).s] call157
def vio:IF:=⟨.fn 204,[.h .byte],[],_,RS.mk (.h .bool) []⟩
def x89:Fx wG vio:=fx f204 204 func204 [] false [] ao []
def vip:=x89.fi q7v [] call204
def vis:IF:=⟨.fn 182,[wS],[],_,RS.mk (.tup [.h (.int .i32),wH]) []⟩
def x90(fu:Nat):Fx wG vis:=fx f182 182 func182 [vip.p,zi0.p] false [] ao [(ai [(0,2046),(0,2047)],⟨51,[(0,wS),(4,wH),(5,wH)],[],64,[]⟩),(ai [(0,2044),(0,2045),(0,1023)],⟨51,[(0,wS),(4,wH),(5,wH)],[],64,[]⟩),(ai [(0,16336),(0,16337),(0,8169),(2,2042),(1,1021),(0,511)],⟨51,[(0,wS),(4,wH),(5,wH),(6,wH)],[],64,[]⟩)]
def viv:(x90 fu).L 0:=Fx.jm (qxq fu) []
def viu:(x90 fu).L 1:=Fx.jm (qxp fu) [(viv fu).s]
def vit:Nat->(x90 fu).L 2:=Fx.lq (qxo fu) (q7u fu) (fun r0=>[(viu fu).s,r0.s])
def viw:=(x90 fu).fi (q7t fu) [(vit fu fu).s] call182
def viz:IF:=⟨.fn 159,[wS,wS],[],_,RS.mk (wS) []⟩
def x91:Fx wG viz:=fx f159 159 func159 [(viw fu).p,(zi1 fu).p] false [] ao [(ai [(0,96),(0,97),(0,49),(2,12),(1,6),(0,7)],⟨34,[(0,wS),(1,wS)],[],64,[]⟩)]
def vi0:Nat->(x91 fu).L 0:=Fx.lq (qxn fu) (q7s fu) (fun r0=>[r0.s])
def zjv:=(x91 fu).fi (qxm fu) [(vi0 fu fu).s] call159
def vi1:IF:=⟨.fn 148,[wS,wS],[],_,RS.mk (wS) []⟩
def x92:Fx wG vi1:=fx f148 148 func148 [(zjr fu).p,(qrc fu).p,(zjt fu).p,(zjv fu).p] false [] ao [(ai [(0,60),(0,61),(0,31)],⟨37,[(0,wS),(1,wS)],[],64,[]⟩),(ai [(0,29),(0,15)],⟨37,[(0,wS),(1,wS),(21,.h .bool)],[],64,[]⟩),(ai [(0,28),(0,29),(0,15)],⟨37,[(0,wS),(1,wS)],[],64,[]⟩),(ai [(0,13),(0,7)],⟨37,[(0,wS),(1,wS),(12,.h .bool)],[],64,[]⟩)]
def vi5:(x92 fu).L 0:=Fx.jm (qw6 fu) []
def vi4:(x92 fu).L 1:=Fx.jm (qnd fu) [(vi5 fu).s]
def vi3:(x92 fu).L 2:=Fx.jm (qw5 fu) [(vi4 fu).s]
def vi2:(x92 fu).L 3:=Fx.jm (qnc fu) [(vi3 fu).s]
def zjw:=(x92 fu).fi (qhq fu) [(vi2 fu).s] call148
def vjb:IF:=⟨.fn 120,[wS,wS],[],_,RS.mk (wH) []⟩
def x93:Fx wG vjb:=fx f120 120 func120 [(zjw fu).p] false [] ao []
def vjc:=(x93 fu).fi (qmw fu) [] call120
def zjx:IF:=⟨.yld 0,[wH,wS],[(0,.loop .ready none 84 51 [(2,.ptr 1 0),(3,.ptr 2 0),(4,.ptr 3 0),(5,.ptr 4 0),(6,.ptr 5 0)] [12,13] 2 6),(1,.cells [.h wB] 23),(2,.cells [wS] 9),(3,.cells [.own 7] 77),(4,.cells [.own 8] 77),(5,.cells [wH] 3),(6,.dfr),(7,.row wB 23),(8,.row wB 23)],_,.two (RS.mk (.c (.bool true)) [(0,.loop .ready none 84 51 [(2,.ptr 1 0),(3,.ptr 2 0),(4,.ptr 3 0),(5,.ptr 4 0),(6,.ptr 5 0)] [12,13] 2 6),(1,.cells [.h wB] 23),(2,.cells [wS] 9),(3,.cells [.own 9] 77),(4,.cells [.own 10] 77),(5,.cells [wH] 3),(6,.dfr),(7,.dead),(8,.dead),(9,.row wB 23),(10,.row wB 23)]) (RS.mk (.c (.bool false)) [(0,.loop .done (some .ret) 84 51 [(2,.ptr 1 0),(3,.ptr 2 0),(4,.ptr 3 0),(5,.ptr 4 0),(6,.ptr 5 0)] [12,13] 2 6),(1,.cells [.h wB] 23),(2,.cells [wS] 9),(3,.cells [.own 9] 77),(4,.cells [.own 9] 77),(5,.cells [wH] 3),(6,.dfr),(7,.dead),(8,.dead),(9,.row wB 23)])⟩
def x94:Fx wG zjx:=fx f84 84 func84 [(vjc fu).p] false [([0,1,0,1,1,1],2)] (wk rfl ao) []
def vje:EI wG zjx:=(x94 fu).fiy (qbs fu) [] 0 rfl [0,1,0,1,1,1] (by kernel_rfl) (by kernel_rfl) fun d d'=>by kernel_rfl
def vjf:IF:=⟨.fn 130,[.yld 0,.ptr 1 0],[(0,.loop .ready none 84 51 [(2,.ptr 2 0),(3,.ptr 3 0),(4,.ptr 4 0),(5,.ptr 5 0),(6,.ptr 6 0)] [12,13] 2 7),(1,.cells [.h wB] 23),(2,.cells [.h wB] 23),(3,.cells [wS] 9),(4,.cells [.own 8] 77),(5,.cells [.own 9] 77),(6,.cells [wH] 3),(7,.dfr),(8,.row wB 23),(9,.row wB 23)],_,.two (RS.mk (.tup []) [(0,.loop .done (some .ret) 84 51 [(2,.ptr 2 0),(3,.ptr 3 0),(4,.ptr 4 0),(5,.ptr 5 0),(6,.ptr 6 0)] [12,13] 2 7),(1,.cells [.h wB] 23),(2,.cells [.h wB] 23),(3,.cells [wS] 9),(4,.cells [.own 10] 77),(5,.cells [.own 10] 77),(6,.cells [wH] 3),(7,.dfr),(8,.dead),(9,.dead),(10,.row wB 23)]) (RS.mk (.tup []) [(0,.loop .ready none 84 51 [(2,.ptr 2 0),(3,.ptr 3 0),(4,.ptr 4 0),(5,.ptr 5 0),(6,.ptr 6 0)] [12,13] 2 7),(1,.cells [.h wB] 23),(2,.cells [.h wB] 23),(3,.cells [wS] 9),(4,.cells [.own 10] 77),(5,.cells [.own 11] 77),(6,.cells [wH] 3),(7,.dfr),(8,.dead),(9,.dead),(10,.row wB 23),(11,.row wB 23)])⟩
def x95:Fx wG vjf:=fx f130 130 func130 [⟨qy1.e oq,q9b (by decide)⟩,(vje fu).p] false [] ao [(ai [(0,48),(0,49),(0,25),(2,6),(1,3)],⟨39,[(0,.yld 0),(1,.ptr 1 0),(3,wH)],[(0,.loop .ready none 84 51 [(2,.ptr 2 0),(3,.ptr 3 0),(4,.ptr 4 0),(5,.ptr 5 0),(6,.ptr 6 0)] [12,13] 2 7),(1,.cells [.h wB] 23),(2,.cells [.h wB] 23),(3,.cells [wS] 9),(4,.cells [.own 32] 77),(5,.cells [.own 33] 77),(6,.cells [wH] 3),(7,.dfr),(8,.dead),(9,.dead),(32,.row wB 23),(33,.row wB 23)],64,[]⟩)]
def vjg:Nat->(x95 fu).L 0:=Fx.lq (yc fu) (qv0 fu) (fun r0=>[r0.s])
def vjh:=(x95 fu).fi (qvz fu) [(vjg fu fu).s] call130
def vjj:IF:=⟨.fn 84,[.h wB,wS],[],_,RS.mk (.own 0) [(0,.row wB 23)]⟩
def x96:Fx wG vjj:=fx f84 84 func84 [zjp.p,(vjh fu).p] false [([0,1,0,1,1,1],2)] (wk rfl ao) []
def vjk:=(x96 fu).fi (qmo fu) [] call84
def vjm:IF:=⟨.fn 54,[.h wL,.h wB,wH],[],_,RS.mk (.own 0) [(0,.row wB 23)]⟩
def x97:Fx wG vjm:=fx f54 54 func54 [(vie fu).p,(vjk fu).p] false [] ao []
def q52:=(x97 fu).fi (qbv fu) [] call54
def vjo:IF:=⟨.fn 25,[.h (.prod wT wI)],[],_,RS.mk (wH) []⟩
def x98:Fx wG vjo:=fx f25 25 func25 [(ziu fu).p,ma.p,(vhs fu).p,(zjn fu).p,(q52 fu).p] false [] ao []
def vjp:=(x98 fu).fi (qmn fu) [] call25
def zjz:IF:=⟨.yld 0,[wH,.agg [.h wL,.h wB,.h (.list wT),wH]],[(0,.loop .ready none 10 36 [(2,.ptr 1 0)] [26,27] 1 2),(1,.dat (.prod wI wI) 30),(2,.dfr)],_,.two (RS.mk (.c (.bool false)) [(0,.loop .done (some .ret) 10 36 [(2,.ptr 1 0)] [26,27] 1 2),(1,.dat (.prod wI wI) 30),(2,.dfr)]) (RS.mk (.c (.bool true)) [(0,.loop .ready none 10 36 [(2,.ptr 1 0)] [26,27] 1 2),(1,.dat (.prod wI wI) 30),(2,.dfr)])⟩
def x99:Fx wG zjz:=fx f10 10 func10 [(vjp fu).p,kp.p] false [([0,1,0,1,1,1,1],1)] (wk rfl ao) []
def vjr:EI wG zjz:=(x99 fu).fiy (qvq fu) [] 0 rfl [0,1,0,1,1,1,1] (by kernel_rfl) (by kernel_rfl) fun d d'=>by kernel_rfl
def qd8:IF:=⟨.fn 50,[.h wT,wH,.ptr 0 0,.ptr 1 0,.ptr 2 0],[(0,.cells [.yld 3] 92),(1,.cells [wH] 3),(2,.cells [.fn 50 [.ptr 0 0,.ptr 1 0,.ptr 2 0]] 93),(3,.loop .ready none 10 36 [(2,.ptr 4 0)] [26,27] 1 5),(4,.dat (.prod wI wI) 30),(5,.dfr)],_,.two (RS.mk (.c (.bool false)) [(0,.cells [.yld 3] 92),(1,.cells [wH] 3),(2,.cells [.fn 50 [.ptr 0 0,.ptr 1 0,.ptr 2 0]] 93),(3,.loop .done (some .ret) 10 36 [(2,.ptr 4 0)] [26,27] 1 5),(4,.dat (.prod wI wI) 30),(5,.dfr)]) (RS.mk (.c (.bool true)) [(0,.cells [.yld 3] 92),(1,.cells [wH] 3),(2,.cells [.fn 50 [.ptr 0 0,.ptr 1 0,.ptr 2 0]] 93),(3,.loop .ready none 10 36 [(2,.ptr 4 0)] [26,27] 1 5),(4,.dat (.prod wI wI) 30),(5,.dfr)])⟩
def zg1(s12:EI wG qd8)(fu:Nat):Fx wG qd8:=fx f50 50 func50 [(vjr fu).p,s12.p] false [] ao [(ai [(0,488),(0,489),(2,122),(1,61),(0,31)],⟨33,[(1,wH),(4,.ptr 2 0),(20,.h (.list wT)),(21,wH),(22,wH)],[(0,.cells [.yld 3] 92),(1,.cells [wH] 3),(2,.cells [.fn 50 [.ptr 0 0,.ptr 1 0,.ptr 2 0]] 93),(3,.loop .ready none 10 36 [(2,.ptr 4 0)] [26,27] 1 5),(4,.dat (.prod wI wI) 30),(5,.dfr)],64,[]⟩)]
def zx6(s12:EI wG qd8)(fu:Nat):Nat->(zg1 s12 fu).L 0:=Fx.lq (qg9 s12.f fu) (qvu s12.f fu) (fun r0=>[r0.s])
def zx5(s12:EI wG qd8)(fu:Nat):EI wG qd8:=(zg1 s12 fu).fi (qms s12.f fu) [(zx6 s12 fu fu).s] call50
def zx7:EI wG qd8 := .rc (qbu fu) (fun r=>qms r fu) (fun _ _=>rfl) (fun _=>rfl) (fun s12=>zx5 s12 fu) (fun _=>rfl) fu
def zx9:IF:=⟨.fn 49,[.yld 0,.ptr 1 0],[(0,.loop .ready none 10 36 [(2,.ptr 2 0)] [26,27] 1 3),(1,.dat wT 26),(2,.dat (.prod wI wI) 30),(3,.dfr)],_,.two (RS.mk (.tup []) [(0,.loop .done (some .ret) 10 36 [(2,.ptr 2 0)] [26,27] 1 3),(1,.dat wT 26),(2,.dat (.prod wI wI) 30),(3,.dfr)]) (RS.mk (.tup []) [(0,.loop .ready none 10 36 [(2,.ptr 2 0)] [26,27] 1 3),(1,.dat wT 26),(2,.dat (.prod wI wI) 30),(3,.dfr)])⟩
def zx8:Fx wG zx9:=fx f49 49 func49 [(zx7 fu).p] false [] ao []
def zya:=(zx8 fu).fi (qmt fu) [] call49
def zyc:IF:=⟨.fn 10,[.h wT],[],_,RS.mk (.h (.prod wI wI)) []⟩
def zyb:Fx wG zyc:=fx f10 10 func10 [x1s.p,(x5s fu).p,kp.p,(zya fu).p,oh.p] false [([0,1,0,1,1],0),([0,1,0,1,1,1,1],1)] (wk rfl (wk rfl ao)) []
def q29:=(zyb fu).fi (qbr fu) [] call10
def zyd:IF:=⟨.fn 68,[.h wL,.h wB],[],_,RS.mk (.own 0) [(0,.row .byte 5)]⟩
def qrb:Fx wG zyd:=fx f68 68 func68 [(qrz fu).p] false [] ao [(ai [(0,119608),(0,119609),(2,29902),(1,14951),(1,934),(0,935),(2,58),(1,29),(0,15)],⟨44,[(1,.h wB),(5,.own 33),(12,.h wL),(13,wH),(14,wH),(26,.own 32),(27,wH),(28,wH)],[(32,.row .str 9),(33,.row .byte 5)],64,[]⟩),(ai [(0,232),(0,233),(2,58),(1,29),(0,15)],⟨44,[(1,.h wB),(5,.own 32),(12,.h wL),(13,wH),(14,wH)],[(32,.row .byte 5)],64,[]⟩)]
def zyf(r0:(qrb fu).L 1):Nat->(qrb fu).L 0:=Fx.lq (qby fu r0.f) (qwd fu r0.f) (fun r1=>[r1.s,r0.s])
def zye:Nat->(qrb fu).L 1:=Fx.lq (yd fu) (qwc fu) (fun r0=>[(zyf fu r0 fu).s])
def zyg:=(qrb fu).fi (qwb fu) [(zye fu fu).s] call68
def p7:IF:=⟨.fn 37,[.h wT],[],_,RS.mk (.tup [.h wL,.h wB]) []⟩
def zg2:IF:=⟨.fn 67,[.h wT],[],_,RS.mk (.own 0) [(0,.row .byte 5)]⟩
def zyh(s107:EI wG p7)(fu:Nat):Fx wG zg2:=fx f67 67 func67 [s107.p,(zyg fu).p] false [] ao []
def zyi(s107:EI wG p7)(fu:Nat):EI wG zg2:=(zyh s107 fu).fi (qvx s107.f fu) [] call67
def zg4:IF:=⟨.fn 66,[.h (.list wT),.fn 67 []],[],_,RS.mk (.own 0) [(0,.row wB 23)]⟩
def zg3(s107:EI wG p7)(fu:Nat):Fx wG zg4:=fx f66 66 func66 [(zyi s107 fu).p] false [] ao [(ai [(0,232),(0,233),(2,58),(1,29),(0,15)],⟨22,[(1,.fn 67 []),(5,.own 32),(8,.h (.list wT)),(9,wH),(10,wH)],[(32,.row wB 23)],64,[]⟩)]
def zyj(s107:EI wG p7)(fu:Nat):Nat->(zg3 s107 fu).L 0:=Fx.lq (qhd s107.f fu) (qv5 s107.f fu) (fun r0=>[r0.s])
def zyk(s107:EI wG p7)(fu:Nat):EI wG zg4:=(zg3 s107 fu).fi (qv4 s107.f fu) [(zyj s107 fu fu).s] call66
def zym:IF:=⟨.fn 132,[wS,wS],[],_,RS.mk (.h .bool) []⟩
def zyl:Fx wG zym:=fx f132 132 func132 [] false [] ao []
def zyn:=zyl.fi quy [] call132
def zyp:IF:=⟨.fn 98,[wS,wS],[],_,RS.mk (.h .bool) []⟩
def zyo:Fx wG zyp:=fx f98 98 func98 [zyn.p] false [] ao []
def zyq:=zyo.fi qm3 [] call98
def zg5:IF:=⟨.yld 0,[wH,wS],[(0,.loop .ready none 96 14 [(1,.ptr 1 0),(3,.ptr 2 0)] [8,9] 3 3),(1,.cells [wS] 9),(2,.cells [.h .bool] 4),(3,.dfr)],_,.two (RS.mk (.c (.bool false)) [(0,.loop .done (some .ret) 96 14 [(1,.ptr 1 0),(3,.ptr 2 0)] [8,9] 3 3),(1,.cells [wS] 9),(2,.cells [.h .bool] 4),(3,.dfr)]) (RS.mk (.c (.bool true)) [(0,.loop .ready none 96 14 [(1,.ptr 1 0),(3,.ptr 2 0)] [8,9] 3 3),(1,.cells [wS] 9),(2,.cells [.h .bool] 4),(3,.dfr)])⟩
def zyr:Fx wG zg5:=fx f96 96 func96 [zyq.p] false [([0,1,0,1],3)] (wk rfl ao) []
def zys:EI wG zg5:=zyr.fiy qha [] 0 rfl [0,1,0,1] (by kernel_rfl) (by kernel_rfl) fun d d'=>by kernel_rfl
def zyt:IF:=⟨.fn 130,[.yld 0,.ptr 1 0],[(0,.loop .ready none 96 14 [(1,.ptr 2 0),(3,.ptr 3 0)] [8,9] 3 4),(1,.cells [.h wB] 23),(2,.cells [wS] 9),(3,.cells [.h .bool] 4),(4,.dfr)],_,.two (RS.mk (.tup []) [(0,.loop .done (some .ret) 96 14 [(1,.ptr 2 0),(3,.ptr 3 0)] [8,9] 3 4),(1,.cells [.h wB] 23),(2,.cells [wS] 9),(3,.cells [.h .bool] 4),(4,.dfr)]) (RS.mk (.tup []) [(0,.loop .ready none 96 14 [(1,.ptr 2 0),(3,.ptr 3 0)] [8,9] 3 4),(1,.cells [.h wB] 23),(2,.cells [wS] 9),(3,.cells [.h .bool] 4),(4,.dfr)])⟩
def zg6(fu:Nat):Fx wG zyt:=fx f130 130 func130 [⟨qy1.e oq,q9b (by decide)⟩,zys.p] false [] ao [(ai [(0,48),(0,49),(0,25),(2,6),(1,3)],⟨39,[(0,.yld 0),(1,.ptr 1 0),(3,wH)],[(0,.loop .ready none 96 14 [(1,.ptr 2 0),(3,.ptr 3 0)] [8,9] 3 4),(1,.cells [.h wB] 23),(2,.cells [wS] 9),(3,.cells [.h .bool] 4),(4,.dfr)],64,[]⟩)]
def zyu:Nat->(zg6 fu).L 0:=Fx.lq (qbx fu) (qv2 fu) (fun r0=>[r0.s])
def zyv:=(zg6 fu).fi (qv1 fu) [(zyu fu fu).s] call130
def zyz:IF:=⟨.fn 96,[.h wB,.ptr 0 0],[(0,.cells [wS] 9)],_,RS.mk (.h .bool) [(0,.cells [wS] 9)]⟩
def zyy:Fx wG zyz:=fx f96 96 func96 [zjp.p,(zyv fu).p] false [([0,1,0,1],3)] (wk rfl ao) []
def zy0:=(zyy fu).fi (qmu fu) [] call96
def zy1:IF:=⟨.fn 129,[.h (.list wB),.fn 96 [.ptr 0 0]],[(0,.cells [wS] 9)],_,RS.mk (wH) [(0,.cells [wS] 9)]⟩
def zg7:Fx wG zy1:=fx f129 129 func129 [(zy0 fu).p] false [] ao [(ai [(0,104),(0,105),(2,26),(1,13),(0,7)],⟨19,[(0,.h (.list wB)),(1,.fn 96 [.ptr 0 0]),(7,wH),(8,wH)],[(0,.cells [wS] 9)],64,[]⟩)]
def zy2:Nat->(zg7 fu).L 0:=Fx.lq (qhi fu) (qwl fu) (fun r0=>[r0.s])
def zy3:=(zg7 fu).fi (qwk fu) [(zy2 fu fu).s] call129
def zy5:IF:=⟨.fn 95,[.h (.list wB),.fn 96 [.ptr 0 0]],[(0,.cells [wS] 9)],_,RS.mk (.h .bool) [(0,.cells [wS] 9)]⟩
def zy4:Fx wG zy5:=fx f95 95 func95 [(zy3 fu).p] false [] ao []
def zy6:=(zy4 fu).fi (qhg fu) [] call95
def zy7:IF:=⟨.fn 69,[.h (.list wB)],[],_,RS.mk (wS) []⟩
def zg8:Fx wG zy7:=fx f69 69 func69 [⟨q0f.e ov,zbz q1s q1t⟩,(zy6 fu).p] false [] ao [(ai [(0,224),(0,225),(1,56),(0,57),(2,14),(1,7)],⟨17,[(0,.h (.list wB)),(3,wH)],[],64,[]⟩)]
def zy8:Nat->(zg8 fu).L 0:=Fx.lq (qhb fu) (qvw fu) (fun r0=>[r0.s])
def zy9:=(zg8 fu).fi (qvv fu) [(zy8 fu fu).s] call69
def zg9(s107:EI wG p7)(fu:Nat):Fx wG p7:=fx f37 37 func37 [(zyk s107 fu).p,(zy9 fu).p,(qr6 fu).p,⟨q9y.e dm,znc⟩,⟨yy.e dm,qcp⟩,(q5s fu).p] false [] ao [(ai [(0,32744),(0,32745),(2,8186),(1,4093),(0,2047)],⟨76,[(5,wS),(9,.own 32),(10,.own 34),(53,.own 33),(54,wH),(55,wH)],[(32,.row wP 50),(33,.row wB 23),(34,.row .byte 5)],64,[]⟩)]
def zzb(s107:EI wG p7)(fu:Nat):Nat->(zg9 s107 fu).L 0:=Fx.lq (qbw s107.f fu) (qvy s107.f fu) (fun r0=>[r0.s])
def zza(s107:EI wG p7)(fu:Nat):EI wG p7:=(zg9 s107 fu).fi (qmv s107.f fu) [(zzb s107 fu fu).s] call37
def zzc:EI wG p7 := .rc (u5 fu) (fun r=>qmv r fu) (fun _ _=>rfl) (fun _=>rfl) (fun s107=>zza s107 fu) (fun _=>rfl) fu
def zzd:IF:=⟨.fn 61,[.h (.prod wL wB)],[],_,RS.mk (.own 0) [(0,.row .byte 5)]⟩
def qre:Fx wG zzd:=fx f61 61 func61 [(qrz fu).p] false [] ao [(ai [(0,119608),(0,119609),(2,29902),(1,14951),(1,934),(0,935),(2,58),(1,29),(0,15)],⟨44,[(1,.ptr 32 0),(3,.own 34),(11,.h wL),(12,wH),(13,wH),(25,.own 33),(26,wH),(27,wH)],[(32,.dat (.prod wL wB) 37),(33,.row .str 9),(34,.row .byte 5)],64,[]⟩),(ai [(0,232),(0,233),(2,58),(1,29),(0,15)],⟨44,[(1,.ptr 32 0),(3,.own 33),(11,.h wL),(12,wH),(13,wH)],[(32,.dat (.prod wL wB) 37),(33,.row .byte 5)],64,[]⟩)]
def zzf(r0:(qre fu).L 1):Nat->(qre fu).L 0:=Fx.lq (qbp fu r0.f) (qvk fu r0.f) (fun r1=>[r1.s,r0.s])
def zze:Nat->(qre fu).L 1:=Fx.lq (xy fu) (qvj fu) (fun r0=>[(zzf fu r0 fu).s])
def zzg:=(qre fu).fi (qvi fu) [(zze fu fu).s] call61
def zzi:IF:=⟨.fn 62,[.h wB],[],_,RS.mk (.h (.prod wI wI)) []⟩
def zzh:Fx wG zzi:=fx f62 62 func62 [(zjn fu).p,kp.p,oh.p] false [] ao []
def zzj:=(zzh fu).fi (qmj fu) [] call62
def zzl:IF:=⟨.fn 34,[.h (.prod wL wB)],[],_,RS.mk (.h (.prod wI wI)) []⟩
def zzk:Fx wG zzl:=fx f34 34 func34 [(ziu fu).p,ma.p,(zzg fu).p,kp.p,(zzj fu).p] false [] ao []
def zha:=(zzk fu).fi (qg5 fu) [] call34
def zzn:IF:=⟨.fn 17,[.h wT],[],_,RS.mk (.tup [.h (.prod wL wB),.h (.prod wI wI)]) []⟩
def zzm:Fx wG zzn:=fx f17 17 func17 [(q29 fu).p,ma.p,(zzc fu).p,⟨yy.e dm,qcp⟩,⟨qif.e dm,qoj⟩,(zha fu).p,kp.p,oh.p] false [] ao []
def zhb:=(zzm fu).fi (qg6 fu) [] call17
def zzp:IF:=⟨.fn 88,[.h wP],[],_,RS.mk (.h .bool) []⟩
def zzo:Fx wG zzp:=fx f88 88 func88 [(wz fu).p] false [] ao []
def q3i:=(zzo fu).fi (qml fu) [] call88
def zzr:IF:=⟨.fn 121,[.h wL,.fn 88 []],[],_,RS.mk (wH) []⟩
def zhd:Fx wG zzr:=fx f121 121 func121 [(q3i fu).p] false [] ao [(ai [(0,104),(0,105),(2,26),(1,13),(0,7)],⟨19,[(0,.h wL),(1,.fn 88 []),(7,wH),(8,wH)],[],64,[]⟩)]
def zzs:Nat->(zhd fu).L 0:=Fx.lq (qwj fu) (q7b fu) (fun r0=>[r0.s])
def zhe:=(zhd fu).fi (qwi fu) [(zzs fu fu).s] call121
def zzt:IF:=⟨.fn 87,[.h wL,.fn 88 []],[],_,RS.mk (.h wL) []⟩
def zhf:Fx wG zzt:=fx f87 87 func87 [(zhe fu).p,(q3i fu).p] true [] ao [(ai [(0,976),(0,977),(0,489),(2,122),(1,61),(0,31)],⟨42,[(0,.h wL),(1,.fn 88 []),(5,wH),(6,wH)],[],64,[]⟩)]
def zzu:Nat->(zhf fu).L 0:=Fx.lq (qwe fu) (q68 fu) (fun r0=>[r0.s])
def zzv:=(zhf fu).fi (q67 fu) [(zzu fu fu).s] call87
def zzw:IF:=⟨.fn 87,[.own 0,.fn 88 []],[(0,.row wP 86)],_,RS.mk (.own 1) [(0,.dead),(1,.row wP 86)]⟩
def zhg:Fx wG zzw:=fx f87 87 func87 [(zhe fu).p,(q3i fu).p] true [] ao [(ai [(0,976),(0,977),(0,489),(2,122),(1,61),(0,31)],⟨42,[(0,.own 32),(1,.fn 88 []),(5,wH),(6,wH)],[(0,.dead),(32,.row wP 86)],64,[]⟩)]
def zzx:Nat->(zhg fu).L 0:=Fx.lq (qwf fu) (q7a fu) (fun r0=>[r0.s])
def zzy:=(zhg fu).fi (q69 fu) [(zzx fu fu).s] call87
def zz0:IF:=⟨.fn 63,[.h wL],[],_,RS.mk (.tup [.own 0,.h .bool]) [(0,.row wP 50)]⟩
def zzz:Fx wG zz0:=fx f63 63 func63 [(qr6 fu).p,(zzv fu).p,(q5s fu).p,ma.p,⟨yy.e dm,qcp⟩,(zzy fu).p] false [] ao []
def zhh:=(zzz fu).fi (qvr fu) [] call63
def zz2:IF:=⟨.fn 149,[.h wB,.h .byte],[],_,RS.mk (wH) []⟩
def zz1:Fx wG zz2:=fx f149 149 func149 [⟨qul 176 uu,zj8⟩] false [] ao []
def zz3:=zz1.fi q6f [] call149
def zz5:IF:=⟨.fn 163,[.h wB,.h wB],[],_,RS.mk (.h .bool) []⟩
def zz4:Fx wG zz5:=fx f163 163 func163 [] false [] ao []
def zz6:=zz4.fi q6d [] call163
def zz8:IF:=⟨.fn 177,[.h wB,.h wB],[],_,RS.mk (.h .bool) []⟩
def zz7:Fx wG zz8:=fx f177 177 func177 [zz6.p] false [] ao []
def zz9:=zz7.fi q6e [] call177
def z0b:IF:=⟨.fn 150,[.h wB,.h wB],[],_,RS.mk (.h wB) []⟩
def z0a:Fx wG z0b:=fx f150 150 func150 [zz9.p] false [] ao []
def z0c:=z0a.fi q6g [] call150
def z0e:IF:=⟨.fn 122,[.h wB],[],_,RS.mk (.tup [wS,wH]) []⟩
def z0d:Fx wG z0e:=fx f122 122 func122 [zz3.p,z0c.p] false [] ao []
def z0f:=z0d.fi q6n [] call122
def z0h:IF:=⟨.fn 152,[wS],[],_,RS.mk (.h .bool) []⟩
def z0g:Fx wG z0h:=fx f152 152 func152 [(qrz fu).p,ma.p] false [] ao []
def z0i:=(z0g fu).fi (q6o fu) [] call152
def z0l:IF:=⟨.fn 124,[wS],[],_,RS.mk (.tup [.h wP,.h .bool]) []⟩
def z0k:Fx wG z0l:=fx f124 124 func124 [zi7.p,(zjw fu).p,(z0i fu).p] false [] ao []
def z0m:=(z0k fu).fi (q6m fu) [] call124
def z0n:IF:=⟨.fn 126,[wS,wS],[],_,RS.mk (wS) []⟩
def qj6:Fx wG z0n:=fx f126 126 func126 [(zjr fu).p,(zix fu).p,(qrc fu).p,(zjt fu).p,(ziz fu).p,(zjv fu).p,(zi3 fu).p] false [] ao [(ai [(0,60),(0,61),(0,31)],⟨43,[(0,wS),(1,wS)],[],64,[]⟩),(ai [(0,29),(0,15)],⟨43,[(0,wS),(1,wS),(21,.h .bool)],[],64,[]⟩),(ai [(0,28),(0,29),(0,15)],⟨43,[(0,wS),(1,wS)],[],64,[]⟩),(ai [(0,13),(0,7)],⟨43,[(0,wS),(1,wS),(12,.h .bool)],[],64,[]⟩)]
def z0r:(qj6 fu).L 0:=Fx.jm (q7k fu) []
def z0q:(qj6 fu).L 1:=Fx.jm (qw8 fu) [(z0r fu).s]
def z0p:(qj6 fu).L 2:=Fx.jm (q7j fu) [(z0q fu).s]
def z0o:(qj6 fu).L 3:=Fx.jm (qw7 fu) [(z0p fu).s]
def z0s:=(qj6 fu).fi (qw2 fu) [(z0o fu).s] call126
end
end
noncomputable section
open Go.Proofs
set_option linter.unusedVariables false
set_option maxRecDepth 100000
set_option maxHeartbeats 2000000
open Tryz
section
variable(fu:Nat)
def z0x:IF:=⟨.fn 89,[.h wB],[],_,RS.mk (.tup [.own 0,wH,.h (.prod wI wI)]) [(0,.row wP 50)]⟩
def uh:Fx wG z0x:=fx f89 89 func89 [kp.p,z0f.p,q4y.p,zji.p,⟨zeg.e (qhe fu),zt8 fu⟩,(z0s fu).p,oh.p,(z0m fu).p,⟨zeh.e (qhf fu),zt9 fu⟩] false [] ao [(ai [(0,8168),(0,8169),(2,2042),(1,1021),(0,511)],⟨103,[(4,.ptr 32 0),(5,.own 33),(6,wH),(11,.ptr 34 0),(77,wH),(78,wH)],[(32,.dat (.prod wI wI) 30),(33,.row wP 50),(34,.cells [.h (.int .u32),.h (.int .i32),.h (.int .u32),.iel 251 35 1,.u] 191),(35,.row .byte 250)],64,[]⟩),(ai [(0,8168),(0,8169),(2,2042),(1,1021),(0,511)],⟨103,[(4,.ptr 32 0),(5,.own 35),(6,wH),(11,.ptr 33 0),(77,wH),(78,.c (.int .i64 0))],[(32,.dat (.prod wI wI) 30),(33,.cells [.h (.int .u32),.h (.int .i32),.h (.int .u32),.c .nilIface,.own 34] 191),(34,.row .str 9),(35,.row wP 50)],64,[]⟩),(ai [(0,252),(0,253),(0,127)],⟨103,[(4,.ptr 32 0),(5,.own 33),(6,wH)],[(32,.dat (.prod wI wI) 30),(33,.row wP 50)],64,[]⟩),(ai [(0,15918),(0,15919),(1,497),(2,124),(1,62),(0,63)],⟨103,[(0,.h wB),(4,.ptr 32 0),(5,.own 33),(6,wH),(7,wS),(8,wH)],[(32,.dat (.prod wI wI) 30),(33,.row wP 50)],64,[]⟩),(ai [(0,15917),(0,7959),(1,497),(2,124),(1,62),(0,63)],⟨103,[(0,.h wB),(4,.ptr 32 0),(5,.own 33),(6,wH),(7,wS),(8,wH),(41,.h .bool)],[(32,.dat (.prod wI wI) 30),(33,.row wP 50)],64,[]⟩),(ai [(0,992),(0,993),(0,497),(2,124),(1,62),(0,63)],⟨103,[(0,.h wB),(4,.ptr 32 0),(5,.own 33),(6,wH)],[(32,.dat (.prod wI wI) 30),(33,.row wP 50)],64,[]⟩)]
def z02:Nat->(uh fu).L 0:=Fx.lq (quu fu) (q6k fu) (fun r5=>[r5.s])
def z00:Nat->(uh fu).L 1:=Fx.lq (qut fu) (q6j fu) (fun r3=>[(z02 fu fu).s])
def zhj:(uh fu).L 2:=Fx.jm (ql8 fu) [(z00 fu fu).s]
def z01(r0:(uh fu).L 5):(uh fu).L 3:=Fx.jm (q6l fu r0.f) [(zhj fu).s,r0.s]
def z0z(r0:(uh fu).L 5):(uh fu).L 4:=Fx.jm (qus fu r0.f) [r0.s,(z01 fu r0).s]
def z0y:Nat->(uh fu).L 5:=Fx.lq (qur fu) (q6i fu) (fun r0=>[(zhj fu).s,(z0z fu r0).s])
def z03:=(uh fu).fi (q6h fu) [(z0y fu fu).s] call89
def wu:IF:=⟨.fn 64,[.ptr 0 0,.h wB,wH],[(0,.dat (.prod wI (.prod wI wI)) 68)],_,RS.mk (.tup [.h wT,.h .bool]) [(0,.dat (.prod wI (.prod wI wI)) 68)]⟩
def zhl:IF:=⟨.fn 35,[.ptr 0 0,.own 1,.h wB,wH],[(0,.dat (.prod wI (.prod wI wI)) 68),(1,.row wP 50)],_,RS.mk (.tup [.h wT,.h .bool]) [(0,.dat (.prod wI (.prod wI wI)) 68),(1,.dead)]⟩
def zhk(s129:EI wG wu)(fu:Nat):Fx wG zhl:=fx f35 35 func35 [⟨yy.e dm,qcp⟩,⟨qif.e dm,qoj⟩,(q52 fu).p,(zhh fu).p,s129.p] false [] ao [(ai [(0,16360),(0,16361),(2,4090),(1,2045),(0,1023)],⟨73,[(0,.ptr 0 0),(3,wH),(8,.ptr 32 0),(10,.ptr 33 0),(48,.own 34),(49,wH),(50,wH)],[(0,.dat (.prod wI (.prod wI wI)) 68),(1,.dead),(32,.cells [wN,wN,wN] 26),(33,.cells [.own 35,wN,.own 36] 26),(34,.row wB 23),(35,.row wP 50),(36,.row wT 26)],64,[]⟩)]
def z07(s129:EI wG wu)(fu:Nat):Nat->(zhk s129 fu).L 0:=Fx.lq (qv7 s129.f fu) (q66 s129.f fu) (fun r0=>[r0.s])
def z08(s129:EI wG wu)(fu:Nat):EI wG zhl:=(zhk s129 fu).fi (q65 s129.f fu) [(z07 s129 fu fu).s] call35
def z09(s129:EI wG wu)(fu:Nat):Fx wG wu:=fx f64 64 func64 [(z03 fu).p,ma.p,kp.p,(z08 s129 fu).p] false [] ao []
def z1a(s129:EI wG wu)(fu:Nat):EI wG wu:=(z09 s129 fu).fi (qv8 s129.f fu) [] call64
def z1b:EI wG wu := .rc (qv9 fu) (fun r=>qv8 r fu) (fun _ _=>rfl) (fun _=>rfl) (fun s129=>z1a s129 fu) (fun _=>rfl) fu
def z1c:IF:=⟨.fn 35,[.ptr 0 0,.h wL,.h wB,wH],[(0,.dat (.prod wI (.prod wI wI)) 68)],_,RS.mk (.tup [.h wT,.h .bool]) [(0,.dat (.prod wI (.prod wI wI)) 68)]⟩
def zhm:Fx wG z1c:=fx f35 35 func35 [⟨yy.e dm,qcp⟩,⟨qif.e dm,qoj⟩,(q52 fu).p,(zhh fu).p,(z1b fu).p] false [] ao [(ai [(0,16360),(0,16361),(2,4090),(1,2045),(0,1023)],⟨73,[(0,.ptr 0 0),(3,wH),(8,.ptr 32 0),(10,.ptr 33 0),(48,.own 34),(49,wH),(50,wH)],[(0,.dat (.prod wI (.prod wI wI)) 68),(32,.cells [wN,wN,wN] 26),(33,.cells [.own 35,wN,.own 36] 26),(34,.row wB 23),(35,.row wP 50),(36,.row wT 26)],64,[]⟩)]
def z1d:Nat->(zhm fu).L 0:=Fx.lq (qv6 fu) (q64 fu) (fun r0=>[r0.s])
def z1e:=(zhm fu).fi (q63 fu) [(z1d fu fu).s] call35
def z1g:IF:=⟨.fn 15,[.h (.prod wL wB)],[],_,RS.mk (.tup [.h wT,.h (.prod wI wI)]) []⟩
def z1f:Fx wG z1g:=fx f15 15 func15 [(zha fu).p,ma.p,(z1e fu).p,(q29 fu).p,kp.p,oh.p] false [] ao []
def z1h:=(z1f fu).fi (q6x fu) [] call15
def wv:IF:=⟨.fn 30,[.h wT],[],_,RS.mk (.h wT) []⟩
def zho:IF:=⟨.fn 60,[.h (.list wT),.fn 30 []],[],_,RS.mk (.own 0) [(0,.row wT 26)]⟩
def zhn(s141:EI wG wv)(fu:Nat):Fx wG zho:=fx f60 60 func60 [s141.p] false [] ao [(ai [(0,232),(0,233),(2,58),(1,29),(0,15)],⟨22,[(1,.fn 30 []),(5,.own 32),(8,.h (.list wT)),(9,wH),(10,wH)],[(32,.row wT 26)],64,[]⟩)]
def z1i(s141:EI wG wv)(fu:Nat):Nat->(zhn s141 fu).L 0:=Fx.lq (qv3 s141.f fu) (q62 s141.f fu) (fun r0=>[r0.s])
def z1j(s141:EI wG wv)(fu:Nat):EI wG zho:=(zhn s141 fu).fi (q61 s141.f fu) [(z1i s141 fu fu).s] call60
def z1k(s141:EI wG wv)(fu:Nat):Fx wG wv:=fx f30 30 func30 [⟨yy.e dm,qcp⟩,⟨qif.e dm,qoj⟩,(z1j s141 fu).p] false [] ao []
def z1l(s141:EI wG wv)(fu:Nat):EI wG wv:=(z1k s141 fu).fi (qvl s141.f fu) [] call30
def z1m:EI wG wv := .rc (qvm fu) (fun r=>qvl r fu) (fun _ _=>rfl) (fun _=>rfl) (fun s141=>z1l s141 fu) (fun _=>rfl) fu
def z1n:IF:=⟨.fn 12,[.h wT,.own 0],[(0,.row wI 3)],_,RS.mk (.tup [.h wT,.h (.prod wI wI)]) [(0,.dead)]⟩
def qrf:Fx wG z1n:=fx f12 12 func12 [(q29 fu).p,ma.p,(z1m fu).p,oh.p,kp.p] true [] ao [(ai [(0,14949),(0,7475),(1,934),(0,935),(2,58),(1,29),(0,15)],⟨43,[(2,.ptr 32 0),(4,.ptr 33 0),(5,.ptr 34 0),(7,wH),(8,wH),(15,.own 35),(16,wH),(17,wH),(30,.h .bool)],[(0,.dead),(32,.dat wT 26),(33,.cells [wN,wN,wN] 26),(34,.dat (.prod wI wI) 30),(35,.row wI 3)],64,[]⟩),(ai [(0,232),(0,233),(2,58),(1,29),(0,15)],⟨43,[(2,.ptr 32 0),(4,.ptr 33 0),(5,.ptr 34 0),(15,.own 35),(16,wH),(17,wH)],[(0,.dead),(32,.dat wT 26),(33,.cells [wN,wN,wN] 26),(34,.dat (.prod wI wI) 30),(35,.row wI 3)],64,[]⟩)]
def z1p(r0:(qrf fu).L 1):(qrf fu).L 0:=Fx.jm (qvo fu r0.f) [r0.s]
def z1o:Nat->(qrf fu).L 1:=Fx.lq (qvn fu) (q6w fu) (fun r0=>[(z1p fu r0).s])
def z1q:=(qrf fu).fi (q6v fu) [(z1o fu fu).s] call12
def z1u:IF:=⟨.fn 32,[.h wL,.h wL],[],_,RS.mk (.h .bool) []⟩
def zhp(fu:Nat):Fx wG z1u:=fx f32 32 func32 [] false [] ao [(ai [(0,464),(0,465),(0,233),(2,58),(1,29),(0,15)],⟨26,[(0,.h wL),(1,.h wL),(5,wH)],[],64,[]⟩)]
def z1v:Nat->(zhp fu).L 0:=Fx.lq (qa0 fu) (qs4 fu) (fun r0=>[r0.s])
def zhq:=(zhp fu).fi (qli fu) [(z1v fu fu).s] call32
def z1x:IF:=⟨.fn 33,[.h wB,.h wB],[],_,RS.mk (.h .bool) []⟩
def z1w:Fx wG z1x:=fx f33 33 func33 [] false [] ao []
def zhr:=z1w.fi qky [] call33
def ww:IF:=⟨.fn 14,[.h wT,.h wT],[],_,RS.mk (.h .bool) []⟩
def qrh(s143:EI wG ww)(fu:Nat):Fx wG ww:=fx f14 14 func14 [(zhq fu).p,zhr.p,s143.p] false [] ao [(ai [(0,464),(0,465),(0,233),(2,58),(1,29),(0,15)],⟨48,[(2,.ptr 32 0),(3,.ptr 33 0),(5,wH)],[(32,.dat wT 26),(33,.dat wT 26)],64,[]⟩),(ai [(0,28),(0,29),(0,15)],⟨48,[(2,.ptr 32 0),(3,.ptr 33 0)],[(32,.dat wT 26),(33,.dat wT 26)],64,[]⟩),(ai [(0,13),(0,7)],⟨48,[(2,.ptr 32 0),(3,.ptr 33 0),(28,.h .bool)],[(32,.dat wT 26),(33,.dat wT 26)],64,[]⟩)]
def z11(s143:EI wG ww)(fu:Nat):Nat->(qrh s143 fu).L 0:=Fx.lq (qt6 s143.f fu) (q58 s143.f fu) (fun r2=>[r2.s])
def z10(s143:EI wG ww)(fu:Nat):(qrh s143 fu).L 1:=Fx.jm (q59 s143.f fu) [(z11 s143 fu fu).s]
def z1z(s143:EI wG ww)(fu:Nat):(qrh s143 fu).L 2:=Fx.jm (qlx s143.f fu) [(z10 s143 fu).s]
def z1y(s143:EI wG ww)(fu:Nat):EI wG ww:=(qrh s143 fu).fi (qt4 s143.f fu) [(z1z s143 fu).s] call14
def z13:EI wG ww := .rc (qt5 fu) (fun r=>qt4 r fu) (fun _ _=>rfl) (fun _=>rfl) (fun s143=>z1y s143 fu) (fun _=>rfl) fu
def z17:IF:=⟨.fn 9,[],[],_,RS.mk (.h .bool) []⟩
def z16:Fx wG z17:=fx f9 9 func9 [x0s.p,(zhb fu).p,(z1h fu).p,(z1q fu).p,(z13 fu).p] false [] ao []
def z18:=(z16 fu).fi (qud fu) [] call9
def qeb:IF:=⟨.fn 27,[.h wT,wH],[],_,RS.mk (.tup [.h (.list wT),.h (.list wI)]) []⟩
def zhs(s147:EI wG qeb)(fu:Nat):Fx wG qeb:=fx f27 27 func27 [s147.p] false [] ao [(ai [(0,976),(0,977),(0,489),(2,122),(1,61),(0,31)],⟨41,[(1,wH),(2,.ptr 32 0),(6,.own 33),(7,.own 34),(8,wH)],[(32,.dat wT 26),(33,.row wT 26),(34,.row wI 3)],64,[]⟩)]
def z2a(s147:EI wG qeb)(fu:Nat):Nat->(zhs s147 fu).L 0:=Fx.lq (qfy s147.f fu) (qtt s147.f fu) (fun r0=>[r0.s])
def z19(s147:EI wG qeb)(fu:Nat):EI wG qeb:=(zhs s147 fu).fi (qlr s147.f fu) [(z2a s147 fu fu).s] call27
def z2b:EI wG qeb := .rc (qa7 fu) (fun r=>qlr r fu) (fun _ _=>rfl) (fun _=>rfl) (fun s147=>z19 s147 fu) (fun _=>rfl) fu
def z2d:IF:=⟨.fn 21,[wH,wH],[],_,RS.mk (.h (.prod wI wI)) []⟩
def z2c:Fx wG z2d:=fx f21 21 func21 [] false [] ao []
def qad:=z2c.fi ft [] call21
def z2f:IF:=⟨.fn 31,[wH,wH,wH],[],_,RS.mk (.h .bool) []⟩
def z2e:Fx wG z2f:=fx f31 31 func31 [] false [] ao []
def ui:=z2e.fi fw [] call31
def z2g:IF:=⟨.fn 92,[wS],[],_,RS.mk (.h .bool) []⟩
def zht(fu:Nat):Fx wG z2g:=fx f92 92 func92 [ui.p] false [] ao [(ai [(0,208),(0,209),(0,105),(2,26),(1,13),(0,7)],⟨25,[(0,wS),(3,wH)],[],64,[]⟩)]
def z2h:Nat->(zht fu).L 0:=Fx.lq (qeo fu) (qsh fu) (fun r0=>[r0.s])
def z2i:=(zht fu).fi (qkz fu) [(z2h fu fu).s] call92
def z2j:IF:=⟨.fn 140,[.h .byte,wS],[],_,RS.mk (.h .bool) []⟩
def zhu(fu:Nat):Fx wG z2j:=fx f140 140 func140 [] false [] ao [(ai [(0,208),(0,209),(0,105),(2,26),(1,13),(0,7)],⟨17,[(0,.h .byte),(1,wS),(5,wH)],[],64,[]⟩)]
def z2k:Nat->(zhu fu).L 0:=Fx.lq (qay fu) (qlc fu) (fun r0=>[r0.s])
def q3x:=(zhu fu).fi (uo fu) [(z2k fu fu).s] call140
def z2m:IF:=⟨.fn 90,[.h .byte],[],_,RS.mk (.h .bool) []⟩
def z2l:Fx wG z2m:=fx f90 90 func90 [] false [] ao []
def qrj:=z2l.fi sv [] call90
def z2w:IF:=⟨.fn 93,[wS],[],_,RS.mk (wS) []⟩
def qae(fu:Nat):Fx wG z2w:=fx f93 93 func93 [qrj.p] false [] ao [(ai [(0,98),(1,49),(2,12),(1,6),(0,7)],⟨30,[(0,wS)],[],64,[]⟩),(ai [(0,224),(0,225),(0,113),(2,28),(1,14),(0,15)],⟨30,[(0,wS)],[],64,[]⟩),(ai [(0,97),(0,49),(2,12),(1,6),(0,7)],⟨30,[(0,wS),(10,.h .bool)],[],64,[]⟩),(ai [(0,96),(0,97),(0,49),(2,12),(1,6),(0,7)],⟨30,[(0,wS)],[],64,[]⟩)]
def z2z(r0:(qae fu).L 3):(qae fu).L 0:=Fx.jm (qs9 fu r0.f) [r0.s]
def z23:Nat->(qae fu).L 1:=Fx.lq (qfh fu) (qs8 fu) (fun r3=>[r3.s])
def z2y(r0:(qae fu).L 3):(qae fu).L 2:=Fx.jm (qfg fu r0.f) [(z2z fu r0).s,(z23 fu fu).s]
def z2x:Nat->(qae fu).L 3:=Fx.lq (qff fu) (qs7 fu) (fun r0=>[(z2y fu r0).s])
def z24:=(qae fu).fi (qs6 fu) [(z2x fu fu).s] call93
def z28:IF:=⟨.fn 112,[wS,wS],[],_,RS.mk (wH) []⟩
def zhw:Fx wG z28:=fx f112 112 func112 [(z2i fu).p,(q3x fu).p,(z24 fu).p] false [] ao [(ai [(0,976),(0,977),(0,489),(2,122),(1,61),(0,31)],⟨26,[(1,wS),(5,wH)],[],64,[]⟩)]
def z29:Nat->(zhw fu).L 0:=Fx.lq (qam fu) (qsg fu) (fun r0=>[r0.s])
def z3a:=(zhw fu).fi (qen fu) [(z29 fu fu).s] call112
def z3b:IF:=⟨.fn 78,[wS,wS],[],_,RS.mk (.own 0) [(0,.row .str 9)]⟩
def ki(fu:Nat):Fx wG z3b:=fx f78 78 func78 [qrj.p] false [] ao [(ai [(0,979),(2,122),(1,61),(0,31)],⟨87,[(5,wS),(6,.own 32),(7,wH)],[(32,.row wI 3)],64,[]⟩),(ai [(0,3913),(1,978),(0,979),(2,122),(1,61),(0,31)],⟨87,[(5,wS),(6,.own 32),(7,wH),(37,.h .bool)],[(32,.row wI 3)],64,[]⟩),(ai [(0,520531),(2,65066),(1,32533),(0,16267),(1,2033),(2,508),(1,254),(0,255)],⟨87,[(5,wS),(6,.own 32),(8,.own 33),(9,wH),(10,wH),(11,wH)],[(32,.row wI 3),(33,.row .str 9)],64,[]⟩),(ai [(0,4164243),(1,520530),(0,520531),(2,65066),(1,32533),(0,16267),(1,2033),(2,508),(1,254),(0,255)],⟨87,[(5,wS),(6,.own 32),(8,.own 33),(9,wH),(10,wH),(11,wH),(12,wH),(69,.h .bool)],[(32,.row wI 3),(33,.row .str 9)],64,[]⟩),(ai [(0,520528),(0,520529),(0,260265),(2,65066),(1,32533),(0,16267),(1,2033),(2,508),(1,254),(0,255)],⟨87,[(5,wS),(6,.own 32),(8,.own 33),(9,wH),(10,wH),(11,wH)],[(32,.row wI 3),(33,.row .str 9)],64,[]⟩),(ai [(0,4064),(0,4065),(0,2033),(2,508),(1,254),(0,255)],⟨87,[(5,wS),(6,.own 32),(8,.own 33),(9,wH)],[(32,.row wI 3),(33,.row .str 9)],64,[]⟩),(ai [(0,976),(0,977),(0,489),(2,122),(1,61),(0,31)],⟨87,[(5,wS),(6,.own 32),(7,wH)],[(32,.row wI 3)],64,[]⟩)]
def z3f(r0:(ki fu).L 6):(ki fu).L 0:=Fx.jm (qk5 fu r0.f) [r0.s]
def z3d(r0:(ki fu).L 6):(ki fu).L 1:=Fx.jm (qk4 fu r0.f) [(z3f fu r0).s]
def z3i(r2:(ki fu).L 5)(r4:(ki fu).L 4):(ki fu).L 2:=Fx.jm (qk6 fu r2.f r4.f) [r4.s]
def z3h(r2:(ki fu).L 5)(r4:(ki fu).L 4):(ki fu).L 3:=Fx.jm (qeu fu r2.f r4.f) [(z3i fu r2 r4).s]
def z3g(r2:(ki fu).L 5):Nat->(ki fu).L 4:=Fx.lq (w7 fu r2.f) (qsl fu r2.f) (fun r4=>[(z3h fu r2 r4).s,r2.s])
def z3e:Nat->(ki fu).L 5:=Fx.lq (sw fu) (qk3 fu) (fun r2=>[(z3g fu r2 fu).s])
def z3c:Nat->(ki fu).L 6:=Fx.lq (qan fu) (qk2 fu) (fun r0=>[(z3d fu r0).s,(z3e fu fu).s])
def zhx:=(ki fu).fi (qet fu) [(z3c fu fu).s] call78
def z3n:IF:=⟨.fn 77,[wS,wS],[],_,RS.mk (.h (.prod wI wI)) []⟩
def zhy:Fx wG z3n:=fx f77 77 func77 [(z3a fu).p,qad.p,(zhx fu).p] false [] ao [(ai [(0,976),(0,977),(0,489),(2,122),(1,61),(0,31)],⟨33,[(4,.ptr 32 0),(5,.own 33),(6,wH)],[(32,.dat (.prod wI wI) 30),(33,.row .str 9)],64,[]⟩)]
def z3o:Nat->(zhy fu).L 0:=Fx.lq (qes fu) (qsk fu) (fun r0=>[r0.s])
def z3p:=(zhy fu).fi (qk1 fu) [(z3o fu fu).s] call77
def z3q:IF:=⟨.fn 46,[.h wL],[],_,RS.mk (.h (.prod wI wI)) []⟩
def zhz:Fx wG z3q:=fx f46 46 func46 [qad.p,(z3p fu).p] false [] ao [(ai [(0,464),(0,465),(0,233),(2,58),(1,29),(0,15)],⟨34,[(0,.h wL),(2,.ptr 32 0),(3,wH)],[(32,.dat (.prod wI wI) 30)],64,[]⟩)]
def z3r:Nat->(zhz fu).L 0:=Fx.lq (qeq fu) (qsi fu) (fun r0=>[r0.s])
def zh0:=(zhz fu).fi (qep fu) [(z3r fu fu).s] call46
def z3s:IF:=⟨.fn 85,[wS],[],_,RS.mk (wS) []⟩
def zh1(fu:Nat):Fx wG z3s:=fx f85 85 func85 [ui.p] false [] ao [(ai [(0,464),(0,465),(0,233),(2,58),(1,29),(0,15)],⟨29,[(3,.own 32),(4,wH)],[(32,.row .byte 5)],64,[]⟩)]
def z3t:Nat->(zh1 fu).L 0:=Fx.lq (qaq fu) (qk9 fu) (fun r0=>[r0.s])
def q35:=(zh1 fu).fi (ul fu) [(z3t fu fu).s] call85
def z3v:IF:=⟨.fn 56,[wS,wS],[],_,RS.mk (.h .bool) []⟩
def z3u:Fx wG z3v:=fx f56 56 func56 [(q35 fu).p] false [] ao []
def qag:=(z3u fu).fi (ji fu) [] call56
def z3w:IF:=⟨.fn 57,[.h wL,wS],[],_,RS.mk (.own 0) [(0,.row .str 9)]⟩
def zh2:Fx wG z3w:=fx f57 57 func57 [(qag fu).p] false [] ao [(ai [(0,464),(0,465),(0,233),(2,58),(1,29),(0,15)],⟨29,[(0,.h wL),(1,wS),(5,.own 32),(6,wH)],[(32,.row .str 9)],64,[]⟩)]
def z3x:Nat->(zh2 fu).L 0:=Fx.lq (qa2 fu) (qte fu) (fun r0=>[r0.s])
def zh3:=(zh2 fu).fi (qlj fu) [(z3x fu fu).s] call57
def z3y:IF:=⟨.fn 102,[wS,wH],[],_,RS.mk (wH) []⟩
def zh4(fu:Nat):Fx wG z3y:=fx f102 102 func102 [qrj.p] false [] ao [(ai [(0,96),(0,97),(0,49),(2,12),(1,6),(0,7)],⟨18,[(0,wS),(1,wH)],[],64,[]⟩)]
def z3z:Nat->(zh4 fu).L 0:=Fx.lq (qfr fu) (qtk fu) (fun r0=>[r0.s])
def z30:=(zh4 fu).fi (qd fu) [(z3z fu fu).s] call102
def z32:IF:=⟨.fn 111,[.h .byte],[],_,RS.mk (.h .bool) []⟩
def z31:Fx wG z32:=fx f111 111 func111 [ui.p,(q3x fu).p] false [] ao []
def q39:=(z31 fu).fi (qa1 fu) [] call111
def z34:IF:=⟨.fn 103,[wS,wH,wS],[],_,RS.mk (wH) []⟩
def zh5:Fx wG z34:=fx f103 103 func103 [(q39 fu).p,(q3x fu).p] false [] ao [(ai [(0,96),(0,97),(0,49),(2,12),(1,6),(0,7)],⟨27,[(0,wS),(1,wH),(2,wS)],[],64,[]⟩)]
def z35:Nat->(zh5 fu).L 0:=Fx.lq (qfq fu) (qtj fu) (fun r0=>[r0.s])
def z36:=(zh5 fu).fi (qa4 fu) [(z35 fu fu).s] call103
def z38:IF:=⟨.fn 91,[wS,wS,wH],[],_,RS.mk (wH) []⟩
def zh6(fu:Nat):Fx wG z38:=fx f91 91 func91 [] false [] ao [(ai [(0,208),(0,209),(0,105),(2,26),(1,13),(0,7)],⟨28,[(0,wS),(1,wS),(7,wH)],[],64,[]⟩)]
def z4a:Nat->(zh6 fu).L 0:=Fx.lq (qer fu) (qsj fu) (fun r0=>[r0.s])
def z4b:=(zh6 fu).fi (qk0 fu) [(z4a fu fu).s] call91
def z4c:IF:=⟨.fn 141,[wS,wH,wH],[],_,RS.mk (wH) []⟩
def qed(fu:Nat):Fx wG z4c:=fx f141 141 func141 [ui.p] false [] ao [(ai [(0,1865),(1,466),(0,467),(2,58),(1,29),(0,15)],⟨40,[(0,wS),(1,wH),(2,wH),(7,wH),(8,wH)],[],64,[]⟩),(ai [(0,3729),(0,1865),(1,466),(0,467),(2,58),(1,29),(0,15)],⟨40,[(0,wS),(1,wH),(2,wH),(7,wH),(8,wH),(24,.h .bool)],[],64,[]⟩),(ai [(0,464),(0,465),(0,233),(2,58),(1,29),(0,15)],⟨40,[(0,wS),(1,wH),(2,wH),(7,wH),(8,wH)],[],64,[]⟩)]
def z4f(r0:(qed fu).L 2):(qed fu).L 0:=Fx.jm (qth fu r0.f) [r0.s]
def z4e(r0:(qed fu).L 2):(qed fu).L 1:=Fx.jm (qfn fu r0.f) [(z4f fu r0).s]
def z4d:Nat->(qed fu).L 2:=Fx.lq (qfm fu) (qtg fu) (fun r0=>[(z4e fu r0).s])
def z4g:=(qed fu).fi (qfl fu) [(z4d fu fu).s] call141
def qkf:IF:=⟨.fn 73,[.h (.int .u64)],[],_,RS.mk (wS) []⟩
def z4j(s171:EI wG qkf)(fu:Nat):Fx wG qkf:=fx f73 73 func73 [s171.p] false [] ao []
def z4k(s171:EI wG qkf)(fu:Nat):EI wG qkf:=(z4j s171 fu).fi (qlk s171.f fu) [] call73
def z4l:EI wG qkf := .rc (qfk fu) (fun r=>qlk r fu) (fun _ _=>rfl) (fun _=>rfl) (fun s171=>z4k s171 fu) (fun _=>rfl) fu
def z4n:IF:=⟨.fn 42,[wH],[],_,RS.mk (wS) []⟩
def z4m:Fx wG z4n:=fx f42 42 func42 [(z4l fu).p] false [] ao []
def q4d:=(z4m fu).fi (ol fu) [] call42
def z4o:IF:=⟨.fn 104,[wS,wS],[],_,RS.mk (.tup [.h (.prod .str (.prod .str (.prod wI .bool))),.h .bool]) []⟩
def q4e:Fx wG z4o:=fx f104 104 func104 [(z4b fu).p,(z4g fu).p,(q4d fu).p] false [] ao [(ai [(0,254),(0,255)],⟨63,[(4,.ptr 32 0),(7,wS),(8,.ptr 33 0)],[(32,.dat (.prod .str (.prod .str (.prod wI .bool))) 149),(33,.dat (.prod .str (.prod .str (.prod wI .bool))) 149)],64,[]⟩),(ai [(0,253),(0,127)],⟨63,[(4,.ptr 32 0),(7,wS),(8,.ptr 33 0),(37,.h .bool)],[(32,.dat (.prod .str (.prod .str (.prod wI .bool))) 149),(33,.dat (.prod .str (.prod .str (.prod wI .bool))) 149)],64,[]⟩)]
def z4q:(q4e fu).L 0:=Fx.jm (qa3 fu) []
def z4p:(q4e fu).L 1:=Fx.jm (qfo fu) [(z4q fu).s]
def z4r:=(q4e fu).fi (qll fu) [(z4p fu).s] call104
def z4u:IF:=⟨.fn 143,[wS,wH],[],_,RS.mk (.tup [wH,wH]) []⟩
def qkg(fu:Nat):Fx wG z4u:=fx f143 143 func143 [ui.p] false [] ao [(ai [(0,32720),(0,32721),(0,16361),(2,4090),(1,2045),(0,1023)],⟨76,[(0,wS),(1,wH),(7,wH),(8,wH),(9,wH),(10,wH)],[],64,[]⟩),(ai [(0,2044),(0,2045),(0,1023)],⟨76,[(0,wS),(1,wH),(7,wH),(8,wH),(9,wH)],[],64,[]⟩),(ai [(0,1021),(0,511)],⟨76,[(0,wS),(1,wH),(7,wH),(8,wH),(9,wH),(43,.h .bool)],[],64,[]⟩),(ai [(0,1020),(0,1021),(0,511)],⟨76,[(0,wS),(1,wH),(7,wH),(8,wH),(9,wH)],[],64,[]⟩)]
def z4y:Nat->(qkg fu).L 0:=Fx.lq (sy fu) (qlh fu) (fun r3=>[r3.s])
def z4x:(qkg fu).L 1:=Fx.jm (q54 fu) [(z4y fu fu).s]
def z4w:(qkg fu).L 2:=Fx.jm (qfd fu) [(z4x fu).s]
def z4v:(qkg fu).L 3:=Fx.jm (sx fu) [(z4w fu).s]
def zh8:=(qkg fu).fi (qfc fu) [(z4v fu).s] call143
def z42:IF:=⟨.fn 144,[wH],[],_,RS.mk (wS) []⟩
def q4g:Fx wG z42:=fx f144 144 func144 [ui.p] false [] ao [(ai [(0,28),(0,29),(0,15)],⟨65,[(0,wH)],[],64,[]⟩),(ai [(0,13),(0,7)],⟨65,[(0,wH),(9,.h .bool)],[],64,[]⟩)]
def z44:q4g.L 0:=Fx.jn qtc [] fun d=>by kernel_rfl
def z43:q4g.L 1:=Fx.jn qtb [(z44).s] fun d=>by kernel_rfl
def z47:=q4g.fi qta [(z43).s] call144
def z5a:IF:=⟨.fn 106,[wS],[],_,RS.mk (wS) []⟩
def zh9:Fx wG z5a:=fx f106 106 func106 [(zh8 fu).p,z47.p] false [] ao [(ai [(0,976),(0,977),(0,489),(2,122),(1,61),(0,31)],⟨39,[(0,wS),(3,wS),(4,.h .bool),(5,wH)],[],64,[]⟩)]
def z5b:Nat->(zh9 fu).L 0:=Fx.lq (qfp fu) (qti fu) (fun r0=>[r0.s])
def z5c:=(zh9 fu).fi (qlm fu) [(z5b fu fu).s] call106
def z5d:IF:=⟨.fn 142,[.h .byte],[],_,RS.mk (wH) []⟩
def zia:Fx wG z5d:=fx f142 142 func142 [(q35 fu).p] false [] ao [(ai [(0,208),(0,209),(0,105),(2,26),(1,13),(0,7)],⟨20,[(0,.h .byte),(3,wH)],[],64,[]⟩)]
def z5e:Nat->(zia fu).L 0:=Fx.lq (qap fu) (qk8 fu) (fun r0=>[r0.s])
def z5f:=(zia fu).fi (w9 fu) [(z5e fu fu).s] call142
def z5p:IF:=⟨.fn 105,[wS],[],_,RS.mk (wS) []⟩
def qrk:Fx wG z5p:=fx f105 105 func105 [(z5f fu).p] false [] ao [(ai [(0,1865),(1,466),(0,467),(2,58),(1,29),(0,15)],⟨65,[(0,wS),(3,wS),(4,wH),(37,.h .bool)],[],64,[]⟩),(ai [(0,464),(0,465),(0,233),(2,58),(1,29),(0,15)],⟨65,[(0,wS),(3,wS),(4,wH)],[],64,[]⟩)]
def z5r(r0:(qrk fu).L 1):(qrk fu).L 0:=Fx.jm (up fu r0.f) [r0.s]
def z5q:Nat->(qrk fu).L 1:=Fx.lq (qa5 fu) (qtl fu) (fun r0=>[(z5r fu r0).s])
def z5s:=(qrk fu).fi (qln fu) [(z5q fu fu).s] call105
def z5u:IF:=⟨.fn 74,[wS],[],_,RS.mk (.tup [.h (.prod .str (.prod .str wL)),.h .bool]) []⟩
def bp:Fx wG z5u:=fx f74 74 func74 [(z30 fu).p,(z36 fu).p,(qag fu).p,(z4r fu).p,(z5c fu).p,(q35 fu).p,(z5s fu).p] false [] ao [(ai [(0,137423747722),(0,137423747723),(1,17177968465),(2,4294492116),(1,2147246058),(0,2147246059),(0,134202879),(1,131057),(2,32764),(1,16382),(0,16383)],⟨332,[(0,wS),(2,.ptr 32 0),(4,wH),(6,.ptr 33 0),(7,.own 34),(8,wS),(9,wS)],[(32,.cells [wS,wS,wN] 83),(33,.cells [wS,wS,wN] 83),(34,.row (.prod .str (.prod .str (.prod wI .bool))) 149)],64,[]⟩),(ai [(0,137423747721),(0,68711873861),(1,17177968465),(2,4294492116),(1,2147246058),(0,2147246059),(0,134202879),(1,131057),(2,32764),(1,16382),(0,16383)],⟨332,[(0,wS),(2,.ptr 32 0),(4,wH),(6,.ptr 33 0),(7,.own 34),(8,wS),(9,wS),(140,.h .bool)],[(32,.cells [wS,wS,wN] 83),(33,.cells [wS,wS,wN] 83),(34,.row (.prod .str (.prod .str (.prod wI .bool))) 149)],64,[]⟩),(ai [(0,137423747720),(0,137423747721),(0,68711873861),(1,17177968465),(2,4294492116),(1,2147246058),(0,2147246059),(0,134202879),(1,131057),(2,32764),(1,16382),(0,16383)],⟨332,[(0,wS),(2,.ptr 32 0),(4,wH),(6,.ptr 33 0),(7,.own 34),(8,wS),(9,wS)],[(32,.cells [wS,wS,wN] 83),(33,.cells [wS,wS,wN] 83),(34,.row (.prod .str (.prod .str (.prod wI .bool))) 149)],64,[]⟩),(ai [(0,268405758),(0,268405759),(1,131057),(2,32764),(1,16382),(0,16383)],⟨332,[(0,wS),(2,.ptr 32 0),(4,wH),(6,.ptr 33 0),(7,.own 34),(8,wS),(9,wS)],[(32,.cells [wS,wS,wN] 83),(33,.cells [wS,wS,wN] 83),(34,.row (.prod .str (.prod .str (.prod wI .bool))) 149)],64,[]⟩),(ai [(0,34355936929),(0,17177968465),(2,4294492116),(1,2147246058),(0,2147246059),(0,134202879),(1,131057),(2,32764),(1,16382),(0,16383)],⟨332,[(0,wS),(2,.ptr 32 0),(4,wH),(6,.ptr 33 0),(7,.own 34),(8,wS),(9,wS),(129,.h .bool)],[(32,.cells [wS,wS,wN] 83),(33,.cells [wS,wS,wN] 83),(34,.row (.prod .str (.prod .str (.prod wI .bool))) 149)],64,[]⟩),(ai [(0,34355936928),(0,34355936929),(0,17177968465),(2,4294492116),(1,2147246058),(0,2147246059),(0,134202879),(1,131057),(2,32764),(1,16382),(0,16383)],⟨332,[(0,wS),(2,.ptr 32 0),(4,wH),(6,.ptr 33 0),(7,.own 34),(8,wS),(9,wS)],[(32,.cells [wS,wS,wN] 83),(33,.cells [wS,wS,wN] 83),(34,.row (.prod .str (.prod .str (.prod wI .bool))) 149)],64,[]⟩),(ai [(0,268405757),(0,134202879),(1,131057),(2,32764),(1,16382),(0,16383)],⟨332,[(0,wS),(2,.ptr 32 0),(4,wH),(6,.ptr 33 0),(7,.own 34),(8,wS),(9,wS),(117,.h .bool)],[(32,.cells [wS,wS,wN] 83),(33,.cells [wS,wS,wN] 83),(34,.row (.prod .str (.prod .str (.prod wI .bool))) 149)],64,[]⟩),(ai [(0,33550718),(0,33550719),(1,131057),(2,32764),(1,16382),(0,16383)],⟨332,[(0,wS),(2,.ptr 32 0),(4,wH),(6,.ptr 33 0),(7,.own 34),(8,wS)],[(32,.cells [wS,wS,wN] 83),(33,.cells [wS,wS,wN] 83),(34,.row (.prod .str (.prod .str (.prod wI .bool))) 149)],64,[]⟩),(ai [(0,33550717),(0,16775359),(1,131057),(2,32764),(1,16382),(0,16383)],⟨332,[(0,wS),(2,.ptr 32 0),(4,wH),(6,.ptr 33 0),(7,.own 34),(8,wS),(102,.h .bool)],[(32,.cells [wS,wS,wN] 83),(33,.cells [wS,wS,wN] 83),(34,.row (.prod .str (.prod .str (.prod wI .bool))) 149)],64,[]⟩),(ai [(0,268423763),(2,33552970),(1,16776485),(0,8388243),(1,1048530),(0,1048531),(2,131066),(1,65533),(0,32767)],⟨332,[(2,.ptr 32 0),(6,.ptr 33 0),(7,.own 34),(12,wH),(13,.h .bool),(14,wH)],[(32,.cells [wS,wS,wN] 83),(33,.cells [wS,wS,.own 35] 83),(34,.row (.prod .str (.prod .str (.prod wI .bool))) 149),(35,.row wP 86)],64,[]⟩),(ai [(0,1073695187),(2,134211898),(1,67105949),(0,33552975),(1,1048530),(0,1048531),(2,131066),(1,65533),(0,32767)],⟨332,[(2,.ptr 32 0),(6,.ptr 33 0),(7,.own 34),(12,wH),(13,.h .bool),(15,wH),(16,wH)],[(32,.cells [wS,wS,wN] 83),(33,.cells [wS,wS,.own 35] 83),(34,.row (.prod .str (.prod .str (.prod wI .bool))) 149),(35,.row wP 86)],64,[]⟩),(ai [(0,4397855658579),(2,549731957322),(1,274865978661),(0,137432989331),(1,17179123666),(0,17179123667),(2,2147390458),(1,1073695229),(0,536847615),(1,1048530),(0,1048531),(2,131066),(1,65533),(0,32767)],⟨332,[(2,.ptr 32 0),(6,.ptr 33 0),(7,.own 34),(12,wH),(15,wH),(17,wS),(18,wH),(19,wH),(20,wH)],[(32,.cells [wS,wS,wN] 83),(33,.cells [wS,wS,.own 35] 83),(34,.row (.prod .str (.prod .str (.prod wI .bool))) 149),(35,.row wP 86)],64,[]⟩),(ai [(0,17591422634313),(1,4397855658578),(0,4397855658579),(2,549731957322),(1,274865978661),(0,137432989331),(1,17179123666),(0,17179123667),(2,2147390458),(1,1073695229),(0,536847615),(1,1048530),(0,1048531),(2,131066),(1,65533),(0,32767)],⟨332,[(2,.ptr 32 0),(6,.ptr 33 0),(7,.own 34),(12,wH),(15,wH),(17,wS),(18,wH),(19,wH),(20,wH),(283,.h .bool)],[(32,.cells [wS,wS,wN] 83),(33,.cells [wS,wS,.own 35] 83),(34,.row (.prod .str (.prod .str (.prod wI .bool))) 149),(35,.row wP 86)],64,[]⟩),(ai [(0,17179123667),(2,2147390458),(1,1073695229),(0,536847615),(1,1048530),(0,1048531),(2,131066),(1,65533),(0,32767)],⟨332,[(2,.ptr 32 0),(6,.ptr 33 0),(7,.own 34),(12,wH),(15,wH),(17,wS),(18,wH)],[(32,.cells [wS,wS,wN] 83),(33,.cells [wS,wS,.own 35] 83),(34,.row (.prod .str (.prod .str (.prod wI .bool))) 149),(35,.row wP 86)],64,[]⟩),(ai [(0,1099463914655),(1,17179123666),(0,17179123667),(2,2147390458),(1,1073695229),(0,536847615),(1,1048530),(0,1048531),(2,131066),(1,65533),(0,32767)],⟨332,[(2,.ptr 32 0),(6,.ptr 33 0),(7,.own 34),(12,wH),(15,wH),(17,wS),(18,wH),(21,wS)],[(32,.cells [wS,wS,wN] 83),(33,.cells [wS,wS,.own 35] 83),(34,.row (.prod .str (.prod .str (.prod wI .bool))) 149),(35,.row wP 86)],64,[]⟩),(ai [(0,8795711317237),(0,1099463914655),(1,17179123666),(0,17179123667),(2,2147390458),(1,1073695229),(0,536847615),(1,1048530),(0,1048531),(2,131066),(1,65533),(0,32767)],⟨332,[(2,.ptr 32 0),(6,.ptr 33 0),(7,.own 34),(12,wH),(15,wH),(17,wS),(18,wH),(21,wS)],[(32,.cells [wS,wS,wN] 83),(33,.cells [wS,wS,.own 35] 83),(34,.row (.prod .str (.prod .str (.prod wI .bool))) 149),(35,.row wP 86)],64,[]⟩),(ai [(0,17591422634473),(0,8795711317237),(0,1099463914655),(1,17179123666),(0,17179123667),(2,2147390458),(1,1073695229),(0,536847615),(1,1048530),(0,1048531),(2,131066),(1,65533),(0,32767)],⟨332,[(2,.ptr 32 0),(6,.ptr 33 0),(7,.own 34),(12,wH),(15,wH),(17,wS),(18,wH),(21,wS),(310,.h .bool)],[(32,.cells [wS,wS,wN] 83),(33,.cells [wS,wS,.own 35] 83),(34,.row (.prod .str (.prod .str (.prod wI .bool))) 149),(35,.row wP 86)],64,[]⟩),(ai [(0,4397855658576),(0,4397855658577),(0,2198927829289),(2,549731957322),(1,274865978661),(0,137432989331),(1,17179123666),(0,17179123667),(2,2147390458),(1,1073695229),(0,536847615),(1,1048530),(0,1048531),(2,131066),(1,65533),(0,32767)],⟨332,[(2,.ptr 32 0),(6,.ptr 33 0),(7,.own 34),(12,wH),(15,wH),(17,wS),(18,wH),(19,wH),(20,wH)],[(32,.cells [wS,wS,wN] 83),(33,.cells [wS,wS,.own 35] 83),(34,.row (.prod .str (.prod .str (.prod wI .bool))) 149),(35,.row wP 86)],64,[]⟩),(ai [(0,17179123664),(0,17179123665),(0,8589561833),(2,2147390458),(1,1073695229),(0,536847615),(1,1048530),(0,1048531),(2,131066),(1,65533),(0,32767)],⟨332,[(2,.ptr 32 0),(6,.ptr 33 0),(7,.own 34),(12,wH),(15,wH),(17,wS),(18,wH)],[(32,.cells [wS,wS,wN] 83),(33,.cells [wS,wS,.own 35] 83),(34,.row (.prod .str (.prod .str (.prod wI .bool))) 149),(35,.row wP 86)],64,[]⟩),(ai [(0,1073695184),(0,1073695185),(0,536847593),(2,134211898),(1,67105949),(0,33552975),(1,1048530),(0,1048531),(2,131066),(1,65533),(0,32767)],⟨332,[(2,.ptr 32 0),(6,.ptr 33 0),(7,.own 34),(12,wH),(13,.h .bool),(15,wH),(16,wH)],[(32,.cells [wS,wS,wN] 83),(33,.cells [wS,wS,.own 35] 83),(34,.row (.prod .str (.prod .str (.prod wI .bool))) 149),(35,.row wP 86)],64,[]⟩),(ai [(0,268423760),(0,268423761),(0,134211881),(2,33552970),(1,16776485),(0,8388243),(1,1048530),(0,1048531),(2,131066),(1,65533),(0,32767)],⟨332,[(2,.ptr 32 0),(6,.ptr 33 0),(7,.own 34),(12,wH),(13,.h .bool),(14,wH)],[(32,.cells [wS,wS,wN] 83),(33,.cells [wS,wS,.own 35] 83),(34,.row (.prod .str (.prod .str (.prod wI .bool))) 149),(35,.row wP 86)],64,[]⟩),(ai [(0,1048528),(0,1048529),(0,524265),(2,131066),(1,65533),(0,32767)],⟨332,[(2,.ptr 32 0),(6,.ptr 33 0),(7,.own 34),(12,wH)],[(32,.cells [wS,wS,wN] 83),(33,.cells [wS,wS,.own 35] 83),(34,.row (.prod .str (.prod .str (.prod wI .bool))) 149),(35,.row wP 86)],64,[]⟩),(ai [(0,262112),(0,262113),(0,131057),(2,32764),(1,16382),(0,16383)],⟨332,[(0,wS),(2,.ptr 32 0),(4,wH),(6,.ptr 33 0),(7,.own 34)],[(32,.cells [wS,wS,wN] 83),(33,.cells [wS,wS,wN] 83),(34,.row (.prod .str (.prod .str (.prod wI .bool))) 149)],64,[]⟩),(ai [(0,254),(0,255)],⟨332,[(0,wS),(2,.ptr 32 0),(4,wH),(6,.ptr 33 0)],[(32,.cells [wS,wS,wN] 83),(33,.cells [wS,wS,wN] 83)],64,[]⟩),(ai [(0,253),(0,127)],⟨332,[(0,wS),(2,.ptr 32 0),(4,wH),(6,.ptr 33 0),(49,.h .bool)],[(32,.cells [wS,wS,wN] 83),(33,.cells [wS,wS,wN] 83)],64,[]⟩)]
def z58(r2:(bp fu).L 22)(r9:(bp fu).L 5):(bp fu).L 0:=Fx.jm (qez fu r2.f r9.f) [r9.s]
def z54(r2:(bp fu).L 22)(r9:(bp fu).L 5):(bp fu).L 1:=Fx.jm (qau fu r2.f r9.f) [(z58 fu r2 r9).s]
def z52(r2:(bp fu).L 22)(r9:(bp fu).L 5):(bp fu).L 2:=Fx.jm (qsw fu r2.f r9.f) [(z54 fu r2 r9).s]
def zib(r2:(bp fu).L 22):(bp fu).L 3:=Fx.jm (xg fu r2.f) [r2.s]
def z5x(r2:(bp fu).L 22)(r9:(bp fu).L 5):(bp fu).L 4:=Fx.jm (qat fu r2.f r9.f) [(z52 fu r2 r9).s,(zib fu r2).s]
def z6l(r2:(bp fu).L 22):Nat->(bp fu).L 5:=Fx.lq (um fu r2.f) (qlb fu r2.f) (fun r9=>[(z5x fu r2 r9).s])
def z6j(r2:(bp fu).L 22):(bp fu).L 6:=Fx.jm (qe4 fu r2.f) [(z6l fu r2 fu).s,(zib fu r2).s]
def z6h(r2:(bp fu).L 22):(bp fu).L 7:=Fx.jm (qsy fu r2.f) [(z6j fu r2).s]
def z6f(r2:(bp fu).L 22):(bp fu).L 8:=Fx.jm (qe2 fu r2.f) [(z6h fu r2).s]
def z56(r4:(bp fu).L 21)(r6:(bp fu).L 20):(bp fu).L 9:=Fx.jm (qey fu r4.f r6.f) [r6.s]
def z5y(r4:(bp fu).L 21)(r8:(bp fu).L 19):(bp fu).L 10:=Fx.jm (qex fu r4.f r8.f) [r8.s]
def z6b(r4:(bp fu).L 21)(r13:(bp fu).L 18)(r17:(bp fu).L 17):(bp fu).L 11:=Fx.jm (qaw fu r4.f r13.f r17.f) [r17.s]
def z59(r4:(bp fu).L 21)(r13:(bp fu).L 18)(r17:(bp fu).L 17):(bp fu).L 12:=Fx.jm (qe0 fu r4.f r13.f r17.f) [(z6b fu r4 r13 r17).s]
def z6e(r4:(bp fu).L 21)(r13:(bp fu).L 18):(bp fu).L 13:=Fx.jm (qsx fu r4.f r13.f) [r13.s]
def zic(r4:(bp fu).L 21)(r13:(bp fu).L 18):(bp fu).L 14:=Fx.jm (qax fu r4.f r13.f) [(z6e fu r4 r13).s]
def z6d(r4:(bp fu).L 21)(r13:(bp fu).L 18):(bp fu).L 15:=Fx.jm (qe1 fu r4.f r13.f) [(zic fu r4 r13).s]
def z6c(r4:(bp fu).L 21)(r13:(bp fu).L 18):(bp fu).L 16:=Fx.jm (qa fu r4.f r13.f) [(z6d fu r4 r13).s]
def z57(r4:(bp fu).L 21)(r13:(bp fu).L 18):Nat->(bp fu).L 17:=Fx.lq (ku fu r4.f r13.f) (xe fu r4.f r13.f) (fun r17=>[(z59 fu r4 r13 r17).s,(z6c fu r4 r13).s,(zic fu r4 r13).s])
def z5z(r4:(bp fu).L 21):Nat->(bp fu).L 18:=Fx.lq (mc fu r4.f) (xd fu r4.f) (fun r13=>[(z57 fu r4 r13 fu).s,r4.s])
def z6k(r4:(bp fu).L 21):Nat->(bp fu).L 19:=Fx.lq (qb fu r4.f) (qas fu r4.f) (fun r8=>[(z5y fu r4 r8).s,r4.s,(z5z fu r4 fu).s])
def z6i(r4:(bp fu).L 21):Nat->(bp fu).L 20:=Fx.lq (qe3 fu r4.f) (qsu fu r4.f) (fun r6=>[(z56 fu r4 r6).s,(z6k fu r4 fu).s])
def z6g:Nat->(bp fu).L 21:=Fx.lq (ne fu) (qst fu) (fun r4=>[(z6i fu r4 fu).s])
def z6a:Nat->(bp fu).L 22:=Fx.lq (qav fu) (qss fu) (fun r2=>[(z6f fu r2).s,(z6g fu fu).s])
def z5w:(bp fu).L 23:=Fx.jm (qsv fu) [(z6a fu fu).s]
def z5v:(bp fu).L 24:=Fx.jm (xf fu) [(z5w fu).s]
def z6m:=(bp fu).fi (qew fu) [(z5v fu).s] call74
def z65:IF:=⟨.fn 107,[wS],[],_,RS.mk (.h .bool) []⟩
def zid:Fx wG z65:=fx f107 107 func107 [(q39 fu).p,ui.p] false [] ao [(ai [(0,208),(0,209),(0,105),(2,26),(1,13),(0,7)],⟨18,[(0,wS),(3,wH)],[],64,[]⟩)]
def z67:Nat->(zid fu).L 0:=Fx.lq (qfe fu) (qs5 fu) (fun r0=>[r0.s])
def zie:=(zid fu).fi (xj fu) [(z67 fu fu).s] call107
def z68:IF:=⟨.fn 108,[wS],[],_,RS.mk (.h .bool) []⟩
def zif:Fx wG z68:=fx f108 108 func108 [(zh8 fu).p] false [] ao [(ai [(0,208),(0,209),(0,105),(2,26),(1,13),(0,7)],⟨21,[(0,wS),(3,wH)],[],64,[]⟩)]
def z69:Nat->(zif fu).L 0:=Fx.lq (qfj fu) (qtd fu) (fun r0=>[r0.s])
def z7a:=(zif fu).fi (qfi fu) [(z69 fu fu).s] call108
def z7b:IF:=⟨.fn 75,[.h (.prod .str (.prod .str wL))],[],_,RS.mk (.h (.prod wI wI)) []⟩
def sm:Fx wG z7b:=fx f75 75 func75 [(zie fu).p,qad.p,(qag fu).p,(z7a fu).p] false [] ao [(ai [(0,500944),(0,500945),(0,250473),(2,62618),(1,31309),(0,15655),(1,978),(0,979),(2,122),(1,61),(0,31)],⟨75,[(1,.ptr 32 0),(2,.ptr 33 0),(3,wH),(4,.ptr 34 0),(5,wH)],[(32,.dat (.prod .str (.prod .str wL)) 83),(33,.dat (.prod wI wI) 30),(34,.dat wP 86)],64,[]⟩),(ai [(0,31308),(0,31309),(0,15655),(1,978),(0,979),(2,122),(1,61),(0,31)],⟨75,[(1,.ptr 32 0),(2,.ptr 33 0),(3,wH),(4,.ptr 34 0)],[(32,.dat (.prod .str (.prod .str wL)) 83),(33,.dat (.prod wI wI) 30),(34,.dat wP 86)],64,[]⟩),(ai [(0,15653),(0,7827),(1,978),(0,979),(2,122),(1,61),(0,31)],⟨75,[(1,.ptr 32 0),(2,.ptr 33 0),(3,wH),(4,.ptr 34 0),(43,.h .bool)],[(32,.dat (.prod .str (.prod .str wL)) 83),(33,.dat (.prod wI wI) 30),(34,.dat wP 86)],64,[]⟩),(ai [(0,976),(0,977),(0,489),(2,122),(1,61),(0,31)],⟨75,[(1,.ptr 32 0),(2,.ptr 33 0),(3,wH)],[(32,.dat (.prod .str (.prod .str wL)) 83),(33,.dat (.prod wI wI) 30)],64,[]⟩),(ai [(0,28),(0,29),(0,15)],⟨75,[(1,.ptr 32 0),(2,.ptr 33 0)],[(32,.dat (.prod .str (.prod .str wL)) 83),(33,.dat (.prod wI wI) 30)],64,[]⟩),(ai [(0,13),(0,7)],⟨75,[(1,.ptr 32 0),(2,.ptr 33 0),(15,.h .bool)],[(32,.dat (.prod .str (.prod .str wL)) 83),(33,.dat (.prod wI wI) 30)],64,[]⟩)]
def z7h(r2:(sm fu).L 3):Nat->(sm fu).L 0:=Fx.lq (qev fu r2.f) (qsp fu r2.f) (fun r5=>[r5.s,r2.s])
def z7g(r2:(sm fu).L 3):(sm fu).L 1:=Fx.jm (qsr fu r2.f) [(z7h fu r2 fu).s]
def z7f(r2:(sm fu).L 3):(sm fu).L 2:=Fx.jm (xc fu r2.f) [(z7g fu r2).s]
def z7e:Nat->(sm fu).L 3:=Fx.lq (xa fu) (qso fu) (fun r2=>[(z7f fu r2).s])
def z7d:(sm fu).L 4:=Fx.jm (qsq fu) [(z7e fu fu).s]
def z7c:(sm fu).L 5:=Fx.jm (qar fu) [(z7d fu).s]
def z7i:=(sm fu).fi (qla fu) [(z7c fu).s] call75
end
end
noncomputable section
open Go.Proofs
set_option linter.unusedVariables false
set_option maxRecDepth 100000
set_option maxHeartbeats 2000000
open Tryz
section
variable(fu:Nat)
def z7n:IF:=⟨.fn 43,[.h wL],[],_,RS.mk (.tup [.h (.prod .str (.prod .str wL)),.h .bool]) []⟩
def q4o:Fx wG z7n:=fx f43 43 func43 [(zh3 fu).p,(z6m fu).p,(z7i fu).p] false [] ao [(ai [(0,30),(0,31)],⟨37,[(2,.ptr 32 0),(4,.own 33)],[(32,.cells [wS,wS,wN] 83),(33,.row .str 9)],64,[]⟩),(ai [(0,29),(0,15)],⟨37,[(2,.ptr 32 0),(4,.own 33),(18,.h .bool)],[(32,.cells [wS,wS,wN] 83),(33,.row .str 9)],64,[]⟩)]
def z7p:(q4o fu).L 0:=Fx.jm (qt7 fu) []
def z7o:(q4o fu).L 1:=Fx.jm (qly fu) [(z7p fu).s]
def q4p:=(q4o fu).fi (qbc fu) [(z7o fu).s] call43
def z7s:IF:=⟨.fn 55,[.h (.prod .str (.prod .str wL)),wS],[],_,RS.mk (.tup [wS,.h .bool]) []⟩
def zig:Fx wG z7s:=fx f55 55 func55 [(qag fu).p] false [] ao [(ai [(0,208),(0,209),(0,105),(2,26),(1,13),(0,7)],⟨28,[(1,wS),(2,.ptr 32 0),(6,wH)],[(32,.dat (.prod .str (.prod .str wL)) 83)],64,[]⟩)]
def z7t:Nat->(zig fu).L 0:=Fx.lq (qe7 fu) (qs0 fu) (fun r0=>[r0.s])
def zih:=(zig fu).fi (qld fu) [(z7t fu fu).s] call55
def z7v:IF:=⟨.fn 79,[.h wB,wH],[],_,RS.mk (.h .bool) []⟩
def z7u:Fx wG z7v:=fx f79 79 func79 [] false [] ao []
def zii:=z7u.fi qal [] call79
def z7w:IF:=⟨.fn 48,[.h wB],[],_,RS.mk (.h (.prod wI wI)) []⟩
def qro(fu:Nat):Fx wG z7w:=fx f48 48 func48 [zii.p,qad.p] false [] ao [(ai [(0,7461),(0,3731),(1,466),(0,467),(2,58),(1,29),(0,15)],⟨37,[(0,.h wB),(2,.ptr 32 0),(3,wH),(4,wH),(29,.h .bool)],[(32,.dat (.prod wI wI) 30)],64,[]⟩),(ai [(0,464),(0,465),(0,233),(2,58),(1,29),(0,15)],⟨37,[(0,.h wB),(2,.ptr 32 0),(3,wH),(4,wH)],[(32,.dat (.prod wI wI) 30)],64,[]⟩)]
def z7y(r0:(qro fu).L 1):(qro fu).L 0:=Fx.jm (qlq fu r0.f) [r0.s]
def z7x:Nat->(qro fu).L 1:=Fx.lq (qfu fu) (qto fu) (fun r0=>[r0.s,(z7y fu r0).s])
def zij:=(qro fu).fi (qlp fu) [(z7x fu fu).s] call48
def z71:IF:=⟨.fn 58,[.h wL],[],_,RS.mk (.tup [wS,.h .bool]) []⟩
def qrq:Fx wG z71:=fx f58 58 func58 [(q4p fu).p,(qag fu).p,(zih fu).p,ui.p] false [] ao [(ai [(0,2000),(0,2001),(0,1001),(2,250),(1,125),(0,63)],⟨54,[(6,wS),(7,.h .bool),(8,wH)],[],64,[]⟩),(ai [(0,30),(0,31)],⟨54,[(4,.ptr 32 0)],[(32,.dat (.prod .str (.prod .str wL)) 83)],64,[]⟩),(ai [(0,29),(0,15)],⟨54,[(4,.ptr 32 0),(21,.h .bool)],[(32,.dat (.prod .str (.prod .str wL)) 83)],64,[]⟩)]
def z78:Nat->(qrq fu).L 0:=Fx.lq (qft fu) (qtm fu) (fun r2=>[r2.s])
def z74:(qrq fu).L 1:=Fx.jm (qtn fu) [(z78 fu fu).s]
def z73:(qrq fu).L 2:=Fx.jm (qfs fu) [(z74 fu).s]
def z79:=(qrq fu).fi (qlo fu) [(z73 fu).s] call58
def z8f:IF:=⟨.fn 86,[wS,wS],[],_,RS.mk (wH) []⟩
def qee(fu:Nat):Fx wG z8f:=fx f86 86 func86 [qrj.p] false [] ao [(ai [(0,226),(1,113),(2,28),(1,14),(0,15)],⟨32,[(0,wS),(1,wS),(5,wH)],[],64,[]⟩),(ai [(0,225),(0,113),(2,28),(1,14),(0,15)],⟨32,[(0,wS),(1,wS),(5,wH),(16,.h .bool)],[],64,[]⟩),(ai [(0,224),(0,225),(0,113),(2,28),(1,14),(0,15)],⟨32,[(0,wS),(1,wS),(5,wH)],[],64,[]⟩)]
def z8i(r0:(qee fu).L 2):(qee fu).L 0:=Fx.jm (qt0 fu r0.f) [r0.s]
def z8h(r0:(qee fu).L 2):(qee fu).L 1:=Fx.jm (qbb fu r0.f) [(z8i fu r0).s]
def z8g:Nat->(qee fu).L 2:=Fx.lq (qba fu) (qtz fu) (fun r0=>[(z8h fu r0).s])
def z8j:=(qee fu).fi (qty fu) [(z8g fu fu).s] call86
def z8m:IF:=⟨.fn 59,[.h wB,wS],[],_,RS.mk (.own 0) [(0,.row wB 23)]⟩
def iz:Fx wG z8m:=fx f59 59 func59 [zii.p,(z8j fu).p] false [] ao [(ai [(0,63650),(1,31825),(2,7956),(1,3978),(0,3979),(1,497),(2,124),(1,62),(0,63)],⟨74,[(0,.h wB),(1,wS),(5,.own 32),(6,wH),(7,wH),(8,wH)],[(32,.row wB 23)],64,[]⟩),(ai [(0,254716),(0,254717),(0,127359),(1,497),(2,124),(1,62),(0,63)],⟨74,[(0,.h wB),(1,wS),(5,.own 32),(6,wH),(9,wH),(10,wH)],[(32,.row wB 23)],64,[]⟩),(ai [(0,509429),(0,63679),(1,497),(2,124),(1,62),(0,63)],⟨74,[(0,.h wB),(1,wS),(5,.own 32),(9,wH),(10,wH)],[(32,.row wB 23)],64,[]⟩),(ai [(0,8150859),(0,509429),(0,63679),(1,497),(2,124),(1,62),(0,63)],⟨74,[(0,.h wB),(1,wS),(5,.own 32),(6,wH),(9,wH),(10,wH),(11,wH)],[(32,.row wB 23)],64,[]⟩),(ai [(0,31838),(0,31839),(1,497),(2,124),(1,62),(0,63)],⟨74,[(0,.h wB),(1,wS),(5,.own 32),(6,wH),(7,wH),(8,wH),(9,wH)],[(32,.row wB 23)],64,[]⟩),(ai [(0,63649),(0,31825),(2,7956),(1,3978),(0,3979),(1,497),(2,124),(1,62),(0,63)],⟨74,[(0,.h wB),(1,wS),(5,.own 32),(6,wH),(7,wH),(8,wH),(26,.h .bool)],[(32,.row wB 23)],64,[]⟩),(ai [(0,63648),(0,63649),(0,31825),(2,7956),(1,3978),(0,3979),(1,497),(2,124),(1,62),(0,63)],⟨74,[(0,.h wB),(1,wS),(5,.own 32),(6,wH),(7,wH),(8,wH)],[(32,.row wB 23)],64,[]⟩),(ai [(0,992),(0,993),(0,497),(2,124),(1,62),(0,63)],⟨74,[(0,.h wB),(1,wS),(5,.own 32),(6,wH),(7,wH)],[(32,.row wB 23)],64,[]⟩)]
def z8q(r0:(iz fu).L 7)(r1:(iz fu).L 6):(iz fu).L 0:=Fx.jm (qts fu r0.f r1.f) [r1.s]
def zil(r0:(iz fu).L 7):(iz fu).L 1:=Fx.jm (qa6 fu r0.f) [r0.s]
def zik(r0:(iz fu).L 7):(iz fu).L 2:=Fx.jm (xm fu r0.f) [(zil fu r0).s]
def z8s(r0:(iz fu).L 7):(iz fu).L 3:=Fx.jm (xn fu r0.f) [(zik fu r0).s]
def z8r(r0:(iz fu).L 7):(iz fu).L 4:=Fx.jm (qfx fu r0.f) [(z8s fu r0).s,(zik fu r0).s,(zil fu r0).s]
def z8p(r0:(iz fu).L 7)(r1:(iz fu).L 6):(iz fu).L 5:=Fx.jm (qfw fu r0.f r1.f) [(z8q fu r0 r1).s,(z8r fu r0).s]
def z8o(r0:(iz fu).L 7):Nat->(iz fu).L 6:=Fx.lq (qfv fu r0.f) (qtr fu r0.f) (fun r1=>[(z8p fu r0 r1).s])
def z8n:Nat->(iz fu).L 7:=Fx.lq (uq fu) (qtq fu) (fun r0=>[(z8o fu r0 fu).s])
def z8t:=(iz fu).fi (qtp fu) [(z8n fu fu).s] call59
def z81:IF:=⟨.fn 109,[wS],[],_,RS.mk (wS) []⟩
def qrr(fu:Nat):Fx wG z81:=fx f109 109 func109 [] false [] ao [(ai [(0,3729),(0,1865),(1,466),(0,467),(2,58),(1,29),(0,15)],⟨32,[(0,wS),(3,wS),(4,wH),(20,.h .bool)],[],64,[]⟩),(ai [(0,464),(0,465),(0,233),(2,58),(1,29),(0,15)],⟨32,[(0,wS),(3,wS),(4,wH)],[],64,[]⟩)]
def z83(r0:(qrr fu).L 1):(qrr fu).L 0:=Fx.jm (xi fu r0.f) [r0.s]
def z82:Nat->(qrr fu).L 1:=Fx.lq (xh fu) (qs3 fu) (fun r0=>[(z83 fu r0).s])
def z84:=(qrr fu).fi (qlg fu) [(z82 fu fu).s] call109
def z88:IF:=⟨.fn 110,[.h .byte],[],_,RS.mk (wS) []⟩
def z87:Fx wG z88:=fx f110 110 func110 [] false [] ao []
def z89:=z87.fi xl [] call110
def z9a:IF:=⟨.fn 76,[.h wP],[],_,RS.mk (wS) []⟩
def p9:Fx wG z9a:=fx f76 76 func76 [(zie fu).p,ui.p,(z84 fu).p,z89.p,(q39 fu).p,(q4d fu).p] false [] ao [(ai [(0,979),(2,122),(1,61),(0,31)],⟨108,[(1,.ptr 32 0),(3,.h .bool),(4,wH)],[(32,.dat wP 86)],64,[]⟩),(ai [(0,32723),(2,4090),(1,2045),(0,1023)],⟨108,[(1,.ptr 32 0),(5,wS),(6,wS),(7,wH),(8,wH)],[(32,.dat wP 86)],64,[]⟩),(ai [(0,523559),(1,32722),(0,32723),(2,4090),(1,2045),(0,1023)],⟨108,[(1,.ptr 32 0),(5,wS),(6,wS),(7,wH),(8,wH),(9,wS)],[(32,.dat wP 86)],64,[]⟩),(ai [(0,1047116),(0,1047117),(0,523559),(1,32722),(0,32723),(2,4090),(1,2045),(0,1023)],⟨108,[(1,.ptr 32 0),(5,wS),(6,wS),(7,wH),(8,wH),(9,wS)],[(32,.dat wP 86)],64,[]⟩),(ai [(0,32720),(0,32721),(0,16361),(2,4090),(1,2045),(0,1023)],⟨108,[(1,.ptr 32 0),(5,wS),(6,wS),(7,wH),(8,wH)],[(32,.dat wP 86)],64,[]⟩),(ai [(0,976),(0,977),(0,489),(2,122),(1,61),(0,31)],⟨108,[(1,.ptr 32 0),(3,.h .bool),(4,wH)],[(32,.dat wP 86)],64,[]⟩)]
def z9c(r0:(p9 fu).L 5):(p9 fu).L 0:=Fx.jm (qe9 fu r0.f) [r0.s]
def z9g(r2:(p9 fu).L 4):(p9 fu).L 1:=Fx.jm (qlf fu r2.f) [r2.s]
def z9f(r2:(p9 fu).L 4):(p9 fu).L 2:=Fx.jm (qfb fu r2.f) [(z9g fu r2).s]
def z9e(r2:(p9 fu).L 4):(p9 fu).L 3:=Fx.jm (qfa fu r2.f) [(z9f fu r2).s]
def z9d:Nat->(p9 fu).L 4:=Fx.lq (qaz fu) (qs2 fu) (fun r2=>[(z9e fu r2).s])
def z9b:Nat->(p9 fu).L 5:=Fx.lq (qe8 fu) (qs1 fu) (fun r0=>[(z9c fu r0).s,(z9d fu fu).s])
def z9h:=(p9 fu).fi (qle fu) [(z9b fu fu).s] call76
def z9m:IF:=⟨.fn 45,[.h (.prod .str (.prod .str wL))],[],_,RS.mk (wS) []⟩
def zim:Fx wG z9m:=fx f45 45 func45 [(z9h fu).p] false [] ao [(ai [(0,464),(0,465),(0,233),(2,58),(1,29),(0,15)],⟨27,[(1,.ptr 32 0),(3,wS),(4,wH)],[(32,.dat (.prod .str (.prod .str wL)) 83)],64,[]⟩)]
def z9n:Nat->(zim fu).L 0:=Fx.lq (qe6 fu) (qsz fu) (fun r0=>[r0.s])
def zin:=(zim fu).fi (qe5 fu) [(z9n fu fu).s] call45
def z9o:IF:=⟨.fn 28,[.h wT,wH],[],_,RS.mk (wH) []⟩
def qkk:Fx wG z9o:=fx f28 28 func28 [(zh0 fu).p,(q4p fu).p,(zih fu).p,(qag fu).p,(zij fu).p,(z79 fu).p,(z8t fu).p,(zin fu).p,(zh3 fu).p] false [] ao [(ai [(0,7870),(0,7871),(0,31)],⟨104,[],[],64,[]⟩),(ai [(0,7869),(0,3935),(0,31)],⟨104,[(72,.h .bool)],[],64,[]⟩),(ai [(0,1966),(0,1967),(0,31)],⟨104,[(2,.ptr 32 0),(6,.ptr 33 0)],[(32,.dat wT 26),(33,.dat (.prod .str (.prod .str wL)) 83)],64,[]⟩),(ai [(0,1965),(0,983),(0,31)],⟨104,[(2,.ptr 32 0),(6,.ptr 33 0),(58,.h .bool)],[(32,.dat wT 26),(33,.dat (.prod .str (.prod .str wL)) 83)],64,[]⟩)]
def z9s:(qkk fu).L 0:=Fx.jm (q57 fu) []
def z9r:(qkk fu).L 1:=Fx.jm (qf2 fu) [(z9s fu).s]
def z9q:(qkk fu).L 2:=Fx.jm (qt1 fu) [(z9r fu).s]
def z9p:(qkk fu).L 3:=Fx.jm (om fu) [(z9q fu).s]
def z9t:=(qkk fu).fi (qlv fu) [(z9p fu).s] call28
def z9y:IF:=⟨.fn 11,[.h wT],[],_,RS.mk (.h (.prod wI wI)) []⟩
def q4t:Fx wG z9y:=fx f11 11 func11 [(z2b fu).p,qad.p,(z9t fu).p] false [] ao [(ai [(0,2000),(0,2001),(0,1001),(2,250),(1,125),(0,63)],⟨50,[(2,.ptr 32 0),(3,.h (.list wT)),(4,.h (.list wI)),(6,wH)],[(32,.dat (.prod wI wI) 30)],64,[]⟩),(ai [(0,976),(0,977),(0,489),(2,122),(1,61),(0,31)],⟨50,[(2,.ptr 32 0),(3,.h (.list wT)),(4,.h (.list wI)),(5,wH)],[(32,.dat (.prod wI wI) 30)],64,[]⟩)]
def z90:Nat->(q4t fu).L 0:=Fx.lq (qf4 fu) (qt3 fu) (fun r1=>[r1.s])
def z9z:Nat->(q4t fu).L 1:=Fx.lq (qf3 fu) (qt2 fu) (fun r0=>[r0.s,(z90 fu fu).s])
def z91:=(q4t fu).fi (qlw fu) [(z9z fu fu).s] call11
def z95:IF:=⟨.fn 47,[.h wL],[],_,RS.mk (.own 0) [(0,.row .byte 5)]⟩
def qru:Fx wG z95:=fx f47 47 func47 [(zhx fu).p] false [] ao [(ai [(0,59696),(0,59697),(0,29849),(2,7462),(1,3731),(1,466),(0,467),(2,58),(1,29),(0,15)],⟨40,[(0,.h wL),(3,wS),(4,wH),(5,.own 32),(6,wH)],[(32,.row .str 9)],64,[]⟩),(ai [(0,464),(0,465),(0,233),(2,58),(1,29),(0,15)],⟨40,[(0,.h wL),(3,wS),(4,wH)],[],64,[]⟩)]
def z97(r0:(qru fu).L 1):Nat->(qru fu).L 0:=Fx.lq (qao fu r0.f) (qsn fu r0.f) (fun r1=>[r1.s,r0.s])
def z96:Nat->(qru fu).L 1:=Fx.lq (w8 fu) (qsm fu) (fun r0=>[(z97 fu r0 fu).s])
def zio:=(qru fu).fi (qk7 fu) [(z96 fu fu).s] call47
def z99:IF:=⟨.fn 20,[.h (.prod wL wB)],[],_,RS.mk (.h (.prod wI wI)) []⟩
def z98:Fx wG z99:=fx f20 20 func20 [(zh0 fu).p,qad.p,(zio fu).p,(zij fu).p] false [] ao []
def vaa:=(z98 fu).fi (qlu fu) [] call20
def vab:IF:=⟨.fn 44,[.h wL,wS],[],_,RS.mk (.own 0) [(0,.row wP 50)]⟩
def ziq:Fx wG vab:=fx f44 44 func44 [(qag fu).p] false [] ao [(ai [(0,464),(0,465),(0,233),(2,58),(1,29),(0,15)],⟨28,[(0,.h wL),(1,wS),(5,.own 32),(6,wH)],[(32,.row wP 50)],64,[]⟩)]
def vac:Nat->(ziq fu).L 0:=Fx.lq (qf6 fu) (qub fu) (fun r0=>[r0.s])
def vad:=(ziq fu).fi (qua fu) [(vac fu fu).s] call44
def vaf:IF:=⟨.fn 18,[.h (.prod wL wB),.h (.prod wL wB)],[],_,RS.mk (.h .bool) []⟩
def vae:Fx wG vaf:=fx f18 18 func18 [(zhq fu).p,zhr.p] false [] ao []
def vag:=(vae fu).fi (xp fu) [] call18
def vai:IF:=⟨.fn 40,[.h (.prod wL wB)],[],_,RS.mk (.own 0) [(0,.row .byte 5)]⟩
def vah:Fx wG vai:=fx f40 40 func40 [(zio fu).p] false [] ao []
def vaj:=(vah fu).fi (qlt fu) [] call40
def vap:IF:=⟨.fn 41,[.h wB,wS],[],_,RS.mk (.h .bool) []⟩
def zir(fu:Nat):Fx wG vap:=fx f41 41 func41 [] false [] ao [(ai [(0,208),(0,209),(0,105),(2,26),(1,13),(0,7)],⟨37,[(0,.h wB),(1,wS),(5,wH)],[],64,[]⟩)]
def vaq:Nat->(zir fu).L 0:=Fx.lq (qf5 fu) (qt9 fu) (fun r0=>[r0.s])
def var:=(zir fu).fi (qt8 fu) [(vaq fu fu).s] call41
def sq:IF:=⟨.fn 19,[.h wT],[],_,RS.mk (.h (.prod wL wB)) []⟩
def qai(s201:EI wG sq)(fu:Nat):Fx wG sq:=fx f19 19 func19 [s201.p,(vaj fu).p,(q4d fu).p,(var fu).p,(q4p fu).p,(zin fu).p,(vad fu).p] false [] ao [(ai [(0,4051),(2,506),(1,253),(0,127)],⟨124,[(1,.ptr 32 0),(2,.ptr 33 0),(3,.own 34),(5,wH),(6,wH)],[(32,.dat wT 26),(33,.cells [wN,wN] 37),(34,.row wB 23)],64,[]⟩),(ai [(0,262096),(0,262097),(0,131049),(2,32762),(1,16381),(0,8191)],⟨124,[(1,.ptr 32 0),(2,.ptr 33 0),(7,wS),(8,wS),(10,.ptr 34 0),(12,.ptr 35 0),(13,wH)],[(32,.dat wT 26),(33,.cells [wN,wN] 37),(34,.dat (.prod .str (.prod .str wL)) 83),(35,.cells [wS,wS,.own 36] 83),(36,.row wP 86)],64,[]⟩),(ai [(0,32720),(0,32721),(0,16361),(2,4090),(1,2045),(0,1023)],⟨124,[(1,.ptr 32 0),(2,.ptr 33 0),(3,.own 34),(7,wS),(8,wS),(9,wH)],[(32,.dat wT 26),(33,.cells [wN,wN] 37),(34,.row wB 23)],64,[]⟩),(ai [(0,4048),(0,4049),(0,2025),(2,506),(1,253),(0,127)],⟨124,[(1,.ptr 32 0),(2,.ptr 33 0),(3,.own 34),(5,wH),(6,wH)],[(32,.dat wT 26),(33,.cells [wN,wN] 37),(34,.row wB 23)],64,[]⟩),(ai [(0,976),(0,977),(0,489),(2,122),(1,61),(0,31)],⟨124,[(1,.ptr 32 0),(2,.ptr 33 0),(3,.own 34),(4,wH)],[(32,.dat wT 26),(33,.cells [wN,wN] 37),(34,.row wB 23)],64,[]⟩)]
def vav(s201:EI wG sq)(fu:Nat)(r1:(qai s201 fu).L 3):(qai s201 fu).L 0:=Fx.jm (qf0 s201.f fu r1.f) [r1.s]
def vax(s201:EI wG sq)(fu:Nat):Nat->(qai s201 fu).L 1:=Fx.lq (qf1 s201.f fu) (qtx s201.f fu) (fun r4=>[r4.s])
def vaw(s201:EI wG sq)(fu:Nat):Nat->(qai s201 fu).L 2:=Fx.lq (qa9 s201.f fu) (qtw s201.f fu) (fun r3=>[r3.s,(vax s201 fu fu).s])
def vau(s201:EI wG sq)(fu:Nat):Nat->(qai s201 fu).L 3:=Fx.lq (qa8 s201.f fu) (qtv s201.f fu) (fun r1=>[(vav s201 fu r1).s,(vaw s201 fu fu).s])
def vat(s201:EI wG sq)(fu:Nat):Nat->(qai s201 fu).L 4:=Fx.lq (qfz s201.f fu) (qtu s201.f fu) (fun r0=>[r0.s,(vau s201 fu fu).s])
def vas(s201:EI wG sq)(fu:Nat):EI wG sq:=(qai s201 fu).fi (qls s201.f fu) [(vat s201 fu fu).s] call19
def vay:EI wG sq := .rc (ur fu) (fun r=>qls r fu) (fun _ _=>rfl) (fun _=>rfl) (fun s201=>vas s201 fu) (fun _=>rfl) fu
def zis:IF:=⟨.fn 5,[.h wT],[],_,RS.mk (.h .bool) []⟩
def va0:Fx wG zis:=fx f5 5 func5 [(z18 fu).p,(zhb fu).p,(z91 fu).p,(vag fu).p,(vay fu).p,(vaa fu).p,qad.p] false [] ao []
def va1:=(va0 fu).fi (qbd fu) [] call5
def zj4:(zis.e (qbd fu)).Sound wG:=(va1 fu).h
end
end
end Go.Sym
