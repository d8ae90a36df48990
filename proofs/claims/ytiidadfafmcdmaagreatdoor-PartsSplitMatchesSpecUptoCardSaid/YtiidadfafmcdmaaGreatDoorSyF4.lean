/- What the claim rests on, part 4: gathered texts. -/
import Derived.Shelf.LaysC
import Derived.Shelf.LaysM
import Derived.Shelf.SlGeneric
import Derived.Shelf.SlLaysF0
import Derived.Ground.NamesProg
import Derived.Test.YtiidadfafmcdmaaGreatDoorProg
import Derived.Below
import Derived.Tactics
import Derived.Tactics2
import Derived.Laws.AppendOwn
import Derived.Shelf.Strconv.Itoa4
import Derived.Shelf.Bytes.SlIndexWhole
import Derived.Shelf.Strconv.AtoiAll
import Derived.Shelf.Strconv.ErrVarAll
import Derived.Shelf.SlicesE.Clone
import Derived.Shelf.SlSortCmp.NoneTotal
import Derived.Shelf.Strings.BuilderCap
import Derived.Shelf.Unicode.DecodeAny
import Derived.Laws.DeepStrings4
import Derived.Deep.LoopGhost
import Derived.Deep.DeepCutAuto
import Derived.Deep.DeepFit
import Derived.Deep.DeepMust
import Derived.Shelf.Unicode.ValidAny
import Derived.Shelf.Strings.Count
import Derived.Deep.OwnRows
import Derived.Laws.CopyRow
import Derived.Laws.IdiomStrings
import Derived.Laws.CopyOwn
import Derived.Lib.SlBytesConst
import Derived.Test.YtiidadfafmcdmaaGreatDoorRows
import Derived.Defers
import Derived.Laws.Pointers
import Derived.Laws.LoneSync
import Derived.RegionTactic
import Derived.RegionCalls
import Derived.ChangeAlike
import Derived.Laws.NewBlocks
import Derived.Laws.ByValue
import Derived.Test.YtiidadfafmcdmaaGreatDoorSyF3
set_option maxRecDepth 100000
set_option linter.defProp false
namespace Go.Proofs
open Go.Shelf
def Tryz.uniR:Go.Shelf.Ren:=⟨fun|115=>163|129=>212|138=>321|143=>324|165=>243|166=>244|167=>246|169=>247|171=>94|172=>219|185=>131|187=>149|195=>322|196=>137|197=>180|205=>284|217=>216|218=>323|219=>201|224=>165|225=>226|240=>273|241=>274|243=>128|244=>238|245=>239|246=>162|247=>258|253=>164|254=>166|255=>176|259=>173|260=>202|266=>237|267=>227|270=>245|276=>290|277=>291|279=>259|280=>260|281=>261|282=>262|283=>186|284=>187|285=>188|286=>189|287=>282|291=>190|314=>248|316=>283|317=>211|318=>213|319=>214|320=>215|321=>292|322=>293|337=>235|338=>236|n=>n,fun|0=>0|2=>2|3=>3|4=>4|5=>5|9=>9|12=>12|20=>20|21=>21|37=>23|46=>202|51=>179|53=>120|70=>289|72=>291|75=>262|76=>263|80=>268|85=>309|105=>220|119=>215|127=>322|138=>217|139=>218|143=>339|145=>341|146=>230|164=>300|167=>308|168=>311|171=>225|173=>228|175=>326|210=>329|212=>257|213=>258|232=>306|233=>307|n=>n,fun|1=>0|3=>1|4=>2|15=>6|16=>7|17=>3|18=>4|19=>5|n=>n⟩
abbrev Tryz.laysM171_ren:Go.Shelf.Ren:=Tryz.uniR
def Tryz.laysM171:Go.Proofs.LaysM.n171 Tryz.prog Tryz.laysM171_ren:={
 mixed:=by kernel_rfl
 f129:=Tryz.func212.trans (congrArg some (by kernel_rfl))
 f171:=Tryz.func94.trans (congrArg some (by kernel_rfl))
 f243:=Tryz.func128.trans (congrArg some (by kernel_rfl))
 f246:=Tryz.func162.trans (congrArg some (by kernel_rfl))
 f283:=Tryz.func186.trans (congrArg some (by kernel_rfl))
 f284:=Tryz.func187.trans (congrArg some (by kernel_rfl))
 f285:=Tryz.func188.trans (congrArg some (by kernel_rfl))
 f286:=Tryz.func189.trans (congrArg some (by kernel_rfl))
 f317:=Tryz.func211.trans (congrArg some (by kernel_rfl))
 f318:=Tryz.func213.trans (congrArg some (by kernel_rfl))
 f319:=Tryz.func214.trans (congrArg some (by kernel_rfl))
 f320:=Tryz.func215.trans (congrArg some (by kernel_rfl))
 f337:=Tryz.func235.trans (congrArg some (by kernel_rfl))
 f338:=Tryz.func236.trans (congrArg some (by kernel_rfl))
 t0:=Tryz.underlying0
 a0:=Tryz.isAgg0
 z0:=Tryz.sizeOf0
 v0:=Tryz.zeroValue0
 t2:=Tryz.underlying2
 a2:=Tryz.isAgg2
 z2:=Tryz.sizeOf2
 v2:=Tryz.zeroValue2
 t3:=Tryz.underlying3
 a3:=Tryz.isAgg3
 z3:=Tryz.sizeOf3
 v3:=Tryz.zeroValue3
 t4:=Tryz.underlying4
 a4:=Tryz.isAgg4
 z4:=Tryz.sizeOf4
 v4:=Tryz.zeroValue4
 t5:=Tryz.underlying5
 a5:=Tryz.isAgg5
 z5:=Tryz.sizeOf5
 v5:=Tryz.zeroValue5
 t9:=Tryz.underlying9
 a9:=Tryz.isAgg9
 z9:=Tryz.sizeOf9
 v9:=Tryz.zeroValue9
 t20:=Tryz.underlying20
 a20:=Tryz.isAgg20
 z20:=Tryz.sizeOf20
 v20:=Tryz.zeroValue20
 t37:=Tryz.underlying23
 a37:=Tryz.isAgg23
 z37:=Tryz.sizeOf23
 v37:=Tryz.zeroValue23
 t46:=Tryz.underlying202
 a46:=Tryz.isAgg202
 z46:=Tryz.sizeOf202
 v46:=Tryz.zeroValue202
 t51:=Tryz.underlying179
 a51:=Tryz.isAgg179
 z51:=Tryz.sizeOf179
 v51:=Tryz.zeroValue179
 t53:=Tryz.underlying120
 a53:=Tryz.isAgg120
 z53:=Tryz.sizeOf120
 v53:=Tryz.zeroValue120
 t171:=Tryz.underlying225
 a171:=Tryz.isAgg225
 z171:=Tryz.sizeOf225
 v171:=Tryz.zeroValue225
 t173:=Tryz.underlying228
 a173:=Tryz.isAgg228
 z173:=Tryz.sizeOf228
 v173:=Tryz.zeroValue228
 t212:=Tryz.underlying257
 a212:=Tryz.isAgg257
 z212:=Tryz.sizeOf257
 v212:=Tryz.zeroValue257
 t213:=Tryz.underlying258
 a213:=Tryz.isAgg258
 z213:=Tryz.sizeOf258
 t232:=Tryz.underlying306
 a232:=Tryz.isAgg306
 z232:=Tryz.sizeOf306
 v232:=Tryz.zeroValue306
 t233:=Tryz.underlying307
 a233:=Tryz.isAgg307
 z233:=Tryz.sizeOf307
 v233:=Tryz.zeroValue307
 g17:=by kernel_rfl
 g18:=by kernel_rfl
 g19:=by kernel_rfl
 i0:=by kernel_rfl
 i2:=by kernel_rfl
 i3:=by kernel_rfl
 i4:=by kernel_rfl
 i5:=by kernel_rfl
 i9:=by kernel_rfl
 i20:=by kernel_rfl
 i37:=by kernel_rfl
 i46:=by kernel_rfl
 i51:=by kernel_rfl
 i53:=by kernel_rfl
 i171:=by kernel_rfl
 i173:=by kernel_rfl
 i212:=by kernel_rfl
 i232:=by kernel_rfl
 i233:=by kernel_rfl
 m17:=by kernel_rfl
 m18:=by kernel_rfl
 m19:=by kernel_rfl }
abbrev Tryz.laysC172_ren:Go.Shelf.Ren:=Tryz.uniR
def Tryz.laysC172:Go.Proofs.LaysC.n172 Tryz.prog Tryz.laysC172_ren:={
 mixed:=by kernel_rfl
 f129:=Tryz.func212.trans (congrArg some (by kernel_rfl))
 f171:=Tryz.func94.trans (congrArg some (by kernel_rfl))
 f172:=Tryz.func219.trans (congrArg some (by kernel_rfl))
 f205:=Tryz.func284.trans (congrArg some (by kernel_rfl))
 f243:=Tryz.func128.trans (congrArg some (by kernel_rfl))
 f244:=Tryz.func238.trans (congrArg some (by kernel_rfl))
 f245:=Tryz.func239.trans (congrArg some (by kernel_rfl))
 f246:=Tryz.func162.trans (congrArg some (by kernel_rfl))
 f247:=Tryz.func258.trans (congrArg some (by kernel_rfl))
 f279:=Tryz.func259.trans (congrArg some (by kernel_rfl))
 f280:=Tryz.func260.trans (congrArg some (by kernel_rfl))
 f281:=Tryz.func261.trans (congrArg some (by kernel_rfl))
 f282:=Tryz.func262.trans (congrArg some (by kernel_rfl))
 f283:=Tryz.func186.trans (congrArg some (by kernel_rfl))
 f284:=Tryz.func187.trans (congrArg some (by kernel_rfl))
 f285:=Tryz.func188.trans (congrArg some (by kernel_rfl))
 f286:=Tryz.func189.trans (congrArg some (by kernel_rfl))
 f287:=Tryz.func282.trans (congrArg some (by kernel_rfl))
 f316:=Tryz.func283.trans (congrArg some (by kernel_rfl))
 f317:=Tryz.func211.trans (congrArg some (by kernel_rfl))
 f318:=Tryz.func213.trans (congrArg some (by kernel_rfl))
 f319:=Tryz.func214.trans (congrArg some (by kernel_rfl))
 f320:=Tryz.func215.trans (congrArg some (by kernel_rfl))
 f321:=Tryz.func292.trans (congrArg some (by kernel_rfl))
 f322:=Tryz.func293.trans (congrArg some (by kernel_rfl))
 f337:=Tryz.func235.trans (congrArg some (by kernel_rfl))
 f338:=Tryz.func236.trans (congrArg some (by kernel_rfl))
 t0:=Tryz.underlying0
 a0:=Tryz.isAgg0
 z0:=Tryz.sizeOf0
 v0:=Tryz.zeroValue0
 t2:=Tryz.underlying2
 a2:=Tryz.isAgg2
 z2:=Tryz.sizeOf2
 v2:=Tryz.zeroValue2
 t3:=Tryz.underlying3
 a3:=Tryz.isAgg3
 z3:=Tryz.sizeOf3
 v3:=Tryz.zeroValue3
 t4:=Tryz.underlying4
 a4:=Tryz.isAgg4
 z4:=Tryz.sizeOf4
 v4:=Tryz.zeroValue4
 t5:=Tryz.underlying5
 a5:=Tryz.isAgg5
 z5:=Tryz.sizeOf5
 v5:=Tryz.zeroValue5
 t9:=Tryz.underlying9
 a9:=Tryz.isAgg9
 z9:=Tryz.sizeOf9
 v9:=Tryz.zeroValue9
 t20:=Tryz.underlying20
 a20:=Tryz.isAgg20
 z20:=Tryz.sizeOf20
 v20:=Tryz.zeroValue20
 t21:=Tryz.underlying21
 a21:=Tryz.isAgg21
 z21:=Tryz.sizeOf21
 v21:=Tryz.zeroValue21
 t37:=Tryz.underlying23
 a37:=Tryz.isAgg23
 z37:=Tryz.sizeOf23
 v37:=Tryz.zeroValue23
 t46:=Tryz.underlying202
 a46:=Tryz.isAgg202
 z46:=Tryz.sizeOf202
 v46:=Tryz.zeroValue202
 t51:=Tryz.underlying179
 a51:=Tryz.isAgg179
 z51:=Tryz.sizeOf179
 v51:=Tryz.zeroValue179
 t53:=Tryz.underlying120
 a53:=Tryz.isAgg120
 z53:=Tryz.sizeOf120
 v53:=Tryz.zeroValue120
 t75:=Tryz.underlying262
 a75:=Tryz.isAgg262
 z75:=Tryz.sizeOf262
 v75:=Tryz.zeroValue262
 t76:=Tryz.underlying263
 a76:=Tryz.isAgg263
 z76:=Tryz.sizeOf263
 v76:=Tryz.zeroValue263
 t85:=Tryz.underlying309
 a85:=Tryz.isAgg309
 z85:=Tryz.sizeOf309
 v85:=Tryz.zeroValue309
 t127:=Tryz.underlying322
 a127:=Tryz.isAgg322
 z127:=Tryz.sizeOf322
 v127:=Tryz.zeroValue322
 t143:=Tryz.underlying339
 a143:=Tryz.isAgg339
 z143:=Tryz.sizeOf339
 v143:=Tryz.zeroValue339
 t145:=Tryz.underlying341
 a145:=Tryz.isAgg341
 z145:=Tryz.sizeOf341
 v145:=Tryz.zeroValue341
 t167:=Tryz.underlying308
 a167:=Tryz.isAgg308
 z167:=Tryz.sizeOf308
 v167:=Tryz.zeroValue308
 t168:=Tryz.underlying311
 a168:=Tryz.isAgg311
 z168:=Tryz.sizeOf311
 v168:=Tryz.zeroValue311
 t171:=Tryz.underlying225
 a171:=Tryz.isAgg225
 z171:=Tryz.sizeOf225
 v171:=Tryz.zeroValue225
 t173:=Tryz.underlying228
 a173:=Tryz.isAgg228
 z173:=Tryz.sizeOf228
 v173:=Tryz.zeroValue228
 t175:=Tryz.underlying326
 a175:=Tryz.isAgg326
 z175:=Tryz.sizeOf326
 v175:=Tryz.zeroValue326
 t210:=Tryz.underlying329
 a210:=Tryz.isAgg329
 z210:=Tryz.sizeOf329
 v210:=Tryz.zeroValue329
 t212:=Tryz.underlying257
 a212:=Tryz.isAgg257
 z212:=Tryz.sizeOf257
 v212:=Tryz.zeroValue257
 t213:=Tryz.underlying258
 a213:=Tryz.isAgg258
 z213:=Tryz.sizeOf258
 t232:=Tryz.underlying306
 a232:=Tryz.isAgg306
 z232:=Tryz.sizeOf306
 v232:=Tryz.zeroValue306
 t233:=Tryz.underlying307
 a233:=Tryz.isAgg307
 z233:=Tryz.sizeOf307
 v233:=Tryz.zeroValue307
 g15:=by kernel_rfl
 g16:=by kernel_rfl
 g17:=by kernel_rfl
 g18:=by kernel_rfl
 g19:=by kernel_rfl
 t80:=Tryz.underlying268
 a80:=Tryz.isAgg268
 z80:=Tryz.sizeOf268
 v80:=Tryz.zeroValue268
 i0:=by kernel_rfl
 i2:=by kernel_rfl
 i3:=by kernel_rfl
 i4:=by kernel_rfl
 i5:=by kernel_rfl
 i9:=by kernel_rfl
 i20:=by kernel_rfl
 i21:=by kernel_rfl
 i37:=by kernel_rfl
 i46:=by kernel_rfl
 i51:=by kernel_rfl
 i53:=by kernel_rfl
 i75:=by kernel_rfl
 i76:=by kernel_rfl
 i80:=by kernel_rfl
 i85:=by kernel_rfl
 i127:=by kernel_rfl
 i143:=by kernel_rfl
 i145:=by kernel_rfl
 i167:=by kernel_rfl
 i168:=by kernel_rfl
 i171:=by kernel_rfl
 i173:=by kernel_rfl
 i175:=by kernel_rfl
 i210:=by kernel_rfl
 i212:=by kernel_rfl
 i232:=by kernel_rfl
 i233:=by kernel_rfl
 m15:=by kernel_rfl
 m16:=by kernel_rfl
 m17:=by kernel_rfl
 m18:=by kernel_rfl
 m19:=by kernel_rfl
 c0:=by kernel_rfl
 c2:=by kernel_rfl
 c3:=by kernel_rfl
 c4:=by kernel_rfl
 c5:=by kernel_rfl
 c9:=by kernel_rfl
 c20:=by kernel_rfl
 c21:=by kernel_rfl
 c37:=by kernel_rfl
 c46:=by kernel_rfl
 c51:=by kernel_rfl
 c53:=by kernel_rfl
 c75:=by kernel_rfl
 c76:=by kernel_rfl
 c80:=by kernel_rfl
 c85:=by kernel_rfl
 c127:=by kernel_rfl
 c143:=by kernel_rfl
 c145:=by kernel_rfl
 c167:=by kernel_rfl
 c168:=by kernel_rfl
 c171:=by kernel_rfl
 c173:=by kernel_rfl
 c175:=by kernel_rfl
 c210:=by kernel_rfl
 c212:=by kernel_rfl
 c213:=by kernel_rfl
 c232:=by kernel_rfl
 c233:=by kernel_rfl }
abbrev Tryz.lays185_ren:Go.Shelf.Ren:=Tryz.uniR
def Tryz.lays185:Go.Proofs.Lays.n185 Tryz.prog Tryz.lays185_ren:={
 mixed:=by kernel_rfl
 f115:=Tryz.func163.trans (congrArg some (by kernel_rfl))
 f185:=Tryz.func131.trans (congrArg some (by kernel_rfl))
 f187:=Tryz.func149.trans (congrArg some (by kernel_rfl))
 f224:=Tryz.func165.trans (congrArg some (by kernel_rfl))
 f253:=Tryz.func164.trans (congrArg some (by kernel_rfl))
 f254:=Tryz.func166.trans (congrArg some (by kernel_rfl))
 f255:=Tryz.func176.trans (congrArg some (by kernel_rfl))
 f291:=Tryz.func190.trans (congrArg some (by kernel_rfl))
 t0:=Tryz.underlying0
 a0:=Tryz.isAgg0
 z0:=Tryz.sizeOf0
 v0:=Tryz.zeroValue0
 t3:=Tryz.underlying3
 a3:=Tryz.isAgg3
 z3:=Tryz.sizeOf3
 v3:=Tryz.zeroValue3
 t4:=Tryz.underlying4
 a4:=Tryz.isAgg4
 z4:=Tryz.sizeOf4
 v4:=Tryz.zeroValue4
 t5:=Tryz.underlying5
 a5:=Tryz.isAgg5
 z5:=Tryz.sizeOf5
 v5:=Tryz.zeroValue5
 t9:=Tryz.underlying9
 a9:=Tryz.isAgg9
 z9:=Tryz.sizeOf9
 v9:=Tryz.zeroValue9
 t37:=Tryz.underlying23
 a37:=Tryz.isAgg23
 z37:=Tryz.sizeOf23
 v37:=Tryz.zeroValue23
 t46:=Tryz.underlying202
 a46:=Tryz.isAgg202
 z46:=Tryz.sizeOf202
 v46:=Tryz.zeroValue202
 t51:=Tryz.underlying179
 a51:=Tryz.isAgg179
 z51:=Tryz.sizeOf179
 v51:=Tryz.zeroValue179
 t146:=Tryz.underlying230
 a146:=Tryz.isAgg230
 z146:=Tryz.sizeOf230
 v146:=Tryz.zeroValue230
 g1:=by kernel_rfl }
abbrev Tryz.lays138_ren:Go.Shelf.Ren:=Tryz.uniR
def Tryz.lays138:Go.Proofs.Lays.n138 Tryz.prog Tryz.lays138_ren:={
 mixed:=by kernel_rfl
 f138:=Tryz.func321.trans (congrArg some (by kernel_rfl))
 f143:=Tryz.func324.trans (congrArg some (by kernel_rfl))
 f195:=Tryz.func322.trans (congrArg some (by kernel_rfl))
 f217:=Tryz.func216.trans (congrArg some (by kernel_rfl))
 f218:=Tryz.func323.trans (congrArg some (by kernel_rfl))
 f219:=Tryz.func201.trans (congrArg some (by kernel_rfl))
 f224:=Tryz.func165.trans (congrArg some (by kernel_rfl))
 f225:=Tryz.func226.trans (congrArg some (by kernel_rfl))
 f266:=Tryz.func237.trans (congrArg some (by kernel_rfl))
 f267:=Tryz.func227.trans (congrArg some (by kernel_rfl))
 f314:=Tryz.func248.trans (congrArg some (by kernel_rfl))
 t0:=Tryz.underlying0
 a0:=Tryz.isAgg0
 z0:=Tryz.sizeOf0
 v0:=Tryz.zeroValue0
 t3:=Tryz.underlying3
 a3:=Tryz.isAgg3
 z3:=Tryz.sizeOf3
 v3:=Tryz.zeroValue3
 t4:=Tryz.underlying4
 a4:=Tryz.isAgg4
 z4:=Tryz.sizeOf4
 v4:=Tryz.zeroValue4
 t5:=Tryz.underlying5
 a5:=Tryz.isAgg5
 z5:=Tryz.sizeOf5
 v5:=Tryz.zeroValue5
 t9:=Tryz.underlying9
 a9:=Tryz.isAgg9
 z9:=Tryz.sizeOf9
 v9:=Tryz.zeroValue9
 t46:=Tryz.underlying202
 a46:=Tryz.isAgg202
 z46:=Tryz.sizeOf202
 v46:=Tryz.zeroValue202
 t51:=Tryz.underlying179
 a51:=Tryz.isAgg179
 z51:=Tryz.sizeOf179
 v51:=Tryz.zeroValue179
 t146:=Tryz.underlying230
 a146:=Tryz.isAgg230
 z146:=Tryz.sizeOf230
 v146:=Tryz.zeroValue230
 g1:=by kernel_rfl }
abbrev Tryz.lays165_ren:Go.Shelf.Ren:=Tryz.uniR
def Tryz.lays165:Go.Proofs.Lays.n165 Tryz.prog Tryz.lays165_ren:={
 mixed:=by kernel_rfl
 f165:=Tryz.func243.trans (congrArg some (by kernel_rfl))
 f240:=Tryz.func273.trans (congrArg some (by kernel_rfl))
 f241:=Tryz.func274.trans (congrArg some (by kernel_rfl))
 f276:=Tryz.func290.trans (congrArg some (by kernel_rfl))
 f277:=Tryz.func291.trans (congrArg some (by kernel_rfl))
 t0:=Tryz.underlying0
 a0:=Tryz.isAgg0
 z0:=Tryz.sizeOf0
 v0:=Tryz.zeroValue0
 t3:=Tryz.underlying3
 a3:=Tryz.isAgg3
 z3:=Tryz.sizeOf3
 v3:=Tryz.zeroValue3
 t4:=Tryz.underlying4
 a4:=Tryz.isAgg4
 z4:=Tryz.sizeOf4
 v4:=Tryz.zeroValue4
 t9:=Tryz.underlying9
 a9:=Tryz.isAgg9
 z9:=Tryz.sizeOf9
 v9:=Tryz.zeroValue9
 t20:=Tryz.underlying20
 a20:=Tryz.isAgg20
 z20:=Tryz.sizeOf20
 v20:=Tryz.zeroValue20
 t37:=Tryz.underlying23
 a37:=Tryz.isAgg23
 z37:=Tryz.sizeOf23
 v37:=Tryz.zeroValue23
 t70:=Tryz.underlying289
 a70:=Tryz.isAgg289
 z70:=Tryz.sizeOf289
 v70:=Tryz.zeroValue289
 t72:=Tryz.underlying291
 a72:=Tryz.isAgg291
 z72:=Tryz.sizeOf291
 v72:=Tryz.zeroValue291
 t164:=Tryz.underlying300
 a164:=Tryz.isAgg300
 z164:=Tryz.sizeOf300
 v164:=Tryz.zeroValue300 }
abbrev Tryz.lays169_ren:Go.Shelf.Ren:=Tryz.uniR
def Tryz.lays169:Go.Proofs.Lays.n169 Tryz.prog Tryz.lays169_ren:={
 mixed:=by kernel_rfl
 f169:=Tryz.func247.trans (congrArg some (by kernel_rfl))
 t0:=Tryz.underlying0
 a0:=Tryz.isAgg0
 z0:=Tryz.sizeOf0
 v0:=Tryz.zeroValue0
 t3:=Tryz.underlying3
 a3:=Tryz.isAgg3
 z3:=Tryz.sizeOf3
 v3:=Tryz.zeroValue3
 t9:=Tryz.underlying9
 a9:=Tryz.isAgg9
 z9:=Tryz.sizeOf9
 v9:=Tryz.zeroValue9
 t37:=Tryz.underlying23
 a37:=Tryz.isAgg23
 z37:=Tryz.sizeOf23
 v37:=Tryz.zeroValue23
 t70:=Tryz.underlying289
 a70:=Tryz.isAgg289
 z70:=Tryz.sizeOf289
 v70:=Tryz.zeroValue289
 t72:=Tryz.underlying291
 a72:=Tryz.isAgg291
 z72:=Tryz.sizeOf291
 v72:=Tryz.zeroValue291
 t127:=Tryz.underlying322
 a127:=Tryz.isAgg322
 z127:=Tryz.sizeOf322
 v127:=Tryz.zeroValue322 }
abbrev Tryz.lays196_ren:Go.Shelf.Ren:=Tryz.uniR
def Tryz.lays196:Go.Proofs.Lays.n196 Tryz.prog Tryz.lays196_ren:={
 mixed:=by kernel_rfl
 f196:=Tryz.func137.trans (congrArg some (by kernel_rfl))
 f259:=Tryz.func173.trans (congrArg some (by kernel_rfl))
 t0:=Tryz.underlying0
 a0:=Tryz.isAgg0
 z0:=Tryz.sizeOf0
 v0:=Tryz.zeroValue0
 t3:=Tryz.underlying3
 a3:=Tryz.isAgg3
 z3:=Tryz.sizeOf3
 v3:=Tryz.zeroValue3
 t4:=Tryz.underlying4
 a4:=Tryz.isAgg4
 z4:=Tryz.sizeOf4
 v4:=Tryz.zeroValue4
 t5:=Tryz.underlying5
 a5:=Tryz.isAgg5
 z5:=Tryz.sizeOf5
 v5:=Tryz.zeroValue5
 t9:=Tryz.underlying9
 a9:=Tryz.isAgg9
 z9:=Tryz.sizeOf9
 v9:=Tryz.zeroValue9
 t12:=Tryz.underlying12
 a12:=Tryz.isAgg12
 z12:=Tryz.sizeOf12
 v12:=Tryz.zeroValue12
 t46:=Tryz.underlying202
 a46:=Tryz.isAgg202
 z46:=Tryz.sizeOf202
 v46:=Tryz.zeroValue202
 t53:=Tryz.underlying120
 a53:=Tryz.isAgg120
 z53:=Tryz.sizeOf120
 v53:=Tryz.zeroValue120
 t119:=Tryz.underlying215
 a119:=Tryz.isAgg215
 z119:=Tryz.sizeOf215
 t138:=Tryz.underlying217
 a138:=Tryz.isAgg217
 z138:=Tryz.sizeOf217
 v138:=Tryz.zeroValue217
 t139:=Tryz.underlying218
 a139:=Tryz.isAgg218
 z139:=Tryz.sizeOf218
 v139:=Tryz.zeroValue218
 g3:=by kernel_rfl
 g4:=by kernel_rfl }
abbrev Tryz.lays197_ren:Go.Shelf.Ren:=Tryz.uniR
def Tryz.lays197:Go.Proofs.Lays.n197 Tryz.prog Tryz.lays197_ren:={
 mixed:=by kernel_rfl
 f197:=Tryz.func180.trans (congrArg some (by kernel_rfl))
 f260:=Tryz.func202.trans (congrArg some (by kernel_rfl))
 t0:=Tryz.underlying0
 a0:=Tryz.isAgg0
 z0:=Tryz.sizeOf0
 v0:=Tryz.zeroValue0
 t3:=Tryz.underlying3
 a3:=Tryz.isAgg3
 z3:=Tryz.sizeOf3
 v3:=Tryz.zeroValue3
 t4:=Tryz.underlying4
 a4:=Tryz.isAgg4
 z4:=Tryz.sizeOf4
 v4:=Tryz.zeroValue4
 t5:=Tryz.underlying5
 a5:=Tryz.isAgg5
 z5:=Tryz.sizeOf5
 v5:=Tryz.zeroValue5
 t9:=Tryz.underlying9
 a9:=Tryz.isAgg9
 z9:=Tryz.sizeOf9
 v9:=Tryz.zeroValue9
 t21:=Tryz.underlying21
 a21:=Tryz.isAgg21
 z21:=Tryz.sizeOf21
 v21:=Tryz.zeroValue21
 t46:=Tryz.underlying202
 a46:=Tryz.isAgg202
 z46:=Tryz.sizeOf202
 v46:=Tryz.zeroValue202
 t105:=Tryz.underlying220
 a105:=Tryz.isAgg220
 z105:=Tryz.sizeOf220
 v105:=Tryz.zeroValue220
 t119:=Tryz.underlying215
 a119:=Tryz.isAgg215
 z119:=Tryz.sizeOf215
 t138:=Tryz.underlying217
 a138:=Tryz.isAgg217
 z138:=Tryz.sizeOf217
 v138:=Tryz.zeroValue217
 t139:=Tryz.underlying218
 a139:=Tryz.isAgg218
 z139:=Tryz.sizeOf218
 v139:=Tryz.zeroValue218
 g3:=by kernel_rfl
 g4:=by kernel_rfl }
def Tryz.sortP_ren:Go.Shelf.Ren:=⟨fun|6=>221|15=>241|14=>240|28=>271|29=>212|20=>263|21=>264|22=>265|23=>266|24=>267|25=>268|26=>269|27=>270|46=>285|47=>286|48=>287|49=>288|50=>289|57=>294|n=>n,fun|22=>207|24=>209|25=>267|3=>3|39=>202|0=>0|53=>179|55=>120|4=>4|46=>316|45=>315|50=>235|5=>5|9=>9|66=>331|70=>335|76=>342|77=>170|n=>n,fun|n=>n⟩
def Tryz.sortP:Go.Proofs.SlLaysF0.n6 Tryz.prog Tryz.sortP_ren:={
 mixed:=by kernel_rfl
 f6:=⟨Tryz.f221.name,by decide,Tryz.func221.trans (congrArg some (by kernel_rfl))⟩
 f14:=⟨Tryz.f240.name,by decide,Tryz.func240.trans (congrArg some (by kernel_rfl))⟩
 f15:=Tryz.func241.trans (congrArg some (by kernel_rfl))
 f20:=⟨Tryz.f263.name,by decide,Tryz.func263.trans (congrArg some (by kernel_rfl))⟩
 f21:=⟨Tryz.f264.name,by decide,Tryz.func264.trans (congrArg some (by kernel_rfl))⟩
 f22:=⟨Tryz.f265.name,by decide,Tryz.func265.trans (congrArg some (by kernel_rfl))⟩
 f23:=⟨Tryz.f266.name,by decide,Tryz.func266.trans (congrArg some (by kernel_rfl))⟩
 f24:=⟨Tryz.f267.name,by decide,Tryz.func267.trans (congrArg some (by kernel_rfl))⟩
 f25:=⟨Tryz.f268.name,by decide,Tryz.func268.trans (congrArg some (by kernel_rfl))⟩
 f26:=⟨Tryz.f269.name,by decide,Tryz.func269.trans (congrArg some (by kernel_rfl))⟩
 f27:=⟨Tryz.f270.name,by decide,Tryz.func270.trans (congrArg some (by kernel_rfl))⟩
 f28:=Tryz.func271.trans (congrArg some (by kernel_rfl))
 f29:=Tryz.func212.trans (congrArg some (by kernel_rfl))
 f46:=⟨Tryz.f285.name,by decide,Tryz.func285.trans (congrArg some (by kernel_rfl))⟩
 f47:=Tryz.func286.trans (congrArg some (by kernel_rfl))
 f48:=Tryz.func287.trans (congrArg some (by kernel_rfl))
 f49:=⟨Tryz.f288.name,by decide,Tryz.func288.trans (congrArg some (by kernel_rfl))⟩
 f50:=⟨Tryz.f289.name,by decide,Tryz.func289.trans (congrArg some (by kernel_rfl))⟩
 f57:=⟨Tryz.f294.name,by decide,Tryz.func294.trans (congrArg some (by kernel_rfl))⟩
 t0:=Tryz.underlying0
 a0:=Tryz.isAgg0
 z0:=Tryz.sizeOf0
 v0:=Tryz.zeroValue0
 t3:=Tryz.underlying3
 a3:=Tryz.isAgg3
 z3:=Tryz.sizeOf3
 v3:=Tryz.zeroValue3
 t4:=Tryz.underlying4
 a4:=Tryz.isAgg4
 z4:=Tryz.sizeOf4
 v4:=Tryz.zeroValue4
 t5:=Tryz.underlying5
 a5:=Tryz.isAgg5
 z5:=Tryz.sizeOf5
 v5:=Tryz.zeroValue5
 t9:=Tryz.underlying9
 a9:=Tryz.isAgg9
 z9:=Tryz.sizeOf9
 v9:=Tryz.zeroValue9
 t22:=Tryz.underlying207
 a22:=Tryz.isAgg207
 z22:=Tryz.sizeOf207
 v22:=Tryz.zeroValue207
 t25:=Tryz.underlying267
 a25:=Tryz.isAgg267
 z25:=Tryz.sizeOf267
 v25:=Tryz.zeroValue267
 t39:=Tryz.underlying202
 a39:=Tryz.isAgg202
 z39:=Tryz.sizeOf202
 v39:=Tryz.zeroValue202
 t45:=Tryz.underlying315
 a45:=Tryz.isAgg315
 z45:=Tryz.sizeOf315
 v45:=Tryz.zeroValue315
 t46:=Tryz.underlying316
 a46:=Tryz.isAgg316
 z46:=Tryz.sizeOf316
 v46:=Tryz.zeroValue316
 t50:=Tryz.underlying235
 a50:=Tryz.isAgg235
 z50:=Tryz.sizeOf235
 v50:=Tryz.zeroValue235
 t53:=Tryz.underlying179
 a53:=Tryz.isAgg179
 z53:=Tryz.sizeOf179
 v53:=Tryz.zeroValue179
 t55:=Tryz.underlying120
 a55:=Tryz.isAgg120
 z55:=Tryz.sizeOf120
 v55:=Tryz.zeroValue120
 t66:=Tryz.underlying331
 a66:=Tryz.isAgg331
 z66:=Tryz.sizeOf331
 v66:=Tryz.zeroValue331
 t70:=Tryz.underlying335
 a70:=Tryz.isAgg335
 z70:=Tryz.sizeOf335
 v70:=Tryz.zeroValue335
 t76:=Tryz.underlying342
 a76:=Tryz.isAgg342
 z76:=Tryz.sizeOf342
 v76:=Tryz.zeroValue342
 t77:=Tryz.underlying170
 a77:=Tryz.isAgg170
 z77:=Tryz.sizeOf170
 v77:=Tryz.zeroValue170 }
end Go.Proofs
namespace Go.Sym
open Go.RowKit
variable[LC]
def db.data{P:Program}{f:FuncId}{xs:List AV}{r:AV}
  (h:∀(w:World)(G:Gh)(vs:List Value),ci G [] w->al xs G vs->Calls P f vs.toArray w fun e w'=>∃v,e = .returned v/\ak r G v/\b9 w w'):db P f xs [] r []:=by
 intro w G vs hm hr;refine(h w G vs hm hr).mono ?_;rintro e w' ⟨v,rfl,hv,hs⟩
 refine⟨v,G,rfl,?_,hv⟩;exact(qdh hm).extend (new:=[]) (Gh.le.refl G) hs (fun _ _ _ h => .inl h) (fun b o v hv=>by
  have hc:=hm.agree b o v hv;have hlt:=World.block_lt_of_cell? _ _ hc;rw[World.cell?_of_block (w:=w) (hs.block b hlt (fun h=>h))];exact hc) hm.one (fun n bx h=>by cases h) (fun n bx h=>by cases h) (fun n m bx bx' b h=>by cases h)
def b9.of_below{w w':World}(h:Below w.heap.size w w'):b9 w w':=⟨h.os,h.tape,h.output,h.size,fun k hk _=>h.block k hk⟩
def b9.refl(w:World):b9 w w:=⟨rfl,rfl,rfl,wF _,fun _ _ _=>rfl⟩
def db.fresh{P:Program}{f:FuncId}{xs:List AV}{τ:Ty}{l:List τ.den}{E:TypeId}
  (h:∀(w:World)(G:Gh)(vs:List Value),ci G [] w->al xs G vs->Calls P f vs.toArray w fun e w'=>∃ad c us,e = .returned (.slice ad l.length c)/\fc w' E τ.sz ad l.length c us/\al (l.flatMap τ.enc) G.data us/\(∀b,cm ad=some b->w.heap.size<=b)/\b9 w w') :
  db P f xs [] (.own 0) [(0,.row τ l E)]:=by
 intro w G vs hm hr;refine(h w G vs hm hr).mono ?_;rintro e w' ⟨ad,c,us,rfl,hrow,hus,hb,hs⟩
 let G':Gh:={ imm:=G.imm,box:=fun _=>none,own:=fun m=>bif Nat.beq m 0 then some (ad,l.length,c) else none }
 have hself:(G'.own 0)=some (ad,l.length,c):=rfl;have hag:∀b o v,G.imm b o=some v->w'.cell? ⟨b,o,none⟩=some v:=fun b o v hv=>by
  have hc:=hm.agree b o v hv;have hlt:=World.block_lt_of_cell? _ _ hc;rw[World.cell?_of_block (w:=w) (hs.block b hlt (fun h=>h))];exact hc
 have hlt:∀b o v,G.imm b o=some v->b<w.heap.size:=fun b o v hv=>World.block_lt_of_cell? _ _ (hm.agree b o v hv)
 have hlk:∀m b,ae [(0,ai.row τ l E)] m=some b->m=0/\b = .row τ l E:=fun m b hh=>by
  simp only[ae]at hh;cases hb:Nat.beq 0 m
  ·rw[hb]at hh;cases hh
  ·rw[hb]at hh;simp only[qT,qI]at hh;exact⟨(qN hb).symm,hh.symm⟩
 have hat:G'.at 0 (.row τ l E)=cm ad:=by
  simp only[Gh.at,hself];cases ad<;>rfl
 refine⟨.slice ad l.length c,G',rfl,⟨⟨hag,hm.one,fun m b hh => ?_,fun m m' b b' c' h1 h2 _ _ => ?_,LC.mono (fun _ _ _ h=>h) (fun b o v h=>hs.block b (hlt b o v h) fun h=>h) hm.tab⟩,⟨hs.os,hs.tape,hs.output,hs.size,fun k hk _=>hs.block k hk fun h=>h⟩,fun _ _ _ h=>h,fun _ _ _ h => .inl h,fun m b c' h1 h2 => ?_,fun _ _ _ h=>(by cases h),fun _ _ _ h=>(by cases h)⟩,ad,l.length,c,hself,rfl⟩
 ·obtain⟨rfl,rfl⟩:=hlk m b hh;refine de.row hself hrow (al.data_le (fun _ _ _ h=>h) hus) fun b hb' o => ?_
  cases hq:G.imm b o with|none=>rfl|some v=>have:=hlt b o v hq;have:=hb b hb';omega
 ·obtain⟨rfl,_⟩:=hlk m b h1;obtain⟨rfl,_⟩:=hlk m' b' h2;rfl
 ·obtain⟨rfl,rfl⟩:=hlk m b h1;rw[hat]at h2;exact .inl (hb c' h2)
def q3l{P:Program}{G:Gh}{w:World}(hm:ci G [] w){τ:Ty}{l:List τ.den}{v:Value}(h:ak (.sl τ l) G v) :
  ∃news,(∀w,(Builtin.lenOf v).run P w = .ok l.length w)/\(∀w',(∀k,k<w.heap.size->w'.heap[k]? = w.heap[k]?)->(Builtin.firstCells τ.sz l.length v).run P w' = .ok news.toArray w')/\al (l.flatMap τ.enc) G.data news/\∀u∈news,u.oneCell'=true:=by
 let s:St:={ n:=0,fr:=[],hp:=[],nx:=0,df:=[] }
 have hr:aj w G.data [] G.data s { tmps:=#[],defers:=[] } w:=
  ⟨⟨[],rfl,rfl⟩,rfl,fun i x h=>(by cases h),fun _ _ _=>⟨rfl,rfl⟩,qdh ⟨hm.agree,hm.one,fun _ _ h=>(by cases h),fun _ _ _ _ _ h=>(by cases h),hm.tab⟩⟩
 rcases qk0 hr (x := .sl τ l) (v:=v) (flat:=l.flatMap τ.enc) (n:=l.length) h rfl with⟨b,hb,_⟩|⟨ad,c,us,rfl,h1,h2,h3⟩
 ·cases hb
 ·refine⟨us,fun w=>by simp[Builtin.lenOf],fun w' hw' => ?_,h1,h2⟩
  have hul:us.length=l.length*τ.sz:=by rw[← h1.length,lr]
  cases ad with
  |none=>
   have:us=[]:=by
    rcases h3 with h3|⟨_,_,h3,_⟩
    ·exact h3
    ·cases h3
   subst this;simp[Builtin.firstCells]
  |some ad=>
   have h3':us=[]\/∃b o,some ad=some (⟨b,o,none⟩:Addr)/\∀j u,us[j]? = some u->w'.cell? ⟨b,o+j,none⟩=some u:=by
    rcases h3 with h3|⟨b,o,h4,h5⟩
    ·exact .inl h3
    ·refine .inr ⟨b,o,h4,fun j u hu => ?_⟩
     have hc:=h5 j u hu;rw[World.cell?_of_block (w:=w) (hw' _ (World.block_lt_of_cell? _ _ hc))];exact hc
   have:=qen (P:=P) (w:=w') (ad:=ad) h3';rw[hul]at this;simp[Builtin.firstCells,this]
def q4c{P:Program}{ops:Array Oper}{rest:List Oper}{o:Oper}{a:Act}{w:World}{Q:Exit->Act->World->Prop}(hgd:o.guard=none)(s x:Operand)(t:TypeId)
  (ho:o.op = .call { callee := .builtin .append,args:=#[s,x],argTypes:=#[t,t] }) {E:TypeId} {sz:Nat} (ht:P.underlying t=some (.slice E)) (hz:mg P E=true) (hsz:d6 P E=some sz) (ht2:qax P t=true)
  {ad:Option Addr} {n c:Nat} {us:List Value} (hs:a.eval s = .slice ad n c) (hrow:fc w E sz ad n c us) {v:Value} (hx:a.eval x=v) {m:Nat} {news:List Value}
  (ac:∀w,(Builtin.lenOf v).run P w = .ok m w) (hcells:∀w',w'.heap=w.heap->(Builtin.firstCells sz m v).run P w' = .ok news.toArray w') (hnl:news.length=m*sz) (hn1:∀v∈news,v.oneCell'=true) (hmax:n+m<=a8)
  (h:∀ad' c' w',fc w' E sz ad' (n+m) c' (us++news)->(cm ad'=cm ad\/∃g,cm ad'=some g/\w.heap.size<=g)->d9 (fun b=>cm ad=some b) w w'->wpList P ops Q rest (a.put o.dst (.slice ad' (n+m) c')) w'):wpList P ops Q (o::rest) a w:=by
 obtain⟨i,z,hi,hz',z1,z2,z3,z4,zs⟩:=ql4 hz hsz;rw[← zs]at hrow hcells hnl h;refine wpList_plain hgd fun _ hK => ?_
 obtain⟨ad',c',w',r1,r2,r3,r4⟩:=zft (ty:=o.type) ht hi hz' z1 z2 z3 z4 ht2 hrow ac hcells hnl hn1 hmax;unfold Oper.wp execOp;simp only[ho,resolve,invoke,builtin,Sem.run_bind,Sem.run_pure,Result.andThen_ok,List.map_toArray,List.map_cons,List.map_nil,hs,hx,r1];exact hK _ _ (h ad' c' w' r2 r3 r4)
end Go.Sym
namespace Go.Sym
open Go.Proofs Go.RowKit Go.Sort
open Go.Proofs.Tryz
variable[LC]
def b9.below{w w':World}(h:b9 w w'):Below w.heap.size w w':=⟨h.os,h.tape,h.output,h.size,fun k hk=>h.block k hk (fun h=>h)⟩
def ci.still{G:Gh}{w w':World}(hm:ci G [] w)(hs:b9 w w'):ci G [] w':=
 have hlt:∀b o v,G.imm b o=some v->w'.heap[b]? = w.heap[b]? := fun b o v hv=>hs.block b (World.block_lt_of_cell? _ _ (hm.agree b o v hv)) (fun h=>h)
 ⟨fun b o v hv=>by rw[World.cell?_of_block (w:=w) (hlt b o v hv)];exact hm.agree b o v hv,hm.one,fun n bx h=>(by cases h),fun n m bx bx' b h=>(by cases h),LC.mono (fun _ _ _ h=>h) hlt hm.tab⟩
def zth{G:Gh}{w:World}(hm:ci G [] w)(hg:LC.glob 3=some ⟨.int .u64,Lib.pow10Tab⟩)(hs:(3,20)∈LC.sizes):∃t fr,w.heap[3]? = some (.cells (Lib.pow10Tab.map fun z=>Value.int .u64 z).toArray t fr):=by
 obtain⟨_,cs,t,fr,hh,hz⟩:=hm.tab.2.2.2 _ hs;refine⟨t,fr,hh.trans ?_⟩;congr 2;apply Array.ext
 ·rw[hz];simp[Lib.pow10Tab]
 ·intro j h1 h2;have hj:j<Lib.pow10Tab.length:=by simpa using h2
  have h3:=hm.agree _ _ _ (hm.tab.1 _ _ _ hg j _ (List.getElem?_eq_getElem hj));rw[show j*(Ty.int .u64).sz=j from Nat.mul_one j]at h3
  simp only[World.cell?,hh]at h3;rw[Array.getElem?_eq_getElem h1]at h3;simp only[List.getElem_toArray,List.getElem_map];exact qJ h3
def zcq{G:Gh}{w:World}(hm:ci G [] w)(hg:LC.glob 3=some ⟨.int .u64,Lib.pow10Tab⟩)(hs:(3,20)∈LC.sizes)(n:Int)(h0 : -9223372036854775808<=n)(h1:n<=9223372036854775807) :
  Calls Tryz.prog 94 #[.int .i64 n] w fun e w'=>e = .returned (.string ⟨(Lib.itoa n).toArray⟩)/\b9 w w':=
 (Any.strconv_Itoa Tryz.laysM171 n h0 h1 w (by
  unfold Lib.TabIs World.var?;obtain⟨t,fr,hh⟩:=zth hm hg hs;rw[show Tryz.prog.globalNamed _=some 3 by kernel_rfl,qB,hh])).mono fun e w'⟨he,k,os,hw⟩=>⟨he,by
   subst hw;refine⟨rfl,rfl,rfl,by simp[grow],fun j hj _ => ?_⟩
   show(w.heap++os)[j]? = _;rw[Array.getElem?_append_left hj]⟩
def q1i:IF:=⟨.fn 94,[.h (.int .i64)],[],_,RS.mk (.h .str) []⟩
def zcr(hg:LC.glob 3=some ⟨.int .u64,Lib.pow10Tab⟩)(hs:(3,20)∈LC.sizes):(q1i.e tw).Sound Tryz.prog:=fun d d' r h=>by
 have h:tw d.1=some r:=h;unfold tw at h;cases hd:decide (-9223372036854775808<=(show Int from d.1)/\(show Int from d.1)<=9223372036854775807)<;>rw[hd]at h<;>simp only[qT,qF,reduceCtorEq]at h
 have h:=qJ h;subst h;have hd:=of_decide_eq_true hd;refine⟨call94,db.data fun w G vs hm hr => ?_⟩
 match vs,hr with
 |[v],⟨h1,_⟩=>
  have h1:v = .int .i64 d.1:=h1;subst h1;exact(zcq hm hg hs _ hd.1 hd.2).mono fun e w'⟨he,hw⟩=>⟨_,he,rfl,hw⟩
def zqh{G:Gh}{w:World}(hm:ci G [] w)(hi:0∈LC.ints){a b:Bs}{u v:Value}(hu:ak (.sl .byte a) G u)(hv:ak (.sl .byte b) G v)(h2:2<=b.length)(hb:b.length<=maxLen)(ha:a.length<4294967281) :
  Calls Tryz.prog 131 #[u,v] w fun e w'=>e = .returned (.int .i64 (Lib.index a b))/\b9 w w':=by
 obtain⟨p,c,rfl,hc,hp⟩:jd 1 (Ty.byte.At G.imm) a u:=hu;obtain⟨q,d,rfl,hd,hq⟩:jd 1 (Ty.byte.At G.imm) b v:=hv;by_cases hlt:a.length<b.length
 ·have h:=Any.bytes_Index_longer Tryz.lays185 p q a.length c b.length d w h2 hlt (by unfold maxLen at hb;omega)
  rw[Lib.index_past (i:=0) (by intro e;subst e;simp at h2) (fun j hj=>absurd hj (Nat.not_lt_zero _)) (by simpa using hlt)]
  exact h.mono fun e w'⟨he,hw⟩=>⟨he,by subst hw;exact b9.refl _⟩
 ·rcases hp with rfl|⟨g,o,rfl,hcells⟩
  ·exact absurd (show([]:Bs).length<b.length from by show 0<_;omega) hlt
  rcases hq with rfl|⟨g',o',rfl,hcells'⟩
  ·exact absurd h2 (by show ¬2<=0;omega)
  obtain⟨k,hk⟩:=hm.tab.2.1 _ hi;have hk:=hm.agree _ _ _ hk;have bb:∀l:Bs,Lib.bytesOf (l.map fun x=>(x.toNat:Int))=l:=fun l=>by
   unfold Lib.bytesOf;rw[List.map_map];have:((fun n:Int=>UInt8.ofNat n.toNat) ∘ fun x:UInt8=>(x.toNat:Int))=id:=by funext x;simp
   rw[this,List.map_id]
  have cl:∀(l:Bs)(g o:Nat),(∀(j:Nat)(x:UInt8),l[j]? = some x->Ty.byte.At G.imm x g (o+j*1))->∀i,i<l.length->w.cell? ((⟨g,o,none⟩:Addr).add i)=some (.int .u8 ((l.map fun x=>(x.toNat:Int)).getD i 0)):=fun l g o h i hi=>by
   have h1:G.imm g (o+i*1)=some (.int .u8 l[i].toNat):=h i _ (List.getElem?_eq_getElem hi);have h1:=hm.agree _ _ _ h1;rw[Nat.mul_one]at h1;rw[Lib.add_plain',h1];simp[List.getD_eq_getElem?_getD,hi]
  have rg:∀l:Bs,∀x∈l.map (fun x=>(x.toNat:Int)),0<=x/\x<256:=fun l x hx=>by
   obtain⟨c,_,rfl⟩:=List.mem_map.1 hx;have:=c.toNat_lt;omega
  have h:=Any.bytes_Index_at Tryz.lays185 ⟨g,o,none⟩ ⟨g',o',none⟩ a.length c b.length d (a.map fun x=>(x.toNat:Int)) (b.map fun x=>(x.toNat:Int)) k w (by simp) (by simp) (rg a) (rg b) (cl a g o hcells) (cl b g' o' hcells') hc ha (by unfold maxLen at hb;omega) hk
  rw[bb,bb]at h;exact h.mono fun e w'⟨he,n,hw⟩=>⟨he,by subst hw;exact⟨rfl,rfl,rfl,wF _,fun _ _ _=>rfl⟩⟩
def qz1:IF:=⟨.fn 131,[.h (.list .byte),.h (.list .byte)],[],_,RS.mk (.h (.int .i64)) []⟩
def q98(hi:0∈LC.ints):(qz1.e tr).Sound Tryz.prog:=fun d d' r h=>by
 obtain⟨a,b,_⟩:=d;have h:tr a b=some r:=h;unfold tr at h;cases hd:decide (2<=List.length (α:=UInt8) b/\List.length (α:=UInt8) a<4294967281/\List.length (α:=UInt8) b<=maxLen)<;>rw[hd]at h<;>simp only[qT,qF,reduceCtorEq]at h
 have h:=qJ h;subst h;have hd:=of_decide_eq_true hd;refine⟨call131,db.data fun w G vs hm hr => ?_⟩
 match vs,hr with
 |[u,v],⟨h1,h2,_⟩=>
  exact(zqh hm hi h1 h2 hd.1 hd.2.2 hd.2.1).mono fun e w'⟨he,hw⟩=>⟨_,he,rfl,hw⟩
end Go.Sym
namespace Go.Sym
open Go.Proofs Go.RowKit Go.Sort
variable[LC]
def b9.trans{w w1 w2:World}(h:b9 w w1)(k:b9 w1 w2):b9 w w2:=
 ⟨k.os.trans h.os,k.tape.trans h.tape,k.output.trans h.output,Nat.le_trans h.size k.size,fun j hj _=>(k.block j (Nat.lt_of_lt_of_le hj h.size) (fun h=>h)).trans (h.block j hj (fun h=>h))⟩
def zmu{l:Bs}{v:Int}(h:Lib.atoiAll l = .ok v) : -9223372036854775808<=v/\v<=9223372036854775807:=by
 unfold Lib.atoiAll at h;split at h
 ·cases h
 ·simp only at h;split at h
  ·cases h
  ·cases h
  ·split at h
   ·cases h
   ·split at h
    ·cases h
    ·rename_i h1 h2;injection h with h
     split at h<;>rename_i h3
     ·simp only[h3,not_true_eq_false,false_and,true_and]at h1 h2;omega
     ·simp only[h3,not_false_eq_true,true_and,false_and]at h1 h2;omega
def zr8{G:Gh}{w:World}(hm:ci G [] w)(hg:LC.glob 3=some ⟨.int .u64,Lib.pow10Tab⟩)(hs:(3,20)∈LC.sizes)(h1:6∈LC.ifs)(h2:7∈LC.ifs)(s:Bs)(most:Int)(hl:s.length<=281474976710656) :
  Calls Tryz.prog 195 #[.string ⟨s.toArray⟩,.int .i64 most] w fun e w'=>e = .returned (.tuple #[.int .i64 (g8 s most).1,.bool (g8 s most).2])/\b9 w w':=by
 have hsz:(⟨s.toArray⟩:ByteArray).size=s.length:=sx s;have hd:(⟨s.toArray⟩:ByteArray).data.toList=s:=by simp
 have bw:∀t:ByteArray,b9 w (Lib.bytesWorld w 5 t):=fun t=>by
  refine⟨rfl,rfl,rfl,?_,fun j hj _ => ?_⟩
  ·simp[Lib.bytesWorld,World.freeze]
  ·show((w.heap.push _).modify w.heap.size _)[j]? = _;rw[Array.getElem?_modify,qW (by omega),Array.getElem?_push_lt (by omega)]
   exact(Array.getElem?_eq_getElem hj).symm
 have bad:(Calls Tryz.prog 219 #[.string ⟨s.toArray⟩] w fun e w'=>(∃n t v,e = .returned (.tuple #[.int .i64 n,.iface t v]))/\b9 w w') ->
   Calls Tryz.prog 195 #[.string ⟨s.toArray⟩,.int .i64 most] w fun e w'=>e = .returned (.tuple #[.int .i64 0,.bool false])/\b9 w w':=fun cA=>by
  clear hg hs hm
  go_enter Tryz.func195,Tryz.ntmps195
  go_wp2_with (go_at_call 219;refine cA.mono ?_;rintro e wa ⟨⟨n,t,v,rfl⟩,sa⟩)
  all_goals (clear cA;go_ret2;exact⟨rfl,sa⟩)
 unfold g8
 cases hA:Lib.atoiAll s with
 |ok v=>
  obtain⟨b1,b2⟩:=zmu hA;have cA:Calls Tryz.prog 219 #[.string ⟨s.toArray⟩] w fun e w'=>e = .returned (.tuple #[.int .i64 v,.nilIface])/\b9 w w':=
   (Any.strconv_Atoi_ok Tryz.laysC172 ⟨s.toArray⟩ (by omega) v (by rw[hd];exact hA) w).mono fun e w'⟨he,hw⟩=>⟨he,by
    rcases hw with rfl|⟨t,rfl⟩
    ·exact b9.refl _
    ·exact bw t⟩
  have cI:∀w',b9 w w'->Calls Tryz.prog 94 #[.int .i64 v] w' fun e w''=>e = .returned (.string ⟨(Lib.itoa v).toArray⟩)/\b9 w' w'':=fun w' h=>zcq (hm.still h) hg hs v b1 b2
  have hse:(⟨(Lib.itoa v).toArray⟩:ByteArray)=⟨s.toArray⟩↔Lib.itoa v=s:=by
   constructor
   ·intro h;have:=congrArg (fun x:ByteArray=>x.data.toList) h;simpa using this
   ·intro h;rw[h]
  show Calls Tryz.prog 195 _ w fun e w'=>e = .returned (.tuple #[.int .i64 (if Lib.itoa v=s/\0<=v/\v<=most then(v,true) else(0,false)).1,.bool (if Lib.itoa v=s/\0<=v/\v<=most then(v,true) else(0,false)).2])/\b9 w w'
  generalize Lib.itoa v=t at cI hse ⊢;obtain⟨r,hr⟩:∃r,r=(if t=s/\0<=v/\v<=most then(v,true) else(0,false)):=⟨_,rfl⟩
  rw[← hr];clear hA hg hs hm
  go_enter Tryz.func195,Tryz.ntmps195
  go_wp2_with (first|(go_at_call 219;refine cA.mono ?_;rintro e wa ⟨rfl,sa⟩)|(go_at_call 94;refine(cI _ (by assumption)).mono ?_;rintro e wb ⟨rfl,sb⟩))
  all_goals (clear cA cI;go_ret2)
  all_goals (by_cases q:t=s/\0<=v/\v<=most)
  all_goals first
   |(rw[qX q]at hr;subst hr;first|exact⟨rfl,sa.trans sb⟩|(exfalso;omega)|(exfalso;exact absurd q.1 (by assumption)))
   |(rw[qW q]at hr;subst hr;first|exact⟨rfl,sa.trans sb⟩|(exfalso;exact q ⟨by assumption,by omega,by omega⟩))
 |range=>
  obtain⟨te,pe,hv⟩:=hm.tab.2.2.1 _ h2;have cA:Calls Tryz.prog 219 #[.string ⟨s.toArray⟩] w fun e w'=>(∃n t v,e = .returned (.tuple #[.int .i64 n,.iface t v]))/\b9 w w':=
   (Any.strconv_Atoi_range Tryz.laysC172 ⟨s.toArray⟩ (by omega) (by rw[hd];exact hA) _ w (hm.agree _ _ _ hv) (.inr ⟨_,_,rfl⟩)).mono fun e w'⟨N,he,_,_,hw⟩=>⟨⟨_,_,_,he⟩,b9.of_below hw⟩
  exact bad cA
 |_=>
  obtain⟨te,pe,hv⟩:=hm.tab.2.2.1 _ h1;have cA:Calls Tryz.prog 219 #[.string ⟨s.toArray⟩] w fun e w'=>(∃n t v,e = .returned (.tuple #[.int .i64 n,.iface t v]))/\b9 w w':=
   (Any.strconv_Atoi_syntax Tryz.laysC172 ⟨s.toArray⟩ (by omega) (by rw[hd];exact hA) _ w (hm.agree _ _ _ hv) (.inr ⟨_,_,rfl⟩)).mono fun e w'⟨N,he,_,_,hw⟩=>⟨⟨_,_,_,he⟩,b9.of_below hw⟩
  exact bad cA
def zds:IF:=⟨.fn 195,[.h .str,.h (.int .i64)],[],_,RS.mk (.tup [.h (.int .i64),.h .bool]) []⟩
def zsa(hg:LC.glob 3=some ⟨.int .u64,Lib.pow10Tab⟩)(hs:(3,20)∈LC.sizes)(h1:6∈LC.ifs)(h2:7∈LC.ifs):(zds.e za).Sound Tryz.prog:=fun d d' r h=>by
 obtain⟨s,most,_⟩:=d;have h:za s most=some r:=h;unfold za at h;cases hd:decide (List.length (α:=UInt8) s<=281474976710656)<;>rw[hd]at h<;>simp only[qT,qF,reduceCtorEq]at h
 have h:=qJ h;subst h;refine⟨Tryz.call195,db.data fun w G vs hm hr => ?_⟩
 match vs,hr with
 |[u,v],⟨e1,e2,_⟩=>
  have e1:u = .string ⟨List.toArray s⟩:=e1;have e2:v = .int .i64 most:=e2;subst e1 e2;exact(zr8 hm hg hs h1 h2 s most (of_decide_eq_true hd)).mono fun e w'⟨he,hw⟩=>⟨_,he,⟨_,rfl,rfl,rfl,trivial⟩,hw⟩
end Go.Sym
namespace Go.Sym
open Go.Proofs Go.RowKit
variable[LC]
def qd8(w:World)(o:Obj){k:Nat}(hk:k<w.heap.size):(w.alloc o).heap[k]? = w.heap[k]? := by
 show(w.heap.push _)[k]? = _;rw[Array.getElem?_push_lt hk];exact(Array.getElem?_eq_getElem hk).symm
def q3c(w:World)(E:TypeId)(sz:Nat):fc (w.alloc (.cells #[] E)) E sz (some ⟨w.heap.size,0,none⟩) 0 0 []:=
 ⟨by simp,.inr ⟨w.heap.size,#[],(0,0),rfl,by show(w.heap.push _)[w.heap.size]? = _;simp,.inl rfl,wF _,by unfold maxLen;omega,by simp,by simp,by simp⟩⟩
def znu(l:List (.prod .str .str:Ty).den)(hd:l.length<=a8):db Tryz.prog 38 [.sl (.prod .str .str) l] [] (.own 0) [(0,.row (.prod .str .str) l 50)]:=by
 refine db.fresh fun w G vs hm hr => ?_
 match vs,hr with
 |[v],⟨h1,_⟩=>
  obtain⟨news,k1,k2,k3,k4⟩:=q3l (P:=Tryz.prog) hm h1;have hnl:news.length=l.length*(.prod .str .str:Ty).sz:=by rw[← k3.length];exact lr l
  obtain⟨p,c,rfl,hc,hp⟩:jd (.prod .str .str:Ty).sz ((.prod .str .str:Ty).At G.imm) l v:=h1
  cases p with
  |none=>
   have hl:l=[]:=by
    rcases hp with h|⟨_,_,h,_⟩
    ·exact h
    ·cases h
   subst hl;have e0:news=[]:=List.eq_nil_of_length_eq_zero (by rw[hnl];exact Nat.zero_mul _)
   subst e0;have hg:Calls Tryz.prog 38 #[.slice none 0 c] w fun e w'=>e = .returned (.slice none 0 0)/\w'=w:=by
    clear hp hr k1 k2 hm hnl hc hd k3 k4;have q22:∀(w:World)(a:Option Addr)(n c n' c':Nat),(binOp .eql 22 (.slice a n c) (.slice none n' c')).run Tryz.prog w = .ok (.bool a.isNone) w:=fun w a n c n' c'=>Lib.run_eql_slice_nil w _ _ a n c n' c' Tryz.underlying22
    have u22:∀w,Sem.run Tryz.prog (underlying 22) w = .ok (TypeDesc.slice 50) w:=run_underlying Tryz.underlying22
    go_enter Tryz.func38,Tryz.ntmps38
    go_wp2
    go_ret
    exact⟨rfl,rfl⟩
   exact hg.mono fun e w'⟨he,hw⟩=>⟨none,0,[],he,⟨rfl,.inl ⟨rfl,rfl,rfl⟩⟩,k3,fun b hb=>(by cases hb),by subst hw;exact b9.refl _⟩
  |some ad=>
   generalize hn:l.length=n at *;have hg:Calls Tryz.prog 38 #[.slice (some ad) n c] w fun e w'=>∃ad' c',e = .returned (.slice ad' n c')/\fc w' 50 (.prod .str .str:Ty).sz ad' n c' news/\(∀b,cm ad'=some b->w.heap.size<=b)/\b9 w w':=by
    clear hm k3 hr hp hn;have q22:∀(w:World)(a:Option Addr)(n c n' c':Nat),(binOp .eql 22 (.slice a n c) (.slice none n' c')).run Tryz.prog w = .ok (.bool a.isNone) w:=fun w a n c n' c'=>Lib.run_eql_slice_nil w _ _ a n c n' c' Tryz.underlying22
    have u22:∀w,Sem.run Tryz.prog (underlying 22) w = .ok (TypeDesc.slice 50) w:=run_underlying Tryz.underlying22
    go_enter Tryz.func38,Tryz.ntmps38
    go_wp2_with (at_builtin;refine q4c rfl _ _ 22 rfl (E:=50) (sz:=(.prod .str .str:Ty).sz) (by kernel_rfl) (by kernel_rfl) (by kernel_rfl) (by kernel_rfl) rfl (q3c w 50 _) rfl k1 ?qc hnl k4 (by omega) ?_)
    case qc=>exact fun w' hw'=>k2 w' fun k hk=>by rw[hw'];exact qd8 w _ hk
    intro ad' c' w1 hrow hblk hbel
    go_wp2
    go_ret
    refine⟨ad',c',rfl,by simpa using hrow,fun b hb => ?_,⟨hbel.os,hbel.tape,hbel.output,Nat.le_trans (by show w.heap.size<=(w.heap.push _).size;simp) hbel.size,fun k hk _ => ?_⟩⟩
    ·rcases hblk with h|⟨g,h,hg⟩
     ·rw[h]at hb;injection hb with hb;have hb:w.heap.size=b:=hb;omega
     ·rw[h]at hb;injection hb with hb
      have:w.heap.size<=(w.alloc (.cells #[] 50)).heap.size:=by show w.heap.size<=(w.heap.push _).size;simp
      omega
    ·rw[hbel.block k (by show k<(w.heap.push _).size;simp;omega) (fun e=>by injection e with e;have e:w.heap.size=k:=e;omega)]
     exact qd8 w _ hk
   exact hg.mono fun e w'⟨ad',c',he,hrow,hb,hs⟩=>⟨ad',c',news,he,hrow,k3,hb,hs⟩
def qag:IF:=⟨.fn 38,[.h (.list (.prod .str .str))],[],_,RS.mk (.own 0) [(0,.row (.prod .str .str) 50)]⟩
def qdn:(qag.e (cz (α:=(.prod .str .str:Ty).den))).Sound Tryz.prog:=fun d d' r h=>by
 obtain⟨l,_⟩:=d;have h:(bif decide (List.length (α:=(.prod .str .str:Ty).den) l<=a8) then some (show List (.prod .str .str:Ty).den from l) else none)=some r:=h
 cases hd:decide (List.length (α:=(.prod .str .str:Ty).den) l<=a8)<;>rw[hd]at h<;>simp only[qT,qF,reduceCtorEq]at h
 have h:=qJ h;subst h;exact⟨Tryz.call38,znu l (of_decide_eq_true hd)⟩
def znv(l:List (.byte:Ty).den)(hd:l.length<=a8):db Tryz.prog 39 [.sl (.byte) l] [] (.own 0) [(0,.row (.byte) l 5)]:=by
 refine db.fresh fun w G vs hm hr => ?_
 match vs,hr with
 |[v],⟨h1,_⟩=>
  obtain⟨news,k1,k2,k3,k4⟩:=q3l (P:=Tryz.prog) hm h1;have hnl:news.length=l.length*(.byte:Ty).sz:=by rw[← k3.length];exact lr l
  obtain⟨p,c,rfl,hc,hp⟩:jd (.byte:Ty).sz ((.byte:Ty).At G.imm) l v:=h1
  cases p with
  |none=>
   have hl:l=[]:=by
    rcases hp with h|⟨_,_,h,_⟩
    ·exact h
    ·cases h
   subst hl;have e0:news=[]:=List.eq_nil_of_length_eq_zero (by rw[hnl];exact Nat.zero_mul _)
   subst e0;have hg:Calls Tryz.prog 39 #[.slice none 0 c] w fun e w'=>e = .returned (.slice none 0 0)/\w'=w:=by
    clear hp hr k1 k2 hm hnl hc hd k3 k4;have q22:∀(w:World)(a:Option Addr)(n c n' c':Nat),(binOp .eql 23 (.slice a n c) (.slice none n' c')).run Tryz.prog w = .ok (.bool a.isNone) w:=fun w a n c n' c'=>Lib.run_eql_slice_nil w _ _ a n c n' c' Tryz.underlying23
    have u22:∀w,Sem.run Tryz.prog (underlying 23) w = .ok (TypeDesc.slice 5) w:=run_underlying Tryz.underlying23
    go_enter Tryz.func39,Tryz.ntmps39
    go_wp2
    go_ret
    exact⟨rfl,rfl⟩
   exact hg.mono fun e w'⟨he,hw⟩=>⟨none,0,[],he,⟨rfl,.inl ⟨rfl,rfl,rfl⟩⟩,k3,fun b hb=>(by cases hb),by subst hw;exact b9.refl _⟩
  |some ad=>
   generalize hn:l.length=n at *;have hg:Calls Tryz.prog 39 #[.slice (some ad) n c] w fun e w'=>∃ad' c',e = .returned (.slice ad' n c')/\fc w' 5 (.byte:Ty).sz ad' n c' news/\(∀b,cm ad'=some b->w.heap.size<=b)/\b9 w w':=by
    clear hm k3 hr hp hn;have q22:∀(w:World)(a:Option Addr)(n c n' c':Nat),(binOp .eql 23 (.slice a n c) (.slice none n' c')).run Tryz.prog w = .ok (.bool a.isNone) w:=fun w a n c n' c'=>Lib.run_eql_slice_nil w _ _ a n c n' c' Tryz.underlying23
    have u22:∀w,Sem.run Tryz.prog (underlying 23) w = .ok (TypeDesc.slice 5) w:=run_underlying Tryz.underlying23
    go_enter Tryz.func39,Tryz.ntmps39
    go_wp2_with (at_builtin;refine q4c rfl _ _ 23 rfl (E:=5) (sz:=(.byte:Ty).sz) (by kernel_rfl) (by kernel_rfl) (by kernel_rfl) (by kernel_rfl) rfl (q3c w 5 _) rfl k1 ?qc hnl k4 (by omega) ?_)
    case qc=>exact fun w' hw'=>k2 w' fun k hk=>by rw[hw'];exact qd8 w _ hk
    intro ad' c' w1 hrow hblk hbel
    go_wp2
    go_ret
    refine⟨ad',c',rfl,by simpa using hrow,fun b hb => ?_,⟨hbel.os,hbel.tape,hbel.output,Nat.le_trans (by show w.heap.size<=(w.heap.push _).size;simp) hbel.size,fun k hk _ => ?_⟩⟩
    ·rcases hblk with h|⟨g,h,hg⟩
     ·rw[h]at hb;injection hb with hb;have hb:w.heap.size=b:=hb;omega
     ·rw[h]at hb;injection hb with hb
      have:w.heap.size<=(w.alloc (.cells #[] 5)).heap.size:=by show w.heap.size<=(w.heap.push _).size;simp
      omega
    ·rw[hbel.block k (by show k<(w.heap.push _).size;simp;omega) (fun e=>by injection e with e;have e:w.heap.size=k:=e;omega)]
     exact qd8 w _ hk
   exact hg.mono fun e w'⟨ad',c',he,hrow,hb,hs⟩=>⟨ad',c',news,he,hrow,k3,hb,hs⟩
def qjr:IF:=⟨.fn 39,[.h (.list (.byte))],[],_,RS.mk (.own 0) [(0,.row (.byte) 5)]⟩
def qpw:(qjr.e (cz (α:=(.byte:Ty).den))).Sound Tryz.prog:=fun d d' r h=>by
 obtain⟨l,_⟩:=d;have h:(bif decide (List.length (α:=(.byte:Ty).den) l<=a8) then some (show List (.byte:Ty).den from l) else none)=some r:=h
 cases hd:decide (List.length (α:=(.byte:Ty).den) l<=a8)<;>rw[hd]at h<;>simp only[qT,qF,reduceCtorEq]at h
 have h:=qJ h;subst h;exact⟨Tryz.call39,znv l (of_decide_eq_true hd)⟩
def znx(l:List (.prod .str .str:Ty).den)(hd:l.length<=a8):db Tryz.prog 71 [.sl (.prod .str .str) l] [] (.own 0) [(0,.row (.prod .str .str) l 86)]:=by
 refine db.fresh fun w G vs hm hr => ?_
 match vs,hr with
 |[v],⟨h1,_⟩=>
  obtain⟨news,k1,k2,k3,k4⟩:=q3l (P:=Tryz.prog) hm h1;have hnl:news.length=l.length*(.prod .str .str:Ty).sz:=by rw[← k3.length];exact lr l
  obtain⟨p,c,rfl,hc,hp⟩:jd (.prod .str .str:Ty).sz ((.prod .str .str:Ty).At G.imm) l v:=h1
  cases p with
  |none=>
   have hl:l=[]:=by
    rcases hp with h|⟨_,_,h,_⟩
    ·exact h
    ·cases h
   subst hl;have e0:news=[]:=List.eq_nil_of_length_eq_zero (by rw[hnl];exact Nat.zero_mul _)
   subst e0;have hg:Calls Tryz.prog 71 #[.slice none 0 c] w fun e w'=>e = .returned (.slice none 0 0)/\w'=w:=by
    clear hp hr k1 k2 hm hnl hc hd k3 k4;have q22:∀(w:World)(a:Option Addr)(n c n' c':Nat),(binOp .eql 81 (.slice a n c) (.slice none n' c')).run Tryz.prog w = .ok (.bool a.isNone) w:=fun w a n c n' c'=>Lib.run_eql_slice_nil w _ _ a n c n' c' Tryz.underlying81
    have u22:∀w,Sem.run Tryz.prog (underlying 81) w = .ok (TypeDesc.slice 86) w:=run_underlying Tryz.underlying81
    go_enter Tryz.func71,Tryz.ntmps71
    go_wp2
    go_ret
    exact⟨rfl,rfl⟩
   exact hg.mono fun e w'⟨he,hw⟩=>⟨none,0,[],he,⟨rfl,.inl ⟨rfl,rfl,rfl⟩⟩,k3,fun b hb=>(by cases hb),by subst hw;exact b9.refl _⟩
  |some ad=>
   generalize hn:l.length=n at *;have hg:Calls Tryz.prog 71 #[.slice (some ad) n c] w fun e w'=>∃ad' c',e = .returned (.slice ad' n c')/\fc w' 86 (.prod .str .str:Ty).sz ad' n c' news/\(∀b,cm ad'=some b->w.heap.size<=b)/\b9 w w':=by
    clear hm k3 hr hp hn;have q22:∀(w:World)(a:Option Addr)(n c n' c':Nat),(binOp .eql 81 (.slice a n c) (.slice none n' c')).run Tryz.prog w = .ok (.bool a.isNone) w:=fun w a n c n' c'=>Lib.run_eql_slice_nil w _ _ a n c n' c' Tryz.underlying81
    have u22:∀w,Sem.run Tryz.prog (underlying 81) w = .ok (TypeDesc.slice 86) w:=run_underlying Tryz.underlying81
    go_enter Tryz.func71,Tryz.ntmps71
    go_wp2_with (at_builtin;refine q4c rfl _ _ 81 rfl (E:=86) (sz:=(.prod .str .str:Ty).sz) (by kernel_rfl) (by kernel_rfl) (by kernel_rfl) (by kernel_rfl) rfl (q3c w 86 _) rfl k1 ?qc hnl k4 (by omega) ?_)
    case qc=>exact fun w' hw'=>k2 w' fun k hk=>by rw[hw'];exact qd8 w _ hk
    intro ad' c' w1 hrow hblk hbel
    go_wp2
    go_ret
    refine⟨ad',c',rfl,by simpa using hrow,fun b hb => ?_,⟨hbel.os,hbel.tape,hbel.output,Nat.le_trans (by show w.heap.size<=(w.heap.push _).size;simp) hbel.size,fun k hk _ => ?_⟩⟩
    ·rcases hblk with h|⟨g,h,hg⟩
     ·rw[h]at hb;injection hb with hb;have hb:w.heap.size=b:=hb;omega
     ·rw[h]at hb;injection hb with hb
      have:w.heap.size<=(w.alloc (.cells #[] 86)).heap.size:=by show w.heap.size<=(w.heap.push _).size;simp
      omega
    ·rw[hbel.block k (by show k<(w.heap.push _).size;simp;omega) (fun e=>by injection e with e;have e:w.heap.size=k:=e;omega)]
     exact qd8 w _ hk
   exact hg.mono fun e w'⟨ad',c',he,hrow,hb,hs⟩=>⟨ad',c',news,he,hrow,k3,hb,hs⟩
def zar:IF:=⟨.fn 71,[.h (.list (.prod .str .str))],[],_,RS.mk (.own 0) [(0,.row (.prod .str .str) 86)]⟩
def znw:(zar.e (cz (α:=(.prod .str .str:Ty).den))).Sound Tryz.prog:=fun d d' r h=>by
 obtain⟨l,_⟩:=d;have h:(bif decide (List.length (α:=(.prod .str .str:Ty).den) l<=a8) then some (show List (.prod .str .str:Ty).den from l) else none)=some r:=h
 cases hd:decide (List.length (α:=(.prod .str .str:Ty).den) l<=a8)<;>rw[hd]at h<;>simp only[qT,qF,reduceCtorEq]at h
 have h:=qJ h;subst h;exact⟨Tryz.call71,znx l (of_decide_eq_true hd)⟩
end Go.Sym
namespace Go.Sym
open Go.Proofs Go.RowKit Go.Sort
variable[LC]
def db.inPlaceA{ys:List AV}{P:Program}{f:FuncId}{τ:Ty}{l l':List τ.den}{E:TypeId}(ac:l'.length=l.length)(h:∀(w:World)(G:Gh)(ad:Option Addr)(c:Nat)(us vs:List Value),fc w E τ.sz ad l.length c us->al (l.flatMap τ.enc) G.data us->al ys G vs ->
  Calls P f (Value.slice ad l.length c::vs).toArray w fun e w'=>e = .returned (.tuple #[])/\∃us',fc w' E τ.sz ad l.length c us'/\al (l'.flatMap τ.enc) G.data us'/\d9 (fun b=>cm ad=some b) w w') :
  db P f (.own 0::ys) [(0,.row τ l E)] (.tup []) [(0,.row τ l' E)]:=by
 intro w G vs hm hreps;have hl:ae [(0,ai.row τ l E)] 0=some (.row τ l E):=rfl;obtain⟨ad,c,us,h1,h3,h4,h5⟩:=(hm.holds 0 _ hl).rowAt
 match vs,hreps with
 |v::vs,hreps=>
  obtain⟨⟨a',n',c',q1,rfl⟩,hys⟩:=hreps;rw[h1]at q1;simp only[qI,qP]at q1;obtain⟨rfl,rfl,rfl⟩:=q1;refine(h w G ad c us vs h3 h4 hys).mono ?_;rintro e w' ⟨rfl,us',r1,r2,r3⟩
  refine⟨_,G,rfl,?_,#[],rfl,trivial⟩;have hself:=qdh hm;have hbox:de G w' 0 (.row τ l' E):=de.row (by rw[ac];exact h1) (by rw[ac];exact r1) r2 (fun b hb=>h5 b hb)
  cases had:cm ad with
  |none=>
   have hst:b9 w w':=⟨r3.os,r3.tape,r3.output,r3.size,fun k hk _=>r3.block k hk (fun e=>by rw[had]at e;cases e)⟩
   have hf:=hself.extend (new:=[]) (Gh.le.refl G) hst (fun _ _ _ h => .inl h) (fun b o v hv=>by
    have hc:=hm.agree b o v hv;have hlt:=World.block_lt_of_cell? _ _ hc;rw[World.cell?_of_block (w:=w) (hst.block b hlt (fun h=>h))];exact hc) hm.one (fun n bx h=>by cases h) (fun n bx h=>by cases h) (fun n m bx bx' b h=>by cases h)
   have hlk:∀m b,ae [(0,ai.row τ l' E)] m=some b->m=0/\b = .row τ l' E:=fun m b hh=>by
    simp only[ae]at hh;cases hb:Nat.beq 0 m
    ·rw[hb]at hh;cases hh
    ·rw[hb]at hh;simp only[qT,qI]at hh;exact⟨(qN hb).symm,hh.symm⟩
   have hat:G.at 0 (.row τ l' E)=none:=by
    simp only[Gh.at,h1]
    cases ad with|none=>rfl|some a=>cases had
   refine⟨⟨hf.mem.agree,hf.mem.one,fun m b hh => ?_,fun m m' b b' c h1 h2 h3 _ => ?_,hf.mem.tab⟩,hf.bel,hf.imm_le,hf.imm_new,fun m b c h1 h2 => ?_,hf.keep,hf.keepOwn⟩
   ·obtain⟨rfl,rfl⟩:=hlk m b hh;exact hbox
   ·obtain⟨rfl,_⟩:=hlk m b h1;obtain⟨rfl,_⟩:=hlk m' b' h2;rfl
   ·obtain⟨rfl,rfl⟩:=hlk m b h1;rw[hat]at h2;cases h2
  |some B=>
   have hat:∀l:List τ.den,G.at 0 (.row τ l E)=some B:=fun l=>by
    simp only[Gh.at,h1]
    cases ad with
    |none=>cases had
    |some a=>exact had
   have hf:=hself.update (bx' := .row τ l' E) hl (hat l) (hat l') ⟨r3.os,r3.tape,r3.output,r3.size,fun k hk hne=>r3.block k hk (fun e=>by rw[had]at e;injection e with e;exact hne e.symm)⟩ hbox (h5 B had)
   have hlk:∀m b,ae [(0,ai.row τ l' E)] m=some b->ae (sw [(0,ai.row τ l E)] 0 (.row τ l' E)) m=some b:=fun m b hh=>by
    simp only[ae]at hh;simp only[sw,ae];cases hb:Nat.beq 0 m
    ·rw[hb]at hh;cases hh
    ·rw[hb]at hh;exact hh
   exact⟨⟨hf.mem.agree,hf.mem.one,fun m b hh=>hf.mem.holds m b (hlk m b hh),fun m m' b b' c h1 h2 h3 h4=>hf.mem.apart m m' b b' c (hlk _ _ h1) (hlk _ _ h2) h3 h4,hf.mem.tab⟩,hf.bel,hf.imm_le,hf.imm_new,fun m b c h1 h2=>hf.base m b c (hlk _ _ h1) h2,hf.keep,hf.keepOwn⟩
 |[],hreps=>exact hreps.elim
def ztr(w:World)(n g:Nat)(d:Array Value)(os:Array Obj)(k:Nat)(hk:k<w.heap.size)(hne:k≠g):(grow (putRow id (Sort.ahead w n) g 0 d) os).heap[k]? = w.heap[k]? := by
 show((w.heap.modify g (onCells (putCells id 0 d)))++os)[k]? = _;rw[Array.getElem?_append_left (by simpa using hk),Array.getElem?_modify,qW (by omega)]
def zts(w:World)(n g:Nat)(d:Array Value)(os:Array Obj){cur:Array Value}{e:TypeId}{fr:Nat×Nat}(hh:w.heap[g]? = some (.cells cur e fr)) :
  (grow (putRow id (Sort.ahead w n) g 0 d) os).heap[g]? = some (.cells (putCells id 0 d cur) e fr):=by
 have hg:g<w.heap.size:=(Array.getElem?_eq_some_iff.1 hh).1;show((w.heap.modify g (onCells (putCells id 0 d)))++os)[g]? = _;rw[Array.getElem?_append_left (by simpa using hg),Array.getElem?_modify,qX rfl,hh]
 rfl
def ztu(zs:List Value)(cur:Array Value)(h:zs.length<=cur.size):(putCells id 0 zs.toArray cur).toList.take zs.length=zs:=by
 apply List.ext_getElem?;intro j;rw[List.getElem?_take];by_cases hj:j<zs.length
 ·rw[qX hj,Array.getElem?_toList];unfold putCells;rw[Array.getElem?_mapIdx,Array.getElem?_eq_getElem (by omega)]
  simp[hj]
 ·rw[qW hj];exact(List.getElem?_eq_none (by omega)).symm
def ztt(w:World)(n g:Nat)(d:Array Value)(os:Array Obj):w.heap.size<=(grow (putRow id (Sort.ahead w n) g 0 d) os).heap.size:=by
 show w.heap.size<=((w.heap.modify g (onCells (putCells id 0 d)))++os).size;simp
def ztq(zs:List Value)(cur:Array Value)(v:Value)(hv:v∈(putCells id 0 zs.toArray cur).toList):v∈cur.toList\/v∈zs:=by
 unfold putCells at hv;rw[Array.mem_toList_iff,Array.mem_mapIdx]at hv;obtain⟨j,hj,rfl⟩:=hv;split
 ·rename_i hj2;have hj3:j<zs.length:=by simpa using hj2
  refine .inr ?_;simp[hj3]
 ·exact .inl (by simp)
end Go.Sym
namespace Go.Sym
open Go.Proofs Go.RowKit Go.Sort
variable[LC]
def zbv{α:Type}[Inhabited α](enc:α->List Value)(k:Nat)(hk:∀x,(enc x).length=k)(l:List α):flatK enc k l.toArray=(l.flatMap enc).toArray:=by
 have key:∀(l:List α)(t:Nat),t<l.length*k->(l.flatMap enc)[t]? = some ((enc l[t/k]!)[t%k]!):=by
  intro l
  induction l with
  |nil=>intro t ht;simp at ht|cons x l ih=>
   intro t ht;have k0:0<k:=by
    rcases Nat.eq_zero_or_pos k with h|h;· subst h;simp at ht
    ·exact h
   rw[List.flatMap_cons];by_cases h:t<k
   ·rw[List.getElem?_append_left (by rw[hk];exact h),Nat.div_eq_of_lt h,Nat.mod_eq_of_lt h,List.getElem?_eq_getElem (by rw[hk];exact h)]
    simp[hk,h]
   ·rw[List.getElem?_append_right (by rw[hk];omega),hk,ih (t-k) (by rw[qL,Nat.add_mul,Nat.one_mul]at ht;omega)]
    obtain⟨u,rfl⟩:∃u,t=u+k:=⟨t-k,by omega⟩
    rw[Nat.add_sub_cancel,Nat.add_mod_right,Nat.add_div_right _ k0];simp
 have ac:(l.flatMap enc).length=l.length*k:=by
  clear key
  induction l with|nil=>simp|cons x l ih=>rw[List.flatMap_cons,qM,hk,ih,qL,Nat.add_mul,Nat.one_mul,Nat.add_comm]
 refine ext_get! (by simp[ac]) fun t ht => ?_
 have ht':t<l.length*k:=by simpa using ht
 rw[get_flatK enc k l.toArray t (by simpa using ht')]
 have:=key l t ht';simp only[List.getElem!_toArray];rw[List.getElem!_eq_getElem?_getD (l:=l.flatMap enc),this];rfl
def ep(x:Pq):List Value:=[.string ⟨x.1.1.toArray⟩,.int .i64 x.1.2.1,.bool x.1.2.2.1,.string ⟨x.1.2.2.2.toArray⟩]
def zgk:SWO (ltOf jf):=by
 have e:∀x y:Pq,ltOf jf x y=decide (x.1.2.1<y.1.2.1):=fun x y=>by
  have:=x.2;have:=y.2;unfold ltOf jf;have h:af (x.1.2.1-y.1.2.1)=x.1.2.1-y.1.2.1:=by unfold af;simp[IntKind.wrap,IntKind.bits,IntKind.signed];omega
  rw[h];by_cases q:x.1.2.1<y.1.2.1<;>simp[q]<;>omega
 exact⟨fun x=>by rw[e];simp,fun x y z h1 h2=>by rw[e]at *;simp at *;omega,fun x y z h1 h2=>by rw[e]at *;simp at *;omega⟩
set_option maxHeartbeats 1000000 in
def zny(x y:Pq)(W:World):Calls Tryz.prog 222 #[.agg (ep x).toArray,.agg (ep y).toArray] W fun e w'=>e = .returned (.int .i64 (jf x y))/\∃q os',w'=grow (W.drewN q) os':=by
 unfold ep jf;obtain⟨⟨a,n,s,v⟩,hx⟩:=x;obtain⟨⟨a',n',s',v'⟩,hy⟩:=y;simp only;have hw:af (n-n')=wrap64 (n-n'):=by show IntKind.i64.wrap (n-n')=_;rw[IntKind.wrap_i64];unfold Go.RowKit.wrap64;rfl
 rw[hw];clear hx hy hw
 go_enter Tryz.func222,Tryz.ntmps222
 go_wp2
 go_ret
 exact⟨rfl,0,_,by rw[alloc_eq_grow,alloc_eq_grow,grow_grow];rfl⟩
abbrev τQ:Ty := .prod .str (.prod (.int .i64) (.prod .bool .str))
def ze6{G:Gh}:∀{l:List Pq}{us:List Value},al (List.flatMap (β:=AV) τQ.enc (l.map (·.1))) G us->us=l.flatMap ep
 |[],[],_=>rfl|[],_::_,h=>h.elim|x::l,us,h=>by
  match us,h with
  |a::b::c::d::us,h=>
   have h1:a = .string ⟨x.1.1.toArray⟩:=h.1;have h2:b = .int .i64 x.1.2.1:=h.2.1;have h3:c = .bool x.1.2.2.1:=h.2.2.1;have h4:d = .string ⟨x.1.2.2.2.toArray⟩:=h.2.2.2.1;have h5:=ze6 (l:=l) h.2.2.2.2;rw[h1,h2,h3,h4,h5];rfl
  |[],h=>exact h.elim|[_],h=>exact h.2.elim|[_,_],h=>exact h.2.2.elim|[_,_,_],h=>exact h.2.2.2.elim
def ze7{G:Gh}:∀(l:List Pq),al (List.flatMap (β:=AV) τQ.enc (l.map (·.1))) G (l.flatMap ep)
 |[]=>trivial|_::l=>⟨rfl,rfl,rfl,rfl,ze7 l⟩
def zgu:∀(l:List Pc)(q:List Pq),qn l=some q->l=q.map (·.1)
 |[],_,h=>by cases h;rfl
 |x::l,q,h=>by
  unfold qn at h;split at h
  ·split at h
   ·rename_i r hr;cases h;rw[zgu l r hr];rfl
   ·cases h
  ·cases h
def q3n(l:List Pq):(il l).length=l.length:=by
 have h:=(pdq_sorts (ltOf jf) zgk l.toArray 0 l.length (Lib.bitLen l.length) true true (Nat.zero_le _) (by simp) (Or.inl rfl)).1.1
 unfold il;rw[Array.length_toList,h];simp
def qp4(x:Pq):(ep x).length=4:=rfl
def zbc(l:List Pq):(l.flatMap ep).length=l.length*4:=by
 induction l with|nil=>rfl|cons x l ih=>rw[List.flatMap_cons,qM,qp4,ih,qL];omega
def zp3{w:World}{g:Nat}{vs:Array Value}{fz:Nat×Nat}{E:TypeId}{l:List Pq}(h2:w.heap[g]? = some (.cells vs E fz))(h3:fz=(0,0)\/vs.size<=fz.1)(h4:l.length*4<=vs.size)(h7:vs.toList.take (l.length*4)=l.flatMap ep):HoldsK ep 4 w g 0 l.toArray:=by
 unfold HoldsK;rw[zbv ep 4 qp4];intro j hj;have hl:=zbc l;have hj':j<(l.flatMap ep).length:=by simpa using hj
 have hjv:j<vs.size:=by omega
 refine⟨?_,?_⟩
 ·have hc:(vs.toList.take (l.length*4))[j]? = some ((l.flatMap ep)[j]):=by
   rw[h7,List.getElem?_eq_getElem hj']
  rw[List.getElem?_take,qX (by omega)]at hc
  simp only[World.cell?,h2,wO];have hg:(l.flatMap ep).toArray[j]! = (l.flatMap ep)[j]:=by rw[getElem!_pos _ j hj];rfl
  rw[hg];simpa using hc
 ·simp only[World.frozen?,h2];rcases h3 with rfl|h3
  ·simp
  ·simp;omega
set_option maxHeartbeats 1000000 in
def zwa(q:List Pq)(ac:q.length<=a8):db Tryz.prog 221 [.own 0,.fn (.func 222) [] []] [(0,.row τQ (q.map (·.1)) 209)] (.tup []) [(0,.row τQ ((il q).map (·.1)) 209)]:=by
 unfold a8 at ac
 refine db.inPlaceA (by show((il q).map (·.1)).length=(q.map (·.1)).length;rw[wC,wC,q3n]) (fun w G ad c us fvs hrow hreps hfv => ?_)
 have hus:=ze6 hreps;have hfv:fvs=[.func (.func 222) #[] #[]]:=by
  match fvs,hfv with
  |[v],⟨h,_⟩=>
   obtain⟨us1,us2,k1,k2,k3⟩:=h;have e1:us1=#[]:=Array.eq_empty_of_size_eq_zero k2.length.symm;have e2:us2=#[]:=Array.eq_empty_of_size_eq_zero k3.length.symm;subst e1;subst e2;rw[k1]
 subst hfv;have hml:(q.map (fun x=>x.1)).length=q.length:=wC ..
 obtain⟨hul,hrow⟩:=hrow
 have hnone:q=[]->Calls Tryz.prog 221 (Value.slice ad (q.map (fun x=>x.1)).length c::[.func (.func 222) #[] #[]]).toArray w fun e w'=>e = .returned (.tuple #[])/\∃us',fc w' 209 τQ.sz ad (q.map (fun x=>x.1)).length c us'/\al (List.flatMap (β:=AV) τQ.enc ((il q).map (·.1))) G.data us'/\d9 (fun b=>cm ad=some b) w w':=fun hq=>by
  subst hq;refine(AnyF.slices_SortFunc_none Tryz.sortP ad c (.func (.func 222) #[] #[]) w).mono ?_;rintro e w' ⟨rfl,rfl⟩
  refine⟨rfl,us,⟨hul,hrow⟩,?_,⟨rfl,rfl,rfl,wF _,fun _ _ _=>rfl⟩⟩
  rw[hus];have e:il []=[]:=List.eq_nil_of_length_eq_zero (q3n []);rw[e];exact trivial
 by_cases hq:q=[]
 ·exact hnone hq
 rcases hrow with⟨rfl,h2,rfl⟩|⟨g,vs,fz,rfl,h2,h3,h4,h5,h6,h7,h8⟩
 ·exact absurd (List.eq_nil_of_length_eq_zero (by rw[← hml];exact h2)) hq
 ·have hlt:g<w.heap.size:=(Array.getElem?_eq_some_iff.1 h2).1;have hs4:τQ.sz=4:=rfl;rw[hs4]at h6 h7 hul;have h4':q.length<=c:=by rw[← hml];exact h4
  have hH:=zp3 (l:=q) h2 h3 (by omega) (by rw[← hus];have h7':=h7;rw[show(List.length (α:=τQ.den) (q.map fun x=>x.1))=q.length from hml]at h7';exact h7')
  have hcmp:CmpLays Tryz.prog 222 #[] ep 4 jf g 0 q.toArray.size w:=fun m os dk _ x y=>zny x y _
  have key:=AnyQ.slices_SortFunc_eq (P:=Tryz.prog) Tryz.sortP 4 Tryz.isAgg209 Tryz.sizeOf209 ep qp4 (by intro x v hv;simp only[ep,wE,List.not_mem_nil,or_false]at hv;rcases hv with rfl|rfl|rfl|rfl<;>rfl) jf zgk 222 #[] g 0 c q.toArray w Tryz.call222 hcmp hH hlt (by simp;omega)
  have hargs:#[Value.slice (some ⟨g,0,none⟩) (List.length (α:=τQ.den) (List.map (β:=τQ.den) (fun x:Pq=>x.1) q)) c,Value.func (.func 222) #[] #[]]=#[.slice (some ⟨g,0,none⟩) q.toArray.size c,.func (.func 222) #[] #[]]:=by
   rw[show List.length (α:=τQ.den) (List.map (β:=τQ.den) (fun x:Pq=>x.1) q)=q.toArray.size from hml.trans (by simp)]
  refine Eq.mpr (congrArg (fun a=>Calls _ _ a _ _) hargs) (key.mono ?_)
  rintro e w' ⟨rfl,n,os,rfl⟩
  have hsl:=q3n q;have hw:sortWorldK ep 4 w g 0 n (pdq (ltOf jf) q.toArray 0 q.toArray.size (Lib.bitLen q.toArray.size) true true) os=grow (putRow id (Sort.ahead w n) g 0 ((il q).flatMap ep).toArray) os:=by
   unfold sortWorldK putRowK;rw[show pdq (ltOf jf) q.toArray 0 q.toArray.size (Lib.bitLen q.toArray.size) true true=(il q).toArray from by unfold il;simp,zbv ep 4 qp4]
  rw[hw];have hzl:((il q).flatMap ep).length=q.length*4:=by rw[zbc,hsl]
  refine⟨rfl,(il q).flatMap ep,⟨?_,.inr ⟨g,putCells id 0 ((il q).flatMap ep).toArray vs,fz,rfl,zts w n g _ os h2,?_,h4,h5,?_,?_,?_⟩⟩,ze7 _,⟨rfl,rfl,rfl,ztt w n g _ os,fun k hk hne=>ztr w n g _ os k hk (fun e=>hne (by subst e;rfl))⟩⟩
  ·rw[hzl];show q.length*4=(q.map (fun x=>x.1)).length*4;rw[hml]
  ·have:(putCells id 0 ((il q).flatMap ep).toArray vs).size=vs.size:=by unfold putCells;rw[Array.size_mapIdx]
   rw[this];exact h3
  ·unfold putCells;rw[Array.size_mapIdx];exact h6
  ·rw[show List.length (α:=τQ.den) (q.map (fun x=>x.1))*τQ.sz=((il q).flatMap ep).length from by rw[hzl];show(q.map (fun x=>x.1)).length*4=_;rw[hml]]
   exact ztu _ vs (by rw[hzl];omega)
  ·intro v hv;rcases ztq _ _ _ hv with h|h
   ·exact h8 v h
   ·obtain⟨x,_,hx⟩:=List.mem_flatMap.1 h;simp only[ep,wE,List.not_mem_nil,or_false]at hx;rcases hx with rfl|rfl|rfl|rfl<;>rfl
def zf9:IF:=⟨.fn 221,[.own 0,.fn 222 []],[(0,.row τQ 209)],_,RS.mk (.tup []) [(0,.row τQ 209)]⟩
def zwb:(zf9.e zq).Sound Tryz.prog:=fun d d' r h=>by
 obtain⟨l,_⟩:=d';have h:zq l=some r:=h;unfold zq at h;cases hd:decide (List.length (α:=Pc) l<=a8)<;>rw[hd]at h<;>simp only[qT,qF,reduceCtorEq]at h
 cases hq:qn l with
 |none=>rw[hq]at h;cases h
 |some q=>
  rw[hq]at h;have h:=qJ h;subst h;have hl:=zgu l q hq;subst hl;refine⟨Tryz.call221,zwa q ?_⟩;have:=of_decide_eq_true hd
  rwa [wC]at this
end Go.Sym
set_option linter.unusedVariables false
namespace Go.Proofs.ToValid
open Go.Shelf Go.RowKit Go.Lib Go.Sym
def bx:Builder.Extra Tryz.prog Tryz.uniR:={
 sizeBuilder:=by kernel_rfl
 liesBuilder:=by kernel_rfl
 t5:=Tryz.laysM171.t5
 a5:=Tryz.laysM171.a5
 z5:=Tryz.laysM171.z5
 v5:=Tryz.laysM171.v5
 infoByte:=by kernel_rfl
 cellsByte:=by kernel_rfl
 sizeByte:=by kernel_rfl
 neB5:=by decide }
def zq1:Lays.n166 Tryz.prog Tryz.uniR:={ Tryz.lays165,Tryz.lays169,Tryz.laysC172 with f166:=Tryz.func244.trans (congrArg some (by kernel_rfl)) }
def zq2:Lays.n167 Tryz.prog Tryz.uniR:={ Tryz.lays165,Tryz.lays169,Tryz.laysC172 with f167:=Tryz.func246.trans (congrArg some (by kernel_rfl)) }
def zam(b:Nat)(p:Option Addr)(n cap:Nat)(w:World)(c1:w.cell? ⟨b,1,none⟩=some (.slice p n cap)) :
  Calls Tryz.prog 245 #[.pointer (some ⟨b,0,none⟩)] w fun e w'=>e = .returned (.int .i64 cap)/\w'=w:=by
 go_enter Tryz.func245,Tryz.ntmps245
 go_wp2
 go_ret
 exact⟨rfl,rfl⟩
def zps(b n:Nat)(w:World)(hbk:w.heap[b]? = some (.cells #[.pointer none,.slice none 0 0] 291 (0,0)))(hBw:b<=w.heap.size)(hn:n<=281474976710656) :
  Calls Tryz.prog 243 #[.pointer (some ⟨b,0,none⟩),.int .i64 n] w fun e w'=>e = .returned (.tuple #[])/\(Lib.BuilderAt 291 5 b b (.pointer (some ⟨b,0,none⟩)) [] w'/\Below b w w')/\∃p cap,w'.cell? ⟨b,1,none⟩=some (.slice p 0 cap)/\n<=cap:=
 Any.Builder_Grow_fresh_cap Tryz.lays165 bx b b n w (wF _) hbk hBw hn
def q4e(b:Nat)(bs:List Value)(s:ByteArray)(w:World)(h:Lib.IsBuilderF 291 5 b b bs w)(ac:bs.length+s.size<=140737488355328)(hBw:b<=w.heap.size) :
  Calls Tryz.prog 244 #[.pointer (some ⟨b,0,none⟩),.string s] w fun e w'=>e = .returned (.tuple #[.int .i64 s.size,.nilIface])/\(Lib.BuilderAtF 291 5 b b (.pointer (some ⟨b,0,none⟩)) (bs++Lib.strCells s) w'/\Below b w w'/\Lib.OthersKept 5 (some b) w w')/\∀v0,w.cell? ⟨b,1,none⟩=some v0->∃v1,w'.cell? ⟨b,1,none⟩=some v1/\v0.capOf<=v1.capOf:=
 Any.Builder_WriteString_kc zq1 bx b b bs s w h ac hBw
def zx5(b:Nat)(bs:List Value)(c:Int)(w:World)(h:Lib.IsBuilderF 291 5 b b bs w)(ac:bs.length+1<=140737488355328)(hBw:b<=w.heap.size) :
  Calls Tryz.prog 246 #[.pointer (some ⟨b,0,none⟩),.int .u8 c] w fun e w'=>e = .returned .nilIface/\(Lib.BuilderAtF 291 5 b b (.pointer (some ⟨b,0,none⟩)) (bs++[.int .u8 c]) w'/\Below b w w'/\Lib.OthersKept 5 (some b) w w'):=
 Any.Builder_WriteByte_k zq2 bx b b bs c w h ac hBw
def zwn(b:Nat)(l:List UInt8)(w:World)(h:Lib.IsBuilderF 291 5 b b (Lib.byteCells l) w)(hBw:b<=w.heap.size) :
  Calls Tryz.prog 247 #[.pointer (some ⟨b,0,none⟩)] w fun e w'=>e = .returned (.string ⟨l.toArray⟩)/\(Lib.IsBuilderF 291 5 b b (Lib.byteCells l) w'/\Below b w w'):=
 Any.Builder_String_any_f Tryz.lays169 bx b b l w h hBw
def za5(s:ByteArray)(w:World)(hT:Lib.Utf8Tabs 1 2 w) :
  Calls Tryz.prog 180 #[.string s] w fun e w'=>e = .returned (.tuple #[.int .i32 (Lib.decodeGo s).1,.int .i64 (Lib.decodeGo s).2])/\Below w.heap.size w w':=
 Any.utf8_DecodeRuneInString Tryz.lays197 s w hT
def za9(s:ByteArray)(pos:Nat)(h:pos<s.size):decodeGo (s.extract pos s.size)=Utf8.decode s pos:=by
 have hx:(s.extract pos s.size).data.toList=s.data.toList.drop pos:=by
  rw[extract_data,List.take_of_length_le (by rw[List.length_drop,← size_eq];omega)]
 have hsz:(s.extract pos s.size).size≠0:=by rw[size_eq,hx,List.length_drop,← size_eq];omega
 unfold decodeGo;rw[qW hsz,← decodeL_drop s pos,← hx];rfl
def zhj(n:Int)(h0:0<=n:=by omega)(h1:n<=4000000:=by omega):wrap64 n=n:=by unfold wrap64;omega
def zx9(p n:Nat)(h:p+n<=4000000):wrap64 ((p:Int)+(n:Int))=(p:Int)+(n:Int):=zhj _
def zya(p:Nat)(h:p+1<=4000000):wrap64 ((p:Int)+1)=(p:Int)+1:=zhj _
def vI(p k:Nat):Value.int .i64 ((p:Int)+(k:Int)) = .int .i64 ((p+k:Nat):Int):=by rw[Int.natCast_add]
def qp(p:Nat):Value.int .i64 ((p:Int)+1) = .int .i64 ((p+1:Nat):Int):=by rw[Int.natCast_add];rfl
def q38(rep:Bs)(n:Nat)(inv:Bool)(l:Bs)(hne:l≠[])(h:(Lib.decodeL l).1=65533/\(Lib.decodeL l).2=1):vu rep (n+1) inv l=(if inv then[] else rep)++vu rep n true (l.drop 1):=by
 cases l with|nil=>exact absurd rfl hne|cons c l=>rw[vu,qX h];rfl
def qsh(rep:Bs)(n:Nat)(inv:Bool)(l:Bs)(hne:l≠[])(h:¬((Lib.decodeL l).1=65533/\(Lib.decodeL l).2=1)):vu rep (n+1) inv l=l.take (Lib.decodeL l).2++vu rep n false (l.drop (Lib.decodeL l).2):=by
 cases l with|nil=>exact absurd rfl hne|cons c l=>rw[vu,qW h]
def xv(rep:Bs)(n:Nat)(inv:Bool):vu rep n inv []=[]:=by cases n<;>rfl
def qe3(rep:Bs):∀(n m:Nat)(inv:Bool)(l:Bs),l.length<=n->l.length<=m->vu rep n inv l=vu rep m inv l
 |0,m,inv,l,h1,_=>by
  have:l=[]:=by cases l with|nil=>rfl|cons c l=>simp at h1
  subst this;rw[xv,xv]
 |n+1,0,inv,l,_,h2=>by
  have:l=[]:=by cases l with|nil=>rfl|cons c l=>simp at h2
  subst this;rw[xv,xv]
 |n+1,m+1,inv,l,h1,h2=>by
  cases l with
  |nil=>rw[xv,xv]|cons c l=>
   have hw:=Lib.decodeL_width (c::l);simp only[qL]at h1 h2;by_cases h:(Lib.decodeL (c::l)).1=65533/\(Lib.decodeL (c::l)).2=1
   ·rw[q38 rep n inv _ (by simp) h,q38 rep m inv _ (by simp) h,qe3 rep n m true _ (by simp;omega) (by simp;omega)]
   ·rw[qsh rep n inv _ (by simp) h,qsh rep m inv _ (by simp) h,qe3 rep n m false _ (by simp only[List.length_drop,qL];omega) (by simp only[List.length_drop,qL];omega)]
def zof(s:ByteArray)(pos:Nat)(h:pos<s.size)(hc:(s.get! pos).toNat<128):Utf8.decode s pos=((s.get! pos).toNat,1):=by
 unfold Utf8.decode;simp only[Nat.add_zero,hc,if_true]
def zoe(s:ByteArray)(pos:Nat)(h:pos<s.size)(hc:¬(s.get! pos).toNat<128)(h1:(Utf8.decode s pos).2=1):(Utf8.decode s pos).1=65533:=by
 revert h1;unfold Utf8.decode;simp only[Nat.add_zero,hc,if_false]
 repeat' split
 all_goals first|(intro _;rfl)|(intro h1;exact absurd h1 (by simp))
def qz2{T e:TypeId}{B b:Nat}{bs:List Value}{W W':World}(h:Lib.IsBuilderF T e B b bs W)(hb:Below W.heap.size W W'):Lib.IsBuilderF T e B b bs W':=by
 have k:∀p,Lib.BuilderAtF T e B b p bs W->Lib.BuilderAtF T e B b p bs W':=fun p h=>by
  have hlt:=h.lt;obtain⟨hB,v,hv,hown,hne⟩:=h;exact⟨hB,v,(hb.block b hlt).trans hv,hown.kept (row:=none) ⟨hb.os,hb.tape,hb.output,hb.size,fun k hk _=>hb.block k hk⟩ (Classical.em _),hne⟩
 exact h.elim (fun x => .inl (k _ x)) (fun x => .inr (k _ x))
set_option maxHeartbeats 4000000 in
set_option maxRecDepth 1000000 in
def tovalid(s rep:ByteArray)(w:World)(hs:s.size<=1000000)(hr:rep.size<=1000)(hT:Lib.Utf8Tabs 1 2 w) :
  Calls Tryz.prog 224 #[.string s,.string rep] w fun e w'=>e = .returned (.string ⟨(vu rep.data.toList s.size false s.data.toList).toArray⟩)/\Below w.heap.size w w':=by
 obtain⟨ANS,hANS⟩:∃ANS,vu rep.data.toList s.size false s.data.toList=ANS:=⟨_,rfl⟩;rw[hANS];have ac:s.data.toList.length=s.size:=(Lib.size_eq s).symm
 go_enter Tryz.func224,Tryz.ntmps224
 go_wp2
 go_loopg [0] s.size (fun gk s0 wx=>s0 = .string s/\∃pos:Nat,wx.heap[w.heap.size]? = some (.cells #[.pointer none,.slice none 0 0] 291 (0,0))/\wx.heap[w.heap.size+1]? = some (.stringIter s pos)/\Below w.heap.size w wx /\
  s.data.toList.take pos++vu rep.data.toList (s.size-pos) false (s.data.toList.drop pos)=ANS/\s.size<=pos+gk/\pos<=s.size)
 case atStart=>
  refine⟨rfl,0,?_,?_,((Below.refl _ w).alloc (wF _) _).alloc (by simp) _,by simpa using hANS,by omega,by omega⟩
  ·have h1:=heap_alloc_new w (.cells #[.pointer none,.slice none 0 0] 291);exact(Below.heap_alloc _ _ _ (by simp)).trans h1
  ·have:=World.iter_heap (w.alloc (.cells #[.pointer none,.slice none 0 0] 291)) s 0;simpa using this
 case round=>
  obtain⟨rfl,pos,hfr,hit,hbw,hsp,hfu,hps⟩:=hrel;by_cases hlt:pos<s.size
  ·obtain⟨g',rfl⟩:∃g',gk=g'+1:=⟨gk-1,by omega⟩
   have hnx:∀ty,(Instr.next (.pointer (some ⟨w.heap.size+1,0,none⟩)) true ty).run Tryz.prog wr=_:=fun ty=>Lib.run_next_any_at wr (w.heap.size+1) s pos ty hit hlt
   have hne:s.data.toList.drop pos≠[]:=by
    intro h0;have:=congrArg List.length h0;rw[List.length_drop,ac]at this;simp at this;omega
   have hwd:=Lib.width_pos s pos;have hwn:pos+(Utf8.decode s pos).2<=s.size:=by
    have:=Lib.decodeL_le _ hne;rw[Lib.decodeL_drop,List.length_drop,ac]at this;omega
   have hgood:=qsh rep.data.toList (s.size-pos-1) false _ hne;have hdg:=za9 s pos hlt;rw[Lib.decodeL_drop]at hgood;obtain⟨R,hR⟩:∃R,(Utf8.decode s pos).1=R:=⟨_,rfl⟩;obtain⟨K,hK⟩:∃K,(Utf8.decode s pos).2=K:=⟨_,rfl⟩;rw[hR,hK]at hnx hgood;rw[hK]at hwd hwn;rw[List.drop_drop,show s.size-pos-1+1=s.size-pos by omega]at hgood
   have hit2:=Lib.iterAt_heap wr (w.heap.size+1) s pos (pos+K) hit;have hbw2:=Lib.below_iterAt hbw (k:=w.heap.size+1) (by omega) s (pos+K)
   have hfr2:(wr.iterAt (w.heap.size+1) s (pos+K)).heap[w.heap.size]? = _:=(Lib.iterAt_other wr (w.heap.size+1) w.heap.size s (pos+K) (by omega)).trans hfr
   obtain⟨W,hWd⟩:∃W,wr.iterAt (w.heap.size+1) s (pos+K)=W:=⟨_,rfl⟩;rw[hWd]at hnx hit2 hbw2 hfr2;clear hit hbw hfr hWd;have HS:Aside (¬(R=65533/\K=1)->s.data.toList.take (pos+K)++vu rep.data.toList (s.size-(pos+K)) false (s.data.toList.drop (pos+K))=ANS):=by
    intro h;rw[← hsp,hgood h,← qS,← List.take_add];congr 1;exact qe3 _ _ _ _ _ (by rw[List.length_drop,ac];omega) (by rw[List.length_drop,ac];omega)
   have HP:Aside (s.data.toList.take pos++vu rep.data.toList (s.size-pos) false (s.data.toList.drop pos)=ANS):=hsp;clear hgood hsp;have hszW:w.heap.size+1<W.heap.size:=(Array.getElem?_eq_some_iff.1 hit2).1;by_cases h5:R=65533
   ·have h5z:(R:Int)=65533:=by omega
    have cD:=za5 (s.extract pos s.size) W (Utf8Tabs_below hT hbw2);rw[hdg,hR,hK]at cD;by_cases hk:K=1
    ·
     have hkz:(K:Int)=1:=by omega
     have hkb:((K:Int)==1)=true:=by simp[hkz]
     go_wp2_with (go_at_call 180;go_must (refine cD.mono ?_;rintro e W3 ⟨rfl,b3⟩))
     have hfr3:=(b3.block _ (show w.heap.size<W.heap.size by omega)).trans hfr2
     have hbw3:=hbw2.trans (b3.mono (show w.heap.size<=W.heap.size by omega))
     have hs0:=HP.out;clear cD hnx hit2 hfr2 hbw2 hdg HS hszW HP;have cG:=zps w.heap.size (s.size+rep.size) W3 hfr3 hbw3.size (by omega)
     go_fit cG
     rintro e W4 ⟨rfl,⟨h4,b4⟩,p4,cap4,hc4,hcap4⟩
     have hxs:(s.extract 0 pos).size=pos:=by rw[Lib.size_eq,Lib.extract_data,List.length_take,List.length_drop,ac];omega
     have hxd:(s.extract 0 pos).data.toList=s.data.toList.take pos:=by rw[Lib.extract_data];simp
     have cW:=q4e w.heap.size [] (s.extract 0 pos) W4 (Lib.IsBuilderF.of (Or.inr h4)) (by rw[hxs];simp;omega) (Nat.le_trans hbw3.size b4.size)
     go_wp2_with (go_at_call 244;go_must (refine cW.mono ?_;rintro e W5 ⟨rfl,⟨h5w,b5,-⟩,hcp⟩))
     have hb5:Below w.heap.size w W5:=(hbw3.trans b4).trans b5;have hcells:[]++Lib.strCells (s.extract 0 pos)=Lib.byteCells (s.data.toList.take pos):=by
      rw[List.nil_append,Lib.strCells_eq,hxd]
     rw[hcells]at h5w;obtain⟨p5,n5,cap5,hc5,hcap5⟩:∃p5 n5 cap5,W5.cell? ⟨w.heap.size,1,none⟩=some (.slice p5 n5 cap5)/\1<=cap5:=by
      obtain⟨v1,hv1,hle⟩:=hcp _ hc4;obtain⟨_,v6,hv6,hown6,_⟩:=h5w;have hv:W5.cell? ⟨w.heap.size,1,none⟩=some v6:=by rw[Lib.cell_of_heap hv6];rfl
      rw[hv1]at hv;have:=qJ hv;subst this;have hle:cap4<=v1.capOf:=hle;rcases hown6.2 with⟨rfl,h0⟩|⟨g6,cap6,_,_,rfl,_⟩
      ·have:cap4<=0:=hle;omega
      ·have:cap4<=cap6:=hle;exact⟨_,_,cap6,hv1,by omega⟩
     clear hcp hc4;have hcapz:¬((cap5:Int)=0):=by omega
     have hcapb:((cap5:Int)==0)=false:=by simp;omega
     have cC:=zam w.heap.size p5 n5 cap5 W5 hc5;obtain⟨s2,hs2⟩:∃s2,s.extract pos s.size=s2:=⟨_,rfl⟩;have hl2:s2.data.toList=s.data.toList.drop pos:=by
      rw[← hs2,Lib.extract_data,List.take_of_length_le (by rw[List.length_drop,ac];omega)]
     have hz2:s2.size=s.size-pos:=by rw[Lib.size_eq,hl2,List.length_drop,ac]
     go_wp2_with (go_at_call 245;go_must (refine cC.mono ?_;rintro e W6 ⟨rfl,rfl⟩))
     have hrl:rep.data.toList.length=rep.size:=(Lib.size_eq rep).symm
     go_loopg [10,11] s2.size (fun gk s10 s11 wx=>∃(p2:Nat)(acc:List UInt8)(inv:Bool),s10 = .bool inv/\s11 = .int .i64 p2/\Lib.IsBuilderF 291 5 w.heap.size w.heap.size (Lib.byteCells acc) wx/\Below w.heap.size w wx /\
      acc++vu rep.data.toList (s2.size-p2) inv (s2.data.toList.drop p2)=ANS/\s2.size<=p2+gk/\p2<=s2.size/\acc.length<=pos+1001*p2)
     case atStart=>
      refine⟨0,s.data.toList.take pos,false,rfl,rfl,Or.inr h5w,hb5,?_,by omega,by omega,?_⟩
      ·rw[List.drop_zero,hl2,hz2];exact hs0
      ·rw[List.length_take,ac];omega
     case round=>
      obtain⟨p2,acc,inv,rfl,rfl,hI,hbw,hacc,hfu2,hp2,hal⟩:=hrel;have hbs:w.heap.size<=wr.heap.size:=hbw.size;by_cases hlt2:p2<s2.size
      ·obtain⟨g2,rfl⟩:∃g2,gk=g2+1:=⟨gk-1,by omega⟩
       have hne2:s2.data.toList.drop p2≠[]:=by
        intro h0;have:=congrArg List.length h0;rw[List.length_drop,← Lib.size_eq,qZ]at this;omega
       have hwd2:=Lib.width_pos s2 p2;have hwn2:p2+(Utf8.decode s2 p2).2<=s2.size:=by
        have:=Lib.decodeL_le _ hne2;rw[Lib.decodeL_drop,List.length_drop,← Lib.size_eq]at this;omega
       have hgood:=qsh rep.data.toList (s2.size-p2-1) inv _ hne2;have hbad:=q38 rep.data.toList (s2.size-p2-1) inv _ hne2;have hdg:=za9 s2 p2 hlt2;have hlow:=zof s2 p2 hlt2;have hhigh:=zoe s2 p2 hlt2;rw[Lib.decodeL_drop,List.drop_drop,show s2.size-p2-1+1=s2.size-p2 by omega]at hgood hbad
       have hl3:s2.data.toList.length=s2.size:=(Lib.size_eq s2).symm;obtain⟨c,hc⟩:∃c,s2[p2]'hlt2=c:=⟨_,rfl⟩;have hd2:p2<s2.data.size:=hlt2;have hcd:s2.data[p2]'hd2=c:=hc;have hcg:s2.get! p2=c:=by
        show s2.data[p2]! = c;rw[getElem!_pos s2.data p2 hd2];exact hcd
       rw[hcg]at hlow hhigh;obtain⟨R2,hR2⟩:∃R2,(Utf8.decode s2 p2).1=R2:=⟨_,rfl⟩;obtain⟨K2,hK2⟩:∃K2,(Utf8.decode s2 p2).2=K2:=⟨_,rfl⟩;rw[hK2]at hwd2 hwn2;have HG:Aside (¬(R2=65533/\K2=1)->(acc++(s2.data.toList.drop p2).take K2)++vu rep.data.toList (s2.size-(p2+K2)) false (s2.data.toList.drop (p2+K2))=ANS):=by
        intro h;rw[← hacc,hgood (by rw[hR2,hK2];exact h),hK2,qS]
        congr 2;exact qe3 _ _ _ _ _ (by rw[List.length_drop,hl3];omega) (by rw[List.length_drop,hl3];omega)
       have HB:Aside (R2=65533/\K2=1->(acc++(if inv then[] else rep.data.toList))++vu rep.data.toList (s2.size-(p2+1)) true (s2.data.toList.drop (p2+1))=ANS):=by
        intro h;rw[← hacc,hbad (by rw[hR2,hK2];exact h),qS]
        congr 2
       have hxl:(s2.extract p2 (p2+K2)).data.toList=(s2.data.toList.drop p2).take K2:=by
        rw[Lib.extract_data,Nat.add_sub_cancel_left]
       have hxz:(s2.extract p2 (p2+K2)).size=K2:=by rw[Lib.size_eq,hxl,List.length_take,List.length_drop,hl3];omega
       have hcl:acc.length<=1001000000:=by omega
       have hbl:(Lib.byteCells acc).length=acc.length:=Lib.byteCells_length acc;clear hgood hbad hacc hs0;have H1:Aside (s2.data.toList.length=s2.size/\(s2.extract p2 (p2+K2)).data.toList=(s2.data.toList.drop p2).take K2/\(Lib.byteCells acc).length=acc.length/\rep.data.toList.length=rep.size):=⟨hl3,hxl,hbl,hrl⟩;have H2:Aside (c.toNat<128->R2=c.toNat/\K2=1):=fun h=>by
        have hd:=hlow h;rw[hd]at hR2 hK2;exact⟨hR2.symm,hK2.symm⟩
       have H3:Aside (¬c.toNat<128->K2=1->R2=65533):=fun h hk=>by
        have:=hhigh h (by rw[hK2];exact hk)
        rw[← hR2];exact this
       have H4:Aside ((List.drop p2 s2.data.toList).take 1=[c]):=by
        show _=_;have hlt':p2<s2.data.toList.length:=by rw[hl3];exact hlt2
        rw[List.drop_eq_getElem_cons hlt',List.take_succ_cons,List.take_zero,Array.getElem_toList,hcd]
       have cD:=za5 (s2.extract p2 s2.size) wr (Utf8Tabs_below hT hbw);rw[hdg,hR2,hK2]at cD;have hsz2:s2.size<=s.size:=by rw[hz2];exact Nat.sub_le _ _
       have HW1:Aside (wrap64 ((p2:Int)+1)=(p2:Int)+1):=zya _ (Nat.le_trans hlt2 (Nat.le_trans hsz2 (Nat.le_trans hs (by decide))))
       have HWK:Aside (wrap64 ((p2:Int)+(K2:Int))=(p2:Int)+(K2:Int)):=zx9 _ _ (Nat.le_trans hwn2 (Nat.le_trans hsz2 (Nat.le_trans hs (by decide))))
       have HM:Aside (s2.size<=p2+1+g2/\s2.size<=p2+K2+g2/\acc.length+1<=pos+1001*(p2+1)/\acc.length+rep.size<=pos+1001*(p2+1)/\acc.length+K2<=pos+1001*(p2+K2)/\acc.length<=pos+1001*(p2+1)/\acc.length+1<=140737488355328/\acc.length+rep.size<=140737488355328/\acc.length+K2<=140737488355328):=by
        refine⟨?_,?_,?_,?_,?_,?_,?_,?_,?_⟩<;>omega
       clear hal hcl hfu2;clear hcd hcg hlow hhigh hdg hR2 hK2 hl3 hxl hbl hrl hs2 hl2 ac hne2 hz2 hxs hxd hcells hne hR hK;by_cases h128:c.toNat<128
       ·
        obtain⟨_,hk1⟩:=H2.out h128;subst hk1;have H5:Aside (acc++[c]++vu rep.data.toList (s2.size-(p2+1)) false (List.drop (p2+1) s2.data.toList)=ANS):=by
         have:=HG.out (by omega)
         rw[H4.out]at this;exact this
        have cB:=zx5 w.heap.size (Lib.byteCells acc) c.toNat wr hI (by rw[H1.out.2.2.1];exact HM.out.2.2.2.2.2.2.1) hbs
        clear HG HB H2 H3 H4 cD;have h128z:(c.toNat:Int)<128:=by omega
        go_wp2_with (go_at_call 246;go_must (refine cB.mono ?_;rintro e W7 ⟨rfl,h7,b7,k7⟩))
        go_roundg g2
        case measure=>exact Nat.lt_succ_self _
        case rel=>
         refine⟨p2+1,acc++[c],false,rfl,by first|exact qp p2|exact(congrArg (Value.int .i64) HW1.out).trans (qp p2),Or.inr ?_,hbw.trans b7,H5.out,HM.out.1,hlt2,by rw[qM];exact HM.out.2.2.1⟩
         rw[Lib.byteCells_append];exact h7
       ·have h128z:¬((c.toNat:Int)<128):=by omega
        by_cases hk:K2=1
        ·have hr2:=H3.out h128 hk;have H5:Aside ((acc++(if inv then[] else rep.data.toList))++vu rep.data.toList (s2.size-(p2+1)) true (List.drop (p2+1) s2.data.toList)=ANS):=HB.out ⟨hr2,hk⟩
         have hkz:(K2:Int)=1:=by omega
         have hkb:((K2:Int)==1)=true:=by simp[hkz]
         clear HG HB H2 H3 H4
         cases inv with
         |true=>
          go_wp2_with (go_at_call 180;go_must (refine cD.mono ?_;rintro e W7 ⟨rfl,b7⟩))
          go_roundg g2
          case measure=>exact Nat.lt_succ_self _
          case rel=>
           refine⟨p2+1,acc,true,rfl,by first|exact qp p2|exact(congrArg (Value.int .i64) HW1.out).trans (qp p2),qz2 hI b7,hbw.trans (b7.mono hbs),?_,HM.out.1,hlt2,HM.out.2.2.2.2.2.1⟩
           have h:(acc++[])++vu rep.data.toList (s2.size-(p2+1)) true (List.drop (p2+1) s2.data.toList)=ANS:=H5.out;rw[List.append_nil]at h;exact h
         |false=>
          go_wp2_with (go_at_call 180;go_must (refine cD.mono ?_;rintro e W7 ⟨rfl,b7⟩))
          have cW:=q4e w.heap.size (Lib.byteCells acc) rep W7 (qz2 hI b7) (by rw[H1.out.2.2.1];exact HM.out.2.2.2.2.2.2.2.1) (Nat.le_trans hbs b7.size)
          go_wp2_with (go_at_call 244;go_must (refine cW.mono ?_;rintro e W8 ⟨rfl,⟨h8,b8,-⟩,-⟩))
          go_roundg g2
          case measure=>exact Nat.lt_succ_self _
          case rel=>
           refine⟨p2+1,acc++rep.data.toList,true,rfl,by first|exact qp p2|exact(congrArg (Value.int .i64) HW1.out).trans (qp p2),Or.inr ?_,(hbw.trans (b7.mono hbs)).trans b8,?_,HM.out.1,hlt2,by rw[qM,H1.out.2.2.2];exact HM.out.2.2.2.1⟩
           ·rw[Lib.byteCells_append,← Lib.strCells_eq];exact h8
           ·have h:(acc++rep.data.toList)++vu rep.data.toList (s2.size-(p2+1)) true (List.drop (p2+1) s2.data.toList)=ANS:=H5.out;exact h
        ·have hkz:¬((K2:Int)=1):=by omega
         have hkb:((K2:Int)==1)=false:=by simp;omega
         have H5:=HG.out (fun h=>hk h.2)
         go_wp2_with (go_at_call 180;go_must (refine cD.mono ?_;rintro e W7 ⟨rfl,b7⟩))
         have cW:=q4e w.heap.size (Lib.byteCells acc) (s2.extract p2 (p2+K2)) W7 (qz2 hI b7) (by rw[H1.out.2.2.1,hxz];exact HM.out.2.2.2.2.2.2.2.2) (Nat.le_trans hbs b7.size)
         go_wp2_with (go_at_call 244;go_must (refine cW.mono ?_;rintro e W8 ⟨rfl,⟨h8,b8,-⟩,-⟩))
         go_roundg g2
         case measure=>exact Nat.lt_succ_self _
         case rel=>
          refine⟨p2+K2,acc++(s2.data.toList.drop p2).take K2,false,rfl,by first|exact vI p2 K2|exact(congrArg (Value.int .i64) HWK.out).trans (vI p2 K2),Or.inr ?_,(hbw.trans (b7.mono hbs)).trans b8,H5,HM.out.2.1,hwn2,?_⟩
          ·rw[Lib.byteCells_append,← H1.out.2.1,← Lib.strCells_eq];exact h8
          ·rw[qM,← H1.out.2.1,← Lib.size_eq,hxz];exact HM.out.2.2.2.2.1
      ·
       obtain rfl:p2=s2.size:=by omega
       have cS:=zwn w.heap.size acc wr hI hbs
       go_wp2_with (go_at_call 247;go_must (refine cS.mono ?_;rintro e W8 ⟨rfl,_,b8⟩))
       go_ret
       refine⟨?_,hbw.trans b8⟩;rw[Lib.size_eq,List.drop_length,xv,List.append_nil]at hacc;subst hacc;rfl
    ·have hkz:¬((K:Int)=1):=by omega
     have hkb:((K:Int)==1)=false:=by simp;omega
     have hs3:=HS.out (fun h=>hk h.2)
     go_wp2_with (go_at_call 180;go_must (refine cD.mono ?_;rintro e W3 ⟨rfl,b3⟩))
     go_roundg g'
     case measure=>omega
     case rel=>exact⟨rfl,pos+K,(b3.block _ (by show _<W.heap.size;omega)).trans hfr2,(b3.block _ (by show _<W.heap.size;omega)).trans hit2,hbw2.trans (b3.mono (by show _<=W.heap.size;omega)),hs3,by omega,hwn⟩
   ·have h5':¬((R:Int)=65533):=by omega
    have hs3:=HS.out (fun h=>h5 h.1)
    go_wp2
    go_roundg g'
    case measure=>omega
    case rel=>exact⟨rfl,pos+K,hfr2,hit2,hbw2,hs3,by omega,hwn⟩
  ·
   obtain rfl:pos=s.size:=by omega
   have hnx:∀ty,(Instr.next (.pointer (some ⟨w.heap.size+1,0,none⟩)) true ty).run Tryz.prog wr=_:=fun ty=>Lib.run_next_end_at wr (w.heap.size+1) s s.size ty hit hlt
   have cC:=zam w.heap.size none 0 0 wr (by rw[Lib.cell_of_heap hfr];rfl)
   go_wp2_with (go_at_call 245;go_must (refine cC.mono ?_;rintro e W' ⟨rfl,rfl⟩))
   go_ret
   refine⟨?_,hbw⟩;rw[← hsp,← ac,List.drop_length,List.take_length,xv,List.append_nil];rfl
end Go.Proofs.ToValid
namespace Go.Sym
open Go.Proofs Go.RowKit
open Go.Proofs.Tryz
variable[LC]
def qdl(t:List UInt8):Bool:=(List.range 256).all fun c=>match t[c]? with|some x=>Nat.beq x.toNat (Lib.firstT c)|none=>false
def qdm(t:List (UInt8×UInt8)):Bool:=(List.range 16).all fun c=>match t[c]? with|some x=>Nat.beq x.1.toNat (Lib.accLo c)&&Nat.beq x.2.toNat (Lib.accHi c)|none=>false
def zha{G:Gh}{w:World}(hm:ci G [] w){t0:List UInt8}{t1:List (UInt8×UInt8)}(h0:LC.glob 1=some ⟨.byte,t0⟩)(h1:LC.glob 2=some ⟨.prod .byte .byte,t1⟩)(e0:qdl t0=true)(e1:qdm t1=true):Lib.Utf8Tabs 1 2 w:=by
 refine⟨fun c hc => ?_,fun i hi => ?_⟩
 ·have h:=List.all_eq_true.1 e0 c (List.mem_range.2 hc)
  cases hx:t0[c]? with
  |none=>rw[hx]at h;cases h
  |some x=>
   rw[hx]at h;have ha:G.imm 1 (c*1)=some (.int .u8 x.toNat):=hm.tab.1 _ _ _ h0 c x hx;rw[Nat.mul_one]at ha;rw[hm.agree _ _ _ ha,qN h]
 ·have h:=List.all_eq_true.1 e1 i (List.mem_range.2 hi)
  cases hx:t1[i]? with
  |none=>rw[hx]at h;cases h
  |some x=>
   rw[hx]at h;simp only[qA]at h;have ha:G.imm 2 (i*2)=some (.int .u8 x.1.toNat)/\G.imm 2 (i*2+1)=some (.int .u8 x.2.toNat):=hm.tab.1 _ _ _ h1 i x hx;rw[Nat.mul_comm]at ha;exact⟨by rw[hm.agree _ _ _ ha.1,qN h.1],by rw[hm.agree _ _ _ ha.2,qN h.2]⟩
def zxb{G:Gh}{w:World}(hm:ci G [] w){t0:List UInt8}{t1:List (UInt8×UInt8)}(h0:LC.glob 1=some ⟨.byte,t0⟩)(h1:LC.glob 2=some ⟨.prod .byte .byte,t1⟩)(e0:qdl t0=true)(e1:qdm t1=true)(s o:Bs)(d1:s.length<=1000000)(d2:o.length<=1000) :
  Calls Tryz.prog 224 #[.string ⟨s.toArray⟩,.string ⟨o.toArray⟩] w fun e w'=>e = .returned (.string ⟨(vu o s.length false s).toArray⟩)/\b9 w w':=by
 refine(ToValid.tovalid ⟨s.toArray⟩ ⟨o.toArray⟩ w (by rw[sx];exact d1) (by rw[sx];exact d2) (zha hm h0 h1 e0 e1)).mono ?_
 rintro e w' ⟨rfl,hw⟩
 exact⟨by rw[sx],b9.of_below hw⟩
def zgx:IF:=⟨.fn 224,[.h .str,.h .str],[],_,RS.mk (.h .str) []⟩
def zxc{t0:List UInt8}{t1:List (UInt8×UInt8)}(h0:LC.glob 1=some ⟨.byte,t0⟩)(h1:LC.glob 2=some ⟨.prod .byte .byte,t1⟩)(e0:qdl t0=true)(e1:qdm t1=true):(zgx.e zt).Sound Tryz.prog:=fun d d' r h=>by
 obtain⟨s,o,_⟩:=d;have h:zt s o=some r:=h;unfold zt at h;cases hd:decide (List.length (α:=UInt8) s<=1000000/\List.length (α:=UInt8) o<=1000)<;>rw[hd]at h<;>simp only[qT,qF,reduceCtorEq]at h
 have h:=qJ h;subst h;obtain⟨d1,d2⟩:=of_decide_eq_true hd;refine⟨call224,db.data fun w G vs hm hr => ?_⟩
 match vs,hr with
 |[u,v],⟨h1',h2',_⟩=>
  have h1':u = .string ⟨s.toArray⟩:=h1';have h2':v = .string ⟨o.toArray⟩:=h2';subst h1' h2';exact(zxb hm h0 h1 e0 e1 s o d1 d2).mono fun e w'⟨he,hw⟩=>⟨_,he,rfl,hw⟩
def zxu{G:Gh}{w:World}(hm:ci G [] w){t0:List UInt8}{t1:List (UInt8×UInt8)}(h0:LC.glob 1=some ⟨.byte,t0⟩)(h1:LC.glob 2=some ⟨.prod .byte .byte,t1⟩)(e0:qdl t0=true)(e1:qdm t1=true)(s:Bs)(d1:s.length<=9223372036854775807) :
  Calls Tryz.prog 137 #[.string ⟨s.toArray⟩] w fun e w'=>e = .returned (.bool (Lib.validD s))/\b9 w w':=by
 refine(Any.utf8_ValidString Tryz.lays196 ⟨s.toArray⟩ w (by rw[sx];exact d1) (zha hm h0 h1 e0 e1)).mono ?_
 rintro e w' ⟨rfl,hw⟩
 exact⟨rfl,b9.of_below hw⟩
def zhb:IF:=⟨.fn 137,[.h .str],[],_,RS.mk (.h .bool) []⟩
def zxx{t0:List UInt8}{t1:List (UInt8×UInt8)}(h0:LC.glob 1=some ⟨.byte,t0⟩)(h1:LC.glob 2=some ⟨.prod .byte .byte,t1⟩)(e0:qdl t0=true)(e1:qdm t1=true):(zhb.e zu).Sound Tryz.prog:=fun d d' r h=>by
 obtain⟨s,_⟩:=d;have h:zu s=some r:=h;unfold zu at h;cases hd:decide (List.length (α:=UInt8) s<=9223372036854775807)<;>rw[hd]at h<;>simp only[qT,qF,reduceCtorEq]at h
 have h:=qJ h;subst h;have d1:=of_decide_eq_true hd;refine⟨call137,db.data fun w G vs hm hr => ?_⟩
 match vs,hr with
 |[u],⟨h1',_⟩=>
  have h1':u = .string ⟨s.toArray⟩:=h1';subst h1';exact(zxu hm h0 h1 e0 e1 s d1).mono fun e w'⟨he,hw⟩=>⟨_,he,rfl,hw⟩
end Go.Sym
namespace Go.Sym
open Go.RowKit
variable[LC]
section
variable{P:Program}{vk8:World}{vk3:Gh}{vk5:List (Nat×ai)}{G:Gh}{s:St}{a:Act}{w:World}
def aj.drewOk(hr:aj vk8 vk3 vk5 G s a w):aj vk8 vk3 vk5 G s a w.drew:=
 ⟨hr.defers,hr.size,hr.frame,hr.fresh,⟨⟨hr.fin.mem.agree,hr.fin.mem.one,hr.fin.mem.holds,hr.fin.mem.apart,LC.mono (fun _ _ _ h=>h) (fun _ _ _ _=>rfl) hr.fin.mem.tab⟩,⟨hr.fin.bel.os,hr.fin.bel.tape,hr.fin.bel.output,hr.fin.bel.size,hr.fin.bel.block⟩,hr.fin.imm_le,hr.fin.imm_new,hr.fin.base,hr.fin.keep,hr.fin.keepOwn⟩⟩
def al.setAt{G:Gh}{x:AV}{v:Value}(hx:ak x G v):∀{xs:List AV}{vs:List Value}{i:Nat},al xs G vs->al (xs.set i x) G (vs.set i v)|[],[],_,_=>trivial|_::_,_::_,0,h=>⟨hx,h.2⟩|_::_,_::_,_+1,h=>⟨h.1,al.setAt hx h.2⟩|[],_::_,_,h=>h.elim|_::_,[],_,h=>h.elim
def aj.setCellAt(hr:aj vk8 vk3 vk5 G s a w){n B i:Nat}{cs:List AV}{T:TypeId}{x:AV}{v:Value}(hn:ae s.hp n=some (.cells cs T))(hB:G.box n=some B)(hx:ak x G v)(h1:v.oneCell'=true) :
  aj vk8 vk3 vk5 G { s with hp:=(n,.cells (cs.set i x) T)::s.hp } a (w.setCell ⟨B,i,none⟩ v):=by
 obtain⟨B',vs,k1,k2,k3,k4,k5⟩:=hr.fin.mem.holds n _ hn;rw[hB]at k1;cases k1;have hheap:(w.setCell ⟨B,i,none⟩ v).heap[B]? = some (.cells (vs.setIfInBounds i v) T (0,0)):=by
  simp[World.setCell,Array.getElem?_modify,k2]
 have hbel:d9 (fun b=>b=B) w (w.setCell ⟨B,i,none⟩ v):=
  ⟨rfl,rfl,rfl,by simp[World.setCell],fun k _ hne=>by
   simp only[World.setCell,Array.getElem?_modify];rw[qW (fun e=>hne e.symm)]⟩
 have hat:∀cs',G.at n (.cells cs' T)=some B:=fun _=>hB
 refine⟨hr.defers,hr.size,hr.frame,fun m hm hl=>hr.fresh m hm (by
  simp only[ae]at hl;cases hb:Nat.beq n m
  ·rw[hb]at hl;exact hl
  ·rw[hb]at hl;cases hl),hr.fin.update hn (hat cs) (hat _) hbel ⟨B,_,hB,hheap,?_,?_,k5⟩ k5⟩
 ·rw[Array.toList_setIfInBounds];exact al.setAt hx k3
 ·intro u hu;rw[Array.toList_setIfInBounds]at hu;rcases List.mem_or_eq_of_mem_set hu with hu|hu
  ·exact k4 u hu
  ·rw[hu];exact h1
def aj.cellAt(hr:aj vk8 vk3 vk5 G s a w){n B i:Nat}{cs:List AV}{T:TypeId}{x:AV}(hn:ae s.hp n=some (.cells cs T))(hB:G.box n=some B)(hx:cs[i]? = some x) :
  ∃v,w.cell? ⟨B,i,none⟩=some v/\ak x G v/\w.frozen? ⟨B,i,none⟩=false:=by
 obtain⟨B',vs,k1,k2,k3,k4,k5⟩:=hr.fin.mem.holds n _ hn;rw[hB]at k1;cases k1;obtain⟨v,v1,v2⟩:=kj k3 hx;refine⟨v,cell_of_heap k2 v1,v2,?_⟩;simp only[World.frozen?,k2];simp
def aj.start{G:Gh}{hp:List (Nat×ai)}{w:World}{N:NM}(hm:ci G hp w)(h:∀n b,ae hp n=some b->az N n=some n/\dr (az N) b=b)(hN:∀n,ae hp n=none->a6 N n=none)(k:Nat) :
  aj w (G.view N) hp (G.view N) { n:=k,fr:=[],hp:=hp,nx:=64,df:=[] } { tmps:=Array.replicate k undef,defers:=[] } w:=by
 refine⟨⟨[],rfl,rfl⟩,by simp,fun i x hx=>(by cases hx),fun m _ hl => ?_,qdh (hm.only h)⟩
 have:=hN m hl;simp[Gh.view,this]
end
end Go.Sym
set_option linter.unusedVariables false
namespace Go.Proofs.Repl
open Go.Shelf Go.RowKit Go.Lib Go.Sym
def rv(a b:UInt8)(ga gb ca cb:Nat)(c:UInt8):Value:=if c=a then .slice (some ⟨ga,0,none⟩) 2 ca else if c=b then .slice (some ⟨gb,0,none⟩) 2 cb else .slice none 0 0
structure la(R:Nat)(a b a1 a2 b1 b2:UInt8)(w:World):Prop where
 ex:∃ga gb gt ca cb ct,(∀c:UInt8,w.cell? ⟨R,c.toNat,none⟩=some (rv a b ga gb ca cb c))/\w.cell? ⟨R,256,none⟩=some (.slice (some ⟨gt,0,none⟩) 2 ct) /\
  w.cell? ⟨gt,0,none⟩=some (.string ⟨#[b]⟩)/\w.cell? ⟨gt,1,none⟩=some (.string ⟨#[a]⟩) /\
  w.cell? ⟨ga,0,none⟩=some (.int .u8 a1.toNat)/\w.cell? ⟨ga,1,none⟩=some (.int .u8 a2.toNat)/\w.cell? ⟨gb,0,none⟩=some (.int .u8 b1.toNat)/\w.cell? ⟨gb,1,none⟩=some (.int .u8 b2.toNat)
def la.below{R:Nat}{a b a1 a2 b1 b2:UInt8}{w w':World}(h:la R a b a1 a2 b1 b2 w)(hb:Below w.heap.size w w'):la R a b a1 a2 b1 b2 w':=by
 have k:∀{p:Addr}{v:Value},w.cell? p=some v->w'.cell? p=some v:=fun{p v} hc=>(hb.cell (World.block_lt_of_cell? _ _ hc)).trans hc
 obtain⟨ga,gb,gt,ca,cb,ct,h1,h2,h3,h4,h5,h6,h7,h8⟩:=h.ex;exact⟨ga,gb,gt,ca,cb,ct,fun c=>k (h1 c),k h2,k h3,k h4,k h5,k h6,k h7,k h8⟩
def zax(s:ByteArray)(c:UInt8)(w:World) :
  Calls Tryz.prog 321 #[.string s,.string ⟨#[c]⟩] w fun e w'=>e = .returned (.int .i64 (Lib.countByte s.data.toList c))/\w'=w:=
 Any.strings_Count_one Tryz.lays138 s c w
def zu2{w:World}{g:Nat}{t:TypeId}{N:Nat}{f:Nat->Value}{cur:Array Value}(hg:w.heap[g]? = some (.cells cur t (0,0)))(hz:cur.size=N)(hc:∀i,i<N->cur[i]? = some (f i)){j:Nat}(hj:j+2<=N)(v1 v2:Value) :
  (w.setRow g (cur.toList.take j++[v1,v2]++cur.toList.drop (j+2)).toArray).rowIs g t N (fun i=>if i=j then v1 else if i=j+1 then v2 else f i):=by
 have hl:cur.toList.length=N:=by simpa using hz
 refine⟨_,setRow_heap w g cur _ t _ hg,by simp;omega,fun i hi => ?_⟩
 simp only[List.getElem?_toArray];rw[qS];by_cases h1:i<j
 ·rw[List.getElem?_append_left (by simp;omega),List.getElem?_take,qX h1,qW (by omega),qW (by omega),← hc i hi];simp
 ·rw[List.getElem?_append_right (by simp;omega),show(cur.toList.take j).length=j by simp;omega]
  by_cases h2:i=j
  ·subst h2;simp
  ·by_cases h3:i=j+1
   ·subst h3;rw[qW h2,qX rfl,show j+1-j=1 by omega];rfl
   ·rw[qW h2,qW h3,List.getElem?_append_right (by simp;omega),List.getElem?_drop,← hc i hi]
    simp;congr 1;omega
def je(b o n:Nat):(⟨b,o,none⟩:Addr).add n=⟨b,o+n,none⟩:=by unfold Addr.add;split<;>simp_all
def zaw{w:World}{G ga j M c:Nat}{f:Nat->Value}{x1 x2:UInt8}(hrow:w.rowIs G 5 M f)(hj:j+2<=M)(h0:w.cell? ⟨ga,0,none⟩=some (.int .u8 x1.toNat))(h1:w.cell? ⟨ga,1,none⟩=some (.int .u8 x2.toNat)) :
  ∃ROW,(Builtin.copy_ #[23,23] 3 #[.slice (some ⟨G,j,none⟩) (M-j) (M-j),.slice (some ⟨ga,0,none⟩) 2 c]).run Tryz.prog w = .ok (.int .i64 2) (w.setRow G ROW) /\
   (w.setRow G ROW).rowIs G 5 M (fun i=>if i=j then .int .u8 x1.toNat else if i=j+1 then .int .u8 x2.toNat else f i):=by
 obtain⟨cur,k1,k2,k3⟩:=hrow;refine⟨_,?_,zu2 k1 k2 k3 hj _ _⟩;exact run_copy_row (P:=Tryz.prog) w 23 23 3 5 G j (M-j) (M-j) ⟨ga,0,none⟩ 2 c cur 5 [.int .u8 x1.toNat,.int .u8 x2.toNat] Tryz.underlying23 (by kernel_rfl) k1
  (by show 2=Nat.min 2 (M-j);exact(Nat.min_eq_left (by omega)).symm)
  (fun i v hv=>by
   rw[je]
   match i,hv with
   |0,hv=>cases hv;exact h0
   |1,hv=>cases hv;exact h1
   | i+2,hv=>cases hv)
  (by show j+2<=cur.size;omega) (fun v hv=>by
   rcases List.mem_cons.1 hv with rfl|hv
   ·rfl
   ·rcases List.mem_cons.1 hv with rfl|hv
    ·rfl
    ·cases hv)
def bv(l:Bs)(j:Nat):Value := .int .u8 (l.getD j 0).toNat
def zai(l m:Bs)(j:Nat)(h:j<l.length):bv (l++m) j=bv l j:=by unfold bv;rw[List.getD_eq_getElem?_getD,List.getD_eq_getElem?_getD,List.getElem?_append_left h]
def zah(l m:Bs)(c:UInt8):bv (l++c::m) l.length = .int .u8 c.toNat:=by unfold bv;rw[List.getD_eq_getElem?_getD,List.getElem?_append_right (wF _),Nat.sub_self];rfl
def znl(l m:Bs)(c d:UInt8):bv (l++c::d::m) (l.length+1) = .int .u8 d.toNat:=by unfold bv;rw[List.getD_eq_getElem?_getD,List.getElem?_append_right (by omega),show l.length+1-l.length=1 by omega];rfl
def qjp(l:Bs)(j:Nat)(h:l.length<=j:=by omega):bv l j = .int .u8 0:=by unfold bv;rw[List.getD_eq_getElem?_getD,List.getElem?_eq_none h];rfl
def zaj(l:Bs)(c d:UInt8)(i:Nat):(if i=l.length then Value.int .u8 c.toNat else if i=l.length+1 then .int .u8 d.toNat else bv l i)=bv (l++[c,d]) i:=by
 by_cases h:i<l.length
 ·rw[qW (by omega),qW (by omega),zai _ _ _ h]
 ·by_cases h1:i=l.length
  ·subst h1;rw[qX rfl,zah]
  ·by_cases h2:i=l.length+1
   ·subst h2;rw[qW h1,qX rfl,znl]
   ·rw[qW h1,qW h2,qjp _ _,qjp _ _ (by simp;omega)]
def znm(l:Bs)(c:UInt8)(i:Nat):(if i=l.length then Value.int .u8 c.toNat else bv l i)=bv (l++[c]) i:=by
 by_cases h:i<l.length
 ·rw[qW (by omega),zai _ _ _ h]
 ·by_cases h1:i=l.length
  ·subst h1;rw[qX rfl,zah]
  ·rw[qW h1,qjp _ _,qjp _ _ (by simp;omega)]
def vI2(p:Nat):Value.int .i64 ((p:Int)+2) = .int .i64 ((p+2:Nat):Int):=by rw[Int.natCast_add];rfl
def qp(p:Nat):Value.int .i64 ((p:Int)+1) = .int .i64 ((p+1:Nat):Int):=by rw[Int.natCast_add];rfl
def zhk(n:Nat)(h:n<=4000000:=by omega):wrap64 (n:Int)=(n:Int):=by unfold wrap64;omega
def zr0(p:Addr)(n c:Nat)(w:World):(binOp .neq 23 (.slice (some p) n c) (.slice none 0 0)).run Tryz.prog w = .ok (.bool true) w:=by kernel_rfl
def zrz(w:World):(binOp .neq 23 (.slice none 0 0) (.slice none 0 0)).run Tryz.prog w = .ok (.bool false) w:=by kernel_rfl
def zo7(p:Addr)(n c:Nat)(w:World):(binOp .eql 23 (.slice (some p) n c) (.slice none 0 0)).run Tryz.prog w = .ok (.bool false) w:=by kernel_rfl
def zo6(w:World):(binOp .eql 23 (.slice none 0 0) (.slice none 0 0)).run Tryz.prog w = .ok (.bool true) w:=by kernel_rfl
set_option maxHeartbeats 4000000 in
set_option maxRecDepth 1000000 in
def zng(R:Nat)(a b a1 a2 b1 b2:UInt8)(s:ByteArray)(w:World)(hab:a≠b)(hs:s.size<=1000000)(hB:la R a b a1 a2 b1 b2 w) :
  Calls Tryz.prog 319 #[.pointer (some ⟨R,0,none⟩),.string s] w fun e w'=>e = .returned (.string ⟨(eh a b [a1,a2] [b1,b2] s.data.toList).toArray⟩)/\Below w.heap.size w w':=by
 obtain⟨ga,gb,gt,ca,cb,ct,-,hT,ht0,ht1,-⟩:=hB.ex;obtain⟨L,hL⟩:∃L,s.data.toList=L:=⟨_,rfl⟩;have ac:L.length=s.size:=by rw[← hL];exact(Lib.size_eq s).symm
 rw[hL];have HB:Aside (la R a b a1 a2 b1 b2 w):=hB;clear hB;have cBc:=fun w=>zax s b w
 have cAc:=fun w=>zax s a w
 rw[hL]at cBc cAc;obtain⟨Z,hZ⟩:∃Z,jg a b L=Z:=⟨_,rfl⟩;have HZ:Aside (jg a b L=Z):=hZ;have hZ2:Z<=2000000:=by
  rw[← hZ];unfold jg;have h1:=List.count_le_length (a:=a) (l:=L);have h2:=List.count_le_length (a:=b) (l:=L);omega
 clear hZ;obtain⟨M,hM⟩:∃M,s.size+Z=M:=⟨_,rfl⟩;have HM:Aside (s.size+Z=M):=hM;have hMb:M<=3000000:=by omega
 clear hM;have hn1:=zr0;have hn2:=zrz
 go_enter Tryz.func319,Tryz.ntmps319
 go_upto_if 26 with(fail)
 go_cut [5,6] (fun s5 s6 wx=>s5 = .int .i64 (M:Nat)/\s6 = .bool (decide (0<Z))/\Below w.heap.size w wx)
 case first=>
  obtain⟨X,hX⟩:∃X,L.count b=X:=⟨_,rfl⟩;obtain⟨Y,hY⟩:∃Y,L.count a=Y:=⟨_,rfl⟩;have HXY:Aside (Z=Y+X):=by show Z=Y+X;rw[← HZ.out];unfold jg;rw[hX,hY]
  have hXl:X<=s.size:=by rw[← hX,← ac];exact List.count_le_length
  have hYl:Y<=s.size:=by rw[← hY,← ac];exact List.count_le_length
  have cBc:∀w,Calls Tryz.prog 321 #[.string s,.string ⟨#[b]⟩] w fun e w'=>e = .returned (.int .i64 (X:Nat))/\w'=w:=fun w=>by rw[← hX];exact cBc w
  have cAc:∀w,Calls Tryz.prog 321 #[.string s,.string ⟨#[a]⟩] w fun e w'=>e = .returned (.int .i64 (Y:Nat))/\w'=w:=fun w=>by rw[← hY];exact cAc w
  clear hX hY
  go_wp2
  ·rename_i h16;clear h16
   go_loopg [5,6,32] 2 (fun gk s5 s6 s32 wx=>Below w.heap.size w wx/\((s32 = .int .i64 0/\s5 = .int .i64 (s.size:Nat)/\s6 = .bool false/\gk=2)\/(s32 = .int .i64 1/\s5 = .int .i64 ((s.size+X:Nat):Int)/\s6 = .bool (decide (0<X))/\gk=1)\/(s32 = .int .i64 2/\s5 = .int .i64 ((s.size+(Y+X):Nat):Int)/\s6 = .bool (decide (0<Y+X))/\gk=0)))
   case atStart=>exact⟨Below.refl _ _,Or.inl ⟨rfl,rfl,rfl,rfl⟩⟩
   case round=>
    obtain⟨hbw,h⟩:=hrel;have ht0':wr.cell? ⟨gt,0,none⟩=some (.string ⟨#[b]⟩):=(hbw.cell (World.block_lt_of_cell? _ _ ht0)).trans ht0;have ht1':wr.cell? ⟨gt,1,none⟩=some (.string ⟨#[a]⟩):=(hbw.cell (World.block_lt_of_cell? _ _ ht1)).trans ht1;clear ht0 ht1;rcases h with⟨rfl,rfl,rfl,rfl⟩|⟨rfl,rfl,rfl,rfl⟩|⟨rfl,rfl,rfl,rfl⟩
    ·have cX:=cBc wr;by_cases h0:X=0
     ·subst h0
      go_wp2_with (go_at_call 321;go_must (refine cX.mono ?_;rintro e W1 ⟨rfl,rfl⟩))
      go_roundg 1
      case measure=>omega
      case rel=>exact⟨hbw,Or.inr (Or.inl ⟨rfl,rfl,rfl,rfl⟩)⟩
     ·have hz:¬((X:Int)=0):=by omega
      obtain⟨ga',gb',gt',ca',cb',ct',hR,-⟩:=(HB.out.below hbw).ex;have hRb:wr.cell? ⟨R,b.toNat,none⟩=some (.slice (some ⟨gb',0,none⟩) 2 cb'):=by rw[hR b];unfold rv;rw[qW (fun h=>hab h.symm),qX rfl]
      clear hR;have g0:∀h,(⟨#[b]⟩:ByteArray)[0]'h=b:=fun _=>rfl
      have g1:(b.toNat:Int)<256:=by have:=b.toNat_lt;omega
      go_wp2_with (go_at_call 321;go_must (refine cX.mono ?_;rintro e W1 ⟨rfl,rfl⟩))
      go_region
      all_goals go_wp2
      go_roundg 1
      case measure=>omega
      case rel=>exact⟨hbw.drew,Or.inr (Or.inl ⟨rfl,congrArg _ (by omega),by rw[decide_eq_true (Nat.pos_of_ne_zero h0)],rfl⟩)⟩
    ·have cX:=cAc wr;by_cases h0:Y=0
     ·subst h0
      go_wp2_with (go_at_call 321;go_must (refine cX.mono ?_;rintro e W1 ⟨rfl,rfl⟩))
      go_roundg 0
      case measure=>omega
      case rel=>exact⟨hbw,Or.inr (Or.inr ⟨rfl,congrArg _ (by omega),by rw[wO],rfl⟩)⟩
     ·have hz:¬((Y:Int)=0):=by omega
      obtain⟨ga',gb',gt',ca',cb',ct',hR,-⟩:=(HB.out.below hbw).ex;have hRb:wr.cell? ⟨R,a.toNat,none⟩=some (.slice (some ⟨ga',0,none⟩) 2 ca'):=by rw[hR a];unfold rv;rw[qX rfl]
      clear hR;have g0:∀h,(⟨#[a]⟩:ByteArray)[0]'h=a:=fun _=>rfl
      have g1:(a.toNat:Int)<256:=by have:=a.toNat_lt;omega
      go_wp2_with (go_at_call 321;go_must (refine cX.mono ?_;rintro e W1 ⟨rfl,rfl⟩))
      go_region
      all_goals go_wp2
      go_roundg 0
      case measure=>omega
      case rel=>exact⟨hbw.drew,Or.inr (Or.inr ⟨rfl,congrArg _ (by omega),by rw[decide_eq_true (show 0<Y+X by omega)],rfl⟩)⟩
    ·go_wp2
     go_meet
     case rel=>exact⟨by rw[← HM.out,HXY.out],by rw[HXY.out],hbw⟩
  ·rename_i h16;clear h16
   go_loopg [5,6,10] s.size (fun gk s5 s6 s10 wx=>wx=w/\∃k C:Nat,s10 = .int .i64 k/\s5 = .int .i64 ((s.size+C:Nat):Int)/\s6 = .bool (decide (0<C))/\k<=s.size/\s.size<=k+gk/\Aside (jg a b (L.take k)=C)/\C<=2000000)
   case atStart=>exact⟨rfl,0,0,rfl,rfl,rfl,Nat.zero_le _,by omega,rfl,by omega⟩
   case round=>
    obtain⟨rfl,k,C,rfl,rfl,rfl,hk,hgk,HC,hC⟩:=hrel;by_cases hk2:k<s.size
    ·obtain⟨g,rfl⟩:∃g,gk=g+1:=⟨gk-1,by omega⟩
     obtain⟨c,hc⟩:∃c,s[k]'hk2=c:=⟨_,rfl⟩;have hstep:Aside (jg a b (L.take (k+1))=C+(if c=a then 1 else if c=b then 1 else 0)):=by
      have h1:k<L.length:=by rw[ac];exact hk2
      have h2:L[k]'h1=c:=by subst hL;exact hc
      show _=_;rw[zgq L k h1,q0b,HC.out,q0c hab,h2]
     have hC3:Aside (jg a b (L.take (k+1))<=2000000):=by
      show _<=_;unfold jg;have h1:=List.count_le_length (a:=a) (l:=L.take (k+1));have h2:=List.count_le_length (a:=b) (l:=L.take (k+1));rw[List.length_take]at h1 h2;omega
     obtain⟨ga',gb',gt',ca',cb',ct',hR,-⟩:=HB.out.ex;have hRc:=hR c;unfold rv at hRc;clear hR;have g1:(c.toNat:Int)<256:=by have:=c.toNat_lt;omega
     by_cases h1:c=a
     ·rw[qX h1]at hRc;rw[qX h1]at hstep;clear h1
      go_wp2
      go_roundg g
      case measure=>omega
      case rel=>exact⟨rfl,k+1,C+1,congrArg _ (by omega),congrArg _ (by omega),by rw[decide_eq_true (Nat.succ_pos C)],by omega,by omega,hstep,by have:=hC3.out;rw[hstep.out]at this;exact this⟩
     ·rw[qW h1]at hRc;rw[qW h1]at hstep;by_cases h2:c=b
      ·rw[qX h2]at hRc;rw[qX h2]at hstep;clear h1 h2
       go_wp2
       go_roundg g
       case measure=>omega
       case rel=>exact⟨rfl,k+1,C+1,congrArg _ (by omega),congrArg _ (by omega),by rw[decide_eq_true (Nat.succ_pos C)],by omega,by omega,hstep,by have:=hC3.out;rw[hstep.out]at this;exact this⟩
      ·rw[qW h2]at hRc;rw[qW h2]at hstep;clear h1 h2
       go_wp2
       go_roundg g
       case measure=>omega
       case rel=>exact⟨rfl,k+1,C,congrArg _ (by omega),congrArg _ (by omega),rfl,by omega,by omega,hstep,hC⟩
    ·obtain rfl:k=s.size:=by omega
     have HC2:C=Z:=by rw[← HC.out,← ac,List.take_length,HZ.out]
     subst HC2
     go_wp2
     go_meet
     case rel=>exact⟨by rw[HM.out],rfl,Below.refl _ _⟩
 case rest=>
  obtain⟨rfl,hs6,hbw⟩:=hcut;cases h0:decide (0<Z)<;>rw[h0]at hs6<;>subst hs6
  ·have hz0:=of_decide_eq_false h0;have hid:=zbi hab [a1,a2] [b1,b2] L (by rw[HZ.out];omega)
   clear h0 hz0;have HI:Aside (eh a b [a1,a2] [b1,b2] L=L):=hid;clear hid
   go_wp2
   go_ret
   exact⟨by rw[HI.out,← hL];rfl,hbw⟩
  ·clear h0;have hmk:∀w:World,(Instr.makeSlice 23 (.int .i64 (M:Int)) (.int .i64 (M:Int))).run Tryz.prog w = .ok (.slice (some ⟨w.heap.size,0,none⟩) M M) (w.alloc (.cells (madeCells #[.int .u8 0] M) 5)):=fun w=>
    run_make_row' (P:=Tryz.prog) 23 5 (.int .u8 0) 1 Tryz.underlying23 (by kernel_rfl) rfl .i64 .i64 M (by omega) (by omega) w
   go_wp2
   obtain⟨G,hG⟩:∃G,wc.heap.size=G:=⟨_,rfl⟩;have hrow0:=World.rowIs_made wc (.int .u8 0) M 5;have hGle:w.heap.size<=G:=by rw[← hG];exact hbw.size
   have hbw1:=hbw.alloc hbw.size (Obj.cells (madeCells #[.int .u8 0] M) 5);rw[hG]at hrow0 ⊢;have hLM:Aside (∀k,(eh a b [a1,a2] [b1,b2] (L.take k)).length<=M):=fun k=>by
    have h1:eh a b [a1,a2] [b1,b2] L=eh a b [a1,a2] [b1,b2] (L.take k)++eh a b [a1,a2] [b1,b2] (L.drop k):=by rw[← qqa,List.take_append_drop]
    have h2:=congrArg List.length h1;rw[qqb hab,ac,HZ.out,HM.out,qM]at h2;omega
   go_loopg [13,14] s.size (fun gk s13 s14 wx=>∃k j:Nat,s13 = .int .i64 j/\s14 = .int .i64 k/\k<=s.size/\s.size<=k+gk/\j<=M/\Aside ((eh a b [a1,a2] [b1,b2] (L.take k)).length=j)/\Aside (wx.rowIs G 5 M (bv (eh a b [a1,a2] [b1,b2] (L.take k))))/\Below w.heap.size w wx)
   case atStart=>exact⟨0,0,rfl,rfl,Nat.zero_le _,by omega,Nat.zero_le _,rfl,hrow0.congr (fun i _=>(qjp [] i (Nat.zero_le _)).symm),hbw1⟩
   case round=>
    obtain⟨k,j,rfl,rfl,hk,hgk,hjM,HJ,hrow,hbx⟩:=hrel;clear hrow0 hbw1;by_cases hk2:k<s.size
    ·obtain⟨g,rfl⟩:∃g,gk=g+1:=⟨gk-1,by omega⟩
     have HG:Aside (s.size<=k+1+g):=by show _<=_;omega
     clear hgk hk;obtain⟨c,hc⟩:∃c,s[k]'hk2=c:=⟨_,rfl⟩;have hk1:k<L.length:=by rw[ac];exact hk2
     have hLk:L[k]'hk1=c:=by subst hL;exact hc
     have hstep:Aside (eh a b [a1,a2] [b1,b2] (L.take (k+1))=eh a b [a1,a2] [b1,b2] (L.take k)++pq a b [a1,a2] [b1,b2] c):=by
      show _=_;rw[zgq L k hk1,qqa,hLk];show _++(pq a b [a1,a2] [b1,b2] c++[])=_;rw[List.append_nil]
     have hfit:Aside (j+(pq a b [a1,a2] [b1,b2] c).length<=M):=by
      have:=hLM.out (k+1);rw[hstep.out,qM,HJ.out]at this;exact this
     clear hLk hk1;obtain⟨ga',gb',gt',ca',cb',ct',hR,hT',ht0',ht1',ha0,ha1,hb0,hb1⟩:=(HB.out.below hbx).ex;have hRc:=hR c;unfold rv at hRc;clear hR hT' ht0' ht1';have g1:(c.toNat:Int)<256:=by have:=c.toNat_lt;omega
     unfold pq at hstep hfit;by_cases h1:c=a
     ·rw[qX h1]at hRc hstep hfit;have hf2:j+2<=M:=hfit.out;clear h1;have hMj:¬M=j:=by omega
      obtain⟨ROW,hcp,hnew⟩:=zaw (w:=wr.drew) (c:=ca') hrow.out.drew hf2 (by rw[World.cell?_drew];exact ha0) (by rw[World.cell?_drew];exact ha1)
      have HN:Aside (_):=hnew;have HW:Aside (wrap64 ((j:Int)+2)=(j:Int)+2):=by have:=zhk (j+2);rw[Int.natCast_add]at this;exact this
      clear hnew
      go_wp2
      go_region
      all_goals go_wp2
      go_roundg g
      case measure=>exact Nat.lt_succ_self _
      case rel=>exact⟨k+1,j+2,by first|exact vI2 j|exact(congrArg (Value.int .i64) HW.out).trans (vI2 j),qp k,hk2,HG.out,hf2,by show _=_;rw[hstep.out,qM,HJ.out];rfl,World.rowIs.congr HN.out (fun i _=>by rw[hstep.out,← zaj,HJ.out]),below_setRow hbx.drew hGle _⟩
     ·rw[qW h1]at hRc hstep hfit;by_cases h2:c=b
      ·rw[qX h2]at hRc hstep hfit;have hf2:j+2<=M:=hfit.out;clear h1 h2;have hMj:¬M=j:=by omega
       obtain⟨ROW,hcp,hnew⟩:=zaw (w:=wr.drew) (c:=cb') hrow.out.drew hf2 (by rw[World.cell?_drew];exact hb0) (by rw[World.cell?_drew];exact hb1)
       have HN:Aside (_):=hnew;have HW:Aside (wrap64 ((j:Int)+2)=(j:Int)+2):=by have:=zhk (j+2);rw[Int.natCast_add]at this;exact this
       clear hnew
       go_wp2
       go_region
       all_goals go_wp2
       go_roundg g
       case measure=>exact Nat.lt_succ_self _
       case rel=>exact⟨k+1,j+2,by first|exact vI2 j|exact(congrArg (Value.int .i64) HW.out).trans (vI2 j),qp k,hk2,HG.out,hf2,by show _=_;rw[hstep.out,qM,HJ.out];rfl,World.rowIs.congr HN.out (fun i _=>by rw[hstep.out,← zaj,HJ.out]),below_setRow hbx.drew hGle _⟩
      ·rw[qW h2]at hRc hstep hfit;have hf1:j+1<=M:=hfit.out;clear h1 h2;have hcell:wr.cell? ⟨G,j,none⟩=some (bv (eh a b [a1,a2] [b1,b2] (L.take k)) j):=hrow.out.cell (by omega)
       have hfroz:wr.frozen? ⟨G,j,none⟩=false:=hrow.out.frozen j
       go_wp2
       go_roundg g
       case measure=>exact Nat.lt_succ_self _
       case rel=>exact⟨k+1,j+1,qp j,qp k,hk2,HG.out,hf1,by show _=_;rw[hstep.out,qM,HJ.out];rfl,World.rowIs.congr (World.rowIs.set hrow.out j _) (fun i _=>by rw[hstep.out,← znm,HJ.out]),hbx.setCell hGle _⟩
    ·obtain rfl:k=s.size:=by omega
     have HT:Aside (L.take s.size=L):=by show _=_;rw[← ac,List.take_length]
     have HE:Aside (∃l,l=eh a b [a1,a2] [b1,b2] L/\l.length=M):=⟨_,rfl,by rw[qqb hab,ac,HZ.out,HM.out]⟩
     obtain⟨E,hE,hEl⟩:=HE.out;have hcv:(convert 23 9 (.slice (some ⟨G,0,none⟩) M M)).run Tryz.prog wr = .ok (.string ⟨E.toArray⟩) wr:=by
      have h:=run_convert_bytes_back (P:=Tryz.prog) wr 23 9 5 ⟨G,0,none⟩ M E Tryz.underlying23 Tryz.underlying5 Tryz.underlying9 (fun i hi=>by
       rw[je,wO,hrow.out.cell (by omega),HT.out,← hE]
       unfold bv;rw[List.getD_eq_getElem?_getD,List.getElem?_eq_getElem hi];rfl)
      rw[hEl]at h;exact h
     have HEq:Aside (E=eh a b [a1,a2] [b1,b2] L):=hE;clear hE hEl
     go_wp2
     go_ret
     exact⟨by rw[← HEq.out];rfl,hbx⟩
end Go.Proofs.Repl
set_option linter.unusedVariables false
namespace Go.Proofs.Repl
open Go.Shelf Go.RowKit Go.Lib Go.Sym
def zqi:(Tryz.prog.info? 9).map (fun i=>(i.zero,i.size,i.bytes))=some (some (Value.string ⟨#[]⟩),1,16):=by kernel_rfl
def mk2(w:World):(Instr.makeSlice 100 (.int .i64 0) (.int .i64 2)).run Tryz.prog w = .ok (.slice (some ⟨w.heap.size,0,none⟩) 0 2) (w.alloc (.cells #[.string ⟨#[]⟩,.string ⟨#[]⟩] 9)):=by
 obtain⟨i,hi,hzz⟩:=Option.map_eq_some_iff.1 zqi;simp only[qP]at hzz;obtain⟨hz,hs,hb⟩:=hzz;have h:=run_make (P:=Tryz.prog) w 100 9 i (.string ⟨#[]⟩) Tryz.underlying100 hi hz .i64 .i64 0 2 (by decide) (by decide) (by rw[hb];decide) (by decide)
 rw[hs,show madeCells (Value.string ⟨#[]⟩).cells (Int.toNat 2*1)=#[.string ⟨#[]⟩,.string ⟨#[]⟩] from by kernel_rfl]at h
 exact h
def zr(V:Value)(j:Nat):Value:=if j=256 then V else .slice none 0 0
def z1(b:UInt8)(g c:Nat)(V:Value)(j:Nat):Value:=if j=b.toNat then .slice (some ⟨g,0,none⟩) 2 c else zr V j
def vk2:Tryz.zeroCells254.toList.length=257:=by kernel_rfl
def vkz:Tryz.zeroCells254.toList.all (fun v=>v.oneCell')=true:=by kernel_rfl
def lw:Option Value->Bool|some (.slice none n c)=>Nat.beq n 0&&Nat.beq c 0|_=>false
def zqn{v:Option Value}(h:lw v=true):v=some (.slice none 0 0):=by
 unfold lw at h;split at h
 ·simp only[qA]at h;rw[qN h.1,qN h.2]
 ·cases h
def vk0:(List.range 257).all (fun j=>lw Tryz.zeroCells254.toList[j]?)=true:=by kernel_rfl
def zwh(w:World)(T:Nat):∃ROW,(storeCells ⟨w.heap.size,0,none⟩ (Tryz.zeroCells254.toList.set 256 (.slice (some ⟨T,0,none⟩) 0 2))).run Tryz.prog (w.alloc (.cells Tryz.zeroCells254 254)) = .ok () ((w.alloc (.cells Tryz.zeroCells254 254)).setRow w.heap.size ROW) /\
  ((w.alloc (.cells Tryz.zeroCells254 254)).setRow w.heap.size ROW).rowIs w.heap.size 254 257 (zr (.slice (some ⟨T,0,none⟩) 0 2)):=by
 have hnew:(w.alloc (.cells Tryz.zeroCells254 254)).heap[w.heap.size]? = some (.cells Tryz.zeroCells254 254):=heap_alloc_new w _;have hz:=vk2;have h:=run_storeCells_at Tryz.prog w.heap.size 0 254 (Tryz.zeroCells254.toList.set 256 (.slice (some ⟨T,0,none⟩) 0 2)) 0 _ _ hnew (by rw[List.length_set,hz,← Array.length_toList,hz];decide) (fun v hv=>by
  rcases List.mem_or_eq_of_mem_set hv with hv|rfl
  ·exact List.all_eq_true.1 vkz v hv
  ·rfl)
 refine⟨_,h,?_⟩;refine⟨_,setRow_heap _ _ _ _ _ _ hnew,?_,fun i hi => ?_⟩
 ·simp only[List.size_toArray,qM,List.length_set,List.length_take,List.length_drop,hz];decide
 ·rw[List.getElem?_toArray,List.length_set,hz,List.drop_eq_nil_of_le (by rw[hz];decide),List.append_nil]
  show([]++_)[i]? = _;rw[List.nil_append,List.getElem?_set];unfold zr;by_cases h2:256=i
  ·subst h2;rw[qX rfl,qX rfl,hz];rfl
  ·rw[qW h2,qW (fun e=>h2 e.symm)]
   exact zqn (List.all_eq_true.1 vk0 i (List.mem_range.2 hi))
def qdj(w:World)(x y:UInt8):Obj := .cells (bytesRow ⟨#[x,y]⟩ (grownCap w 2 0 5)) 5 ((bytesRow ⟨#[x,y]⟩ (grownCap w 2 0 5)).size,(bytesRow ⟨#[x,y]⟩ (grownCap w 2 0 5)).size+1)
def qdf(w:World):Nat:=grownCap w 2 0 5
def cv2(w:World)(x y:UInt8):(convert 9 23 (.string ⟨#[x,y]⟩)).run Tryz.prog w = .ok (.slice (some ⟨w.heap.size,0,none⟩) 2 (qdf w)) (w.drew.alloc (qdj w x y)):=
 run_bytes_of_string (P:=Tryz.prog) w 9 23 5 ⟨#[x,y]⟩ Tryz.underlying9 Tryz.underlying23 Tryz.underlying5
def zni(w W:World)(x y:UInt8):(W.alloc (qdj w x y)).cell? ⟨W.heap.size,0,none⟩=some (.int .u8 x.toNat)/\(W.alloc (qdj w x y)).cell? ⟨W.heap.size,1,none⟩=some (.int .u8 y.toNat):=by
 unfold qdj;rw[World.cell?_alloc_mark,World.cell?_alloc_mark];exact⟨bytesRow_at ⟨#[x,y]⟩ _ 0 (by show 0<2;decide),bytesRow_at ⟨#[x,y]⟩ _ 1 (by show 1<2;decide)⟩
def cv1(w:World)(x:UInt8):(convert 23 9 (.slice (some ⟨w.heap.size,0,none⟩) 1 1)).run Tryz.prog (w.alloc (.cells #[.int .u8 x.toNat] 5)) = .ok (.string ⟨#[x]⟩) (w.alloc (.cells #[.int .u8 x.toNat] 5)):=
 run_convert_bytes_back (P:=Tryz.prog) _ 23 9 5 ⟨w.heap.size,0,none⟩ 1 [x] Tryz.underlying23 Tryz.underlying5 Tryz.underlying9 (fun i hi=>by
  have:i=0:=by simpa using hi
  subst this;rw[je];show World.cell? _ ⟨w.heap.size,0,none⟩=_;unfold World.cell?;rw[show(w.alloc (.cells #[.int .u8 (x.toNat:Int)] 5)).heap[w.heap.size]? = _ from heap_alloc_new w _]
  rfl)
def w4(wr:World)(T k n:Nat)(c:UInt8):World:=(((wr.alloc (.cells #[.int .u8 c.toNat] 5)).alloc (.cells #[.string ⟨#[c]⟩] 9)).setCell ⟨T,k,none⟩ (.string ⟨#[c]⟩)).setCell ⟨T+1,256,none⟩ (.slice (some ⟨T,0,none⟩) n 2)
def w5(wr:World)(T k n:Nat)(c x y:UInt8):World:=(((w4 wr T k n c).alloc (qdj (w4 wr T k n c) x y)).setCell ⟨T+1,c.toNat,none⟩ (.slice (some ⟨wr.heap.size+1+1,0,none⟩) 2 (qdf (w4 wr T k n c)))).drew
def zgf(wr:World)(T k n:Nat)(c x y:UInt8)(hT:T+2<=wr.heap.size){f h:Nat->Value}(hR:wr.rowIs (T+1) 254 257 f)(hTr:wr.rowIs T 9 2 h) :
  (w5 wr T k n c x y).rowIs (T+1) 254 257 (fun j=>if j=c.toNat then .slice (some ⟨wr.heap.size+1+1,0,none⟩) 2 (qdf (w4 wr T k n c)) else if j=256 then .slice (some ⟨T,0,none⟩) n 2 else f j)/\(w5 wr T k n c x y).rowIs T 9 2 (fun i=>if i=k then .string ⟨#[c]⟩ else h i) /\
   (w5 wr T k n c x y).cell? ⟨wr.heap.size+1+1,0,none⟩=some (.int .u8 x.toNat)/\(w5 wr T k n c x y).cell? ⟨wr.heap.size+1+1,1,none⟩=some (.int .u8 y.toNat)/\(∀p:Addr,T+2<=p.block->p.block<wr.heap.size->(w5 wr T k n c x y).cell? p=wr.cell? p)/\Below T wr (w5 wr T k n c x y)/\T+2<=(w5 wr T k n c x y).heap.size:=by
 unfold w5;generalize hWb:qdj (w4 wr T k n c) x y=B;generalize (Value.slice (some ⟨wr.heap.size+1+1,0,none⟩) 2 (qdf (w4 wr T k n c)))=V3;have hbc0:=fun W=>zni (w4 wr T k n c) W x y
 rw[hWb]at hbc0;unfold w4;clear hWb;generalize (Obj.cells #[.int .u8 c.toNat] 5)=o1;generalize (Obj.cells #[.string ⟨#[c]⟩] 9)=o2;generalize (Value.string ⟨#[c]⟩)=S;generalize (Value.slice (some ⟨T,0,none⟩) n 2)=V2;have hsz:((((wr.alloc o1).alloc o2).setCell ⟨T,k,none⟩ S).setCell ⟨T+1,256,none⟩ V2).heap.size=wr.heap.size+1+1:=by simp[World.setCell]
 have hbc:=hbc0 ((((wr.alloc o1).alloc o2).setCell ⟨T,k,none⟩ S).setCell ⟨T+1,256,none⟩ V2);rw[hsz]at hbc;refine⟨?_,?_,?_,?_,fun p h1 h2 => ?_,?_,?_⟩
 ·exact(((((hR.alloc o1).alloc o2).setOther (a:=⟨T,k,none⟩) (by simp) S).set 256 V2).alloc _).set _ V3
 ·exact(((((hTr.alloc o1).alloc o2).set k S).setOther (a:=⟨T+1,256,none⟩) (by simp) V2).alloc _).setOther (a:=⟨T+1,c.toNat,none⟩) (by simp) V3
 ·rw[World.cell?_drew,World.cell?_setCell_other _ _ _ _ (by intro h;have:=congrArg Addr.block h;simp at this;omega)];exact hbc.1
 ·rw[World.cell?_drew,World.cell?_setCell_other _ _ _ _ (by intro h;have:=congrArg Addr.block h;simp at this;omega)];exact hbc.2
 ·refine World.cell?_of_block (w:=wr) ?_;show(World.setCell _ _ _).heap[p.block]? = _;rw[Below.heap_setCell _ _ _ _ (by simp;omega),Below.heap_alloc _ _ _ (by rw[hsz];omega),Below.heap_setCell _ _ _ _ (by simp;omega),Below.heap_setCell _ _ _ _ (by simp;omega),Below.heap_alloc _ _ _ (by simp;omega),Below.heap_alloc _ _ _ h2]
 ·have hsz2:wr.heap.size+1+1=((((wr.alloc o1).alloc o2).setCell ⟨T,k,none⟩ S).setCell ⟨T+1,256,none⟩ V2).heap.size:=hsz.symm;exact(((((((Below.refl T wr).alloc (by omega) o1).alloc (by simp;omega) o2).setCell (p:=⟨T,k,none⟩) (wF _) S).setCell (p:=⟨T+1,256,none⟩) (Nat.le_succ _) V2).alloc (by omega) _).setCell (p:=⟨T+1,c.toNat,none⟩) (Nat.le_succ _) V3).drew
 ·show _<=(World.setCell _ _ _).heap.size;simp[World.setCell];omega
set_option maxHeartbeats 4000000 in
set_option maxRecDepth 1000000 in
def zm9(q ro cap:Nat)(a b a1 a2 b1 b2:UInt8)(w:World)(hab:a≠b)
  (hc:w.cell? ⟨q,4,none⟩=some (.slice (some ⟨ro,0,none⟩) 4 cap)) (h0:w.cell? ⟨ro,0,none⟩=some (.string ⟨#[a]⟩)) (h1:w.cell? ⟨ro,1,none⟩=some (.string ⟨#[a1,a2]⟩)) (h2:w.cell? ⟨ro,2,none⟩=some (.string ⟨#[b]⟩)) (h3:w.cell? ⟨ro,3,none⟩=some (.string ⟨#[b1,b2]⟩)) :
  Calls Tryz.prog 185 #[.pointer (some ⟨q,0,none⟩)] w fun e w'=>∃R,e = .returned (.iface 255 (.pointer (some ⟨R,0,none⟩)))/\la R a b a1 a2 b1 b2 w'/\Below w.heap.size w w':=by
 go_enter Tryz.func185,Tryz.ntmps185
 go_wp2
 go_loopg [4,5] 2 (fun gk s4 s5 wx=>wx=w/\((s5 = .int .i64 0/\s4 = .bool true/\gk=2)\/(s5 = .int .i64 2/\s4 = .bool false/\gk=1)\/(s5 = .int .i64 4/\s4 = .bool false/\gk=0)))
 case atStart=>exact⟨rfl,Or.inl ⟨rfl,rfl,rfl⟩⟩
 case round=>
  obtain⟨rfl,⟨rfl,rfl,rfl⟩|⟨rfl,rfl,rfl⟩|⟨rfl,rfl,rfl⟩⟩:=hrel
  ·go_wp2
   go_roundg 1
   case measure=>exact Nat.lt_succ_self _
   case rel=>exact⟨rfl,Or.inr (Or.inl ⟨rfl,rfl,rfl⟩)⟩
  ·go_wp2
   go_roundg 0
   case measure=>exact Nat.lt_succ_self _
   case rel=>exact⟨rfl,Or.inr (Or.inr ⟨rfl,rfl,rfl⟩)⟩
  ·have hmk:=mk2;obtain⟨W1,hW1⟩:∃W1,wr.alloc (.cells #[.string ⟨#[]⟩,.string ⟨#[]⟩] 9)=W1:=⟨_,rfl⟩;have hz1:W1.heap.size=wr.heap.size+1:=by rw[← hW1];simp
   have hT1:W1.rowIs wr.heap.size 9 2 (fun _ => .string ⟨#[]⟩):=by rw[← hW1];exact World.rowIs_alloc wr _ _ _ (fun i hi=>by match i,hi with|0,_=>rfl|1,_=>rfl)
   have hb1:Below wr.heap.size wr W1:=by rw[← hW1];exact(Below.refl _ _).alloc (wF _) _
   obtain⟨ROW,hst,hrow⟩:=zwh W1 wr.heap.size;rw[hz1]at hst hrow;have hT2:=(hT1.alloc (.cells Tryz.zeroCells254 254)).of_block (setRow_other (W1.alloc (.cells Tryz.zeroCells254 254)) (wr.heap.size+1) wr.heap.size ROW (by omega))
   have hb2:=below_setRow (hb1.alloc hb1.size (.cells Tryz.zeroCells254 254)) (Nat.le_succ wr.heap.size) ROW;obtain⟨W2,hW2⟩:∃W2,(W1.alloc (.cells Tryz.zeroCells254 254)).setRow (wr.heap.size+1) ROW=W2:=⟨_,rfl⟩;rw[hW2]at hst hrow hT2 hb2;have HB2:Aside (W2.rowIs (wr.heap.size+1) 254 257 (zr (.slice (some ⟨wr.heap.size,0,none⟩) 0 2))/\W2.rowIs wr.heap.size 9 2 (fun _ => .string ⟨#[]⟩)/\Below wr.heap.size wr W2):=⟨hrow,hT2,hb2⟩
   clear hrow hT2 hb2 hT1 hb1 hW2
   go_wp2
   obtain⟨T,hT⟩:∃T,wr.heap.size=T:=⟨_,rfl⟩;rw[hT]at HB2 ⊢;have hS:Aside (wr.heap.size=T):=hT;clear hst hmk hz1 hW1 hT
   go_loopg [12] 2 (fun gk s12 wx=>Below T wr wx/\T+2<=wx.heap.size/\(
    (s12 = .int .i64 2/\gk=2/\Aside (wx.rowIs (T+1) 254 257 (zr (.slice (some ⟨T,0,none⟩) 0 2))/\wx.rowIs T 9 2 (fun _ => .string ⟨#[]⟩))) \/
    (s12 = .int .i64 0/\gk=1/\∃gb cb,T+2<=gb/\gb<wx.heap.size/\Aside (wx.rowIs (T+1) 254 257 (fun j=>if j=b.toNat then .slice (some ⟨gb,0,none⟩) 2 cb else if j=256 then .slice (some ⟨T,0,none⟩) 1 2 else .slice none 0 0)/\wx.rowIs T 9 2 (fun i=>if i=0 then .string ⟨#[b]⟩ else .string ⟨#[]⟩)/\wx.cell? ⟨gb,0,none⟩=some (.int .u8 b1.toNat)/\wx.cell? ⟨gb,1,none⟩=some (.int .u8 b2.toNat))) \/
    (s12 = .int .i64 (-2)/\gk=0/\Aside (la (T+1) a b a1 a2 b1 b2 wx))))
   case atStart=>exact⟨HB2.out.2.2,by have:=HB2.out.1.lt;omega,Or.inl ⟨rfl,rfl,HB2.out.1,HB2.out.2.1⟩⟩
   case round=>
    obtain⟨hbx,hsz,h⟩:=hrel;have k0:=(hbx.cell (p:=⟨ro,0,none⟩) (by rw[← hS.out];exact World.block_lt_of_cell? _ _ h0)).trans h0
    have k1:=(hbx.cell (p:=⟨ro,1,none⟩) (by rw[← hS.out];exact World.block_lt_of_cell? _ _ h1)).trans h1
    have k2:=(hbx.cell (p:=⟨ro,2,none⟩) (by rw[← hS.out];exact World.block_lt_of_cell? _ _ h2)).trans h2
    have k3:=(hbx.cell (p:=⟨ro,3,none⟩) (by rw[← hS.out];exact World.block_lt_of_cell? _ _ h3)).trans h3
    clear h0 h1 h2 h3 hc HB2;have e1:=zo7;have e2:=zo6;have e3:=cv1;have e4:=cv2;rcases h with⟨rfl,rfl,hr⟩|⟨rfl,rfl,gb,cb,hgb,hgs,hr⟩|⟨rfl,rfl,hr⟩
    ·have g0:∀h,(⟨#[b]⟩:ByteArray)[0]'h=b:=fun _=>rfl
     have g1:(b.toNat:Int)<256:=by have:=b.toNat_lt;omega
     have g2:b.toNat<256:=b.toNat_lt;have hRb:wr.cell? ⟨T+1,b.toNat,none⟩=some (.slice none 0 0):=by
      rw[hr.out.1.cell (by omega)];unfold zr;rw[qW (by have:=b.toNat_lt;omega)]
     have hR2:wr.cell? ⟨T+1,256,none⟩=some (.slice (some ⟨T,0,none⟩) 0 2):=by rw[hr.out.1.cell (by decide)];rfl
     have hT0:∀o1 o2,((wr.alloc o1).alloc o2).cell? ⟨T,0,none⟩=some (.string ⟨#[]⟩):=fun o1 o2=>((hr.out.2.alloc o1).alloc o2).cell (by decide)
     have hTf:∀o1 o2,((wr.alloc o1).alloc o2).frozen? ⟨T,0,none⟩=false:=fun o1 o2=>((hr.out.2.alloc o1).alloc o2).frozen _
     have hR3:∀o1 o2,((wr.alloc o1).alloc o2).cell? ⟨T+1,256,none⟩=some (.slice (some ⟨T,0,none⟩) 0 2):=fun o1 o2=>by rw[((hr.out.1.alloc o1).alloc o2).cell (by decide)];rfl
     have hRf:∀o1 o2,((wr.alloc o1).alloc o2).frozen? ⟨T+1,256,none⟩=false:=fun o1 o2=>((hr.out.1.alloc o1).alloc o2).frozen _
     have hR4:∀o1 o2 v1 v2 o3,(((((wr.alloc o1).alloc o2).setCell ⟨T,0,none⟩ v1).setCell ⟨T+1,256,none⟩ v2).alloc o3).cell? ⟨T+1,b.toNat,none⟩=some (.slice none 0 0):=fun o1 o2 v1 v2 o3=>by
      rw[((((((hr.out.1.alloc o1).alloc o2).setOther (a:=⟨T,0,none⟩) (by simp) v1).set 256 v2)).alloc o3).cell (by omega)]
      rw[qW (by omega)];unfold zr;rw[qW (by have:=b.toNat_lt;omega)]
     have hRg:∀o1 o2 v1 v2 o3,(((((wr.alloc o1).alloc o2).setCell ⟨T,0,none⟩ v1).setCell ⟨T+1,256,none⟩ v2).alloc o3).frozen? ⟨T+1,b.toNat,none⟩=false:=fun o1 o2 v1 v2 o3=>
      ((((((hr.out.1.alloc o1).alloc o2).setOther (a:=⟨T,0,none⟩) (by simp) v1).set 256 v2)).alloc o3).frozen _
     clear g2
     go_wp2
     go_roundg 1
     case measure=>exact Nat.lt_succ_self _
     case rel=>
      have HS:=zgf wr T 0 1 b b1 b2 hsz hr.out.1 hr.out.2;obtain⟨q1,q2,q3,q4,q5,q6,q7⟩:=HS;have q8:=World.block_lt_of_cell? _ _ q3;refine⟨hbx.trans q6,q7,Or.inr (Or.inl ⟨rfl,rfl,wr.heap.size+1+1,qdf (w4 wr T 0 1 b),by omega,q8,(?_:_/\_/\_/\_)⟩)⟩
      refine⟨q1.congr (fun j _ => ?_),q2,q3,q4⟩
      ·show(if _ then _ else if _ then _ else zr _ j)=_
       unfold zr;by_cases h1:j=b.toNat
       ·rw[qX h1,qX h1]
       ·by_cases h2:j=256
        ·rw[qW h1,qX h2,qW h1,qX h2]
        ·rw[qW h1,qW h2,qW h2,qW h1,qW h2]
    ·have g0:∀h,(⟨#[a]⟩:ByteArray)[0]'h=a:=fun _=>rfl
     have g1:(a.toNat:Int)<256:=by have:=a.toNat_lt;omega
     have g2:a.toNat<256:=a.toNat_lt;have hne:¬a.toNat=b.toNat:=fun h=>hab (UInt8.toNat_inj.1 h)
     have HNE:Aside (¬a.toNat=b.toNat):=hne;have hRb:wr.cell? ⟨T+1,a.toNat,none⟩=some (.slice none 0 0):=by
      rw[hr.out.1.cell (by omega)];rw[qW (by omega),qW (by omega)]
     have hR2:wr.cell? ⟨T+1,256,none⟩=some (.slice (some ⟨T,0,none⟩) 1 2):=by rw[hr.out.1.cell (by decide)];rw[qW (by have:=b.toNat_lt;omega),qX rfl]
     have hT0:∀o1 o2,((wr.alloc o1).alloc o2).cell? ⟨T,1,none⟩=some (.string ⟨#[]⟩):=fun o1 o2=>((hr.out.2.1.alloc o1).alloc o2).cell (by decide)
     have hTf:∀o1 o2,((wr.alloc o1).alloc o2).frozen? ⟨T,1,none⟩=false:=fun o1 o2=>((hr.out.2.1.alloc o1).alloc o2).frozen _
     have hR3:∀o1 o2,((wr.alloc o1).alloc o2).cell? ⟨T+1,256,none⟩=some (.slice (some ⟨T,0,none⟩) 1 2):=fun o1 o2=>by rw[((hr.out.1.alloc o1).alloc o2).cell (by decide)];rw[qW (by have:=b.toNat_lt;omega),qX rfl]
     have hRf:∀o1 o2,((wr.alloc o1).alloc o2).frozen? ⟨T+1,256,none⟩=false:=fun o1 o2=>((hr.out.1.alloc o1).alloc o2).frozen _
     have hR4:∀o1 o2 v1 v2 o3,(((((wr.alloc o1).alloc o2).setCell ⟨T,1,none⟩ v1).setCell ⟨T+1,256,none⟩ v2).alloc o3).cell? ⟨T+1,a.toNat,none⟩=some (.slice none 0 0):=fun o1 o2 v1 v2 o3=>by
      rw[((((((hr.out.1.alloc o1).alloc o2).setOther (a:=⟨T,1,none⟩) (by simp) v1).set 256 v2)).alloc o3).cell (by omega)]
      rw[qW (by omega)];rw[qW (by omega),qW (by omega)]
     have hRg:∀o1 o2 v1 v2 o3,(((((wr.alloc o1).alloc o2).setCell ⟨T,1,none⟩ v1).setCell ⟨T+1,256,none⟩ v2).alloc o3).frozen? ⟨T+1,a.toNat,none⟩=false:=fun o1 o2 v1 v2 o3=>
      ((((((hr.out.1.alloc o1).alloc o2).setOther (a:=⟨T,1,none⟩) (by simp) v1).set 256 v2)).alloc o3).frozen _
     clear g2 hne
     go_wp2
     go_roundg 0
     case measure=>exact Nat.lt_succ_self _
     case rel=>
      have HS:=zgf wr T 1 2 a a1 a2 hsz hr.out.1 hr.out.2.1;obtain⟨q1,q2,q3,q4,q5,q6,q7⟩:=HS;have hgbR:=(q5 ⟨gb,0,none⟩ hgb hgs).trans hr.out.2.2.1;have hgbS:=(q5 ⟨gb,1,none⟩ hgb hgs).trans hr.out.2.2.2;have hB:la (T+1) a b a1 a2 b1 b2 (w5 wr T 1 2 a a1 a2):=by
       refine⟨wr.heap.size+1+1,gb,T,qdf (w4 wr T 1 2 a),cb,2,fun d => ?_,?_,?_,?_,q3,q4,hgbR,hgbS⟩
       ·rw[q1.cell (by have:=d.toNat_lt;omega)]
        unfold rv;by_cases h1:d=a
        ·rw[qX (congrArg _ h1),qX h1]
        ·rw[qW (fun h=>h1 (UInt8.toNat_inj.1 h)),qW h1,qW (by have:=d.toNat_lt;omega)]
         by_cases h2:d=b
         ·rw[qX (congrArg _ h2),qX h2]
         ·rw[qW (fun h=>h2 (UInt8.toNat_inj.1 h)),qW h2,qW (by have:=d.toNat_lt;omega)]
       ·rw[q1.cell (by decide),qW (by have:=a.toNat_lt;omega),qX rfl]
       ·rw[q2.cell (by decide)];rfl
       ·rw[q2.cell (by decide)];rfl
      exact⟨hbx.trans q6,q7,Or.inr (Or.inr ⟨rfl,rfl,hB⟩)⟩
    ·go_wp2
     go_ret
     exact⟨T+1,rfl,hr.out,by rw[hS.out];exact hbx⟩
end Go.Proofs.Repl
namespace Go.Proofs.YtiidadfafmcdmaaGreatDoor.Once
def disable(w:World):(callFunc 249 #[]).run Tryz.prog w = .ok (.value (.tuple #[])) w:=run_call_mark0 Tryz.func249 (by kernel_rfl) (by kernel_rfl) (by kernel_rfl) .disable (by kernel_rfl) w
def enable(w:World):(callFunc 251 #[]).run Tryz.prog w = .ok (.value (.tuple #[])) w:=run_call_mark0 Tryz.func251 (by kernel_rfl) (by kernel_rfl) (by kernel_rfl) .enable (by kernel_rfl) w
def acquire(a:Addr)(w:World):(callFunc 252 #[.pointer (some a)]).run Tryz.prog w = .ok (.value (.tuple #[])) w:=run_call_marked Tryz.func252 (by kernel_rfl) (by kernel_rfl) (by kernel_rfl) .acquire (by kernel_rfl) a w
def releaseMerge(a:Addr)(w:World):(callFunc 254 #[.pointer (some a)]).run Tryz.prog w = .ok (.value (.tuple #[])) w:=run_call_marked Tryz.func254 (by kernel_rfl) (by kernel_rfl) (by kernel_rfl) .releaseMerge (by kernel_rfl) a w
set_option maxHeartbeats 1600000 in
def zwm(a:Addr)(x:Value)(u:FrameMode)(w:World)(hc:w.cell? a=some x)(hz:w.frozen? a=false) :
  CallsD Tryz.prog 208 #[.pointer (some a),.bool true] u w fun e u' w'=>u'=u/\(e = .returned (.tuple #[])/\w'=w.drew.setCell a (.int .u32 1)):=by
 have hc':w.drew.cell? a=some x:=by go_simp
 have hz':w.drew.frozen? a=false:=by go_simp
 have hst:=run_call_store (P:=Tryz.prog) Tryz.func231 (by kernel_rfl) (by kernel_rfl) (by kernel_rfl) (by kernel_rfl) (k := .u32) (y:=1) hc' hz'
 go_enter_d Tryz.func208,Tryz.ntmps208
 go_wp2
 go_region_calls
 all_goals (go_end0;exact⟨rfl,rfl⟩)
set_option maxHeartbeats 1600000 in
def zxo(a:Addr)(u:FrameMode)(w:World)(hc:w.cell? a=some (.int .i32 1))(hz:w.frozen? a=false) :
  CallsD Tryz.prog 207 #[.pointer (some a)] u w fun e u' w'=>u'=u/\(e = .returned (.tuple #[])/\w'=w.setCell a (.int .i32 0)):=by
 have hd:=disable;have he:=enable;have hr:=releaseMerge;have hadd:=run_call_add (P:=Tryz.prog) Tryz.func255 (by kernel_rfl) (by kernel_rfl) (by kernel_rfl) .i32 (by kernel_rfl) (y := -1) (s:=0) hc hz (by simp[go_sem];rfl)
 have hcv:=run_convert_to_unsafe (P:=Tryz.prog) (src:=296) (dst:=300) Tryz.underlying296 Tryz.underlying300 (by kernel_rfl) hc
 go_enter_d Tryz.func207,Tryz.ntmps207
 go_wp2
 go_end0
 go_wp2
 go_end0
 exact⟨rfl,rfl⟩
set_option maxHeartbeats 1600000 in
def zrf(a:Addr)(w:World)(hc:w.cell? a=some (.int .i32 0))(hz:w.frozen? a=false) :
  Calls Tryz.prog 206 #[.pointer (some a)] w fun e w'=>e = .returned (.tuple #[])/\w'=w.setCell a (.int .i32 1):=by
 have hd:=disable;have he:=enable;have ha:=acquire;have hcas:=run_call_cas_hit (P:=Tryz.prog) Tryz.func250 (by kernel_rfl) (by kernel_rfl) (by kernel_rfl) .i32 (by kernel_rfl) (y:=1) hc hz
 have hc':(w.setCell a (.int .i32 1)).cell? a=some (.int .i32 1):=World.cell?_setCell_same w a _ hc;have hcv:=run_convert_to_unsafe (P:=Tryz.prog) (src:=296) (dst:=300) Tryz.underlying296 Tryz.underlying300 (by kernel_rfl) hc'
 go_enter Tryz.func206,Tryz.ntmps206
 go_wp2
 first|go_end0|(simp only[Exit.inBlock,Exit.then];refine bodyPost_ret (results_none rfl _ _ _) rfl ?_)|refine bodyPost_ret (results_none rfl _ _ _) rfl ?_
 go_wp2
 go_end0
 exact⟨rfl,rfl⟩
end Go.Proofs.YtiidadfafmcdmaaGreatDoor.Once
namespace Go.Proofs.YtiidadfafmcdmaaGreatDoor.Once
set_option maxHeartbeats 1600000 in
def zv8(b:Nat)(w:World)(R:World->Prop)
  (h0:w.cell? ⟨b,0,none⟩=some (.int .u32 0)) (h1:w.cell? ⟨b,0+1,none⟩=some (.int .i32 0)) (f0:w.frozen? ⟨b,0,none⟩=false) (f1:w.frozen? ⟨b,0+1,none⟩=false)
  (hf:Calls Tryz.prog 161 #[.pointer (some ⟨b,0,none⟩)] (w.setCell ⟨b,0+1,none⟩ (.int .i32 1)) fun e w'=>e = .returned (.tuple #[])/\R w')
  (hR:∀w',R w'->w'.cell? ⟨b,0,none⟩=some (.int .u32 0)/\w'.frozen? ⟨b,0,none⟩=false/\w'.cell? ⟨b,0+1,none⟩=some (.int .i32 1)/\w'.frozen? ⟨b,0+1,none⟩=false) :
  Calls Tryz.prog 184 #[.pointer (some ⟨b,0,none⟩),.func (.func 161) #[.pointer (some ⟨b,0,none⟩)] #[]] w fun e w'=>e = .returned (.tuple #[])/\∃w1,R w1/\w'=(w1.drew.setCell ⟨b,0,none⟩ (.int .u32 1)).setCell ⟨b,0+1,none⟩ (.int .i32 0):=by
 have hl:=run_call_load (P:=Tryz.prog) Tryz.func205 (by kernel_rfl) (by kernel_rfl) (by kernel_rfl) .u32 (by kernel_rfl) (w:=w.setCell ⟨b,0+1,none⟩ (.int .i32 1)) (a:=⟨b,0,none⟩) (x:=0) ((World.cell?_setCell_other _ ⟨b,0+1,none⟩ ⟨b,0,none⟩ _ (by simp)).trans h0)
 have hnot:∀(x:Bool)(w:World),(Op.unary .not (.bool x)).run Tryz.prog w = .ok (.bool (!x)) w:=fun _ _=>rfl
 go_enter_defers Tryz.func184,Tryz.ntmps184
 go_wp2_with (first|(go_at_call 206;refine(zrf ⟨b,0+1,none⟩ _ (by go_simp) (by go_simp)).mono ?_;rintro e w' ⟨rfl,rfl⟩)|(go_at_call 183;go_in)|(go_at_call 161;refine hf.mono ?_;rintro e w' ⟨rfl,hw⟩))
 obtain⟨r0,rf0,r1,rf1⟩:=hR w' hw
 first|go_end0|skip
 first|go_wp2|skip
 refine leaves_cons (f:=208) (args:=#[.pointer (some ⟨b,0,none⟩),.bool true]) (by simp) (by simp[go_sem]) ?_
 refine(zwm ⟨b,0,none⟩ (.int .u32 0) .returning _ r0 rf0).mono ?_;rintro e u' w'' ⟨rfl,rfl,rfl⟩
 refine leaves_cons (f:=207) (args:=#[.pointer (some ⟨b,0+1,none⟩)]) (by simp[settle]) (by simp[go_sem]) ?_
 have r1':(w'.drew.setCell ⟨b,0,none⟩ (.int .u32 1)).cell? ⟨b,0+1,none⟩=some (.int .i32 1):=by
  refine(World.cell?_setCell_other _ ⟨b,0,none⟩ ⟨b,0+1,none⟩ _ (by simp)).trans ?_
  rw[World.cell?_drew];exact r1
 refine(zxo ⟨b,0+1,none⟩ _ _ r1' (by simp[rf1])).mono ?_
 rintro e u' w'' ⟨rfl,rfl,rfl⟩
 simp[Leaves,settle,results,Tryz.results184];exact⟨w',hw,rfl⟩
set_option maxHeartbeats 1600000 in
def zbb(b:Nat)(w:World)(R:World->Prop)
  (h0:w.cell? ⟨b,0,none⟩=some (.int .u32 0)) (h1:w.cell? ⟨b,0+1,none⟩=some (.int .i32 0)) (f0:w.frozen? ⟨b,0,none⟩=false) (f1:w.frozen? ⟨b,0+1,none⟩=false)
  (hf:Calls Tryz.prog 161 #[.pointer (some ⟨b,0,none⟩)] (w.setCell ⟨b,0+1,none⟩ (.int .i32 1)) fun e w'=>e = .returned (.tuple #[])/\R w')
  (hR:∀w',R w'->w'.cell? ⟨b,0,none⟩=some (.int .u32 0)/\w'.frozen? ⟨b,0,none⟩=false/\w'.cell? ⟨b,0+1,none⟩=some (.int .i32 1)/\w'.frozen? ⟨b,0+1,none⟩=false) :
  Calls Tryz.prog 160 #[.pointer (some ⟨b,0,none⟩),.func (.func 161) #[.pointer (some ⟨b,0,none⟩)] #[]] w fun e w'=>e = .returned (.tuple #[])/\∃w1,R w1/\w'=(w1.drew.setCell ⟨b,0,none⟩ (.int .u32 1)).setCell ⟨b,0+1,none⟩ (.int .i32 0):=by
 have hl:=run_call_load (P:=Tryz.prog) Tryz.func205 (by kernel_rfl) (by kernel_rfl) (by kernel_rfl) .u32 (by kernel_rfl) h0
 have hnot:∀(x:Bool)(w:World),(Op.unary .not (.bool x)).run Tryz.prog w = .ok (.bool (!x)) w:=fun _ _=>rfl
 go_enter Tryz.func160,Tryz.ntmps160
 go_wp2_with (first|(go_at_call 183;go_in)|(go_at_call 184;refine(zv8 b w R h0 h1 f0 f1 hf hR).mono ?_;rintro e w' ⟨rfl,w1,hw1,rfl⟩))
 go_end0
 exact⟨rfl,w1,hw1,rfl⟩
set_option maxHeartbeats 1600000 in
def zoq(a:Addr)(d:Int)(hd:¬d=0)(fv:Value)(w:World)(h0:w.cell? a=some (.int .u32 d)) :
  Calls Tryz.prog 160 #[.pointer (some a),fv] w fun e w'=>e = .returned (.tuple #[])/\w'=w:=by
 have hl:=run_call_load (P:=Tryz.prog) Tryz.func205 (by kernel_rfl) (by kernel_rfl) (by kernel_rfl) .u32 (by kernel_rfl) h0
 have hnot:∀(x:Bool)(w:World),(Op.unary .not (.bool x)).run Tryz.prog w = .ok (.bool (!x)) w:=fun _ _=>rfl
 have hd':(d != 0)=true:=by simp[hd]
 go_enter Tryz.func160,Tryz.ntmps160
 go_wp2
 go_end0
 exact⟨rfl,rfl⟩
end Go.Proofs.YtiidadfafmcdmaaGreatDoor.Once
namespace Go.Proofs.YtiidadfafmcdmaaGreatDoor.Once
set_option maxHeartbeats 1600000 in
def replace_first(b:Nat)(s:ByteArray)(w:World)(R:World->Prop)(Q:Value->World->Prop)
  (h0:w.cell? ⟨b,0,none⟩=some (.int .u32 0)) (h1:w.cell? ⟨b,0+1,none⟩=some (.int .i32 0)) (f0:w.frozen? ⟨b,0,none⟩=false) (f1:w.frozen? ⟨b,0+1,none⟩=false)
  (hf:Calls Tryz.prog 161 #[.pointer (some ⟨b,0,none⟩)] (w.setCell ⟨b,0+1,none⟩ (.int .i32 1)) fun e w'=>e = .returned (.tuple #[])/\R w')
  (hR:∀w',R w'->w'.cell? ⟨b,0,none⟩=some (.int .u32 0)/\w'.frozen? ⟨b,0,none⟩=false/\w'.cell? ⟨b,0+1,none⟩=some (.int .i32 1)/\w'.frozen? ⟨b,0+1,none⟩=false)
  (hg:∀w',R w'->∃g,w'.cell? ⟨b,3,none⟩=some (.iface 251 (.pointer (some ⟨g,0,none⟩))) /\
   Calls Tryz.prog 317 #[.pointer (some ⟨g,0,none⟩),.string s] ((w'.drew.setCell ⟨b,0,none⟩ (.int .u32 1)).setCell ⟨b,0+1,none⟩ (.int .i32 0)) fun e w''=>∃v,e = .returned v/\Q v w'') :
  Calls Tryz.prog 127 #[.pointer (some ⟨b,0,none⟩),.string s] w fun e w'=>∃v,e = .returned v/\Q v w':=by
 have hme : ∀ (g : Nat) (w : World), (method 471 251 (.pointer (some ⟨g, 0, none⟩)) "Replace").run Tryz.prog w = .ok (317, .pointer (some ⟨g, 0, none⟩)) w := fun _ _ => by kernel_rfl
 go_enter Tryz.func127,Tryz.ntmps127
 go_wp2_with (first|(go_at_call 160;refine(zbb b w R h0 h1 f0 f1 hf hR).mono ?_;rintro e w' ⟨rfl,w1,hw1,rfl⟩;obtain⟨g,hg1,hg2⟩:=hg w1 hw1;have hc3:((w1.drew.setCell ⟨b,0,none⟩ (.int .u32 1)).setCell ⟨b,0+1,none⟩ (.int .i32 0)).cell? ⟨b,3,none⟩=some (.iface 251 (.pointer (some ⟨g,0,none⟩))):=((World.cell?_setCell_other _ ⟨b,0+1,none⟩ ⟨b,3,none⟩ _ (by simp)).trans ((World.cell?_setCell_other _ ⟨b,0,none⟩ ⟨b,3,none⟩ _ (by simp)).trans (by rw[World.cell?_drew];exact hg1))))|(go_at_call 317;refine hg2.mono ?_;rintro e w' ⟨v,rfl,hq⟩))
 go_ret
 exact⟨_,rfl,hq⟩
set_option maxHeartbeats 1600000 in
def replace_done(b g:Nat)(s:ByteArray)(w:World)(Q:Value->World->Prop)(d:Int)(hd:¬d=0)
  (h0:w.cell? ⟨b,0,none⟩=some (.int .u32 d)) (hc3:w.cell? ⟨b,3,none⟩=some (.iface 251 (.pointer (some ⟨g,0,none⟩))))
  (hg2:Calls Tryz.prog 317 #[.pointer (some ⟨g,0,none⟩),.string s] w fun e w''=>∃v,e = .returned v/\Q v w'') :
  Calls Tryz.prog 127 #[.pointer (some ⟨b,0,none⟩),.string s] w fun e w'=>∃v,e = .returned v/\Q v w':=by
 have hme : ∀ (g : Nat) (w : World), (method 471 251 (.pointer (some ⟨g, 0, none⟩)) "Replace").run Tryz.prog w = .ok (317, .pointer (some ⟨g, 0, none⟩)) w := fun _ _ => by kernel_rfl
 go_enter Tryz.func127,Tryz.ntmps127
 go_wp2_with (first|(go_at_call 160;refine(zoq ⟨b,0,none⟩ d hd _ w h0).mono ?_;rintro e w' ⟨rfl,rfl⟩)|(go_at_call 317;refine hg2.mono ?_;rintro e w' ⟨v,rfl,hq⟩))
 go_ret
 exact⟨_,rfl,hq⟩
set_option maxHeartbeats 1600000 in
def replaceS_first(b:Nat)(s:ByteArray)(w:World)(R:World->Prop)(Q:Value->World->Prop)
  (h0:w.cell? ⟨b,0,none⟩=some (.int .u32 0)) (h1:w.cell? ⟨b,0+1,none⟩=some (.int .i32 0)) (f0:w.frozen? ⟨b,0,none⟩=false) (f1:w.frozen? ⟨b,0+1,none⟩=false)
  (hf:Calls Tryz.prog 161 #[.pointer (some ⟨b,0,none⟩)] (w.setCell ⟨b,0+1,none⟩ (.int .i32 1)) fun e w'=>e = .returned (.tuple #[])/\R w')
  (hR:∀w',R w'->w'.cell? ⟨b,0,none⟩=some (.int .u32 0)/\w'.frozen? ⟨b,0,none⟩=false/\w'.cell? ⟨b,0+1,none⟩=some (.int .i32 1)/\w'.frozen? ⟨b,0+1,none⟩=false)
  (hg:∀w',R w'->∃g,w'.cell? ⟨b,3,none⟩=some (.iface 255 (.pointer (some ⟨g,0,none⟩))) /\
   Calls Tryz.prog 319 #[.pointer (some ⟨g,0,none⟩),.string s] ((w'.drew.setCell ⟨b,0,none⟩ (.int .u32 1)).setCell ⟨b,0+1,none⟩ (.int .i32 0)) fun e w''=>∃v,e = .returned v/\Q v w'') :
  Calls Tryz.prog 127 #[.pointer (some ⟨b,0,none⟩),.string s] w fun e w'=>∃v,e = .returned v/\Q v w':=by
 have hme : ∀ (g : Nat) (w : World), (method 471 255 (.pointer (some ⟨g, 0, none⟩)) "Replace").run Tryz.prog w = .ok (319, .pointer (some ⟨g, 0, none⟩)) w := fun _ _ => by kernel_rfl
 go_enter Tryz.func127,Tryz.ntmps127
 go_wp2_with (first|(go_at_call 160;refine(zbb b w R h0 h1 f0 f1 hf hR).mono ?_;rintro e w' ⟨rfl,w1,hw1,rfl⟩;obtain⟨g,hg1,hg2⟩:=hg w1 hw1;have hc3:((w1.drew.setCell ⟨b,0,none⟩ (.int .u32 1)).setCell ⟨b,0+1,none⟩ (.int .i32 0)).cell? ⟨b,3,none⟩=some (.iface 255 (.pointer (some ⟨g,0,none⟩))):=((World.cell?_setCell_other _ ⟨b,0+1,none⟩ ⟨b,3,none⟩ _ (by simp)).trans ((World.cell?_setCell_other _ ⟨b,0,none⟩ ⟨b,3,none⟩ _ (by simp)).trans (by rw[World.cell?_drew];exact hg1))))|(go_at_call 319;refine hg2.mono ?_;rintro e w' ⟨v,rfl,hq⟩))
 go_ret
 exact⟨_,rfl,hq⟩
end Go.Proofs.YtiidadfafmcdmaaGreatDoor.Once
namespace Go.Sym
open Go.RowKit
variable[LC]
def ci.blocks_none{G:Gh}{hp:List (Nat×ai)}{w:World}(hm:ci G hp w){b:Nat}(h:pi G hp b)(o:Nat):G.imm b o=none:=by
 obtain⟨n,bx,hl,ha⟩:=h;have hb:=hm.holds n bx hl
 cases bx with
 |cells cs T=>obtain⟨B,vs,h1,_,_,_,h5⟩:=hb;simp only[Gh.at,h1,qI]at ha;subst ha;exact h5 o
 |row τ l E=>
  obtain⟨a,c,h1,h2⟩:=hb;rcases h2 with⟨rfl,_⟩|⟨g,vs,fz,rfl,_,_,_,_,_,_,_,h9⟩
  ·simp only[Gh.at,h1]at ha;cases ha
  ·simp only[Gh.at,h1,qI]at ha;subst ha;exact h9 o
 |loop st pe f m fr ps tag D=>obtain⟨B,tmps,DB,h1,_,_,_,_,h5⟩:=hb;simp only[Gh.at,h1,qI]at ha;subst ha;exact h5 o
 |dfr=>obtain⟨B,h1,_,h5⟩:=hb;simp only[Gh.at,h1,qI]at ha;subst ha;exact h5 o
 |it s p=>obtain⟨B,h1,_,h5⟩:=hb;simp only[Gh.at,h1,qI]at ha;subst ha;exact h5 o
 |dead=>cases ha
def db.gone{P:Program}{f:FuncId}{xs:List AV}{hp:List (Nat×ai)}{r:AV}
  (h:∀(w:World)(G:Gh)(vs:List Value),ci G hp w->al xs G vs->Calls P f vs.toArray w fun e w'=>∃v,e = .returned v/\ak r G v/\d9 (pi G hp) w w'):db P f xs hp r []:=by
 intro w G vs hm hr;refine(h w G vs hm hr).mono ?_;rintro e w' ⟨v,rfl,hv,hs⟩
 have hblk:∀b o v,G.imm b o=some v->w'.heap[b]? = w.heap[b]? := fun b o v hv=>hs.block b (World.block_lt_of_cell? _ _ (hm.agree b o v hv)) fun hb=>by
  rw[hm.blocks_none hb o]at hv;cases hv
 refine⟨v,G,rfl,⟨⟨fun b o v hv=>by rw[World.cell?_of_block (w:=w) (hblk b o v hv)];exact hm.agree b o v hv,hm.one,fun n bx h=>(by cases h),fun n m bx bx' b h=>(by cases h),LC.mono (fun _ _ _ h=>h) hblk hm.tab⟩,hs,fun _ _ _ h=>h,fun _ _ _ h => .inl h,fun n bx b h=>(by cases h),fun _ _ _ _ h=>h,fun _ _ _ _ h=>h⟩,hv⟩
end Go.Sym
set_option linter.unusedVariables false
namespace Go.Proofs.Repl
open Go.Shelf Go.RowKit Go.Lib Go.Sym
def la.setCell{R q n:Nat}{u:Int}{a b a1 a2 b1 b2:UInt8}{w:World}(h:la R a b a1 a2 b1 b2 w)(hq:w.cell? ⟨q,0,none⟩=some (.int .u32 u))(v:Value):la R a b a1 a2 b1 b2 (w.setCell ⟨q,n,none⟩ v):=by
 obtain⟨ga,gb,gt,ca,cb,ct,h1,h2,h3,h4,h5,h6,h7,h8⟩:=h.ex;have kR:¬R=q:=fun e=>by
  have:=h1 0;subst e;rw[show(0:UInt8).toNat=0 from rfl,hq]at this
  unfold rv at this;split at this
  ·cases this
  ·split at this<;>cases this
 have kt:¬gt=q:=fun e=>by subst e;rw[hq]at h3;cases h3
 have ka:¬ga=q:=fun e=>by subst e;rw[hq]at h5;cases h5
 have kb:¬gb=q:=fun e=>by subst e;rw[hq]at h7;cases h7
 have k:∀{p:Nat}{o:Nat}{x:Value},¬p=q->w.cell? ⟨p,o,none⟩=some x->(w.setCell ⟨q,n,none⟩ v).cell? ⟨p,o,none⟩=some x:=fun{p o x} hp hx=>by
  rw[World.cell?_of_block (w:=w) (Below.heap_setCell w ⟨q,n,none⟩ v p hp)];exact hx
 exact⟨ga,gb,gt,ca,cb,ct,fun c=>k kR (h1 c),k kR h2,k kt h3,k kt h4,k ka h5,k ka h6,k kb h7,k kb h8⟩
structure Once(q:Nat)(w w':World):Prop where
 bel:d9 (fun k=>k=q) w w'
 c0:w'.cell? ⟨q,0,none⟩=some (.int .u32 0)
 c1:w'.cell? ⟨q,0+1,none⟩=some (.int .i32 1)
 f0:w'.frozen? ⟨q,0,none⟩=false
 f1:w'.frozen? ⟨q,0+1,none⟩=false
def zm4(S:Nat->Prop)(w:World):d9 S w w.drew:=⟨rfl,rfl,rfl,wF _,fun _ _ _=>rfl⟩
def qzz{S:Nat->Prop}{w w':World}(h:Below w.heap.size w w'):d9 S w w':=⟨h.os,h.tape,h.output,h.size,fun k hk _=>h.block k hk⟩
def qjm{q:Nat}{w w':World}(h:d9 (fun k=>k=q) w w')(n:Nat)(v:Value):d9 (fun k=>k=q) w (w'.setCell ⟨q,n,none⟩ v):=
 ⟨h.os,h.tape,h.output,by simp[World.setCell];exact h.size,fun k hk hn=>(Below.heap_setCell w' ⟨q,n,none⟩ v k hn).trans (h.block k hk hn)⟩
def qz0{S:Nat->Prop}{a b c:World}(h:d9 S a b)(k:d9 S b c):d9 S a c:=
 ⟨k.os.trans h.os,k.tape.trans h.tape,k.output.trans h.output,Nat.le_trans h.size k.size,fun i hi hn=>(k.block i (Nat.lt_of_lt_of_le hi h.size) hn).trans (h.block i hi hn)⟩
set_option maxHeartbeats 1600000 in
def znc(q ro cap:Nat)(v3:Value)(a b a1 a2 b1 b2:UInt8)(w:World)(hab:a≠b)
  (c0:w.cell? ⟨q,0,none⟩=some (.int .u32 0)) (c1:w.cell? ⟨q,0+1,none⟩=some (.int .i32 1)) (hf:∀j,w.frozen? ⟨q,j,none⟩=false) (c3:w.cell? ⟨q,3,none⟩=some v3)
  (hc:w.cell? ⟨q,4,none⟩=some (.slice (some ⟨ro,0,none⟩) 4 cap)) (h0:w.cell? ⟨ro,0,none⟩=some (.string ⟨#[a]⟩)) (h1:w.cell? ⟨ro,1,none⟩=some (.string ⟨#[a1,a2]⟩)) (h2:w.cell? ⟨ro,2,none⟩=some (.string ⟨#[b]⟩)) (h3:w.cell? ⟨ro,3,none⟩=some (.string ⟨#[b1,b2]⟩)) :
  Calls Tryz.prog 161 #[.pointer (some ⟨q,0,none⟩)] w fun e w'=>e = .returned (.tuple #[])/\Once q w w'/\∃R,w'.cell? ⟨q,3,none⟩=some (.iface 255 (.pointer (some ⟨R,0,none⟩)))/\la R a b a1 a2 b1 b2 w':=by
 have hqlt:q<w.heap.size:=World.block_lt_of_cell? _ _ c0;have hB:=zm9 q ro cap a b a1 a2 b1 b2 w hab hc h0 h1 h2 h3
 go_enter Tryz.func161,Tryz.ntmps161
 go_wp2_with (go_at_call 185;go_must (refine hB.mono ?_;rintro e W ⟨R,rfl,hBu,hbe⟩;have k0:∀{j:Nat}{v:Value},w.cell? ⟨q,j,none⟩=some v->W.cell? ⟨q,j,none⟩=some v:=(fun hj=>(hbe.cell (World.block_lt_of_cell? _ _ hj)).trans hj);have kf:∀j,W.frozen? ⟨q,j,none⟩=false:=(fun j=>(hbe.frozen (p:=⟨q,j,none⟩) hqlt).trans (hf j));have d0:=k0 c0;have d1:=k0 c1;have d3:=k0 c3;have d4:=k0 hc;clear hB hf k0))
 have d0':(W.setCell ⟨q,3,none⟩ (.iface 255 (.pointer (some ⟨R,0,none⟩)))).cell? ⟨q,0,none⟩=some (.int .u32 0):=by rw[World.cell?_setCell_other _ _ _ _ (by simp)];exact d0
 have d1':(W.setCell ⟨q,3,none⟩ (.iface 255 (.pointer (some ⟨R,0,none⟩)))).cell? ⟨q,0+1,none⟩=some (.int .i32 1):=by rw[World.cell?_setCell_other _ _ _ _ (by simp)];exact d1
 have d3':=World.cell?_setCell_same W ⟨q,3,none⟩ (.iface 255 (.pointer (some ⟨R,0,none⟩))) d3
 go_end0
 refine⟨rfl,⟨qjm (qjm (qzz hbe) 3 _) 4 _,?_,?_,?_,?_⟩,R,?_,(hBu.setCell d0 _).setCell d0' _⟩
 ·rw[World.cell?_setCell_other _ _ _ _ (by simp)];exact d0'
 ·rw[World.cell?_setCell_other _ _ _ _ (by simp)];exact d1'
 ·simp[kf]
 ·simp[kf]
 ·rw[World.cell?_setCell_other _ _ _ _ (by simp)];exact d3'
def replS(q ro cap:Nat)(v3:Value)(a b a1 a2 b1 b2:UInt8)(s:ByteArray)(w:World)(hab:a≠b)(hs:s.size<=1000000)
  (c0:w.cell? ⟨q,0,none⟩=some (.int .u32 0)) (c1:w.cell? ⟨q,0+1,none⟩=some (.int .i32 0)) (hf:∀j,w.frozen? ⟨q,j,none⟩=false) (c3:w.cell? ⟨q,3,none⟩=some v3)
  (hc:w.cell? ⟨q,4,none⟩=some (.slice (some ⟨ro,0,none⟩) 4 cap)) (h0:w.cell? ⟨ro,0,none⟩=some (.string ⟨#[a]⟩)) (h1:w.cell? ⟨ro,1,none⟩=some (.string ⟨#[a1,a2]⟩)) (h2:w.cell? ⟨ro,2,none⟩=some (.string ⟨#[b]⟩)) (h3:w.cell? ⟨ro,3,none⟩=some (.string ⟨#[b1,b2]⟩)) :
  Calls Tryz.prog 127 #[.pointer (some ⟨q,0,none⟩),.string s] w fun e w'=>∃v,e = .returned v/\v = .string ⟨(eh a b [a1,a2] [b1,b2] s.data.toList).toArray⟩/\d9 (fun k=>k=q) w w':=by
 have hne:¬ro=q:=fun e=>by subst e;rw[c0]at h0;cases h0
 have k:∀{p:Addr}{x:Value},p≠⟨q,0+1,none⟩->w.cell? p=some x->(w.setCell ⟨q,0+1,none⟩ (.int .i32 1)).cell? p=some x:=fun{p x} hp hx=>by
  rw[World.cell?_setCell_other _ _ _ _ (fun e=>hp e.symm)];exact hx
 have kb:d9 (fun k=>k=q) w (w.setCell ⟨q,0+1,none⟩ (.int .i32 1)):=qjm (qzz (Below.refl _ _)) _ _
 refine Go.Proofs.YtiidadfafmcdmaaGreatDoor.Once.replaceS_first q s w (fun w'=>Once q (w.setCell ⟨q,0+1,none⟩ (.int .i32 1)) w'/\∃R,w'.cell? ⟨q,3,none⟩=some (.iface 255 (.pointer (some ⟨R,0,none⟩)))/\la R a b a1 a2 b1 b2 w') (fun v w'=>v = .string ⟨(eh a b [a1,a2] [b1,b2] s.data.toList).toArray⟩/\d9 (fun k=>k=q) w w') c0 c1 (hf _) (hf _) ?_ ?_ ?_
 ·exact znc q ro cap v3 a b a1 a2 b1 b2 _ hab (k (by simp) c0) (World.cell?_setCell_same w _ _ c1) (fun j=>by simp[hf]) (k (by simp) c3) (k (by simp) hc) (k (by intro h;exact hne (congrArg Addr.block h)) h0) (k (by intro h;exact hne (congrArg Addr.block h)) h1) (k (by intro h;exact hne (congrArg Addr.block h)) h2) (k (by intro h;exact hne (congrArg Addr.block h)) h3)
 ·rintro w' ⟨ho,_⟩
  exact⟨ho.c0,ho.f0,ho.c1,ho.f1⟩
 ·rintro w' ⟨ho,R,hR,hBu⟩
  refine⟨R,hR,?_⟩;have e0:w'.drew.cell? ⟨q,0,none⟩=some (.int .u32 0):=by rw[World.cell?_drew];exact ho.c0
  have e1:=World.cell?_setCell_same w'.drew ⟨q,0,none⟩ (.int .u32 1) e0;have hB2:la R a b a1 a2 b1 b2 ((w'.drew.setCell ⟨q,0,none⟩ (.int .u32 1)).setCell ⟨q,0+1,none⟩ (.int .i32 0)):=
   ((hBu.below (Below.refl _ w').drew).setCell e0 _).setCell e1 _
  have hBel:d9 (fun k=>k=q) w ((w'.drew.setCell ⟨q,0,none⟩ (.int .u32 1)).setCell ⟨q,0+1,none⟩ (.int .i32 0)):=
   qjm (qjm (qz0 (qz0 kb ho.bel) (zm4 _ _)) 0 _) (0+1) _
  refine(zng R a b a1 a2 b1 b2 s _ hab hs hB2).mono ?_;rintro e w2 ⟨rfl,hb2⟩
  exact⟨_,rfl,rfl,qz0 hBel (qzz hb2)⟩
end Go.Proofs.Repl
namespace Go.Sym
open Go.Proofs Go.RowKit
variable[LC]
def zuh(a b a1 a2 b1 b2:UInt8)(s:Bs)(p2:Int)(hab:a≠b)(hs:s.length<=1000000) :
  db Tryz.prog 127 [.ptr 0 0,.str s] [(0,.cells [.int .u32 0,.int .i32 0,.int .u32 p2,.val .nilIface,.own 1] 191),(1,.row .str [[a],[a1,a2],[b],[b1,b2]] 9)] (.str (eh a b [a1,a2] [b1,b2] s)) []:=by
 refine db.gone fun w G vs hm hr => ?_
 match vs,hr with
 |[v1,v2],hr=>
 obtain⟨⟨q,hG,rfl⟩,r2,_⟩:=hr;have r2:v2 = .string ⟨s.toArray⟩:=r2;subst r2;obtain⟨B,cs,g1,g2,g3,g4,g5⟩:=hm.holds 0 _ rfl;rw[show G.box 0=some q from hG]at g1
 cases g1
 obtain⟨ad,c,us,o1,o2,o3,o4⟩:=(hm.holds 1 (.row .str [[a],[a1,a2],[b],[b1,b2]] 9) rfl).rowAt;obtain⟨u0,c0,x0⟩:=kj g3 (i:=0) rfl;obtain⟨u1,c1,x1⟩:=kj g3 (i:=1) rfl;obtain⟨u3,c3,x3⟩:=kj g3 (i:=3) rfl;obtain⟨u4,c4,x4⟩:=kj g3 (i:=4) rfl;have x0:u0 = .int .u32 0:=x0;have x1:u1 = .int .i32 0:=x1;obtain⟨ad',n',c',x5,x4⟩:=x4;rw[o1]at x5;cases x5
 subst x0 x1 x4;have k:∀{i:Nat}{v:Value},cs.toList[i]? = some v->w.cell? ⟨q,i,none⟩=some v:=fun{i v} h=>cell_of_heap g2 h
 obtain⟨ho1,ho2⟩:=o2;rcases ho2 with⟨_,h0,_⟩|⟨g,vr,fz,rfl,e1,_,e3,e4,e5,e6,_⟩
 ·cases h0
 ·have hus:us=[.string ⟨#[a]⟩,.string ⟨#[a1,a2]⟩,.string ⟨#[b]⟩,.string ⟨#[b1,b2]⟩]:=by
   match us,o3 with
   |[y0,y1,y2,y3],⟨z0,z1,z2,z3,_⟩=>
    have z0:y0 = .string ⟨#[a]⟩:=z0;have z1:y1 = .string ⟨#[a1,a2]⟩:=z1;have z2:y2 = .string ⟨#[b]⟩:=z2;have z3:y3 = .string ⟨#[b1,b2]⟩:=z3;rw[z0,z1,z2,z3]
  have kr:∀{i:Nat}{v:Value},us[i]? = some v->w.cell? ⟨g,i,none⟩=some v:=fun{i v} h=>by
   rw[← e6,List.getElem?_take]at h;split at h
   ·exact cell_of_heap e1 h
   ·cases h
  subst hus;refine(Go.Proofs.Repl.replS q g c u3 a b a1 a2 b1 b2 ⟨s.toArray⟩ w hab (by rw[sx];exact hs) (k c0) (k c1) (fun j=>by simp[World.frozen?,g2]) (k c3) (k c4) (kr (i:=0) rfl) (kr (i:=1) rfl) (kr (i:=2) rfl) (kr (i:=3) rfl)).mono ?_
  rintro e w' ⟨v,rfl,rfl,hb⟩
  refine⟨_,rfl,rfl,⟨hb.os,hb.tape,hb.output,hb.size,fun k hk hn=>hb.block k hk (fun e=>hn ?_)⟩⟩
  subst e;exact⟨0,_,rfl,hG⟩
def ze0:IF:=⟨.fn 127,[.ptr 0 0,.h .str],[(0,.cells [.h (.int .u32),.h (.int .i32),.h (.int .u32),.c .nilIface,.own 1] 191),(1,.row .str 9)],_,RS.mk (.h .str) []⟩
def zui:(ze0.e vz).Sound Tryz.prog:=fun d d' r h=>by
 obtain⟨_,s,_⟩:=d;obtain⟨⟨p0,p1,p2,_,_,_⟩,on,_⟩:=d';have h:vz s p0 p1 p2 on=some r:=h;obtain⟨a,a1,a2,b,b1,b2,rfl,rfl,rfl,hab,hs,rfl⟩:=zul h;exact⟨Tryz.call127,zuh a b a1 a2 b1 b2 s p2 hab hs⟩
end Go.Sym
namespace Go.Sym
noncomputable section
open Go.Proofs
set_option linter.unusedVariables false
set_option maxRecDepth 100000
set_option maxHeartbeats 2000000
open Tryz
abbrev wT : Ty := .tree (.prod (.list (.prod .str .str)) (.list .byte))
abbrev wL : Ty := .list (.prod .str .str)
abbrev wP : Ty := .prod .str .str
abbrev wH : Pt := .h (.int .i64)
abbrev wI : Ty := .int .i64
abbrev wB : Ty := .list .byte
abbrev wN : Pt := .c .nilS
abbrev wS : Pt := .h .str
abbrev wG : Program := Tryz.prog
section
variable(fu:Nat)
def q1d:Nat->Option ((τ:Ty)×List τ.den)|1=>some ⟨.byte,qr8⟩|2=>some ⟨.prod .byte .byte,qr9⟩|3=>some ⟨.int .u64,zwu⟩|_=>none
def zq6:Nat->Option (Code×Code)|0=>some (lj 0 (sub (rq f10) [0,1,0,1,1]),lj 1 (sub (rq f10) [0,1,0,1,1]))|1=>some (lj 0 (sub (rq f10) [0,1,0,1,1,1,1]),lj 1 (sub (rq f10) [0,1,0,1,1,1,1]))|2=>some (lj 0 (sub (rq f84) [0,1,0,1,1,1]),lj 1 (sub (rq f84) [0,1,0,1,1,1]))|3=>some (lj 0 (sub (rq f96) [0,1,0,1]),lj 1 (sub (rq f96) [0,1,0,1]))|_=>none
instance:LC:=⟨zq6,q1d,[0],[6,7],[(1,256),(2,32),(3,20)]⟩
def Fx.fi{P:Program}{i:IF}(x:Fx P i)(f:i.T)(l:List (SL x))(hp:tz P x.f)(hk:i.key = .fn x.f:=by exact rfl)(hb:x.fn.body=some x.body:=by exact rfl)(hfine:qqm x.cx i.args i.hp=true:=by kernel_rfl)(h:∀d d',q3h x.cx x.body i.out (SL.qs l) i.args i.hp (Pts.put i.args d) (ch i.hp d')=app f (Pts.pk i.args d (gw i.hp d' py)):=by intro d d';kernel_rfl):EI P i:=x.fin f l hp hk hb hfine h
def Fx.jm{P:Program}{i:IF}{x:Fx P i}{k:Nat}(f:(kl k x.ls).T i.R)(l:List (SL x))(h:∀d,run x.cx i.out (SL.qs l) 1000000 false (ng x.body (kl k x.ls).1) ((kl k x.ls).2.st d)=app f (nf (kl k x.ls).2.fr d.1 (gw (kl k x.ls).2.hp d.2 ())):=by intro d;kernel_rfl):PL x k:=Fx.jn f l h
def Fx.lq{P:Program}{i:IF}{x:Fx P i}{k:Nat}(g:Nat->(kl k x.ls).T i.R)(b:(kl k x.ls).T i.R->(kl k x.ls).T i.R)(l:PL x k->List (SL x))(h0:∀d:(kl k x.ls).2.den,app (g 0) (nf (kl k x.ls).2.fr d.1 (gw (kl k x.ls).2.hp d.2 ()))=none:=by intro _;exact rfl)(hg:∀n,g (n+1)=b (g n):=by intro _;exact rfl)(h:∀r d,run x.cx i.out (SL.qs (l r)) 1000000 false (ng x.body (kl k x.ls).1) ((kl k x.ls).2.st d)=app (b r.f) (nf (kl k x.ls).2.fr d.1 (gw (kl k x.ls).2.hp d.2 ())):=by intro _ d;kernel_rfl)(n:Nat):PL x k:=Fx.lp g b h0 hg l h n
def zli:wG.follows .mixedOrders=true:=by kernel_rfl
def etys:List (Nat×Ty):=[(3,.int .i64),(5,.byte),(9,.str),(23,.list .byte),(26,.tree (.prod wL wB)),(50,.prod .str .str),(86,.prod .str .str),(149,.prod .str (.prod .str (.prod wI .bool))),(209,.prod .str (.prod wI (.prod .bool .str)))]
abbrev fx{i:IF}:=@Fx.mk inferInstance wG i etys zli
def zkv:(qv0 176 vn).Sound wG:=zku func176 (by kernel_rfl) (by kernel_rfl) (by kernel_rfl) (by kernel_rfl)
def zkt:(qvz 237 vn).Sound wG:=zks func237 (by kernel_rfl) (by kernel_rfl) (by kernel_rfl) (by kernel_rfl)
def x0i:IF:=⟨.fn 22,[],[],_,RS.mk (.h wT) []⟩
def x0:Fx wG x0i:=fx f22 22 func22 [] false [] ao []
def x0s:=x0.fi qvr [] call22
def x1i:IF:=⟨.fn 23,[.h wT],[],_,RS.mk (.fn 49 [.ptr 0 0]) [(0,.dat wT 26)]⟩
def x1:Fx wG x1i:=fx f23 23 func23 [] false [] ao []
def x1s:=x1.fi qn3 [] call23
def x2i:IF:=⟨.fn 24,[wH,wH],[],_,RS.mk (.h (.prod wI wI)) []⟩
def x2:Fx wG x2i:=fx f24 24 func24 [] false [] ao []
def kz:=x2.fi cw [] call24
def x3i:IF:=⟨.yld 0,[wH,.agg [.h wL,.h wB,.h (.list wT),wH]],[(0,.loop .ready none 10 36 [(2,.ptr 1 0),(3,.ptr 2 0)] [11,12] 0 3),(1,.dat (.prod wI wI) 30),(2,.cells [.h .bool] 4),(3,.dfr)],_,.two (RS.mk (.c (.bool false)) [(0,.loop .done (some .ret) 10 36 [(2,.ptr 1 0),(3,.ptr 2 0)] [11,12] 0 3),(1,.dat (.prod wI wI) 30),(2,.cells [.h .bool] 4),(3,.dfr)]) (RS.mk (.c (.bool true)) [(0,.loop .ready none 10 36 [(2,.ptr 1 0),(3,.ptr 2 0)] [11,12] 0 3),(1,.dat (.prod wI wI) 30),(2,.cells [.h .bool] 4),(3,.dfr)])⟩
def x3:Fx wG x3i:=fx f10 10 func10 [kz.p] false [([0,1,0,1,1],0)] (xn rfl ao) []
def x3s:EI wG x3i:=x3.fiy qw0 [] 0 rfl [0,1,0,1,1] (by kernel_rfl) (by kernel_rfl) fun d d'=>by kernel_rfl
def x4i:IF:=⟨.fn 50,[.h wT,wH,.ptr 0 0,.ptr 1 0,.ptr 2 0],[(0,.cells [.yld 3] 92),(1,.cells [wH] 3),(2,.cells [.fn 50 [.ptr 0 0,.ptr 1 0,.ptr 2 0]] 93),(3,.loop .ready none 10 36 [(2,.ptr 4 0),(3,.ptr 5 0)] [11,12] 0 6),(4,.dat (.prod wI wI) 30),(5,.cells [.h .bool] 4),(6,.dfr)],_,.two (RS.mk (.c (.bool false)) [(0,.cells [.yld 3] 92),(1,.cells [wH] 3),(2,.cells [.fn 50 [.ptr 0 0,.ptr 1 0,.ptr 2 0]] 93),(3,.loop .done (some .ret) 10 36 [(2,.ptr 4 0),(3,.ptr 5 0)] [11,12] 0 6),(4,.dat (.prod wI wI) 30),(5,.cells [.h .bool] 4),(6,.dfr)]) (RS.mk (.c (.bool true)) [(0,.cells [.yld 3] 92),(1,.cells [wH] 3),(2,.cells [.fn 50 [.ptr 0 0,.ptr 1 0,.ptr 2 0]] 93),(3,.loop .ready none 10 36 [(2,.ptr 4 0),(3,.ptr 5 0)] [11,12] 0 6),(4,.dat (.prod wI wI) 30),(5,.cells [.h .bool] 4),(6,.dfr)])⟩
def x4(s8:EI wG x4i)(fu:Nat):Fx wG x4i:=fx f50 50 func50 [x3s.p,s8.p] false [] ao [(ah [(0,488),(0,489),(2,122),(1,61),(0,31)],⟨33,[(1,wH),(4,.ptr 2 0),(20,.h (.list wT)),(21,wH),(22,wH)],[(0,.cells [.yld 3] 92),(1,.cells [wH] 3),(2,.cells [.fn 50 [.ptr 0 0,.ptr 1 0,.ptr 2 0]] 93),(3,.loop .ready none 10 36 [(2,.ptr 4 0),(3,.ptr 5 0)] [11,12] 0 6),(4,.dat (.prod wI wI) 30),(5,.cells [.h .bool] 4),(6,.dfr)],64,[]⟩)]
def ve9(s8:EI wG x4i)(fu:Nat):Nat->(x4 s8 fu).L 0:=Fx.lq (qij s8.f fu) (qw3 s8.f fu) (fun r0=>[r0.s])
def x4k(s8:EI wG x4i)(fu:Nat):EI wG x4i:=(x4 s8 fu).fi (qn5 s8.f fu) [(ve9 s8 fu fu).s] call50
def x4s:EI wG x4i := .rc (qcy fu) (fun r=>qn5 r fu) (fun _ _=>rfl) (fun _=>rfl) (fun s8=>x4k s8 fu) (fun _=>rfl) fu
def x5i:IF:=⟨.fn 49,[.yld 0,.ptr 1 0],[(0,.loop .ready none 10 36 [(2,.ptr 2 0),(3,.ptr 3 0)] [11,12] 0 4),(1,.dat wT 26),(2,.dat (.prod wI wI) 30),(3,.cells [.h .bool] 4),(4,.dfr)],_,.two (RS.mk (.tup []) [(0,.loop .done (some .ret) 10 36 [(2,.ptr 2 0),(3,.ptr 3 0)] [11,12] 0 4),(1,.dat wT 26),(2,.dat (.prod wI wI) 30),(3,.cells [.h .bool] 4),(4,.dfr)]) (RS.mk (.tup []) [(0,.loop .ready none 10 36 [(2,.ptr 2 0),(3,.ptr 3 0)] [11,12] 0 4),(1,.dat wT 26),(2,.dat (.prod wI wI) 30),(3,.cells [.h .bool] 4),(4,.dfr)])⟩
def x5:Fx wG x5i:=fx f49 49 func49 [(x4s fu).p] false [] ao []
def x5s:=(x5 fu).fi (qn4 fu) [] call49
def x6i:IF:=⟨.fn 145,[.h .byte],[],_,RS.mk (.h .bool) []⟩
def x6:Fx wG x6i:=fx f145 145 func145 [] false [] ao []
def x6s:=x6.fi qnh [] call145
def x7i:IF:=⟨.fn 117,[wS,.fn 145 []],[],_,RS.mk (.h .bool) []⟩
def x7(fu:Nat):Fx wG x7i:=fx f117 117 func117 [x6s.p] false [] ao [(ah [(0,104),(0,105),(2,26),(1,13),(0,7)],⟨18,[(0,wS),(1,.fn 145 []),(7,wH),(8,wH)],[],64,[]⟩)]
def viq:Nat->(x7 fu).L 0:=Fx.lq (qhd fu) (qvu fu) (fun r0=>[r0.s])
def x7s:=(x7 fu).fi (qvt fu) [(viq fu fu).s] call117
def x8i:IF:=⟨.fn 113,[wS],[],_,RS.mk (.h .bool) []⟩
def x8:Fx wG x8i:=fx f113 113 func113 [(x7s fu).p] false [] ao []
def x8s:=(x8 fu).fi (qng fu) [] call113
def x9i:IF:=⟨.fn 225,[wH],[],_,RS.mk (.h .bool) []⟩
def x9:Fx wG x9i:=fx f225 225 func225 [] false [] ao []
def x9s:=x9.fi qyc [] call225
def zy7:IF:=⟨.fn 155,[wS],[],_,RS.mk (.tup [.arr .bool,.h .bool]) []⟩
def x10(fu:Nat):Fx wG zy7:=fx f155 155 func155 [] false [] ao [(ah [(0,208),(0,209),(0,105),(2,26),(1,13),(0,7)],⟨21,[(0,wS),(2,.el 32 1),(4,wH)],[(32,.row .bool 194)],64,[]⟩)]
def zy8:Nat->(x10 fu).L 0:=Fx.lq (qyb fu) (q8k fu) (fun r0=>[r0.s])
def qso:=(x10 fu).fi (qc2 fu) [(zy8 fu fu).s] call155
def zz2:IF:=⟨.fn 216,[wS,.h .byte],[],_,RS.mk (wH) []⟩
def x11:Fx wG zz2:=fx f216 216 func216 [⟨qvz 237 vn,zkt⟩] false [] ao []
def zhw:=x11.fi qht [] call216
def z0v:IF:=⟨.fn 191,[wS,.h .byte],[],_,RS.mk (wH) []⟩
def x12:Fx wG z0v:=fx f191 191 func191 [zhw.p] false [] ao []
def zh2:=x12.fi qir [] call191
def z14:IF:=⟨.fn 228,[.h (.int .i32)],[],_,RS.mk (.h .bool) []⟩
def x13:Fx wG z14:=fx f228 228 func228 [] false [] ao []
def z15:=x13.fi qox [] call228
def z2y:IF:=⟨.fn 203,[wS,.h (.int .i32)],[],_,RS.mk (wH) []⟩
def qr(fu:Nat):Fx wG z2y:=fx f203 203 func203 [zh2.p,z15.p] false [] ao [(ah [(0,3528),(0,3529),(2,882),(1,441),(0,221),(1,3)],⟨187,[(175,.ptr 32 0)],[(32,.it)],64,[]⟩),(ah [(0,117301840),(0,117301841),(0,58650921),(2,14662730),(1,7331365),(0,3665683),(3,458210),(1,229105),(2,57276),(1,28638),(0,28639),(3,447),(1,3)],⟨187,[(0,wS),(7,wS),(8,wH),(9,wH),(12,wH)],[],64,[]⟩),(ah [(0,7331364),(0,7331365),(0,3665683),(3,458210),(1,229105),(2,57276),(1,28638),(0,28639),(3,447),(1,3)],⟨187,[(0,wS),(7,wS),(8,wH),(9,wH)],[],64,[]⟩),(ah [(0,458208),(0,458209),(0,229105),(2,57276),(1,28638),(0,28639),(3,447),(1,3)],⟨187,[(0,wS),(7,wS),(8,wH),(9,wH)],[],64,[]⟩),(ah [(0,13),(1,3)],⟨187,[(0,wS),(1,.h (.int .i32)),(160,.h .bool)],[],64,[]⟩)]
def z23:Nat->(qr fu).L 0:=Fx.lq (qit fu) (qxt fu) (fun r1=>[r1.s])
def z27(r2:(qr fu).L 3):Nat->(qr fu).L 1:=Fx.lq (qxw fu r2.f) (q8c fu r2.f) (fun r4=>[r4.s])
def z26(r2:(qr fu).L 3):(qr fu).L 2:=Fx.jm (qxv fu r2.f) [(z27 fu r2 fu).s]
def z24:Nat->(qr fu).L 3:=Fx.lq (qoo fu) (qxu fu) (fun r2=>[(z26 fu r2).s])
def z2z:(qr fu).L 4:=Fx.jm (qis fu) [(z23 fu fu).s,(z24 fu fu).s]
def zig:=(qr fu).fi (v7 fu) [(z2z fu).s] call203
def z4f:IF:=⟨.fn 179,[.el 0 1,.h .byte],[(0,.row .bool 194)],_,RS.mk (.h .bool) [(0,.row .bool 194)]⟩
def x15:Fx wG z4f:=fx f179 179 func179 [] false [] ao []
def q5h:=x15.fi qc1 [] call179
def z5p:IF:=⟨.fn 200,[wS,wS],[],_,RS.mk (wH) []⟩
def x16:Fx wG z5p:=fx f200 200 func200 [x9s.p,(qso fu).p,(zig fu).p,q5h.p] false [] ao [(ah [(0,470),(0,471),(0,15)],⟨55,[(0,wS),(5,.h (.int .i32))],[],64,[]⟩),(ah [(0,62864),(0,62865),(0,31433),(2,7858),(1,3929),(0,1965),(0,31)],⟨55,[(0,wS),(6,.el 32 1),(8,wH)],[(32,.row .bool 194)],64,[]⟩),(ah [(0,1000),(0,1001),(2,250),(1,125),(0,63)],⟨55,[(1,wS),(45,.ptr 32 0)],[(32,.it)],64,[]⟩),(ah [(0,124),(0,125),(0,63)],⟨55,[(0,wS),(1,wS)],[],64,[]⟩)]
def z5q:(x16 fu).L 0:=Fx.jm (qxs fu) []
def z5r:Nat->(x16 fu).L 1:=Fx.lq (qip fu) (qxq fu) (fun r1=>[r1.s])
def z5t:Nat->(x16 fu).L 2:=Fx.lq (qiq fu) (qxr fu) (fun r3=>[r3.s])
def z5s:(x16 fu).L 3:=Fx.jm (qon fu) [(z5t fu fu).s]
def z5u:=(x16 fu).fi (qom fu) [(z5q fu).s,(z5r fu fu).s,(z5s fu).s] call200
def z8k:IF:=⟨.fn 175,[wS,wS],[],_,RS.mk (.h .bool) []⟩
def x17:Fx wG z8k:=fx f175 175 func175 [(z5u fu).p] false [] ao []
def z8l:=(x17 fu).fi (qoi fu) [] call175
def z99:IF:=⟨.fn 146,[wS],[],_,RS.mk (.h .bool) []⟩
def x18:Fx wG z99:=fx f146 146 func146 [(z8l fu).p] false [] ao []
def vaa:=(x18 fu).fi (qv5 fu) [] call146
def vb0:IF:=⟨.fn 123,[.h .byte],[],_,RS.mk (.h .bool) []⟩
def x19:Fx wG vb0:=fx f123 123 func123 [] false [] ao []
def q55:=x19.fi vm [] call123
def vb4:IF:=⟨.fn 114,[wS],[],_,RS.mk (.h .bool) []⟩
def x20:Fx wG vb4:=fx f114 114 func114 [(vaa fu).p,q55.p] false [] ao []
def vb5:=(x20 fu).fi (qnk fu) [] call114
def vb6:IF:=⟨.fn 115,[wS,wH],[],_,RS.mk (wH) []⟩
def x21(fu:Nat):Fx wG vb6:=fx f115 115 func115 [q55.p] false [] ao [(ah [(0,3729),(0,1865),(1,466),(0,467),(2,58),(1,29),(0,15)],⟨35,[(0,wS),(5,wH),(6,wH),(26,.h .bool)],[],64,[]⟩),(ah [(0,464),(0,465),(0,233),(2,58),(1,29),(0,15)],⟨35,[(0,wS),(5,wH),(6,wH)],[],64,[]⟩)]
def vb8(r0:(x21 fu).L 1):(x21 fu).L 0:=Fx.jm (qnj fu r0.f) [r0.s]
def vb7:Nat->(x21 fu).L 1:=Fx.lq (qhm fu) (qv6 fu) (fun r0=>[(vb8 fu r0).s])
def vb9:=(x21 fu).fi (qni fu) [(vb7 fu fu).s] call115
def vcc:IF:=⟨.fn 26,[],[],_,RS.mk (.h (.prod wI wI)) []⟩
def x22:Fx wG vcc:=fx f26 26 func26 [] false [] ao []
def oz:=x22.fi gq [] call26
def vcd:IF:=⟨.fn 80,[wS,wS],[],_,RS.mk (.tup [.own 0,.h (.prod wI wI)]) [(0,.row .str 9)]⟩
def x23:Fx wG vcd:=fx f80 80 func80 [(x8s fu).p,kz.p,(vb5 fu).p,(vb9 fu).p,oz.p] false [] ao [(ah [(0,4072),(0,4073),(2,1018),(1,509),(0,255)],⟨70,[(5,.ptr 32 0),(8,.own 33),(55,.own 33),(56,wH),(57,wH)],[(32,.dat (.prod wI wI) 30),(33,.row .str 9)],64,[]⟩),(ah [(0,126),(0,127)],⟨70,[(5,.ptr 32 0),(6,wS),(8,.own 33)],[(32,.dat (.prod wI wI) 30),(33,.row .str 9)],64,[]⟩),(ah [(0,992),(0,993),(0,497),(2,124),(1,62),(0,63)],⟨70,[(5,.ptr 32 0),(6,wS),(7,wH),(8,.own 33)],[(32,.dat (.prod wI wI) 30),(33,.row .str 9)],64,[]⟩)]
def vcg:Nat->(x23 fu).L 0:=Fx.lq (qhl fu) (qv4 fu) (fun r2=>[r2.s])
def vcf:(x23 fu).L 1:=Fx.jm (qhk fu) [(vcg fu fu).s]
def vce:Nat->(x23 fu).L 2:=Fx.lq (qhj fu) (qv3 fu) (fun r0=>[(vcf fu).s,r0.s])
def qtb:=(x23 fu).fi (zb fu) [(vce fu fu).s] call80
def vcj:IF:=⟨.fn 29,[.h (.prod wI wI)],[],_,RS.mk (.h .bool) []⟩
def x24:Fx wG vcj:=fx f29 29 func29 [] false [] ao []
def mf:=x24.fi ew [] call29
def vck:IF:=⟨.fn 51,[.h wL],[],_,RS.mk (.h (.prod wI wI)) []⟩
def x25:Fx wG vck:=fx f51 51 func51 [kz.p,(qtb fu).p,mf.p,oz.p] false [] ao [(ah [(0,232),(0,233),(2,58),(1,29),(0,15)],⟨34,[(2,.ptr 32 0),(11,.h wL),(12,wH),(13,wH)],[(32,.dat (.prod wI wI) 30)],64,[]⟩)]
def vcl:Nat->(x25 fu).L 0:=Fx.lq (qhq fu) (qv9 fu) (fun r0=>[r0.s])
def zji:=(x25 fu).fi (qhp fu) [(vcl fu fu).s] call51
def vcm:IF:=⟨.fn 116,[wS],[],_,RS.mk (wS) []⟩
def x26(fu:Nat):Fx wG vcm:=fx f116 116 func116 [] false [] ao [(ah [(0,232),(0,233),(2,58),(1,29),(0,15)],⟨30,[(3,.own 32),(8,.own 32),(9,wH),(10,wH)],[(32,.row .byte 5)],64,[]⟩)]
def vcn:Nat->(x26 fu).L 0:=Fx.lq (qci fu) (qnd fu) (fun r0=>[r0.s])
def vco:=(x26 fu).fi (qhh fu) [(vcn fu fu).s] call116
def vcq:IF:=⟨.fn 81,[wS,wS],[],_,RS.mk (.h .bool) []⟩
def x27:Fx wG vcq:=fx f81 81 func81 [(vco fu).p] false [] ao []
def ye:=(x27 fu).fi (ld fu) [] call81
def vcr:IF:=⟨.fn 153,[wS,.h .byte],[],_,RS.mk (wS) []⟩
def x28(fu:Nat):Fx wG vcr:=fx f153 153 func153 [] false [] ao [(ah [(0,96),(0,97),(0,49),(2,12),(1,6),(0,7)],⟨17,[(0,wS),(1,.h .byte)],[],64,[]⟩)]
def vcs:Nat->(x28 fu).L 0:=Fx.lq (qyf fu) (q8l fu) (fun r0=>[r0.s])
def zjl:=(x28 fu).fi (qye fu) [(vcs fu fu).s] call153
def vct:IF:=⟨.fn 156,[wS,.el 0 1],[(0,.row .bool 194)],_,RS.mk (wS) [(0,.row .bool 194)]⟩
def x29(fu:Nat):Fx wG vct:=fx f156 156 func156 [q5h.p] false [] ao [(ah [(0,96),(0,97),(0,49),(2,12),(1,6),(0,7)],⟨16,[(0,wS),(1,.el 0 1)],[(0,.row .bool 194)],64,[]⟩)]
def vcu:Nat->(x29 fu).L 0:=Fx.lq (qi2 fu) (qyd fu) (fun r0=>[r0.s])
def zjn:=(x29 fu).fi (qi1 fu) [(vcu fu fu).s] call156
def vcw:IF:=⟨.fn 202,[wS],[],_,RS.mk (.tup [.h (.int .i32),wH]) []⟩
def x30:Fx wG vcw:=fx f202 202 func202 [] false [] ao [(ah [(0,524286),(0,524287)],⟨117,[(5,.h .byte),(10,.h .byte),(11,.h .byte),(12,.h .byte)],[],64,[]⟩),(ah [(0,524285),(0,262143)],⟨117,[(5,.h .byte),(10,.h .byte),(11,.h .byte),(12,.h .byte),(98,.h .bool)],[],64,[]⟩),(ah [(0,131068),(0,131069),(0,65535)],⟨117,[(0,wS),(5,.h .byte),(8,wH),(10,.h .byte),(11,.h .byte)],[],64,[]⟩),(ah [(0,65533),(0,32767)],⟨117,[(0,wS),(5,.h .byte),(8,wH),(10,.h .byte),(11,.h .byte),(75,.h .bool)],[],64,[]⟩),(ah [(0,16380),(0,16381),(0,8191)],⟨117,[(0,wS),(5,.h .byte),(8,wH),(10,.h .byte)],[],64,[]⟩),(ah [(0,8189),(0,4095)],⟨117,[(0,wS),(5,.h .byte),(8,wH),(10,.h .byte),(57,.h .bool)],[],64,[]⟩)]
def vc2:x30.L 0:=Fx.jn q8u [] fun d=>by kernel_rfl
def vc1:x30.L 1:=Fx.jn qyu [(vc2).s] fun d=>by kernel_rfl
def vc0:x30.L 2:=Fx.jn q8t [(vc1).s] fun d=>by kernel_rfl
def vcz:x30.L 3:=Fx.jn qyt [(vc0).s] fun d=>by kernel_rfl
def vcy:x30.L 4:=Fx.jn q8s [(vcz).s] fun d=>by kernel_rfl
def vcx:x30.L 5:=Fx.jn qys [(vcy).s] fun d=>by kernel_rfl
def vc3:=x30.fi qyr [(vcx).s] call202
def vdb:IF:=⟨.fn 180,[wS],[],_,RS.mk (.tup [.h (.int .i32),wH]) []⟩
def x31:Fx wG vdb:=fx f180 180 func180 [vc3.p] false [] ao []
def zjo:=x31.fi qyq [] call180
def vdd:IF:=⟨.fn 181,[wS,.h (.int .i32)],[],_,RS.mk (.h .bool) []⟩
def x32:Fx wG vdd:=fx f181 181 func181 [(zig fu).p] false [] ao []
def zjp:=(x32 fu).fi (qoj fu) [] call181
def vde:IF:=⟨.fn 158,[wS,wS],[],_,RS.mk (wS) []⟩
def x33:Fx wG vde:=fx f158 158 func158 [zjo.p,(zjp fu).p] false [] ao [(ah [(0,96),(0,97),(0,49),(2,12),(1,6),(0,7)],⟨23,[(0,wS),(1,wS)],[],64,[]⟩)]
def vdf:Nat->(x33 fu).L 0:=Fx.lq (qyh fu) (q8m fu) (fun r0=>[r0.s])
def zjr:=(x33 fu).fi (qyg fu) [(vdf fu fu).s] call158
def vdg:IF:=⟨.fn 196,[wS,wS],[],_,RS.mk (wS) []⟩
def x34:Fx wG vdg:=fx f196 196 func196 [(zjl fu).p,(qso fu).p,(zjn fu).p,(zjr fu).p] false [] ao [(ah [(0,60),(0,61),(0,31)],⟨37,[(0,wS),(1,wS)],[],64,[]⟩),(ah [(0,29),(0,15)],⟨37,[(0,wS),(1,wS),(21,.h .bool)],[],64,[]⟩),(ah [(0,28),(0,29),(0,15)],⟨37,[(0,wS),(1,wS)],[],64,[]⟩),(ah [(0,13),(0,7)],⟨37,[(0,wS),(1,wS),(12,.h .bool)],[],64,[]⟩)]
def vdk:(x34 fu).L 0:=Fx.jm (qx4 fu) []
def vdj:(x34 fu).L 1:=Fx.jm (qos fu) [(vdk fu).s]
def vdi:(x34 fu).L 2:=Fx.jm (qx3 fu) [(vdj fu).s]
def vdh:(x34 fu).L 3:=Fx.jm (qor fu) [(vdi fu).s]
def vdl:=(x34 fu).fi (qoq fu) [(vdh fu).s] call196
def vdr:IF:=⟨.fn 171,[.ptr 0 0],[(0,.cells [wS] 205)],_,RS.mk (.tup []) [(0,.cells [wS] 205)]⟩
def x35:Fx wG vdr:=fx f171 171 func171 [(vdl fu).p] false [] ao []
def qlw:=(x35 fu).fi (vv fu) [] call171
def vdt:IF:=⟨.fn 168,[.h .byte],[],_,RS.mk (.h .bool) []⟩
def x36:Fx wG vdt:=fx f168 168 func168 [zh2.p] false [] ao []
def qlx:=x36.fi o8 [] call168
def vdu:IF:=⟨.fn 167,[.ptr 0 0,.fn 168 []],[(0,.cells [wS] 205)],_,RS.mk (wS) [(0,.cells [wS] 205)]⟩
def x37:Fx wG vdu:=fx f167 167 func167 [(qlw fu).p,qlx.p] false [] ao [(ah [(0,482),(1,241),(2,60),(1,30),(0,31)],⟨44,[(0,.ptr 0 0),(1,.fn 168 []),(5,wH)],[(0,.cells [wS] 205)],64,[]⟩),(ah [(0,481),(0,241),(2,60),(1,30),(0,31)],⟨44,[(0,.ptr 0 0),(1,.fn 168 []),(5,wH),(25,.h .bool)],[(0,.cells [wS] 205)],64,[]⟩),(ah [(0,480),(0,481),(0,241),(2,60),(1,30),(0,31)],⟨44,[(0,.ptr 0 0),(1,.fn 168 []),(5,wH)],[(0,.cells [wS] 205)],64,[]⟩)]
def vdx(r0:(x37 fu).L 2):(x37 fu).L 0:=Fx.jm (q7h fu r0.f) [r0.s]
def vdw(r0:(x37 fu).L 2):(x37 fu).L 1:=Fx.jm (qwp fu r0.f) [(vdx fu r0).s]
def vdv:Nat->(x37 fu).L 2:=Fx.lq (qia fu) (q7g fu) (fun r0=>[(vdw fu r0).s])
def vdy:=(x37 fu).fi (qh9 fu) [(vdv fu fu).s] call167
def vd2:IF:=⟨.fn 169,[.ptr 0 0,.h .byte],[(0,.cells [wS] 205)],_,RS.mk (.h .bool) [(0,.cells [wS] 205)]⟩
def x38:Fx wG vd2:=fx f169 169 func169 [(qlw fu).p] false [] ao []
def q6d:=(x38 fu).fi (zg fu) [] call169
def vd4:IF:=⟨.fn 192,[.h .byte],[],_,RS.mk (.h .bool) []⟩
def x39:Fx wG vd4:=fx f192 192 func192 [qlx.p] false [] ao []
def vd5:=x39.fi qh8 [] call192
def vd7:IF:=⟨.fn 167,[.ptr 0 0,.fn 192 []],[(0,.cells [wS] 205)],_,RS.mk (wS) [(0,.cells [wS] 205)]⟩
def x40:Fx wG vd7:=fx f167 167 func167 [(qlw fu).p,vd5.p] false [] ao [(ah [(0,482),(1,241),(2,60),(1,30),(0,31)],⟨44,[(0,.ptr 0 0),(1,.fn 192 []),(5,wH)],[(0,.cells [wS] 205)],64,[]⟩),(ah [(0,481),(0,241),(2,60),(1,30),(0,31)],⟨44,[(0,.ptr 0 0),(1,.fn 192 []),(5,wH),(25,.h .bool)],[(0,.cells [wS] 205)],64,[]⟩),(ah [(0,480),(0,481),(0,241),(2,60),(1,30),(0,31)],⟨44,[(0,.ptr 0 0),(1,.fn 192 []),(5,wH)],[(0,.cells [wS] 205)],64,[]⟩)]
def vea(r0:(x40 fu).L 2):(x40 fu).L 0:=Fx.jm (q7j fu r0.f) [r0.s]
def vd9(r0:(x40 fu).L 2):(x40 fu).L 1:=Fx.jm (qwq fu r0.f) [(vea fu r0).s]
def vd8:Nat->(x40 fu).L 2:=Fx.lq (qib fu) (q7i fu) (fun r0=>[(vd9 fu r0).s])
def veb:=(x40 fu).fi (qnv fu) [(vd8 fu fu).s] call167
def vef:IF:=⟨.fn 217,[.h .byte],[],_,RS.mk (.h .bool) []⟩
def x41:Fx wG vef:=fx f217 217 func217 [qlx.p] false [] ao []
def veg:=x41.fi qid [] call217
def veh:IF:=⟨.fn 167,[.ptr 0 0,.fn 217 []],[(0,.cells [wS] 205)],_,RS.mk (wS) [(0,.cells [wS] 205)]⟩
def x42:Fx wG veh:=fx f167 167 func167 [(qlw fu).p,veg.p] false [] ao [(ah [(0,482),(1,241),(2,60),(1,30),(0,31)],⟨44,[(0,.ptr 0 0),(1,.fn 217 []),(5,wH)],[(0,.cells [wS] 205)],64,[]⟩),(ah [(0,481),(0,241),(2,60),(1,30),(0,31)],⟨44,[(0,.ptr 0 0),(1,.fn 217 []),(5,wH),(25,.h .bool)],[(0,.cells [wS] 205)],64,[]⟩),(ah [(0,480),(0,481),(0,241),(2,60),(1,30),(0,31)],⟨44,[(0,.ptr 0 0),(1,.fn 217 []),(5,wH)],[(0,.cells [wS] 205)],64,[]⟩)]
def vek(r0:(x42 fu).L 2):(x42 fu).L 0:=Fx.jm (q7l fu r0.f) [r0.s]
def vej(r0:(x42 fu).L 2):(x42 fu).L 1:=Fx.jm (qwr fu r0.f) [(vek fu r0).s]
def vei:Nat->(x42 fu).L 2:=Fx.lq (qic fu) (q7k fu) (fun r0=>[(vej fu r0).s])
def vel:=(x42 fu).fi (qnw fu) [(vei fu fu).s] call167
def veo:IF:=⟨.fn 193,[.ptr 0 0],[(0,.cells [wS] 205)],_,RS.mk (.tup [wS,.h .bool]) [(0,.cells [wS] 205)]⟩
def x43:Fx wG veo:=fx f193 193 func193 [(q6d fu).p,(vel fu).p] false [] ao [(ah [(0,976),(0,977),(0,489),(2,122),(1,61),(0,31)],⟨66,[(0,.ptr 0 0),(4,.own 32),(5,wH)],[(0,.cells [wS] 205),(32,.row .byte 5)],64,[]⟩)]
def vep:Nat->(x43 fu).L 0:=Fx.lq (qie fu) (qws fu) (fun r0=>[r0.s])
def veq:=(x43 fu).fi (qnx fu) [(vep fu fu).s] call193
def ver:IF:=⟨.fn 201,[wS,wS],[],_,RS.mk (wH) []⟩
def x44:Fx wG ver:=fx f201 201 func201 [zhw.p] false [] ao [(ah [(0,57),(1,14),(0,15)],⟨143,[(0,wS),(1,wS),(5,wH),(16,.h .bool)],[],64,[]⟩)]
def ves:x44.L 0:=Fx.jn qcl [] fun d=>by kernel_rfl
def vet:=x44.fi qck [(ves).s] call201
def vew:IF:=⟨.fn 178,[wS,wS],[],_,RS.mk (.tup [wS,wS,.h .bool]) []⟩
def x45:Fx wG vew:=fx f178 178 func178 [vet.p] false [] ao []
def vex:=x45.fi qhr [] call178
def vez:IF:=⟨.fn 151,[wS,wS],[],_,RS.mk (.tup [wS,wS,.h .bool]) []⟩
def x46:Fx wG vez:=fx f151 151 func151 [vex.p] false [] ao []
def zjv:=x46.fi tx [] call151
def ve1:IF:=⟨.fn 147,[wS,wS],[],_,RS.mk (.h .bool) []⟩
def x47:Fx wG ve1:=fx f147 147 func147 [] false [] ao []
def zjw:=x47.fi qhs [] call147
def ve3:IF:=⟨.fn 218,[wS,wS],[],_,RS.mk (.tup [wS,.h .bool]) []⟩
def x48:Fx wG ve3:=fx f218 218 func218 [zjw.p] false [] ao []
def ve4:=x48.fi qwa [] call218
def ve6:IF:=⟨.fn 194,[wS,wS],[],_,RS.mk (.tup [wS,.h .bool]) []⟩
def x49:Fx wG ve6:=fx f194 194 func194 [ve4.p] false [] ao []
def ve7:=x49.fi qok [] call194
def q2w:LC.glob 3=some ⟨.int .u64,Lib.pow10Tab⟩:=rfl
def q2x:(3,20)∈LC.sizes:=by decide
def vfc:IF:=⟨.fn 170,[.ptr 0 0],[(0,.cells [wS] 205)],_,RS.mk (.tup [.h (.prod .str (.prod wI (.prod .bool .str))),.h .bool]) [(0,.cells [wS] 205)]⟩
def x50:Fx wG vfc:=fx f170 170 func170 [(veb fu).p,(q6d fu).p,(veq fu).p,zjv.p,ve7.p,⟨zds.e za,zsa q2w q2x (by decide) (by decide)⟩] false [] ao []
def vfd:=(x50 fu).fi (qnu fu) [] call170
def vff:IF:=⟨.fn 197,[.h (.prod .str (.prod wI (.prod .bool .str))),.ptr 0 0],[(0,.dat (.prod .str (.prod wI (.prod .bool .str))) 209)],_,RS.mk (.h .bool) [(0,.dat (.prod .str (.prod wI (.prod .bool .str))) 209)]⟩
def x51:Fx wG vff:=fx f197 197 func197 [(ye fu).p] false [] ao []
def zjx:=(x51 fu).fi (qh2 fu) [] call197
def vfg:IF:=⟨.fn 220,[.h (.list (.prod .str (.prod wI (.prod .bool .str)))),.fn 197 [.ptr 0 0]],[(0,.dat (.prod .str (.prod wI (.prod .bool .str))) 209)],_,RS.mk (wH) [(0,.dat (.prod .str (.prod wI (.prod .bool .str))) 209)]⟩
def x52:Fx wG vfg:=fx f220 220 func220 [(zjx fu).p] false [] ao [(ah [(0,104),(0,105),(2,26),(1,13),(0,7)],⟨19,[(0,.h (.list (.prod .str (.prod wI (.prod .bool .str))))),(1,.fn 197 [.ptr 0 0]),(7,wH),(8,wH)],[(0,.dat (.prod .str (.prod wI (.prod .bool .str))) 209)],64,[]⟩)]
def vfh:Nat->(x52 fu).L 0:=Fx.lq (qio fu) (qxp fu) (fun r0=>[r0.s])
def vfi:=(x52 fu).fi (qxo fu) [(vfh fu fu).s] call220
def vfk:IF:=⟨.fn 198,[.h (.list (.prod .str (.prod wI (.prod .bool .str)))),.fn 197 [.ptr 0 0]],[(0,.dat (.prod .str (.prod wI (.prod .bool .str))) 209)],_,RS.mk (.h .bool) [(0,.dat (.prod .str (.prod wI (.prod .bool .str))) 209)]⟩
def x53:Fx wG vfk:=fx f198 198 func198 [(vfi fu).p] false [] ao []
def vfl:=(x53 fu).fi (qof fu) [] call198
def vfm:IF:=⟨.fn 272,[.h .byte],[],_,RS.mk (.tup [.h .byte,.h .bool]) []⟩
def x55:Fx wG vfm:=fx f272 272 func272 [] false [] ao [(ah [(0,103),(1,6),(0,7)],⟨33,[(0,.h .byte),(13,.h .bool)],[],64,[]⟩),(ah [(0,25),(1,6),(0,7)],⟨33,[(0,.h .byte),(4,.h .bool)],[],64,[]⟩)]
def vfo:x55.L 0:=Fx.jn qvy [] fun d=>by kernel_rfl
def vfn:x55.L 1:=Fx.jn qvx [(vfo).s] fun d=>by kernel_rfl
def vfp:=x55.fi qch [(vfn).s] call272
def vft:IF:=⟨.fn 242,[wS],[],_,RS.mk (.tup [.h .byte,.h .bool]) []⟩
def x56:Fx wG vft:=fx f242 242 func242 [vfp.p] false [] ao []
def vfu:=x56.fi qhi [] call242
def vfv:IF:=⟨.fn 223,[.h (.prod .str (.prod wI (.prod .bool .str)))],[],_,RS.mk (wS) []⟩
def x57:Fx wG vfv:=fx f223 223 func223 [(ye fu).p,vfu.p] false [] ao [(ah [(0,4048),(0,4049),(0,2025),(2,506),(1,253),(0,127)],⟨62,[(3,wS),(4,.own 32),(5,wH)],[(32,.row .byte 5)],64,[]⟩),(ah [(0,62),(0,63)],⟨62,[(3,wS)],[],64,[]⟩),(ah [(0,61),(0,31)],⟨62,[(3,wS),(26,.h .bool)],[],64,[]⟩)]
def vfy:Nat->(x57 fu).L 0:=Fx.lq (qh6 fu) (qwn fu) (fun r2=>[r2.s])
def vfx:(x57 fu).L 1:=Fx.jm (qcr fu) [(vfy fu fu).s]
def vfw:(x57 fu).L 2:=Fx.jm (vt fu) [(vfx fu).s]
def vfz:=(x57 fu).fi (qns fu) [(vfw fu).s] call223
def zbt:LC.glob 1=some ⟨.byte,qr8⟩:=rfl
def q9b:LC.glob 2=some ⟨.prod .byte .byte,qr9⟩:=rfl
def zbs:qdl qr8=true:=by kernel_rfl
def q9a:qdm qr9=true:=by kernel_rfl
def vf2:IF:=⟨.fn 199,[.own 0],[(0,.row (.prod .str (.prod wI (.prod .bool .str))) 209)],_,RS.mk (.tup [.h wP,.h .bool]) [(0,.dead)]⟩
def x58:Fx wG vf2:=fx f199 199 func199 [⟨zf9.e zq,zwb⟩,(vfz fu).p,⟨zgx.e zt,zxc zbt q9b zbs q9a⟩] true [] ao [(ah [(0,2024),(0,2025),(2,506),(1,253),(0,127)],⟨52,[(2,.ptr 32 0),(4,.ptr 33 0),(28,.own 34),(29,wH),(30,wH)],[(0,.dead),(32,.dat wP 86),(33,.dat wP 86),(34,.row (.prod .str (.prod wI (.prod .bool .str))) 209)],64,[]⟩)]
def vf3:Nat->(x58 fu).L 0:=Fx.lq (qhz fu) (qwg fu) (fun r0=>[r0.s])
def vf4:=(x58 fu).fi (qhy fu) [(vf3 fu fu).s] call199
def vf5:IF:=⟨.fn 172,[.h (.list (.prod .str (.prod wI (.prod .bool .str))))],[],_,RS.mk (.tup [.own 0,.h .bool]) [(0,.row wP 86)]⟩
def x59:Fx wG vf5:=fx f172 172 func172 [(vfl fu).p,(zjx fu).p,(vf4 fu).p] false [] ao [(ah [(0,3827623),(2,239226),(1,119613),(0,59807),(1,934),(0,935),(2,58),(1,29),(0,15)],⟨56,[(0,.h (.list (.prod .str (.prod wI (.prod .bool .str))))),(4,.own 34),(6,.ptr 32 0),(7,.fn 197 [.ptr 32 0]),(8,.own 33),(13,.h (.list (.prod .str (.prod wI (.prod .bool .str))))),(14,wH),(15,wH),(26,.h (.list (.prod .str (.prod wI (.prod .bool .str))))),(27,wH),(28,wH)],[(32,.dat (.prod .str (.prod wI (.prod .bool .str))) 209),(33,.row (.prod .str (.prod wI (.prod .bool .str))) 209),(34,.row wP 86)],64,[]⟩),(ah [(0,956904),(0,956905),(2,239226),(1,119613),(0,59807),(1,934),(0,935),(2,58),(1,29),(0,15)],⟨56,[(0,.h (.list (.prod .str (.prod wI (.prod .bool .str))))),(4,.own 33),(6,.ptr 32 0),(7,.fn 197 [.ptr 32 0]),(8,.own 34),(13,.h (.list (.prod .str (.prod wI (.prod .bool .str))))),(14,wH),(15,wH),(26,.h (.list (.prod .str (.prod wI (.prod .bool .str))))),(27,wH),(28,wH)],[(32,.dat (.prod .str (.prod wI (.prod .bool .str))) 209),(33,.row wP 86),(34,.row (.prod .str (.prod wI (.prod .bool .str))) 209)],64,[]⟩),(ah [(0,232),(0,233),(2,58),(1,29),(0,15)],⟨56,[(0,.h (.list (.prod .str (.prod wI (.prod .bool .str))))),(4,.own 32),(13,.h (.list (.prod .str (.prod wI (.prod .bool .str))))),(14,wH),(15,wH)],[(32,.row wP 86)],64,[]⟩)]
def vf8(r0:(x59 fu).L 2)(r1:(x59 fu).L 1):(x59 fu).L 0:=Fx.jm (qh4 fu r0.f r1.f) [r1.s]
def vf7(r0:(x59 fu).L 2):Nat->(x59 fu).L 1:=Fx.lq (qh3 fu r0.f) (qwk fu r0.f) (fun r1=>[(vf8 fu r0 r1).s,r0.s])
def vf6:Nat->(x59 fu).L 2:=Fx.lq (qcq fu) (qwj fu) (fun r0=>[r0.s,(vf7 fu r0 fu).s])
def vf9:=(x59 fu).fi (qcp fu) [(vf6 fu fu).s] call172
def vgd:IF:=⟨.fn 133,[wS],[],_,.two (RS.mk (.tup [.agg [wS,wS,wN],.h .bool]) []) (RS.mk (.tup [.agg [wS,wS,.own 0],.h .bool]) [(0,.row wP 86)])⟩
def x60:Fx wG vgd:=fx f133 133 func133 [(vdy fu).p,(q6d fu).p,(vfd fu).p,(qlw fu).p,(vf9 fu).p] false [] ao [(ah [(0,16352),(0,16353),(0,8177),(2,2044),(1,1022),(0,1023)],⟨66,[(2,.ptr 32 0),(4,.ptr 33 0),(5,.ptr 34 0),(7,.own 35)],[(32,.cells [wS,wS,wN] 83),(33,.cells [wS] 205),(34,.cells [wS,wS,wN] 83),(35,.row (.prod .str (.prod wI (.prod .bool .str))) 209)],64,[]⟩),(ah [(0,510),(0,511)],⟨66,[(2,.ptr 32 0),(4,.ptr 33 0),(5,.ptr 34 0)],[(32,.cells [wS,wS,wN] 83),(33,.cells [wS] 205),(34,.cells [wS,wS,wN] 83)],64,[]⟩),(ah [(0,509),(0,255)],⟨66,[(2,.ptr 32 0),(4,.ptr 33 0),(5,.ptr 34 0),(33,.h .bool)],[(32,.cells [wS,wS,wN] 83),(33,.cells [wS] 205),(34,.cells [wS,wS,wN] 83)],64,[]⟩)]
def vgg:Nat->(x60 fu).L 0:=Fx.lq (qh5 fu) (qwl fu) (fun r2=>[r2.s])
def vgf:(x60 fu).L 1:=Fx.jm (qwm fu) [(vgg fu fu).s]
def vge:(x60 fu).L 2:=Fx.jm (vq fu) [(vgf fu).s]
def vgh:=(x60 fu).fi (qnr fu) [(vge fu).s] call133
def vgk:IF:=⟨.fn 117,[wS,.fn 168 []],[],_,RS.mk (.h .bool) []⟩
def x61(fu:Nat):Fx wG vgk:=fx f117 117 func117 [qlx.p] false [] ao [(ah [(0,104),(0,105),(2,26),(1,13),(0,7)],⟨18,[(0,wS),(1,.fn 168 []),(7,wH),(8,wH)],[],64,[]⟩)]
def vgl:Nat->(x61 fu).L 0:=Fx.lq (qhe fu) (q7c fu) (fun r0=>[r0.s])
def vgm:=(x61 fu).fi (qna fu) [(vgl fu fu).s] call117
def vgo:IF:=⟨.fn 134,[wS],[],_,RS.mk (.h .bool) []⟩
def x62:Fx wG vgo:=fx f134 134 func134 [(vgm fu).p] false [] ao []
def zj1:=(x62 fu).fi (zh fu) [] call134
def vgq:IF:=⟨.fn 136,[.h wP,.ptr 0 0],[(0,.dat wP 86)],_,RS.mk (.h .bool) [(0,.dat wP 86)]⟩
def x63:Fx wG vgq:=fx f136 136 func136 [(ye fu).p] false [] ao []
def vgr:=(x63 fu).fi (qwd fu) [] call136
def vgs:IF:=⟨.fn 121,[.h wL,.fn 136 [.ptr 0 0]],[(0,.dat wP 86)],_,RS.mk (wH) [(0,.dat wP 86)]⟩
def x64:Fx wG vgs:=fx f121 121 func121 [(vgr fu).p] false [] ao [(ah [(0,104),(0,105),(2,26),(1,13),(0,7)],⟨19,[(0,.h wL),(1,.fn 136 [.ptr 0 0]),(7,wH),(8,wH)],[(0,.dat wP 86)],64,[]⟩)]
def vgt:Nat->(x64 fu).L 0:=Fx.lq (qin fu) (qxl fu) (fun r0=>[r0.s])
def vgu:=(x64 fu).fi (qxk fu) [(vgt fu fu).s] call121
def vgw:IF:=⟨.fn 135,[.h wL,.fn 136 [.ptr 0 0]],[(0,.dat wP 86)],_,RS.mk (.h .bool) [(0,.dat wP 86)]⟩
def x65:Fx wG vgw:=fx f135 135 func135 [(vgu fu).p] false [] ao []
def vgx:=(x65 fu).fi (qoe fu) [] call135
def vgy:IF:=⟨.fn 100,[.h (.prod .str (.prod .str wL))],[],_,RS.mk (.h (.prod wI wI)) []⟩
def x66:Fx wG vgy:=fx f100 100 func100 [(zj1 fu).p,kz.p,oz.p,(vgx fu).p,⟨zhb.e zu,zxx zbt q9b zbs q9a⟩] false [] ao [(ah [(0,31333),(1,7833),(1,1958),(0,1959),(2,122),(1,61),(0,31)],⟨67,[(1,.ptr 32 0),(2,.ptr 33 0),(3,wH),(4,.ptr 34 0),(22,.h wL),(23,wH),(24,wH),(29,.h .bool)],[(32,.dat (.prod .str (.prod .str wL)) 83),(33,.dat (.prod wI wI) 30),(34,.dat wP 86)],64,[]⟩),(ah [(0,488),(0,489),(2,122),(1,61),(0,31)],⟨67,[(1,.ptr 32 0),(2,.ptr 33 0),(22,.h wL),(23,wH),(24,wH)],[(32,.dat (.prod .str (.prod .str wL)) 83),(33,.dat (.prod wI wI) 30)],64,[]⟩),(ah [(0,28),(0,29),(0,15)],⟨67,[(1,.ptr 32 0),(2,.ptr 33 0)],[(32,.dat (.prod .str (.prod .str wL)) 83),(33,.dat (.prod wI wI) 30)],64,[]⟩),(ah [(0,13),(0,7)],⟨67,[(1,.ptr 32 0),(2,.ptr 33 0),(14,.h .bool)],[(32,.dat (.prod .str (.prod .str wL)) 83),(33,.dat (.prod wI wI) 30)],64,[]⟩)]
def vg2(r2:(x66 fu).L 1):(x66 fu).L 0:=Fx.jm (zf fu r2.f) [r2.s]
def vg1:Nat->(x66 fu).L 1:=Fx.lq (qcn fu) (qwe fu) (fun r2=>[(vg2 fu r2).s])
def vg0:(x66 fu).L 2:=Fx.jm (qwf fu) [(vg1 fu fu).s]
def vgz:(x66 fu).L 3:=Fx.jm (qcm fu) [(vg0 fu).s]
def q6n:=(x66 fu).fi (tu fu) [(vgz fu).s] call100
def vg7:IF:=⟨.fn 99,[wS],[],_,.two (RS.mk (.tup [.agg [wS,wS,wN],.agg [wH,wH]]) []) (RS.mk (.tup [.agg [wS,wS,.own 0],.agg [wH,wH]]) [(0,.row wP 86)])⟩
def x67:Fx wG vg7:=fx f99 99 func99 [kz.p,(vgh fu).p,(q6n fu).p,mf.p,oz.p] false [] ao []
def vg8:=(x67 fu).fi (qhw fu) [] call99
def vg9:IF:=⟨.fn 70,[.h wL],[],_,.two (RS.mk (.tup [.agg [wS,wS,wN],wH,.h .bool]) []) (RS.mk (.tup [.agg [wS,wS,.own 0],wH,.h .bool]) [(0,.row wP 86)])⟩
def x68:Fx wG vg9:=fx f70 70 func70 [(ye fu).p,(vg8 fu).p,mf.p] false [] ao [(ah [(0,935),(2,58),(1,29),(0,15)],⟨42,[(0,.h wL),(2,.ptr 32 0),(5,wH),(10,.h wL),(11,wH),(12,wH)],[(32,.cells [wS,wS,wN] 83)],64,[]⟩),(ah [(0,232),(0,233),(2,58),(1,29),(0,15)],⟨42,[(0,.h wL),(2,.ptr 32 0),(5,wH),(10,.h wL),(11,wH),(12,wH)],[(32,.cells [wS,wS,wN] 83)],64,[]⟩)]
def vhb(r0:(x68 fu).L 1):(x68 fu).L 0:=Fx.jm (qcu fu r0.f) [r0.s]
def vha:Nat->(x68 fu).L 1:=Fx.lq (vx fu) (qnz fu) (fun r0=>[(vhb fu r0).s])
def qti:=(x68 fu).fi (zj fu) [(vha fu fu).s] call70
def vhd:IF:=⟨.fn 82,[.h (.prod .str (.prod .str wL)),wS],[],_,RS.mk (.tup [wS,.h .bool,.h (.prod wI wI)]) []⟩
def x69:Fx wG vhd:=fx f82 82 func82 [(q6n fu).p,mf.p,(ye fu).p,oz.p] false [] ao [(ah [(0,232),(0,233),(2,58),(1,29),(0,15)],⟨31,[(1,wS),(6,.ptr 32 0),(16,.h wL),(17,wH),(18,wH)],[(32,.dat (.prod wI wI) 30)],64,[]⟩)]
def vhe:Nat->(x69 fu).L 0:=Fx.lq (qhv fu) (qwb fu) (fun r0=>[r0.s])
def zj4:=(x69 fu).fi (qhu fu) [(vhe fu fu).s] call82
def vhi:IF:=⟨.fn 138,[.h .byte],[],_,RS.mk (.h .bool) []⟩
def x70:Fx wG vhi:=fx f138 138 func138 [] false [] ao []
def vhj:=x70.fi qh0 [] call138
def vhk:IF:=⟨.fn 117,[wS,.fn 138 []],[],_,RS.mk (.h .bool) []⟩
def x71(fu:Nat):Fx wG vhk:=fx f117 117 func117 [vhj.p] false [] ao [(ah [(0,104),(0,105),(2,26),(1,13),(0,7)],⟨18,[(0,wS),(1,.fn 138 []),(7,wH),(8,wH)],[],64,[]⟩)]
def vhl:Nat->(x71 fu).L 0:=Fx.lq (qhf fu) (q7d fu) (fun r0=>[r0.s])
def vhm:=(x71 fu).fi (qnb fu) [(vhl fu fu).s] call117
def vho:IF:=⟨.fn 125,[.own 0],[(0,.row .str 9)],_,RS.mk (.ptr 1 0) [(0,.dead),(1,.cells [.h (.int .u32),.h (.int .i32),.h (.int .u32),.c .nilIface,.own 2] 191),(2,.row .str 9)]⟩
def x72:Fx wG vho:=fx f125 125 func125 [] true [] ao []
def zj6:=x72.fi qiu [] call125
def vhp:IF:=⟨.fn 185,[.ptr 0 0],[(0,.cells [.h (.int .u32),.h (.int .i32),.h (.int .u32),.c .nilIface,.own 1] 191),(1,.row .str 9)],_,RS.mk (.iel 251 2 1) [(0,.cells [.h (.int .u32),.h (.int .i32),.h (.int .u32),.c .nilIface,.own 3] 191),(1,.dead),(2,.row .byte 250),(3,.row .str 9)]⟩
def vb(fu:Nat):Fx wG vhp:=fx f185 185 func185 [] false [] ao [(ah [(0,2003),(2,250),(1,125),(0,63)],⟨132,[(3,.own 32),(4,.h .bool),(5,wH)],[(0,.cells [.h (.int .u32),.h (.int .i32),.h (.int .u32),.c .nilIface,.own 32] 191),(1,.dead),(32,.row .str 9)],64,[]⟩),(ah [(0,129744),(0,129745),(0,64873),(2,16218),(1,8109),(0,4055),(0,127)],⟨132,[(3,.own 32),(6,.el 33 1),(8,wH)],[(0,.cells [.h (.int .u32),.h (.int .i32),.h (.int .u32),.c .nilIface,.own 32] 191),(1,.dead),(32,.row .str 9),(33,.row .byte 250)],64,[]⟩),(ah [(0,32424),(0,32425),(2,8106),(1,4053),(0,2027),(0,127)],⟨132,[(3,.own 32),(6,.el 33 1),(61,wH)],[(0,.cells [.h (.int .u32),.h (.int .i32),.h (.int .u32),.c .nilIface,.own 32] 191),(1,.dead),(32,.row .str 9),(33,.row .byte 250)],64,[]⟩),(ah [(0,16336),(0,16337),(0,8169),(2,2042),(1,1021),(0,511)],⟨132,[(3,.own 32),(11,.ptr 33 0),(12,wH)],[(0,.cells [.h (.int .u32),.h (.int .i32),.h (.int .u32),.c .nilIface,.own 32] 191),(1,.dead),(32,.row .str 9),(33,.cells [wN,wN,wN,wN,wN,wN,wN,wN,wN,wN,wN,wN,wN,wN,wN,wN,wN,wN,wN,wN,wN,wN,wN,wN,wN,wN,wN,wN,wN,wN,wN,wN,wN,wN,wN,wN,wN,wN,wN,wN,wN,wN,wN,wN,wN,wN,wN,wN,wN,wN,wN,wN,wN,wN,wN,wN,wN,wN,wN,wN,wN,wN,wN,wN,wN,wN,wN,wN,wN,wN,wN,wN,wN,wN,wN,wN,wN,wN,wN,wN,wN,wN,wN,wN,wN,wN,wN,wN,wN,wN,wN,wN,wN,wN,wN,wN,wN,wN,wN,wN,wN,wN,wN,wN,wN,wN,wN,wN,wN,wN,wN,wN,wN,wN,wN,wN,wN,wN,wN,wN,wN,wN,wN,wN,wN,wN,wN,wN,wN,wN,wN,wN,wN,wN,wN,wN,wN,wN,wN,wN,wN,wN,wN,wN,wN,wN,wN,wN,wN,wN,wN,wN,wN,wN,wN,wN,wN,wN,wN,wN,wN,wN,wN,wN,wN,wN,wN,wN,wN,wN,wN,wN,wN,wN,wN,wN,wN,wN,wN,wN,wN,wN,wN,wN,wN,wN,wN,wN,wN,wN,wN,wN,wN,wN,wN,wN,wN,wN,wN,wN,wN,wN,wN,wN,wN,wN,wN,wN,wN,wN,wN,wN,wN,wN,wN,wN,wN,wN,wN,wN,wN,wN,wN,wN,wN,wN,wN,wN,wN,wN,wN,wN,wN,wN,wN,wN,wN,wN,wN,wN,wN,wN,wN,wN,wN,wN,wN,wN,wN,wN,wN,wN,wN,wN,wN,wN,.own 34] 254),(34,.row .str 9)],64,[]⟩),(ah [(0,2000),(0,2001),(0,1001),(2,250),(1,125),(0,63)],⟨132,[(3,.own 32),(4,.h .bool),(5,wH)],[(0,.cells [.h (.int .u32),.h (.int .i32),.h (.int .u32),.c .nilIface,.own 32] 191),(1,.dead),(32,.row .str 9)],64,[]⟩),(ah [(0,30),(0,31)],⟨132,[(3,.own 32)],[(0,.cells [.h (.int .u32),.h (.int .i32),.h (.int .u32),.c .nilIface,.own 32] 191),(1,.dead),(32,.row .str 9)],64,[]⟩),(ah [(0,29),(0,15)],⟨132,[(3,.own 32),(28,.h .bool)],[(0,.cells [.h (.int .u32),.h (.int .i32),.h (.int .u32),.c .nilIface,.own 32] 191),(1,.dead),(32,.row .str 9)],64,[]⟩)]
def vht(r2:(vb fu).L 4):(vb fu).L 0:=Fx.jm (qxz fu r2.f) [r2.s]
def vhw:Nat->(vb fu).L 1:=Fx.lq (qx2 fu) (q8h fu) (fun r6=>[r6.s])
def vhu:Nat->(vb fu).L 2:=Fx.lq (qx0 fu) (q8f fu) (fun r4=>[r4.s,(vhw fu fu).s])
def vhv:Nat->(vb fu).L 3:=Fx.lq (qx1 fu) (q8g fu) (fun r5=>[])
def vhs:Nat->(vb fu).L 4:=Fx.lq (qxy fu) (q8e fu) (fun r2=>[(vht fu r2).s,(vhu fu fu).s,(vhv fu fu).s])
def vhr:(vb fu).L 5:=Fx.jm (q8i fu) [(vhs fu fu).s]
def vhq:(vb fu).L 6:=Fx.jm (qxx fu) [(vhr fu).s]
def vhx:=(vb fu).fi (q8d fu) [(vhq fu).s] call185
end
end
noncomputable section
open Go.Proofs
set_option linter.unusedVariables false
set_option maxRecDepth 100000
set_option maxHeartbeats 2000000
open Tryz
section
variable(fu:Nat)
def zj7:IF:=⟨.fn 161,[.ptr 0 0],[(0,.cells [.h (.int .u32),.h (.int .i32),.h (.int .u32),.c .nilIface,.own 1] 191),(1,.row .str 9)],_,RS.mk (.tup []) [(0,.cells [.h (.int .u32),.h (.int .i32),.h (.int .u32),.iel 251 2 1,.own 3] 191),(1,.dead),(2,.row .byte 250),(3,.row .str 9)]⟩
def x74:Fx wG zj7:=fx f161 161 func161 [(vhx fu).p] false [] ao []
def vh2:=(x74 fu).fi (qop fu) [] call161
def zk1:(zj7.e (qop fu)).Sound wG:=(vh2 fu).h
def zj8:IF:=⟨.fn 317,[.el 0 1,wS],[(0,.row .byte 250)],_,RS.mk (wS) [(0,.row .byte 250)]⟩
def x75(fu:Nat):Fx wG zj8:=fx f317 317 func317 [] false [] ao [(ah [(0,14925),(1,466),(0,467),(2,58),(1,29),(0,15)],⟨41,[(0,.el 0 1),(1,wS),(5,.own 32),(6,wH),(7,.h .byte)],[(0,.row .byte 250),(32,.row .byte 5)],64,[]⟩),(ah [(0,464),(0,465),(0,233),(2,58),(1,29),(0,15)],⟨41,[(0,.el 0 1),(1,wS),(5,.own 32),(6,wH)],[(0,.row .byte 250),(32,.row .byte 5)],64,[]⟩),(ah [(0,464),(0,465),(0,233),(2,58),(1,29),(0,15)],⟨41,[(0,.el 0 1),(1,wS),(5,wN),(6,wH)],[(0,.row .byte 250)],64,[]⟩)]
def zj9(r2:(x75 fu).L 1):(x75 fu).L 0:=Fx.jm (qiz fu r2.f) [r2.s]
def vh4:Nat->(x75 fu).L 1:=Fx.lq (qi0 fu) (qya fu) (fun r2=>[(zj9 fu r2).s,r2.s])
def vh3:Nat->(x75 fu).L 2:=Fx.lq (qiy fu) (qx9 fu) (fun r0=>[r0.s,(zj9 fu (vh4 fu fu)).s])
def vh5:=(x75 fu).fi (qix fu) [(vh3 fu fu).s] call317
def q8j:(zj8.e (qix fu)).Sound wG:=(vh5 fu).h
def zey:IF:=⟨.fn 127,[.ptr 0 0,wS],[(0,.cells [.h (.int .u32),.h (.int .i32),.h (.int .u32),.c .nilIface,.own 1] 191),(1,.row .str 9)],_,RS.mk (wS) [(0,.cells [.h (.int .u32),.h (.int .i32),.h (.int .u32),.iel 251 2 1,.u] 191),(1,.dead),(2,.row .byte 250)]⟩
def zez:IF:=⟨.fn 127,[.ptr 0 0,wS],[(0,.cells [.h (.int .u32),.h (.int .i32),.h (.int .u32),.iel 251 1 1,.u] 191),(1,.row .byte 250)],_,RS.mk (wS) [(0,.cells [.h (.int .u32),.h (.int .i32),.h (.int .u32),.iel 251 1 1,.u] 191),(1,.row .byte 250)]⟩
def zkz(s:Bs)(p0 p1 p2:Int)(on:List Bs)(r:Bs×Int×Int×Int×Bs)(hr:zo fu s p0 p1 p2 on=some r) :
  db wG 127 [.ptr 0 0,.str s] [(0,.cells [.int .u32 p0,.int .i32 p1,.int .u32 p2,.val .nilIface,.own 1] 191),(1,.row .str on 9)] (.str r.1) [(0,.cells [.int .u32 r.2.1,.int .i32 r.2.2.1,.int .u32 r.2.2.2.1,.iface 251 (.oel 2 1 0 0),.undef] 191),(1,.dead),(2,.row .byte r.2.2.2.2 250)]:=by
 unfold zo at hr;cases hc:decide (p0=0)&&decide (p1=0)<;>rw[hc]at hr<;>simp only[qT,qF,reduceCtorEq]at hr
 simp only[qA,decide_eq_true_eq]at hc;obtain⟨rfl,rfl⟩:=hc;obtain⟨x,hx,hr⟩:=Option.bind_eq_some_iff.1 hr;obtain⟨x0,x1,x2,tab,on'⟩:=x;simp only at hr;cases hc2:decide (x0=0)&&decide (x1=1)<;>rw[hc2]at hr<;>simp only[qT,qF,reduceCtorEq]at hr
 simp only[qA,decide_eq_true_eq]at hc2;obtain⟨rfl,rfl⟩:=hc2;obtain⟨y,hy,hr⟩:=Option.bind_eq_some_iff.1 hr;obtain⟨out,tab'⟩:=y;simp only[qI]at hr;subst hr;have hB:db wG 161 [.ptr 0 0] [(0,.cells [.int .u32 0,.int .i32 1,.int .u32 p2,.val .nilIface,.own 1] 191),(1,.row .str on 9)] (.tup []) [(0,.cells [.int .u32 0,.int .i32 1,.int .u32 x2,.iface 251 (.oel 2 1 0 0),.own 3] 191),(1,.dead),(2,.row .byte tab 250),(3,.row .str on' 9)]:=
  (zk1 fu ((),()) (((0:Int),((1:Int),(p2,((),((),()))))),(on,())) ((0:Int),(1:Int),x2,tab,on') hx).2
 have hP:db wG 317 [.oel 0 1 0 0,.str s] [(0,.row .byte tab 250)] (.str out) [(0,.row .byte tab' 250)]:=
  (q8j fu ((),(s,())) (tab,()) (out,tab') hy).2
 intro w G vs hm hv;show Calls _ _ _ _ (nz w G [(0,.cells [.int .u32 0,.int .i32 0,.int .u32 p2,.val .nilIface,.own 1] 191),(1,.row .str on 9)] (.str out) [(0,.cells [.int .u32 1,.int .i32 0,.int .u32 x2,.iface 251 (.oel 2 1 0 0),.undef] 191),(1,.dead),(2,.row .byte tab' 250)]);have hm:ci G [(0,.cells [.int .u32 0,.int .i32 0,.int .u32 p2,.val .nilIface,.own 1] 191),(1,.row .str on 9)] w:=hm;have hv:al [.ptr 0 0,.str s] G vs:=hv
 match vs,hv with
 |[v1,v2],hv=>
 obtain⟨⟨B,hGB,rfl⟩,rfl,_⟩:=hv;have hid:∀n b,ae ([(0,.cells [.int .u32 0,.int .i32 0,.int .u32 p2,.val .nilIface,.own 1] 191),(1,.row .str on 9)]:List (Nat×ai)) n=some b->az [(0,0),(1,1)] n=some n/\dr (az [(0,0),(1,1)]) b=b:=by
  intro n b h
  match n,h with
  |0,h=>cases h;exact⟨rfl,rfl⟩
  |1,h=>cases h;exact⟨rfl,rfl⟩
  |n+2,h=>cases h
 have hr0:=aj.start (N:=[(0,0),(1,1)]) hm hid (fun n h=>by
  match n,h with
  |0,h=>cases h
  |1,h=>cases h
  | n+2,h=>rfl) 4
 have hGB0:(G.view [(0,0),(1,1)]).box 0=some B:=hGB;obtain⟨c0,e0,r0,z0⟩:=hr0.cellAt (i:=0) rfl hGB0 rfl;obtain⟨c1,e1,r1,z1⟩:=hr0.cellAt (i:=1) rfl hGB0 rfl;have r0:c0 = .int .u32 0:=r0;have r1:c1 = .int .i32 0:=r1;subst r0 r1;have hr1:=hr0.setCellAt (i:=1) (x := .int .i32 1) (v := .int .i32 1) rfl hGB0 rfl rfl
 -- the building
 have hmB:ci ((G.view [(0,0),(1,1)]).view [(0,0),(1,1)]) [(0,.cells [.int .u32 0,.int .i32 1,.int .u32 p2,.val .nilIface,.own 1] 191),(1,.row .str on 9)] (w.setCell ⟨B,1,none⟩ (.int .i32 1)):=
  hr1.fin.mem.view (names:=[(0,0),(1,1)]) rfl (fun m m' n h1 h2=>by
   match m,m',h1,h2 with
   |0,0,_,_=>rfl|1,1,_,_=>rfl|0,1,h1,h2=>cases h1;cases h2
   |1,0,h1,h2=>cases h1;cases h2
   |0,m'+2,_,h2=>cases h2
   |1,m'+2,_,h2=>cases h2
   | m+2,_,h1,_=>cases h1)
 have hcB:=hB (w.setCell ⟨B,1,none⟩ (.int .i32 1)) ((G.view [(0,0),(1,1)]).view [(0,0),(1,1)]) [.pointer (some ⟨B,0,none⟩)] hmB ⟨⟨B,hGB,rfl⟩,trivial⟩
 let s2:St:={ n:=4,fr:=[(0,.tup [])],hp:=[(0,.cells [.int .u32 0,.int .i32 1,.int .u32 x2,.iface 251 (.oel 66 1 0 0),.own 67] 191),(1,.dead),(66,.row .byte tab 250),(67,.row .str on' 9),(0,.dead),(1,.dead),(0,.cells [.int .u32 0,.int .i32 1,.int .u32 p2,.val .nilIface,.own 1] 191),(0,.cells [.int .u32 0,.int .i32 0,.int .u32 p2,.val .nilIface,.own 1] 191),(1,.row .str on 9)],nx:=64,df:=[] }
 let hp0:List (Nat×ai):=[(0,.cells [.int .u32 0,.int .i32 0,.int .u32 p2,.val .nilIface,.own 1] 191),(1,.row .str on 9)]
 let R:World->Prop:=fun w'=>∃G2 a2,aj w (G.view [(0,0),(1,1)]) hp0 G2 s2 a2 w'
 have hBw:∀{w':World}{G2:Gh}{a2:Act},aj w (G.view [(0,0),(1,1)]) hp0 G2 s2 a2 w'->G2.box 0=some B:=fun h=>h.fin.keep 0 _ B rfl hGB0
 refine(Go.Proofs.YtiidadfafmcdmaaGreatDoor.Once.replace_first B ⟨s.toArray⟩ w R (fun v w'=>∃G4,Fin w G hp0 G4 [(0,.cells [.int .u32 1,.int .i32 0,.int .u32 x2,.iface 251 (.oel 2 1 0 0),.undef] 191),(1,.dead),(2,.row .byte tab' 250)] w'/\ak (.str out) G4 v) e0 e1 z0 z1 ?_ ?_ ?_).mono ?_
 ·refine hcB.mono ?_;intro e w' hpost;obtain⟨G2,v,he,hr2⟩:=qkg hr1 (t:=0) (names:=[(0,0),(1,1)]) (hpv:=[(0,.cells [.int .u32 0,.int .i32 1,.int .u32 p2,.val .nilIface,.own 1] 191),(1,.row .str on 9)]) (hp:=[(0,.cells [.int .u32 0,.int .i32 1,.int .u32 p2,.val .nilIface,.own 1] 191),(1,.row .str on 9)]) rfl rfl (show 0<4 by decide) rfl rfl (by repeat (first|trivial|refine⟨rfl,?_⟩)) hpost
  obtain⟨u,u1,u2⟩:=hr2.frame 0 _ rfl;have u3:u=v:=by simpa [Act.put] using u1.symm
  obtain⟨us,h1,h2⟩:=u2;have:us=#[]:=by
   cases hq:us.toList with|nil=>simpa using hq|cons _ _=>rw[hq]at h2;exact h2.elim
  subst this;subst u3;exact⟨by rw[he,h1],G2,_,hr2⟩
 ·rintro w' ⟨G2,a2,hr2⟩
  obtain⟨d0,f0,q0,y0⟩:=hr2.cellAt (i:=0) rfl (hBw hr2) rfl;obtain⟨d1,f1,q1,y1⟩:=hr2.cellAt (i:=1) rfl (hBw hr2) rfl;have q0:d0 = .int .u32 0:=q0;have q1:d1 = .int .i32 1:=q1;subst q0 q1;exact⟨f0,y0,f1,y1⟩
 ·rintro w' ⟨G2,a2,hr2⟩
  obtain⟨d3,f3,q3,_⟩:=hr2.cellAt (i:=3) rfl (hBw hr2) rfl;obtain⟨u3,rfl,g,n3,c3,o3,rfl⟩:=q3;refine⟨g,by simpa using f3,?_⟩
  have hr3:=(hr2.drewOk.setCellAt (i:=0) (x := .int .u32 1) (v := .int .u32 1) rfl (hBw hr2) rfl rfl).setCellAt (i:=0+1) (x := .int .i32 0) (v := .int .i32 0) rfl (hBw hr2) rfl rfl;have hmP:ci (G2.view [(0,66)]) [(0,.row .byte tab 250)] ((w'.drew.setCell ⟨B,0,none⟩ (.int .u32 1)).setCell ⟨B,0+1,none⟩ (.int .i32 0)):=
   hr3.fin.mem.view (names:=[(0,66)]) rfl (fun m m' n h1 h2=>by
    cases m with
    |zero=>cases m' with|zero=>rfl|succ m'=>cases h2
    | succ m=>cases h1)
  have hcP:=hP _ (G2.view [(0,66)]) [.pointer (some ⟨g,0,none⟩),.string ⟨s.toArray⟩] hmP ⟨⟨g,n3,c3,o3,by simp⟩,rfl,trivial⟩
  refine hcP.mono ?_;intro e w4 hpost;obtain⟨G4,v,he,hr4⟩:=qkg hr3 (t:=1) (names:=[(0,66)]) (hpv:=[(0,.row .byte tab 250)]) (hp:=[(0,.row .byte tab 250)]) rfl rfl (show 1<4 by decide) rfl rfl ⟨rfl,trivial⟩ hpost
  obtain⟨u,u1,u2⟩:=hr4.frame 1 _ rfl;have u3:u=v:=by
   have hs:=hr3.size;have hlt:1<a2.tmps.size:=by rw[hs];exact(show 1<4 by decide)
   simp only[Act.put]at u1;rw[Array.getElem?_setIfInBounds]at u1;simp[hlt]at u1;exact u1.symm
  subst u3;obtain⟨G5,k1,k2⟩:=qqh hr4 (ids:=[(0,0),(1,1)]) (fun n bx h=>by
   match n,h with
   |0,h=>rfl|1,h=>rfl| n+2,h=>cases h) (v := .str out) (p := wS) (hp:=[(0,.cells [.h (.int .u32),.h (.int .i32),.h (.int .u32),.iel 251 2 1,.u] 191),(1,.dead),(2,.row .byte 250)]) (y:=(out,(((1:Int),((0:Int),(x2,((),((),()))))),((),(tab',()))))) (by rfl)
  exact⟨u,he,G5,k1.only hid,k2 u u2⟩
 ·rintro e w4 ⟨v,rfl,G4,k1,k2⟩
  exact⟨v,G4,rfl,k1,k2⟩
def zuj:(zey.e (zo fu)).Sound wG:=fun d d' r hr=>
 ⟨call127,zkz fu d.2.1 d'.1.1 d'.1.2.1 d'.1.2.2.1 d'.2.1 r hr⟩
def zk0(s:Bs)(p0 p1 p2:Int)(tab:Bs)(r:Bs×Int×Int×Int×Bs)(hr:zp fu s p0 p1 p2 tab=some r) :
  db wG 127 [.ptr 0 0,.str s] [(0,.cells [.int .u32 p0,.int .i32 p1,.int .u32 p2,.iface 251 (.oel 1 1 0 0),.undef] 191),(1,.row .byte tab 250)] (.str r.1) [(0,.cells [.int .u32 r.2.1,.int .i32 r.2.2.1,.int .u32 r.2.2.2.1,.iface 251 (.oel 1 1 0 0),.undef] 191),(1,.row .byte r.2.2.2.2 250)]:=by
 unfold zp at hr;cases hc : !decide (p0=0)<;>rw[hc]at hr<;>simp only[qT,qF,reduceCtorEq]at hr
 simp only[Bool.not_eq_true',decide_eq_false_iff_not]at hc;obtain⟨y,hy,hr⟩:=Option.bind_eq_some_iff.1 hr;obtain⟨out,tab'⟩:=y;simp only[qI]at hr;subst hr;have hP:db wG 317 [.oel 0 1 0 0,.str s] [(0,.row .byte tab 250)] (.str out) [(0,.row .byte tab' 250)]:=
  (q8j fu ((),(s,())) (tab,()) (out,tab') hy).2
 intro w G vs hm hv
 let hp0:List (Nat×ai):=[(0,.cells [.int .u32 p0,.int .i32 p1,.int .u32 p2,.iface 251 (.oel 1 1 0 0),.undef] 191),(1,.row .byte tab 250)]
 show Calls _ _ _ _ (nz w G hp0 (.str out) [(0,.cells [.int .u32 p0,.int .i32 p1,.int .u32 p2,.iface 251 (.oel 1 1 0 0),.undef] 191),(1,.row .byte tab' 250)]);have hm:ci G hp0 w:=hm;have hv:al [.ptr 0 0,.str s] G vs:=hv
 match vs,hv with
 |[v1,v2],hv=>
 obtain⟨⟨B,hGB,rfl⟩,rfl,_⟩:=hv;have hid:∀n b,ae hp0 n=some b->az [(0,0),(1,1)] n=some n/\dr (az [(0,0),(1,1)]) b=b:=by
  intro n b h
  match n,h with
  |0,h=>cases h;exact⟨rfl,rfl⟩
  |1,h=>cases h;exact⟨rfl,rfl⟩
  |n+2,h=>cases h
 have hr0:=aj.start (N:=[(0,0),(1,1)]) hm hid (fun n h=>by
  match n,h with
  |0,h=>cases h
  |1,h=>cases h
  | n+2,h=>rfl) 4
 have hGB0:(G.view [(0,0),(1,1)]).box 0=some B:=hGB;obtain⟨c0,e0,r0,_⟩:=hr0.cellAt (i:=0) rfl hGB0 rfl;have r0:c0 = .int .u32 p0:=r0;subst r0;obtain⟨d3,f3,q3,_⟩:=hr0.cellAt (i:=3) rfl hGB0 rfl;obtain⟨u3,rfl,g,n3,c3,o3,rfl⟩:=q3;have hmP:ci ((G.view [(0,0),(1,1)]).view [(0,1)]) [(0,.row .byte tab 250)] w:=
  hr0.fin.mem.view (names:=[(0,1)]) rfl (fun m m' n h1 h2=>by
   cases m with
   |zero=>cases m' with|zero=>rfl|succ m'=>cases h2
   | succ m=>cases h1)
 have hcP:=hP w ((G.view [(0,0),(1,1)]).view [(0,1)]) [.pointer (some ⟨g,0,none⟩),.string ⟨s.toArray⟩] hmP ⟨⟨g,n3,c3,o3,by simp⟩,rfl,trivial⟩
 refine(Go.Proofs.YtiidadfafmcdmaaGreatDoor.Once.replace_done B g ⟨s.toArray⟩ w (fun v w'=>∃G4,Fin w G hp0 G4 [(0,.cells [.int .u32 p0,.int .i32 p1,.int .u32 p2,.iface 251 (.oel 1 1 0 0),.undef] 191),(1,.row .byte tab' 250)] w'/\ak (.str out) G4 v) p0 hc e0 (by simpa using f3) ?_).mono ?_
 ·refine hcP.mono ?_;intro e w4 hpost;obtain⟨G4,v,he,hr4⟩:=qkg hr0 (t:=1) (names:=[(0,1)]) (hpv:=[(0,.row .byte tab 250)]) (hp:=[(0,.row .byte tab 250)]) rfl rfl (show 1<4 by decide) rfl rfl ⟨rfl,trivial⟩ hpost
  obtain⟨u,u1,u2⟩:=hr4.frame 1 _ rfl;have u3:u=v:=by simpa [Act.put] using u1.symm
  subst u3;obtain⟨G5,k1,k2⟩:=qqh hr4 (ids:=[(0,0),(1,1)]) (fun n bx h=>by
   match n,h with
   |0,h=>rfl|1,h=>rfl| n+2,h=>cases h) (v := .str out) (p := wS) (hp:=[(0,.cells [.h (.int .u32),.h (.int .i32),.h (.int .u32),.iel 251 1 1,.u] 191),(1,.row .byte 250)]) (y:=(out,((p0,(p1,(p2,((),((),()))))),(tab',())))) (by rfl)
  exact⟨u,he,G5,k1.only hid,k2 u u2⟩
 ·rintro e w4 ⟨v,rfl,G4,k1,k2⟩
  exact⟨v,G4,rfl,k1,k2⟩
def zuk:(zez.e (zp fu)).Sound wG:=fun d d' r hr=>
 ⟨call127,zk0 fu d.2.1 d'.1.1 d'.1.2.1 d'.1.2.2.1 d'.2.1 r hr⟩
def vh8:IF:=⟨.fn 174,[.h .byte],[],_,RS.mk (.h .byte) []⟩
def x76:Fx wG vh8:=fx f174 174 func174 [] false [] ao []
def vh9:=x76.fi o7 [] call174
def vib:IF:=⟨.fn 139,[wS],[],_,RS.mk (.own 0) [(0,.row .str 9)]⟩
def x77(fu:Nat):Fx wG vib:=fx f139 139 func139 [qlx.p,vh9.p] false [] ao [(ah [(0,29902),(0,29903),(1,934),(0,935),(2,58),(1,29),(0,15)],⟨59,[(0,wS),(3,.own 32),(5,wS),(9,wH),(10,wH)],[(32,.row .str 9)],64,[]⟩),(ah [(0,232),(0,233),(2,58),(1,29),(0,15)],⟨59,[(0,wS),(3,.own 32),(9,wH),(10,wH)],[(32,.row .str 9)],64,[]⟩)]
def vid(r0:(x77 fu).L 1):(x77 fu).L 0:=Fx.jm (qh7 fu r0.f) [r0.s]
def vic:Nat->(x77 fu).L 1:=Fx.lq (qcs fu) (qwo fu) (fun r0=>[(vid fu r0).s])
def vie:=(x77 fu).fi (qnt fu) [(vic fu fu).s] call139
def vig:IF:=⟨.fn 101,[.h wP],[],_,RS.mk (wS) []⟩
def x78:Fx wG vig:=fx f101 101 func101 [(zj1 fu).p,(vhm fu).p,zj6.p,⟨ze0.e vz,zui⟩,(vie fu).p,⟨q1i.e tw,zcr q2w q2x⟩] false [] ao [(ah [(0,1000),(0,1001),(2,250),(1,125),(0,63)],⟨59,[(1,.ptr 32 0),(3,wS),(38,.own 33),(39,wH),(40,wH)],[(32,.dat wP 86),(33,.row .str 9)],64,[]⟩),(ah [(0,30),(0,31)],⟨59,[(1,.ptr 32 0)],[(32,.dat wP 86)],64,[]⟩),(ah [(0,29),(0,15)],⟨59,[(1,.ptr 32 0),(24,.h .bool)],[(32,.dat wP 86)],64,[]⟩)]
def vij:Nat->(x78 fu).L 0:=Fx.lq (qh1 fu) (qwh fu) (fun r2=>[r2.s])
def vii:(x78 fu).L 1:=Fx.jm (qwi fu) [(vij fu fu).s]
def vih:(x78 fu).L 2:=Fx.jm (qco fu) [(vii fu).s]
def vik:=(x78 fu).fi (qnq fu) [(vih fu).s] call101
def vin:IF:=⟨.fn 72,[.h (.prod .str (.prod .str wL))],[],_,RS.mk (.tup [wS,.h (.prod wI wI)]) []⟩
def x79:Fx wG vin:=fx f72 72 func72 [(q6n fu).p,mf.p,(vik fu).p,kz.p,oz.p] false [] ao [(ah [(0,488),(0,489),(2,122),(1,61),(0,31)],⟨37,[(3,.ptr 32 0),(5,wS),(20,.h wL),(21,wH),(22,wH)],[(32,.dat (.prod wI wI) 30)],64,[]⟩)]
def vio:Nat->(x79 fu).L 0:=Fx.lq (qhx fu) (qwc fu) (fun r0=>[r0.s])
def q6v:=(x79 fu).fi (vp fu) [(vio fu fu).s] call72
def vis:IF:=⟨.fn 52,[.h wT],[],_,RS.mk (wH) []⟩
def x80:Fx wG vis:=fx f52 52 func52 [(qti fu).p,(ye fu).p,(zj4 fu).p,(q6v fu).p,mf.p] false [] ao [(ah [(0,30),(0,31)],⟨69,[(1,.ptr 32 0),(3,.ptr 33 0),(4,wH)],[(32,.dat wT 26),(33,.cells [wS,wS,.own 34] 83),(34,.row wP 86)],64,[]⟩),(ah [(0,29),(0,15)],⟨69,[(1,.ptr 32 0),(3,.ptr 33 0),(4,wH),(31,.h .bool)],[(32,.dat wT 26),(33,.cells [wS,wS,.own 34] 83),(34,.row wP 86)],64,[]⟩)]
def viu:(x80 fu).L 0:=Fx.jm (qxf fu) []
def vit:(x80 fu).L 1:=Fx.jm (o9 fu) [(viu fu).s]
def viv:=(x80 fu).fi (qod fu) [(vit fu).s] call52
def viy:IF:=⟨.fn 53,[.h wB],[],_,RS.mk (wH) []⟩
def x81(fu:Nat):Fx wG viy:=fx f53 53 func53 [] false [] ao [(ah [(0,14924),(0,14925),(0,7463),(1,466),(0,467),(2,58),(1,29),(0,15)],⟨45,[(0,.h wB),(3,wH),(4,wH),(5,.h .byte)],[],64,[]⟩),(ah [(0,7461),(0,3731),(1,466),(0,467),(2,58),(1,29),(0,15)],⟨45,[(0,.h wB),(3,wH),(4,wH),(5,.h .byte),(32,.h .bool)],[],64,[]⟩),(ah [(0,464),(0,465),(0,233),(2,58),(1,29),(0,15)],⟨45,[(0,.h wB),(3,wH),(4,wH)],[],64,[]⟩)]
def vi1(r0:(x81 fu).L 2):(x81 fu).L 0:=Fx.jm (qvw fu r0.f) [r0.s]
def vi0(r0:(x81 fu).L 2):(x81 fu).L 1:=Fx.jm (qcg fu r0.f) [r0.s,(vi1 fu r0).s]
def viz:Nat->(x81 fu).L 2:=Fx.lq (y9 fu) (qvv fu) (fun r0=>[(vi0 fu r0).s])
def zkb:=(x81 fu).fi (qcf fu) [(viz fu fu).s] call53
def vi5:IF:=⟨.fn 118,[.h .byte],[],_,RS.mk (.h .bool) []⟩
def x82:Fx wG vi5:=fx f118 118 func118 [] false [] ao []
def vi6:=x82.fi qii [] call118
def vi7:IF:=⟨.fn 117,[wS,.fn 118 []],[],_,RS.mk (.h .bool) []⟩
def x83(fu:Nat):Fx wG vi7:=fx f117 117 func117 [vi6.p] false [] ao [(ah [(0,104),(0,105),(2,26),(1,13),(0,7)],⟨18,[(0,wS),(1,.fn 118 []),(7,wH),(8,wH)],[],64,[]⟩)]
def vi8:Nat->(x83 fu).L 0:=Fx.lq (qhg fu) (q7e fu) (fun r0=>[r0.s])
def vi9:=(x83 fu).fi (qnc fu) [(vi8 fu fu).s] call117
def vjb:IF:=⟨.fn 119,[wS,wS],[],_,RS.mk (.h .bool) []⟩
def x84:Fx wG vjb:=fx f119 119 func119 [zjw.p] false [] ao []
def vjc:=x84.fi qol [] call119
def vjd:IF:=⟨.fn 83,[.h wL],[],_,RS.mk (.tup [wS,.h .bool]) []⟩
def x85:Fx wG vjd:=fx f83 83 func83 [(qti fu).p,(ye fu).p,(zj4 fu).p,(vi9 fu).p,vjc.p] false [] ao [(ah [(0,30),(0,31)],⟨52,[(4,.ptr 32 0)],[(32,.cells [wS,wS,.own 33] 83),(33,.row wP 86)],64,[]⟩),(ah [(0,29),(0,15)],⟨52,[(4,.ptr 32 0),(24,.h .bool)],[(32,.cells [wS,wS,.own 33] 83),(33,.row wP 86)],64,[]⟩)]
def vjf:(x85 fu).L 0:=Fx.jm (qw2 fu) []
def vje:(x85 fu).L 1:=Fx.jm (zk fu) [(vjf fu).s]
def vjg:=(x85 fu).fi (qn0 fu) [(vje fu).s] call83
def vjk:IF:=⟨.fn 97,[.h wB],[],_,RS.mk (.fn 130 [.ptr 0 0]) [(0,.cells [.h wB] 23)]⟩
def x86:Fx wG vjk:=fx f97 97 func97 [] false [] ao []
def zkd:=x86.fi qoa [] call97
def vjl:IF:=⟨.fn 154,[wS,.h .byte],[],_,RS.mk (wS) []⟩
def x87(fu:Nat):Fx wG vjl:=fx f154 154 func154 [] false [] ao [(ah [(0,96),(0,97),(0,49),(2,12),(1,6),(0,7)],⟨23,[(0,wS),(1,.h .byte)],[],64,[]⟩)]
def vjm:Nat->(x87 fu).L 0:=Fx.lq (qyk fu) (q8n fu) (fun r0=>[r0.s])
def zkf:=(x87 fu).fi (qyj fu) [(vjm fu fu).s] call154
def vjn:IF:=⟨.fn 157,[wS,.el 0 1],[(0,.row .bool 194)],_,RS.mk (wS) [(0,.row .bool 194)]⟩
def x88(fu:Nat):Fx wG vjn:=fx f157 157 func157 [q5h.p] false [] ao [(ah [(0,96),(0,97),(0,49),(2,12),(1,6),(0,7)],⟨22,[(0,wS),(1,.el 0 1)],[(0,.row .bool 194)],64,[]⟩)]
def vjo:Nat->(x88 fu).L 0:=Fx.lq (qi4 fu) (qyi fu) (fun r0=>[r0.s])
def zkh:=(x88 fu).fi (qi3 fu) [(vjo fu fu).s] call157
def vjq:IF:=⟨.fn 204,[.h .byte],[],_,RS.mk (.h .bool) []⟩
def x89:Fx wG vjq:=fx f204 204 func204 [] false [] ao []
def vjr:=x89.fi q8r [] call204
def vju:IF:=⟨.fn 182,[wS],[],_,RS.mk (.tup [.h (.int .i32),wH]) []⟩
def x90(fu:Nat):Fx wG vju:=fx f182 182 func182 [vjr.p,zjo.p] false [] ao [(ah [(0,2046),(0,2047)],⟨51,[(0,wS),(4,wH),(5,wH)],[],64,[]⟩),(ah [(0,2044),(0,2045),(0,1023)],⟨51,[(0,wS),(4,wH),(5,wH)],[],64,[]⟩),(ah [(0,16336),(0,16337),(0,8169),(2,2042),(1,1021),(0,511)],⟨51,[(0,wS),(4,wH),(5,wH),(6,wH)],[],64,[]⟩)]
def vjx:(x90 fu).L 0:=Fx.jm (qyp fu) []
def vjw:(x90 fu).L 1:=Fx.jm (qyo fu) [(vjx fu).s]
def vjv:Nat->(x90 fu).L 2:=Fx.lq (qyn fu) (q8q fu) (fun r0=>[(vjw fu).s,r0.s])
def vjy:=(x90 fu).fi (q8p fu) [(vjv fu fu).s] call182
def vj1:IF:=⟨.fn 159,[wS,wS],[],_,RS.mk (wS) []⟩
def x91:Fx wG vj1:=fx f159 159 func159 [(vjy fu).p,(zjp fu).p] false [] ao [(ah [(0,96),(0,97),(0,49),(2,12),(1,6),(0,7)],⟨34,[(0,wS),(1,wS)],[],64,[]⟩)]
def vj2:Nat->(x91 fu).L 0:=Fx.lq (qym fu) (q8o fu) (fun r0=>[r0.s])
def zkj:=(x91 fu).fi (qyl fu) [(vj2 fu fu).s] call159
def vj3:IF:=⟨.fn 148,[wS,wS],[],_,RS.mk (wS) []⟩
def x92:Fx wG vj3:=fx f148 148 func148 [(zkf fu).p,(qso fu).p,(zkh fu).p,(zkj fu).p] false [] ao [(ah [(0,60),(0,61),(0,31)],⟨37,[(0,wS),(1,wS)],[],64,[]⟩),(ah [(0,29),(0,15)],⟨37,[(0,wS),(1,wS),(21,.h .bool)],[],64,[]⟩),(ah [(0,28),(0,29),(0,15)],⟨37,[(0,wS),(1,wS)],[],64,[]⟩),(ah [(0,13),(0,7)],⟨37,[(0,wS),(1,wS),(12,.h .bool)],[],64,[]⟩)]
def vj7:(x92 fu).L 0:=Fx.jm (qx6 fu) []
def vj6:(x92 fu).L 1:=Fx.jm (qou fu) [(vj7 fu).s]
def vj5:(x92 fu).L 2:=Fx.jm (qx5 fu) [(vj6 fu).s]
def vj4:(x92 fu).L 3:=Fx.jm (qot fu) [(vj5 fu).s]
def zkk:=(x92 fu).fi (qiw fu) [(vj4 fu).s] call148
def vkd:IF:=⟨.fn 120,[wS,wS],[],_,RS.mk (wH) []⟩
def x93:Fx wG vkd:=fx f120 120 func120 [(zkk fu).p] false [] ao []
def vke:=(x93 fu).fi (qn9 fu) [] call120
def zkl:IF:=⟨.yld 0,[wH,wS],[(0,.loop .ready none 84 51 [(2,.ptr 1 0),(3,.ptr 2 0),(4,.ptr 3 0),(5,.ptr 4 0),(6,.ptr 5 0)] [12,13] 2 6),(1,.cells [.h wB] 23),(2,.cells [wS] 9),(3,.cells [.own 7] 77),(4,.cells [.own 8] 77),(5,.cells [wH] 3),(6,.dfr),(7,.row wB 23),(8,.row wB 23)],_,.two (RS.mk (.c (.bool true)) [(0,.loop .ready none 84 51 [(2,.ptr 1 0),(3,.ptr 2 0),(4,.ptr 3 0),(5,.ptr 4 0),(6,.ptr 5 0)] [12,13] 2 6),(1,.cells [.h wB] 23),(2,.cells [wS] 9),(3,.cells [.own 9] 77),(4,.cells [.own 10] 77),(5,.cells [wH] 3),(6,.dfr),(7,.dead),(8,.dead),(9,.row wB 23),(10,.row wB 23)]) (RS.mk (.c (.bool false)) [(0,.loop .done (some .ret) 84 51 [(2,.ptr 1 0),(3,.ptr 2 0),(4,.ptr 3 0),(5,.ptr 4 0),(6,.ptr 5 0)] [12,13] 2 6),(1,.cells [.h wB] 23),(2,.cells [wS] 9),(3,.cells [.own 9] 77),(4,.cells [.own 9] 77),(5,.cells [wH] 3),(6,.dfr),(7,.dead),(8,.dead),(9,.row wB 23)])⟩
def x94:Fx wG zkl:=fx f84 84 func84 [(vke fu).p] false [([0,1,0,1,1,1],2)] (xn rfl ao) []
def vkg:EI wG zkl:=(x94 fu).fiy (qcx fu) [] 0 rfl [0,1,0,1,1,1] (by kernel_rfl) (by kernel_rfl) fun d d'=>by kernel_rfl
def vkh:IF:=⟨.fn 130,[.yld 0,.ptr 1 0],[(0,.loop .ready none 84 51 [(2,.ptr 2 0),(3,.ptr 3 0),(4,.ptr 4 0),(5,.ptr 5 0),(6,.ptr 6 0)] [12,13] 2 7),(1,.cells [.h wB] 23),(2,.cells [.h wB] 23),(3,.cells [wS] 9),(4,.cells [.own 8] 77),(5,.cells [.own 9] 77),(6,.cells [wH] 3),(7,.dfr),(8,.row wB 23),(9,.row wB 23)],_,.two (RS.mk (.tup []) [(0,.loop .done (some .ret) 84 51 [(2,.ptr 2 0),(3,.ptr 3 0),(4,.ptr 4 0),(5,.ptr 5 0),(6,.ptr 6 0)] [12,13] 2 7),(1,.cells [.h wB] 23),(2,.cells [.h wB] 23),(3,.cells [wS] 9),(4,.cells [.own 10] 77),(5,.cells [.own 10] 77),(6,.cells [wH] 3),(7,.dfr),(8,.dead),(9,.dead),(10,.row wB 23)]) (RS.mk (.tup []) [(0,.loop .ready none 84 51 [(2,.ptr 2 0),(3,.ptr 3 0),(4,.ptr 4 0),(5,.ptr 5 0),(6,.ptr 6 0)] [12,13] 2 7),(1,.cells [.h wB] 23),(2,.cells [.h wB] 23),(3,.cells [wS] 9),(4,.cells [.own 10] 77),(5,.cells [.own 11] 77),(6,.cells [wH] 3),(7,.dfr),(8,.dead),(9,.dead),(10,.row wB 23),(11,.row wB 23)])⟩
def x95:Fx wG vkh:=fx f130 130 func130 [⟨qz1.e tr,q98 (by decide)⟩,(vkg fu).p] false [] ao [(ah [(0,48),(0,49),(0,25),(2,6),(1,3)],⟨39,[(0,.yld 0),(1,.ptr 1 0),(3,wH)],[(0,.loop .ready none 84 51 [(2,.ptr 2 0),(3,.ptr 3 0),(4,.ptr 4 0),(5,.ptr 5 0),(6,.ptr 6 0)] [12,13] 2 7),(1,.cells [.h wB] 23),(2,.cells [.h wB] 23),(3,.cells [wS] 9),(4,.cells [.own 32] 77),(5,.cells [.own 33] 77),(6,.cells [wH] 3),(7,.dfr),(8,.dead),(9,.dead),(32,.row wB 23),(33,.row wB 23)],64,[]⟩)]
def vki:Nat->(x95 fu).L 0:=Fx.lq (zm fu) (qxa fu) (fun r0=>[r0.s])
def vkj:=(x95 fu).fi (qw9 fu) [(vki fu fu).s] call130
def vkl:IF:=⟨.fn 84,[.h wB,wS],[],_,RS.mk (.own 0) [(0,.row wB 23)]⟩
def x96:Fx wG vkl:=fx f84 84 func84 [zkd.p,(vkj fu).p] false [([0,1,0,1,1,1],2)] (xn rfl ao) []
def vkm:=(x96 fu).fi (qn2 fu) [] call84
def vko:IF:=⟨.fn 54,[.h wL,.h wB,wH],[],_,RS.mk (.own 0) [(0,.row wB 23)]⟩
def x97:Fx wG vko:=fx f54 54 func54 [(vjg fu).p,(vkm fu).p] false [] ao []
def q65:=(x97 fu).fi (zl fu) [] call54
def vkq:IF:=⟨.fn 25,[.h (.prod wT wI)],[],_,RS.mk (wH) []⟩
def x98:Fx wG vkq:=fx f25 25 func25 [(zji fu).p,mf.p,(viv fu).p,(zkb fu).p,(q65 fu).p] false [] ao []
def vkr:=(x98 fu).fi (qn1 fu) [] call25
def zkn:IF:=⟨.yld 0,[wH,.agg [.h wL,.h wB,.h (.list wT),wH]],[(0,.loop .ready none 10 36 [(2,.ptr 1 0)] [26,27] 1 2),(1,.dat (.prod wI wI) 30),(2,.dfr)],_,.two (RS.mk (.c (.bool false)) [(0,.loop .done (some .ret) 10 36 [(2,.ptr 1 0)] [26,27] 1 2),(1,.dat (.prod wI wI) 30),(2,.dfr)]) (RS.mk (.c (.bool true)) [(0,.loop .ready none 10 36 [(2,.ptr 1 0)] [26,27] 1 2),(1,.dat (.prod wI wI) 30),(2,.dfr)])⟩
def x99:Fx wG zkn:=fx f10 10 func10 [(vkr fu).p,kz.p] false [([0,1,0,1,1,1,1],1)] (xn rfl ao) []
def vkt:EI wG zkn:=(x99 fu).fiy (qw1 fu) [] 0 rfl [0,1,0,1,1,1,1] (by kernel_rfl) (by kernel_rfl) fun d d'=>by kernel_rfl
def qe8:IF:=⟨.fn 50,[.h wT,wH,.ptr 0 0,.ptr 1 0,.ptr 2 0],[(0,.cells [.yld 3] 92),(1,.cells [wH] 3),(2,.cells [.fn 50 [.ptr 0 0,.ptr 1 0,.ptr 2 0]] 93),(3,.loop .ready none 10 36 [(2,.ptr 4 0)] [26,27] 1 5),(4,.dat (.prod wI wI) 30),(5,.dfr)],_,.two (RS.mk (.c (.bool false)) [(0,.cells [.yld 3] 92),(1,.cells [wH] 3),(2,.cells [.fn 50 [.ptr 0 0,.ptr 1 0,.ptr 2 0]] 93),(3,.loop .done (some .ret) 10 36 [(2,.ptr 4 0)] [26,27] 1 5),(4,.dat (.prod wI wI) 30),(5,.dfr)]) (RS.mk (.c (.bool true)) [(0,.cells [.yld 3] 92),(1,.cells [wH] 3),(2,.cells [.fn 50 [.ptr 0 0,.ptr 1 0,.ptr 2 0]] 93),(3,.loop .ready none 10 36 [(2,.ptr 4 0)] [26,27] 1 5),(4,.dat (.prod wI wI) 30),(5,.dfr)])⟩
def zhm(s12:EI wG qe8)(fu:Nat):Fx wG qe8:=fx f50 50 func50 [(vkt fu).p,s12.p] false [] ao [(ah [(0,488),(0,489),(2,122),(1,61),(0,31)],⟨33,[(1,wH),(4,.ptr 2 0),(20,.h (.list wT)),(21,wH),(22,wH)],[(0,.cells [.yld 3] 92),(1,.cells [wH] 3),(2,.cells [.fn 50 [.ptr 0 0,.ptr 1 0,.ptr 2 0]] 93),(3,.loop .ready none 10 36 [(2,.ptr 4 0)] [26,27] 1 5),(4,.dat (.prod wI wI) 30),(5,.dfr)],64,[]⟩)]
def zyh(s12:EI wG qe8)(fu:Nat):Nat->(zhm s12 fu).L 0:=Fx.lq (qik s12.f fu) (qw4 s12.f fu) (fun r0=>[r0.s])
def zyg(s12:EI wG qe8)(fu:Nat):EI wG qe8:=(zhm s12 fu).fi (qn6 s12.f fu) [(zyh s12 fu fu).s] call50
def zyi:EI wG qe8 := .rc (qcz fu) (fun r=>qn6 r fu) (fun _ _=>rfl) (fun _=>rfl) (fun s12=>zyg s12 fu) (fun _=>rfl) fu
def zyk:IF:=⟨.fn 49,[.yld 0,.ptr 1 0],[(0,.loop .ready none 10 36 [(2,.ptr 2 0)] [26,27] 1 3),(1,.dat wT 26),(2,.dat (.prod wI wI) 30),(3,.dfr)],_,.two (RS.mk (.tup []) [(0,.loop .done (some .ret) 10 36 [(2,.ptr 2 0)] [26,27] 1 3),(1,.dat wT 26),(2,.dat (.prod wI wI) 30),(3,.dfr)]) (RS.mk (.tup []) [(0,.loop .ready none 10 36 [(2,.ptr 2 0)] [26,27] 1 3),(1,.dat wT 26),(2,.dat (.prod wI wI) 30),(3,.dfr)])⟩
def zyj:Fx wG zyk:=fx f49 49 func49 [(zyi fu).p] false [] ao []
def zyl:=(zyj fu).fi (qn7 fu) [] call49
def zyn:IF:=⟨.fn 10,[.h wT],[],_,RS.mk (.h (.prod wI wI)) []⟩
def zym:Fx wG zyn:=fx f10 10 func10 [x1s.p,(x5s fu).p,kz.p,(zyl fu).p,oz.p] false [([0,1,0,1,1],0),([0,1,0,1,1,1,1],1)] (xn rfl (xn rfl ao)) []
def q4g:=(zym fu).fi (qcv fu) [] call10
def zyo:IF:=⟨.fn 68,[.h wL,.h wB],[],_,RS.mk (.own 0) [(0,.row .byte 5)]⟩
def qsn:Fx wG zyo:=fx f68 68 func68 [(qtb fu).p] false [] ao [(ah [(0,119608),(0,119609),(2,29902),(1,14951),(1,934),(0,935),(2,58),(1,29),(0,15)],⟨44,[(1,.h wB),(5,.own 33),(12,.h wL),(13,wH),(14,wH),(26,.own 32),(27,wH),(28,wH)],[(32,.row .str 9),(33,.row .byte 5)],64,[]⟩),(ah [(0,232),(0,233),(2,58),(1,29),(0,15)],⟨44,[(1,.h wB),(5,.own 32),(12,.h wL),(13,wH),(14,wH)],[(32,.row .byte 5)],64,[]⟩)]
def zyq(r0:(qsn fu).L 1):Nat->(qsn fu).L 0:=Fx.lq (qxh fu r0.f) (q75 fu r0.f) (fun r1=>[r1.s,r0.s])
def zyp:Nat->(qsn fu).L 1:=Fx.lq (qxg fu) (q74 fu) (fun r0=>[(zyq fu r0 fu).s])
def zyr:=(qsn fu).fi (q73 fu) [(zyp fu fu).s] call68
def qq:IF:=⟨.fn 37,[.h wT],[],_,RS.mk (.tup [.h wL,.h wB]) []⟩
def zhn:IF:=⟨.fn 67,[.h wT],[],_,RS.mk (.own 0) [(0,.row .byte 5)]⟩
def zys(s107:EI wG qq)(fu:Nat):Fx wG zhn:=fx f67 67 func67 [s107.p,(zyr fu).p] false [] ao []
def zyt(s107:EI wG qq)(fu:Nat):EI wG zhn:=(zys s107 fu).fi (q7u s107.f fu) [] call67
def zhp:IF:=⟨.fn 66,[.h (.list wT),.fn 67 []],[],_,RS.mk (.own 0) [(0,.row wB 23)]⟩
def zho(s107:EI wG qq)(fu:Nat):Fx wG zhp:=fx f66 66 func66 [(zyt s107 fu).p] false [] ao [(ah [(0,232),(0,233),(2,58),(1,29),(0,15)],⟨22,[(1,.fn 67 []),(5,.own 32),(8,.h (.list wT)),(9,wH),(10,wH)],[(32,.row wB 23)],64,[]⟩)]
def zyu(s107:EI wG qq)(fu:Nat):Nat->(zho s107 fu).L 0:=Fx.lq (qxd s107.f fu) (q71 s107.f fu) (fun r0=>[r0.s])
def zyv(s107:EI wG qq)(fu:Nat):EI wG zhp:=(zho s107 fu).fi (q70 s107.f fu) [(zyu s107 fu fu).s] call66
def zyx:IF:=⟨.fn 132,[wS,wS],[],_,RS.mk (.h .bool) []⟩
def zyw:Fx wG zyx:=fx f132 132 func132 [] false [] ao []
def zyy:=zyw.fi q7f [] call132
def zy0:IF:=⟨.fn 98,[wS,wS],[],_,RS.mk (.h .bool) []⟩
def zyz:Fx wG zy0:=fx f98 98 func98 [zyy.p] false [] ao []
def zy1:=zyz.fi q8b [] call98
def zhq:IF:=⟨.yld 0,[wH,wS],[(0,.loop .ready none 96 14 [(1,.ptr 1 0),(3,.ptr 2 0)] [8,9] 3 3),(1,.cells [wS] 9),(2,.cells [.h .bool] 4),(3,.dfr)],_,.two (RS.mk (.c (.bool false)) [(0,.loop .done (some .ret) 96 14 [(1,.ptr 1 0),(3,.ptr 2 0)] [8,9] 3 3),(1,.cells [wS] 9),(2,.cells [.h .bool] 4),(3,.dfr)]) (RS.mk (.c (.bool true)) [(0,.loop .ready none 96 14 [(1,.ptr 1 0),(3,.ptr 2 0)] [8,9] 3 3),(1,.cells [wS] 9),(2,.cells [.h .bool] 4),(3,.dfr)])⟩
def zy2:Fx wG zhq:=fx f96 96 func96 [zy1.p] false [([0,1,0,1],3)] (xn rfl ao) []
def zy3:EI wG zhq:=zy2.fiy qw5 [] 0 rfl [0,1,0,1] (by kernel_rfl) (by kernel_rfl) fun d d'=>by kernel_rfl
def zy4:IF:=⟨.fn 130,[.yld 0,.ptr 1 0],[(0,.loop .ready none 96 14 [(1,.ptr 2 0),(3,.ptr 3 0)] [8,9] 3 4),(1,.cells [.h wB] 23),(2,.cells [wS] 9),(3,.cells [.h .bool] 4),(4,.dfr)],_,.two (RS.mk (.tup []) [(0,.loop .done (some .ret) 96 14 [(1,.ptr 2 0),(3,.ptr 3 0)] [8,9] 3 4),(1,.cells [.h wB] 23),(2,.cells [wS] 9),(3,.cells [.h .bool] 4),(4,.dfr)]) (RS.mk (.tup []) [(0,.loop .ready none 96 14 [(1,.ptr 2 0),(3,.ptr 3 0)] [8,9] 3 4),(1,.cells [.h wB] 23),(2,.cells [wS] 9),(3,.cells [.h .bool] 4),(4,.dfr)])⟩
def zhr(fu:Nat):Fx wG zy4:=fx f130 130 func130 [⟨qz1.e tr,q98 (by decide)⟩,zy3.p] false [] ao [(ah [(0,48),(0,49),(0,25),(2,6),(1,3)],⟨39,[(0,.yld 0),(1,.ptr 1 0),(3,wH)],[(0,.loop .ready none 96 14 [(1,.ptr 2 0),(3,.ptr 3 0)] [8,9] 3 4),(1,.cells [.h wB] 23),(2,.cells [wS] 9),(3,.cells [.h .bool] 4),(4,.dfr)],64,[]⟩)]
def zy5:Nat->(zhr fu).L 0:=Fx.lq (qxb fu) (q7x fu) (fun r0=>[r0.s])
def zy6:=(zhr fu).fi (q7w fu) [(zy5 fu fu).s] call130
def zza:IF:=⟨.fn 96,[.h wB,.ptr 0 0],[(0,.cells [wS] 9)],_,RS.mk (.h .bool) [(0,.cells [wS] 9)]⟩
def zy9:Fx wG zza:=fx f96 96 func96 [zkd.p,(zy6 fu).p] false [([0,1,0,1],3)] (xn rfl ao) []
def zzb:=(zy9 fu).fi (q7s fu) [] call96
def zzc:IF:=⟨.fn 129,[.h (.list wB),.fn 96 [.ptr 0 0]],[(0,.cells [wS] 9)],_,RS.mk (wH) [(0,.cells [wS] 9)]⟩
def zhs:Fx wG zzc:=fx f129 129 func129 [(zzb fu).p] false [] ao [(ah [(0,104),(0,105),(2,26),(1,13),(0,7)],⟨19,[(0,.h (.list wB)),(1,.fn 96 [.ptr 0 0]),(7,wH),(8,wH)],[(0,.cells [wS] 9)],64,[]⟩)]
def zzd:Nat->(zhs fu).L 0:=Fx.lq (qxn fu) (q8a fu) (fun r0=>[r0.s])
def zze:=(zhs fu).fi (q79 fu) [(zzd fu fu).s] call129
def zzg:IF:=⟨.fn 95,[.h (.list wB),.fn 96 [.ptr 0 0]],[(0,.cells [wS] 9)],_,RS.mk (.h .bool) [(0,.cells [wS] 9)]⟩
def zzf:Fx wG zzg:=fx f95 95 func95 [(zze fu).p] false [] ao []
def zzh:=(zzf fu).fi (q76 fu) [] call95
def zzi:IF:=⟨.fn 69,[.h (.list wB)],[],_,RS.mk (wS) []⟩
def zht:Fx wG zzi:=fx f69 69 func69 [⟨q1i.e tw,zcr q2w q2x⟩,(zzh fu).p] false [] ao [(ah [(0,224),(0,225),(1,56),(0,57),(2,14),(1,7)],⟨17,[(0,.h (.list wB)),(3,wH)],[],64,[]⟩)]
def zzj:Nat->(zht fu).L 0:=Fx.lq (qw6 fu) (q7t fu) (fun r0=>[r0.s])
def zzk:=(zht fu).fi (q7r fu) [(zzj fu fu).s] call69
def zhu(s107:EI wG qq)(fu:Nat):Fx wG qq:=fx f37 37 func37 [(zyv s107 fu).p,(zzk fu).p,(qti fu).p,⟨zar.e cz,znw⟩,⟨qag.e cz,qdn⟩,(q6v fu).p] false [] ao [(ah [(0,32744),(0,32745),(2,8186),(1,4093),(0,2047)],⟨76,[(5,wS),(9,.own 32),(10,.own 34),(53,.own 33),(54,wH),(55,wH)],[(32,.row wP 50),(33,.row wB 23),(34,.row .byte 5)],64,[]⟩)]
def zzm(s107:EI wG qq)(fu:Nat):Nat->(zhu s107 fu).L 0:=Fx.lq (qn8 s107.f fu) (q7v s107.f fu) (fun r0=>[r0.s])
def zzl(s107:EI wG qq)(fu:Nat):EI wG qq:=(zhu s107 fu).fi (qw7 s107.f fu) [(zzm s107 fu fu).s] call37
def zzn:EI wG qq := .rc (qw8 fu) (fun r=>qw7 r fu) (fun _ _=>rfl) (fun _=>rfl) (fun s107=>zzl s107 fu) (fun _=>rfl) fu
def zzo:IF:=⟨.fn 61,[.h (.prod wL wB)],[],_,RS.mk (.own 0) [(0,.row .byte 5)]⟩
def qsq:Fx wG zzo:=fx f61 61 func61 [(qtb fu).p] false [] ao [(ah [(0,119608),(0,119609),(2,29902),(1,14951),(1,934),(0,935),(2,58),(1,29),(0,15)],⟨44,[(1,.ptr 32 0),(3,.own 34),(11,.h wL),(12,wH),(13,wH),(25,.own 33),(26,wH),(27,wH)],[(32,.dat (.prod wL wB) 37),(33,.row .str 9),(34,.row .byte 5)],64,[]⟩),(ah [(0,232),(0,233),(2,58),(1,29),(0,15)],⟨44,[(1,.ptr 32 0),(3,.own 33),(11,.h wL),(12,wH),(13,wH)],[(32,.dat (.prod wL wB) 37),(33,.row .byte 5)],64,[]⟩)]
def zzq(r0:(qsq fu).L 1):Nat->(qsq fu).L 0:=Fx.lq (qct fu r0.f) (qwv fu r0.f) (fun r1=>[r1.s,r0.s])
def zzp:Nat->(qsq fu).L 1:=Fx.lq (zi fu) (qwu fu) (fun r0=>[(zzq fu r0 fu).s])
def zzr:=(qsq fu).fi (qwt fu) [(zzp fu fu).s] call61
def zzt:IF:=⟨.fn 62,[.h wB],[],_,RS.mk (.h (.prod wI wI)) []⟩
def zzs:Fx wG zzt:=fx f62 62 func62 [(zkb fu).p,kz.p,oz.p] false [] ao []
def zzu:=(zzs fu).fi (qny fu) [] call62
def zzw:IF:=⟨.fn 34,[.h (.prod wL wB)],[],_,RS.mk (.h (.prod wI wI)) []⟩
def zzv:Fx wG zzw:=fx f34 34 func34 [(zji fu).p,mf.p,(zzr fu).p,kz.p,(zzu fu).p] false [] ao []
def zhv:=(zzv fu).fi (qif fu) [] call34
def zzy:IF:=⟨.fn 17,[.h wT],[],_,RS.mk (.tup [.h (.prod wL wB),.h (.prod wI wI)]) []⟩
def zzx:Fx wG zzy:=fx f17 17 func17 [(q4g fu).p,mf.p,(zzn fu).p,⟨qag.e cz,qdn⟩,⟨qjr.e cz,qpw⟩,(zhv fu).p,kz.p,oz.p] false [] ao []
def zzz:=(zzx fu).fi (q7m fu) [] call17
def zz1:IF:=⟨.fn 88,[.h wP],[],_,RS.mk (.h .bool) []⟩
def zz0:Fx wG zz1:=fx f88 88 func88 [(ye fu).p] false [] ao []
def q4p:=(zz0 fu).fi (qcw fu) [] call88
def zz3:IF:=⟨.fn 121,[.h wL,.fn 88 []],[],_,RS.mk (wH) []⟩
def zhx:Fx wG zz3:=fx f121 121 func121 [(q4p fu).p] false [] ao [(ah [(0,104),(0,105),(2,26),(1,13),(0,7)],⟨19,[(0,.h wL),(1,.fn 88 []),(7,wH),(8,wH)],[],64,[]⟩)]
def zz4:Nat->(zhx fu).L 0:=Fx.lq (qc0 fu) (qxm fu) (fun r0=>[r0.s])
def zhy:=(zhx fu).fi (qoh fu) [(zz4 fu fu).s] call121
def zz5:IF:=⟨.fn 87,[.h wL,.fn 88 []],[],_,RS.mk (.h wL) []⟩
def zhz:Fx wG zz5:=fx f87 87 func87 [(zhy fu).p,(q4p fu).p] true [] ao [(ah [(0,976),(0,977),(0,489),(2,122),(1,61),(0,31)],⟨42,[(0,.h wL),(1,.fn 88 []),(5,wH),(6,wH)],[],64,[]⟩)]
def zz6:Nat->(zhz fu).L 0:=Fx.lq (qxi fu) (q78 fu) (fun r0=>[r0.s])
def zz7:=(zhz fu).fi (q77 fu) [(zz6 fu fu).s] call87
def zz8:IF:=⟨.fn 87,[.own 0,.fn 88 []],[(0,.row wP 86)],_,RS.mk (.own 1) [(0,.dead),(1,.row wP 86)]⟩
def zh0:Fx wG zz8:=fx f87 87 func87 [(zhy fu).p,(q4p fu).p] true [] ao [(ah [(0,976),(0,977),(0,489),(2,122),(1,61),(0,31)],⟨42,[(0,.own 32),(1,.fn 88 []),(5,wH),(6,wH)],[(0,.dead),(32,.row wP 86)],64,[]⟩)]
def zz9:Nat->(zh0 fu).L 0:=Fx.lq (qim fu) (qxj fu) (fun r0=>[r0.s])
def z0a:=(zh0 fu).fi (qog fu) [(zz9 fu fu).s] call87
def z0c:IF:=⟨.fn 63,[.h wL],[],_,RS.mk (.tup [.own 0,.h .bool]) [(0,.row wP 50)]⟩
def z0b:Fx wG z0c:=fx f63 63 func63 [(qti fu).p,(zz7 fu).p,(q6v fu).p,mf.p,⟨qag.e cz,qdn⟩,(z0a fu).p] false [] ao []
def zh1:=(z0b fu).fi (qih fu) [] call63
def z0e:IF:=⟨.fn 149,[.h wB,.h .byte],[],_,RS.mk (wH) []⟩
def z0d:Fx wG z0e:=fx f149 149 func149 [⟨qv0 176 vn,zkv⟩] false [] ao []
def z0f:=z0d.fi qne [] call149
def z0h:IF:=⟨.fn 163,[.h wB,.h wB],[],_,RS.mk (.h .bool) []⟩
def z0g:Fx wG z0h:=fx f163 163 func163 [] false [] ao []
def z0i:=z0g.fi qv1 [] call163
def z0k:IF:=⟨.fn 177,[.h wB,.h wB],[],_,RS.mk (.h .bool) []⟩
def z0j:Fx wG z0k:=fx f177 177 func177 [z0i.p] false [] ao []
def z0l:=z0j.fi qv2 [] call177
def z0n:IF:=⟨.fn 150,[.h wB,.h wB],[],_,RS.mk (.h wB) []⟩
def z0m:Fx wG z0n:=fx f150 150 func150 [z0l.p] false [] ao []
def z0o:=z0m.fi qnf [] call150
def z0q:IF:=⟨.fn 122,[.h wB],[],_,RS.mk (.tup [wS,wH]) []⟩
def z0p:Fx wG z0q:=fx f122 122 func122 [z0f.p,z0o.p] false [] ao []
def z0r:=z0p.fi qno [] call122
def z0t:IF:=⟨.fn 152,[wS],[],_,RS.mk (.h .bool) []⟩
def z0s:Fx wG z0t:=fx f152 152 func152 [(qtb fu).p,mf.p] false [] ao []
def z0u:=(z0s fu).fi (qnp fu) [] call152
def z0x:IF:=⟨.fn 124,[wS],[],_,RS.mk (.tup [.h wP,.h .bool]) []⟩
def z0w:Fx wG z0x:=fx f124 124 func124 [zjv.p,(zkk fu).p,(z0u fu).p] false [] ao []
def z0y:=(z0w fu).fi (qnn fu) [] call124
def z0z:IF:=⟨.fn 126,[wS,wS],[],_,RS.mk (wS) []⟩
def qlc:Fx wG z0z:=fx f126 126 func126 [(zkf fu).p,(zjl fu).p,(qso fu).p,(zkh fu).p,(zjn fu).p,(zkj fu).p,(zjr fu).p] false [] ao [(ah [(0,60),(0,61),(0,31)],⟨43,[(0,wS),(1,wS)],[],64,[]⟩),(ah [(0,29),(0,15)],⟨43,[(0,wS),(1,wS),(21,.h .bool)],[],64,[]⟩),(ah [(0,28),(0,29),(0,15)],⟨43,[(0,wS),(1,wS)],[],64,[]⟩),(ah [(0,13),(0,7)],⟨43,[(0,wS),(1,wS),(12,.h .bool)],[],64,[]⟩)]
def z03:(qlc fu).L 0:=Fx.jm (qx8 fu) []
def z02:(qlc fu).L 1:=Fx.jm (qow fu) [(z03 fu).s]
def z01:(qlc fu).L 2:=Fx.jm (qx7 fu) [(z02 fu).s]
def z00:(qlc fu).L 3:=Fx.jm (qov fu) [(z01 fu).s]
def z04:=(qlc fu).fi (qiv fu) [(z00 fu).s] call126
end
end
noncomputable section
open Go.Proofs
set_option linter.unusedVariables false
set_option maxRecDepth 100000
set_option maxHeartbeats 2000000
open Tryz
section
variable(fu:Nat)
def z09:IF:=⟨.fn 89,[.h wB],[],_,RS.mk (.tup [.own 0,wH,.h (.prod wI wI)]) [(0,.row wP 50)]⟩
def u6:Fx wG z09:=fx f89 89 func89 [kz.p,z0r.p,q55.p,zj6.p,⟨zey.e (zo fu),zuj fu⟩,(z04 fu).p,oz.p,(z0y fu).p,⟨zez.e (zp fu),zuk fu⟩] false [] ao [(ah [(0,8168),(0,8169),(2,2042),(1,1021),(0,511)],⟨103,[(4,.ptr 32 0),(5,.own 33),(6,wH),(11,.ptr 34 0),(77,wH),(78,wH)],[(32,.dat (.prod wI wI) 30),(33,.row wP 50),(34,.cells [.h (.int .u32),.h (.int .i32),.h (.int .u32),.iel 251 35 1,.u] 191),(35,.row .byte 250)],64,[]⟩),(ah [(0,8168),(0,8169),(2,2042),(1,1021),(0,511)],⟨103,[(4,.ptr 32 0),(5,.own 35),(6,wH),(11,.ptr 33 0),(77,wH),(78,.c (.int .i64 0))],[(32,.dat (.prod wI wI) 30),(33,.cells [.h (.int .u32),.h (.int .i32),.h (.int .u32),.c .nilIface,.own 34] 191),(34,.row .str 9),(35,.row wP 50)],64,[]⟩),(ah [(0,252),(0,253),(0,127)],⟨103,[(4,.ptr 32 0),(5,.own 33),(6,wH)],[(32,.dat (.prod wI wI) 30),(33,.row wP 50)],64,[]⟩),(ah [(0,15918),(0,15919),(1,497),(2,124),(1,62),(0,63)],⟨103,[(0,.h wB),(4,.ptr 32 0),(5,.own 33),(6,wH),(7,wS),(8,wH)],[(32,.dat (.prod wI wI) 30),(33,.row wP 50)],64,[]⟩),(ah [(0,15917),(0,7959),(1,497),(2,124),(1,62),(0,63)],⟨103,[(0,.h wB),(4,.ptr 32 0),(5,.own 33),(6,wH),(7,wS),(8,wH),(41,.h .bool)],[(32,.dat (.prod wI wI) 30),(33,.row wP 50)],64,[]⟩),(ah [(0,992),(0,993),(0,497),(2,124),(1,62),(0,63)],⟨103,[(0,.h wB),(4,.ptr 32 0),(5,.own 33),(6,wH)],[(32,.dat (.prod wI wI) 30),(33,.row wP 50)],64,[]⟩)]
def z1e:Nat->(u6 fu).L 0:=Fx.lq (qho fu) (qv8 fu) (fun r5=>[r5.s])
def z1c:Nat->(u6 fu).L 1:=Fx.lq (vo fu) (qhn fu) (fun r3=>[(z1e fu fu).s])
def zh3:(u6 fu).L 2:=Fx.jm (qcj fu) [(z1c fu fu).s]
def z1d(r0:(u6 fu).L 5):(u6 fu).L 3:=Fx.jm (qnm fu r0.f) [(zh3 fu).s,r0.s]
def z1b(r0:(u6 fu).L 5):(u6 fu).L 4:=Fx.jm (ze fu r0.f) [r0.s,(z1d fu r0).s]
def z1a:Nat->(u6 fu).L 5:=Fx.lq (zd fu) (qv7 fu) (fun r0=>[(zh3 fu).s,(z1b fu r0).s])
def z1f:=(u6 fu).fi (qnl fu) [(z1a fu fu).s] call89
def xy:IF:=⟨.fn 64,[.ptr 0 0,.h wB,wH],[(0,.dat (.prod wI (.prod wI wI)) 68)],_,RS.mk (.tup [.h wT,.h .bool]) [(0,.dat (.prod wI (.prod wI wI)) 68)]⟩
def zh5:IF:=⟨.fn 35,[.ptr 0 0,.own 1,.h wB,wH],[(0,.dat (.prod wI (.prod wI wI)) 68),(1,.row wP 50)],_,RS.mk (.tup [.h wT,.h .bool]) [(0,.dat (.prod wI (.prod wI wI)) 68),(1,.dead)]⟩
def zh4(s129:EI wG xy)(fu:Nat):Fx wG zh5:=fx f35 35 func35 [⟨qag.e cz,qdn⟩,⟨qjr.e cz,qpw⟩,(q65 fu).p,(zh1 fu).p,s129.p] false [] ao [(ah [(0,16360),(0,16361),(2,4090),(1,2045),(0,1023)],⟨73,[(0,.ptr 0 0),(3,wH),(8,.ptr 32 0),(10,.ptr 33 0),(48,.own 34),(49,wH),(50,wH)],[(0,.dat (.prod wI (.prod wI wI)) 68),(1,.dead),(32,.cells [wN,wN,wN] 26),(33,.cells [.own 35,wN,.own 36] 26),(34,.row wB 23),(35,.row wP 50),(36,.row wT 26)],64,[]⟩)]
def z1j(s129:EI wG xy)(fu:Nat):Nat->(zh4 s129 fu).L 0:=Fx.lq (zn s129.f fu) (qxe s129.f fu) (fun r0=>[r0.s])
def z1k(s129:EI wG xy)(fu:Nat):EI wG zh5:=(zh4 s129 fu).fi (vy s129.f fu) [(z1j s129 fu fu).s] call35
def z1l(s129:EI wG xy)(fu:Nat):Fx wG xy:=fx f64 64 func64 [(z1f fu).p,mf.p,kz.p,(z1k s129 fu).p] false [] ao []
def z1m(s129:EI wG xy)(fu:Nat):EI wG xy:=(z1l s129 fu).fi (qoc s129.f fu) [] call64
def z1n:EI wG xy := .rc (tv fu) (fun r=>qoc r fu) (fun _ _=>rfl) (fun _=>rfl) (fun s129=>z1m s129 fu) (fun _=>rfl) fu
def z1o:IF:=⟨.fn 35,[.ptr 0 0,.h wL,.h wB,wH],[(0,.dat (.prod wI (.prod wI wI)) 68)],_,RS.mk (.tup [.h wT,.h .bool]) [(0,.dat (.prod wI (.prod wI wI)) 68)]⟩
def zh6:Fx wG z1o:=fx f35 35 func35 [⟨qag.e cz,qdn⟩,⟨qjr.e cz,qpw⟩,(q65 fu).p,(zh1 fu).p,(z1n fu).p] false [] ao [(ah [(0,16360),(0,16361),(2,4090),(1,2045),(0,1023)],⟨73,[(0,.ptr 0 0),(3,wH),(8,.ptr 32 0),(10,.ptr 33 0),(48,.own 34),(49,wH),(50,wH)],[(0,.dat (.prod wI (.prod wI wI)) 68),(32,.cells [wN,wN,wN] 26),(33,.cells [.own 35,wN,.own 36] 26),(34,.row wB 23),(35,.row wP 50),(36,.row wT 26)],64,[]⟩)]
def z1p:Nat->(zh6 fu).L 0:=Fx.lq (qil fu) (q72 fu) (fun r0=>[r0.s])
def z1q:=(zh6 fu).fi (qob fu) [(z1p fu fu).s] call35
def z1s:IF:=⟨.fn 15,[.h (.prod wL wB)],[],_,RS.mk (.tup [.h wT,.h (.prod wI wI)]) []⟩
def z1r:Fx wG z1s:=fx f15 15 func15 [(zhv fu).p,mf.p,(z1q fu).p,(q4g fu).p,kz.p,oz.p] false [] ao []
def zh7:=(z1r fu).fi (qig fu) [] call15
def xz:IF:=⟨.fn 30,[.h wT],[],_,RS.mk (.h wT) []⟩
def zh9:IF:=⟨.fn 60,[.h (.list wT),.fn 30 []],[],_,RS.mk (.own 0) [(0,.row wT 26)]⟩
def zh8(s141:EI wG xz)(fu:Nat):Fx wG zh9:=fx f60 60 func60 [s141.p] false [] ao [(ah [(0,232),(0,233),(2,58),(1,29),(0,15)],⟨22,[(1,.fn 30 []),(5,.own 32),(8,.h (.list wT)),(9,wH),(10,wH)],[(32,.row wT 26)],64,[]⟩)]
def z1t(s141:EI wG xz)(fu:Nat):Nat->(zh8 s141 fu).L 0:=Fx.lq (qxc s141.f fu) (q7z s141.f fu) (fun r0=>[r0.s])
def z1u(s141:EI wG xz)(fu:Nat):EI wG zh9:=(zh8 s141 fu).fi (q7y s141.f fu) [(z1t s141 fu fu).s] call60
def z1v(s141:EI wG xz)(fu:Nat):Fx wG xz:=fx f30 30 func30 [⟨qag.e cz,qdn⟩,⟨qjr.e cz,qpw⟩,(z1u s141 fu).p] false [] ao []
def z1w(s141:EI wG xz)(fu:Nat):EI wG xz:=(z1v s141 fu).fi (qww s141.f fu) [] call30
def z1x:EI wG xz := .rc (qwx fu) (fun r=>qww r fu) (fun _ _=>rfl) (fun _=>rfl) (fun s141=>z1w s141 fu) (fun _=>rfl) fu
def z1y:IF:=⟨.fn 12,[.h wT,.own 0],[(0,.row wI 3)],_,RS.mk (.tup [.h wT,.h (.prod wI wI)]) [(0,.dead)]⟩
def qsr:Fx wG z1y:=fx f12 12 func12 [(q4g fu).p,mf.p,(z1x fu).p,oz.p,kz.p] true [] ao [(ah [(0,14949),(0,7475),(1,934),(0,935),(2,58),(1,29),(0,15)],⟨43,[(2,.ptr 32 0),(4,.ptr 33 0),(5,.ptr 34 0),(7,wH),(8,wH),(15,.own 35),(16,wH),(17,wH),(30,.h .bool)],[(0,.dead),(32,.dat wT 26),(33,.cells [wN,wN,wN] 26),(34,.dat (.prod wI wI) 30),(35,.row wI 3)],64,[]⟩),(ah [(0,232),(0,233),(2,58),(1,29),(0,15)],⟨43,[(2,.ptr 32 0),(4,.ptr 33 0),(5,.ptr 34 0),(15,.own 35),(16,wH),(17,wH)],[(0,.dead),(32,.dat wT 26),(33,.cells [wN,wN,wN] 26),(34,.dat (.prod wI wI) 30),(35,.row wI 3)],64,[]⟩)]
def z10(r0:(qsr fu).L 1):(qsr fu).L 0:=Fx.jm (qwz fu r0.f) [r0.s]
def z1z:Nat->(qsr fu).L 1:=Fx.lq (qwy fu) (q7o fu) (fun r0=>[(z10 fu r0).s])
def z11:=(qsr fu).fi (q7n fu) [(z1z fu fu).s] call12
def z16:IF:=⟨.fn 32,[.h wL,.h wL],[],_,RS.mk (.h .bool) []⟩
def zia(fu:Nat):Fx wG z16:=fx f32 32 func32 [] false [] ao [(ah [(0,464),(0,465),(0,233),(2,58),(1,29),(0,15)],⟨26,[(0,.h wL),(1,.h wL),(5,wH)],[],64,[]⟩)]
def z17:Nat->(zia fu).L 0:=Fx.lq (qgf fu) (qun fu) (fun r0=>[r0.s])
def z18:=(zia fu).fi (qms fu) [(z17 fu fu).s] call32
def z2a:IF:=⟨.fn 33,[.h wB,.h wB],[],_,RS.mk (.h .bool) []⟩
def z19:Fx wG z2a:=fx f33 33 func33 [] false [] ao []
def z2b:=z19.fi ql7 [] call33
def ya:IF:=⟨.fn 14,[.h wT,.h wT],[],_,RS.mk (.h .bool) []⟩
def qst(s143:EI wG ya)(fu:Nat):Fx wG ya:=fx f14 14 func14 [(z18 fu).p,z2b.p,s143.p] false [] ao [(ah [(0,464),(0,465),(0,233),(2,58),(1,29),(0,15)],⟨48,[(2,.ptr 32 0),(3,.ptr 33 0),(5,wH)],[(32,.dat wT 26),(33,.dat wT 26)],64,[]⟩),(ah [(0,28),(0,29),(0,15)],⟨48,[(2,.ptr 32 0),(3,.ptr 33 0)],[(32,.dat wT 26),(33,.dat wT 26)],64,[]⟩),(ah [(0,13),(0,7)],⟨48,[(2,.ptr 32 0),(3,.ptr 33 0),(28,.h .bool)],[(32,.dat wT 26),(33,.dat wT 26)],64,[]⟩)]
def z2f(s143:EI wG ya)(fu:Nat):Nat->(qst s143 fu).L 0:=Fx.lq (qg6 s143.f fu) (qvi s143.f fu) (fun r2=>[r2.s])
def z2e(s143:EI wG ya)(fu:Nat):(qst s143 fu).L 1:=Fx.jm (qvj s143.f fu) [(z2f s143 fu fu).s]
def z2d(s143:EI wG ya)(fu:Nat):(qst s143 fu).L 2:=Fx.jm (qg5 s143.f fu) [(z2e s143 fu).s]
def z2c(s143:EI wG ya)(fu:Nat):EI wG ya:=(qst s143 fu).fi (qm8 s143.f fu) [(z2d s143 fu).s] call14
def zib:EI wG ya := .rc (qcc fu) (fun r=>qm8 r fu) (fun _ _=>rfl) (fun _=>rfl) (fun s143=>z2c s143 fu) (fun _=>rfl) fu
def z2j:IF:=⟨.fn 9,[],[],_,RS.mk (.h .bool) []⟩
def z2i:Fx wG z2j:=fx f9 9 func9 [x0s.p,(zzz fu).p,(zh7 fu).p,(z11 fu).p,(zib fu).p] false [] ao []
def z2k:=(z2i fu).fi (qvs fu) [] call9
def qfb:IF:=⟨.fn 27,[.h wT,wH],[],_,RS.mk (.tup [.h (.list wT),.h (.list wI)]) []⟩
def zic(s147:EI wG qfb)(fu:Nat):Fx wG qfb:=fx f27 27 func27 [s147.p] false [] ao [(ah [(0,976),(0,977),(0,489),(2,122),(1,61),(0,31)],⟨41,[(1,wH),(2,.ptr 32 0),(6,.own 33),(7,.own 34),(8,wH)],[(32,.dat wT 26),(33,.row wT 26),(34,.row wI 3)],64,[]⟩)]
def z2m(s147:EI wG qfb)(fu:Nat):Nat->(zic s147 fu).L 0:=Fx.lq (qg1 s147.f fu) (qvb s147.f fu) (fun r0=>[r0.s])
def z2l(s147:EI wG qfb)(fu:Nat):EI wG qfb:=(zic s147 fu).fi (qm2 s147.f fu) [(z2m s147 fu fu).s] call27
def z2n:EI wG qfb := .rc (qb9 fu) (fun r=>qm2 r fu) (fun _ _=>rfl) (fun _=>rfl) (fun s147=>z2l s147 fu) (fun _=>rfl) fu
def z2p:IF:=⟨.fn 21,[wH,wH],[],_,RS.mk (.h (.prod wI wI)) []⟩
def z2o:Fx wG z2p:=fx f21 21 func21 [] false [] ao []
def u7:=z2o.fi ef [] call21
def z2r:IF:=⟨.fn 31,[wH,wH,wH],[],_,RS.mk (.h .bool) []⟩
def z2q:Fx wG z2r:=fx f31 31 func31 [] false [] ao []
def u9:=z2q.fi fq [] call31
def z2s:IF:=⟨.fn 92,[wS],[],_,RS.mk (.h .bool) []⟩
def zid(fu:Nat):Fx wG z2s:=fx f92 92 func92 [u9.p] false [] ao [(ah [(0,208),(0,209),(0,105),(2,26),(1,13),(0,7)],⟨25,[(0,wS),(3,wH)],[],64,[]⟩)]
def z2t:Nat->(zid fu).L 0:=Fx.lq (qfp fu) (qtt fu) (fun r0=>[r0.s])
def zie:=(zid fu).fi (qfo fu) [(z2t fu fu).s] call92
def z2u:IF:=⟨.fn 140,[.h .byte,wS],[],_,RS.mk (.h .bool) []⟩
def zif(fu:Nat):Fx wG z2u:=fx f140 140 func140 [] false [] ao [(ah [(0,208),(0,209),(0,105),(2,26),(1,13),(0,7)],⟨17,[(0,.h .byte),(1,wS),(5,wH)],[],64,[]⟩)]
def z2v:Nat->(zif fu).L 0:=Fx.lq (qbw fu) (qmj fu) (fun r0=>[r0.s])
def q44:=(zif fu).fi (vh fu) [(z2v fu fu).s] call140
def z2x:IF:=⟨.fn 90,[.h .byte],[],_,RS.mk (.h .bool) []⟩
def z2w:Fx wG z2x:=fx f90 90 func90 [] false [] ao []
def qlf:=z2w.fi o5 [] call90
def z3b:IF:=⟨.fn 93,[wS],[],_,RS.mk (wS) []⟩
def qbd(fu:Nat):Fx wG z3b:=fx f93 93 func93 [qlf.p] false [] ao [(ah [(0,98),(1,49),(2,12),(1,6),(0,7)],⟨30,[(0,wS)],[],64,[]⟩),(ah [(0,224),(0,225),(0,113),(2,28),(1,14),(0,15)],⟨30,[(0,wS)],[],64,[]⟩),(ah [(0,97),(0,49),(2,12),(1,6),(0,7)],⟨30,[(0,wS),(10,.h .bool)],[],64,[]⟩),(ah [(0,96),(0,97),(0,49),(2,12),(1,6),(0,7)],⟨30,[(0,wS)],[],64,[]⟩)]
def z3e(r0:(qbd fu).L 3):(qbd fu).L 0:=Fx.jm (qus fu r0.f) [r0.s]
def z3f:Nat->(qbd fu).L 1:=Fx.lq (qgj fu) (qur fu) (fun r3=>[r3.s])
def z3d(r0:(qbd fu).L 3):(qbd fu).L 2:=Fx.jm (qgi fu r0.f) [(z3e fu r0).s,(z3f fu fu).s]
def z3c:Nat->(qbd fu).L 3:=Fx.lq (qgh fu) (quq fu) (fun r0=>[(z3d fu r0).s])
def zih:=(qbd fu).fi (qmt fu) [(z3c fu fu).s] call93
def z3i:IF:=⟨.fn 112,[wS,wS],[],_,RS.mk (wH) []⟩
def zii:Fx wG z3i:=fx f112 112 func112 [(zie fu).p,(q44 fu).p,(zih fu).p] false [] ao [(ah [(0,976),(0,977),(0,489),(2,122),(1,61),(0,31)],⟨26,[(1,wS),(5,wH)],[],64,[]⟩)]
def z3j:Nat->(zii fu).L 0:=Fx.lq (qbk fu) (qts fu) (fun r0=>[r0.s])
def z3k:=(zii fu).fi (qfn fu) [(z3j fu fu).s] call112
def z3l:IF:=⟨.fn 78,[wS,wS],[],_,RS.mk (.own 0) [(0,.row .str 9)]⟩
def kv(fu:Nat):Fx wG z3l:=fx f78 78 func78 [qlf.p] false [] ao [(ah [(0,979),(2,122),(1,61),(0,31)],⟨87,[(5,wS),(6,.own 32),(7,wH)],[(32,.row wI 3)],64,[]⟩),(ah [(0,3913),(1,978),(0,979),(2,122),(1,61),(0,31)],⟨87,[(5,wS),(6,.own 32),(7,wH),(37,.h .bool)],[(32,.row wI 3)],64,[]⟩),(ah [(0,520531),(2,65066),(1,32533),(0,16267),(1,2033),(2,508),(1,254),(0,255)],⟨87,[(5,wS),(6,.own 32),(8,.own 33),(9,wH),(10,wH),(11,wH)],[(32,.row wI 3),(33,.row .str 9)],64,[]⟩),(ah [(0,4164243),(1,520530),(0,520531),(2,65066),(1,32533),(0,16267),(1,2033),(2,508),(1,254),(0,255)],⟨87,[(5,wS),(6,.own 32),(8,.own 33),(9,wH),(10,wH),(11,wH),(12,wH),(69,.h .bool)],[(32,.row wI 3),(33,.row .str 9)],64,[]⟩),(ah [(0,520528),(0,520529),(0,260265),(2,65066),(1,32533),(0,16267),(1,2033),(2,508),(1,254),(0,255)],⟨87,[(5,wS),(6,.own 32),(8,.own 33),(9,wH),(10,wH),(11,wH)],[(32,.row wI 3),(33,.row .str 9)],64,[]⟩),(ah [(0,4064),(0,4065),(0,2033),(2,508),(1,254),(0,255)],⟨87,[(5,wS),(6,.own 32),(8,.own 33),(9,wH)],[(32,.row wI 3),(33,.row .str 9)],64,[]⟩),(ah [(0,976),(0,977),(0,489),(2,122),(1,61),(0,31)],⟨87,[(5,wS),(6,.own 32),(7,wH)],[(32,.row wI 3)],64,[]⟩)]
def z3p(r0:(kv fu).L 6):(kv fu).L 0:=Fx.jm (qmd fu r0.f) [r0.s]
def z3n(r0:(kv fu).L 6):(kv fu).L 1:=Fx.jm (qmc fu r0.f) [(z3p fu r0).s]
def z3s(r2:(kv fu).L 5)(r4:(kv fu).L 4):(kv fu).L 2:=Fx.jm (qme fu r2.f r4.f) [r4.s]
def z3r(r2:(kv fu).L 5)(r4:(kv fu).L 4):(kv fu).L 3:=Fx.jm (qfu fu r2.f r4.f) [(z3s fu r2 r4).s]
def z3q(r2:(kv fu).L 5):Nat->(kv fu).L 4:=Fx.lq (yi fu r2.f) (qtw fu r2.f) (fun r4=>[(z3r fu r2 r4).s,r2.s])
def z3o:Nat->(kv fu).L 5:=Fx.lq (tl fu) (qmb fu) (fun r2=>[(z3q fu r2 fu).s])
def z3m:Nat->(kv fu).L 6:=Fx.lq (qbl fu) (qma fu) (fun r0=>[(z3n fu r0).s,(z3o fu fu).s])
def zij:=(kv fu).fi (qft fu) [(z3m fu fu).s] call78
def z3x:IF:=⟨.fn 77,[wS,wS],[],_,RS.mk (.h (.prod wI wI)) []⟩
def zik:Fx wG z3x:=fx f77 77 func77 [(z3k fu).p,u7.p,(zij fu).p] false [] ao [(ah [(0,976),(0,977),(0,489),(2,122),(1,61),(0,31)],⟨33,[(4,.ptr 32 0),(5,.own 33),(6,wH)],[(32,.dat (.prod wI wI) 30),(33,.row .str 9)],64,[]⟩)]
def z3y:Nat->(zik fu).L 0:=Fx.lq (qfs fu) (qtv fu) (fun r0=>[r0.s])
def z3z:=(zik fu).fi (ql9 fu) [(z3y fu fu).s] call77
def z30:IF:=⟨.fn 46,[.h wL],[],_,RS.mk (.h (.prod wI wI)) []⟩
def zil:Fx wG z30:=fx f46 46 func46 [u7.p,(z3z fu).p] false [] ao [(ah [(0,464),(0,465),(0,233),(2,58),(1,29),(0,15)],⟨34,[(0,.h wL),(2,.ptr 32 0),(3,wH)],[(32,.dat (.prod wI wI) 30)],64,[]⟩)]
def z31:Nat->(zil fu).L 0:=Fx.lq (qfr fu) (qtu fu) (fun r0=>[r0.s])
def zim:=(zil fu).fi (qfq fu) [(z31 fu fu).s] call46
def z32:IF:=⟨.fn 85,[wS],[],_,RS.mk (wS) []⟩
def zin(fu:Nat):Fx wG z32:=fx f85 85 func85 [u9.p] false [] ao [(ah [(0,464),(0,465),(0,233),(2,58),(1,29),(0,15)],⟨29,[(3,.own 32),(4,wH)],[(32,.row .byte 5)],64,[]⟩)]
def z33:Nat->(zin fu).L 0:=Fx.lq (qbo fu) (qmg fu) (fun r0=>[r0.s])
def q5c:=(zin fu).fi (ve fu) [(z33 fu fu).s] call85
def z35:IF:=⟨.fn 56,[wS,wS],[],_,RS.mk (.h .bool) []⟩
def z34:Fx wG z35:=fx f56 56 func56 [(q5c fu).p] false [] ao []
def yc:=(z34 fu).fi (jc fu) [] call56
def z36:IF:=⟨.fn 57,[.h wL,wS],[],_,RS.mk (.own 0) [(0,.row .str 9)]⟩
def zio:Fx wG z36:=fx f57 57 func57 [(yc fu).p] false [] ao [(ah [(0,464),(0,465),(0,233),(2,58),(1,29),(0,15)],⟨29,[(0,.h wL),(1,wS),(5,.own 32),(6,wH)],[(32,.row .str 9)],64,[]⟩)]
def z38:Nat->(zio fu).L 0:=Fx.lq (qb4 fu) (qux fu) (fun r0=>[r0.s])
def ziq:=(zio fu).fi (qmu fu) [(z38 fu fu).s] call57
def z4a:IF:=⟨.fn 102,[wS,wH],[],_,RS.mk (wH) []⟩
def zir(fu:Nat):Fx wG z4a:=fx f102 102 func102 [qlf.p] false [] ao [(ah [(0,96),(0,97),(0,49),(2,12),(1,6),(0,7)],⟨18,[(0,wS),(1,wH)],[],64,[]⟩)]
def z4b:Nat->(zir fu).L 0:=Fx.lq (qgt fu) (qu3 fu) (fun r0=>[r0.s])
def z4c:=(zir fu).fi (qx fu) [(z4b fu fu).s] call102
def z4e:IF:=⟨.fn 111,[.h .byte],[],_,RS.mk (.h .bool) []⟩
def z4d:Fx wG z4e:=fx f111 111 func111 [u9.p,(q44 fu).p] false [] ao []
def q5g:=(z4d fu).fi (qb3 fu) [] call111
def z4g:IF:=⟨.fn 103,[wS,wH,wS],[],_,RS.mk (wH) []⟩
def zis:Fx wG z4g:=fx f103 103 func103 [(q5g fu).p,(q44 fu).p] false [] ao [(ah [(0,96),(0,97),(0,49),(2,12),(1,6),(0,7)],⟨27,[(0,wS),(1,wH),(2,wS)],[],64,[]⟩)]
def z4h:Nat->(zis fu).L 0:=Fx.lq (qgs fu) (qu2 fu) (fun r0=>[r0.s])
def z4i:=(zis fu).fi (qb6 fu) [(z4h fu fu).s] call103
def z4j:IF:=⟨.fn 91,[wS,wS,wH],[],_,RS.mk (wH) []⟩
def zit(fu:Nat):Fx wG z4j:=fx f91 91 func91 [] false [] ao [(ah [(0,208),(0,209),(0,105),(2,26),(1,13),(0,7)],⟨28,[(0,wS),(1,wS),(7,wH)],[],64,[]⟩)]
def z4k:Nat->(zit fu).L 0:=Fx.lq (yh fu) (ql8 fu) (fun r0=>[r0.s])
def ziu:=(zit fu).fi (vd fu) [(z4k fu fu).s] call91
def z4l:IF:=⟨.fn 141,[wS,wH,wH],[],_,RS.mk (wH) []⟩
def qfd(fu:Nat):Fx wG z4l:=fx f141 141 func141 [u9.p] false [] ao [(ah [(0,1865),(1,466),(0,467),(2,58),(1,29),(0,15)],⟨40,[(0,wS),(1,wH),(2,wH),(7,wH),(8,wH)],[],64,[]⟩),(ah [(0,3729),(0,1865),(1,466),(0,467),(2,58),(1,29),(0,15)],⟨40,[(0,wS),(1,wH),(2,wH),(7,wH),(8,wH),(24,.h .bool)],[],64,[]⟩),(ah [(0,464),(0,465),(0,233),(2,58),(1,29),(0,15)],⟨40,[(0,wS),(1,wH),(2,wH),(7,wH),(8,wH)],[],64,[]⟩)]
def z4o(r0:(qfd fu).L 2):(qfd fu).L 0:=Fx.jm (qu0 fu r0.f) [r0.s]
def z4n(r0:(qfd fu).L 2):(qfd fu).L 1:=Fx.jm (qgp fu r0.f) [(z4o fu r0).s]
def z4m:Nat->(qfd fu).L 2:=Fx.lq (qgo fu) (quz fu) (fun r0=>[(z4n fu r0).s])
def z4p:=(qfd fu).fi (qgn fu) [(z4m fu fu).s] call141
def qll:IF:=⟨.fn 73,[.h (.int .u64)],[],_,RS.mk (wS) []⟩
def z4s(s171:EI wG qll)(fu:Nat):Fx wG qll:=fx f73 73 func73 [s171.p] false [] ao []
def z4t(s171:EI wG qll)(fu:Nat):EI wG qll:=(z4s s171 fu).fi (qmv s171.f fu) [] call73
def z4u:EI wG qll := .rc (qgm fu) (fun r=>qmv r fu) (fun _ _=>rfl) (fun _=>rfl) (fun s171=>z4t s171 fu) (fun _=>rfl) fu
def z4w:IF:=⟨.fn 42,[wH],[],_,RS.mk (wS) []⟩
def z4v:Fx wG z4w:=fx f42 42 func42 [(z4u fu).p] false [] ao []
def ziw:=(z4v fu).fi (vg fu) [] call42
def z4x:IF:=⟨.fn 104,[wS,wS],[],_,RS.mk (.tup [.h (.prod .str (.prod .str (.prod wI .bool))),.h .bool]) []⟩
def q5k:Fx wG z4x:=fx f104 104 func104 [(ziu fu).p,(z4p fu).p,(ziw fu).p] false [] ao [(ah [(0,254),(0,255)],⟨63,[(4,.ptr 32 0),(7,wS),(8,.ptr 33 0)],[(32,.dat (.prod .str (.prod .str (.prod wI .bool))) 149),(33,.dat (.prod .str (.prod .str (.prod wI .bool))) 149)],64,[]⟩),(ah [(0,253),(0,127)],⟨63,[(4,.ptr 32 0),(7,wS),(8,.ptr 33 0),(37,.h .bool)],[(32,.dat (.prod .str (.prod .str (.prod wI .bool))) 149),(33,.dat (.prod .str (.prod .str (.prod wI .bool))) 149)],64,[]⟩)]
def z4z:(q5k fu).L 0:=Fx.jm (qb5 fu) []
def z4y:(q5k fu).L 1:=Fx.jm (qgq fu) [(z4z fu).s]
def z40:=(q5k fu).fi (qmw fu) [(z4y fu).s] call104
def z43:IF:=⟨.fn 143,[wS,wH],[],_,RS.mk (.tup [wH,wH]) []⟩
def qlm(fu:Nat):Fx wG z43:=fx f143 143 func143 [u9.p] false [] ao [(ah [(0,32720),(0,32721),(0,16361),(2,4090),(1,2045),(0,1023)],⟨76,[(0,wS),(1,wH),(7,wH),(8,wH),(9,wH),(10,wH)],[],64,[]⟩),(ah [(0,2044),(0,2045),(0,1023)],⟨76,[(0,wS),(1,wH),(7,wH),(8,wH),(9,wH)],[],64,[]⟩),(ah [(0,1021),(0,511)],⟨76,[(0,wS),(1,wH),(7,wH),(8,wH),(9,wH),(43,.h .bool)],[],64,[]⟩),(ah [(0,1020),(0,1021),(0,511)],⟨76,[(0,wS),(1,wH),(7,wH),(8,wH),(9,wH)],[],64,[]⟩)]
def z49:Nat->(qlm fu).L 0:=Fx.lq (tn fu) (qmr fu) (fun r3=>[r3.s])
def z48:(qlm fu).L 1:=Fx.jm (q68 fu) [(z49 fu fu).s]
def z47:(qlm fu).L 2:=Fx.jm (qge fu) [(z48 fu).s]
def z44:(qlm fu).L 3:=Fx.jm (tm fu) [(z47 fu).s]
def zix:=(qlm fu).fi (qgd fu) [(z44 fu).s] call143
def z5d:IF:=⟨.fn 144,[wH],[],_,RS.mk (wS) []⟩
def q5m:Fx wG z5d:=fx f144 144 func144 [u9.p] false [] ao [(ah [(0,28),(0,29),(0,15)],⟨65,[(0,wH)],[],64,[]⟩),(ah [(0,13),(0,7)],⟨65,[(0,wH),(9,.h .bool)],[],64,[]⟩)]
def z5f:q5m.L 0:=Fx.jn quv [] fun d=>by kernel_rfl
def z5e:q5m.L 1:=Fx.jn quu [(z5f).s] fun d=>by kernel_rfl
def z5g:=q5m.fi qut [(z5e).s] call144
def z5j:IF:=⟨.fn 106,[wS],[],_,RS.mk (wS) []⟩
def ziy:Fx wG z5j:=fx f106 106 func106 [(zix fu).p,z5g.p] false [] ao [(ah [(0,976),(0,977),(0,489),(2,122),(1,61),(0,31)],⟨39,[(0,wS),(3,wS),(4,.h .bool),(5,wH)],[],64,[]⟩)]
def z5k:Nat->(ziy fu).L 0:=Fx.lq (qgr fu) (qu1 fu) (fun r0=>[r0.s])
def z5l:=(ziy fu).fi (qmx fu) [(z5k fu fu).s] call106
def z5m:IF:=⟨.fn 142,[.h .byte],[],_,RS.mk (wH) []⟩
def ziz:Fx wG z5m:=fx f142 142 func142 [(q5c fu).p] false [] ao [(ah [(0,208),(0,209),(0,105),(2,26),(1,13),(0,7)],⟨20,[(0,.h .byte),(3,wH)],[],64,[]⟩)]
def z5n:Nat->(ziz fu).L 0:=Fx.lq (qbn fu) (qmf fu) (fun r0=>[r0.s])
def z5o:=(ziz fu).fi (yl fu) [(z5n fu fu).s] call142
def z5y:IF:=⟨.fn 105,[wS],[],_,RS.mk (wS) []⟩
def qsv:Fx wG z5y:=fx f105 105 func105 [(z5o fu).p] false [] ao [(ah [(0,1865),(1,466),(0,467),(2,58),(1,29),(0,15)],⟨65,[(0,wS),(3,wS),(4,wH),(37,.h .bool)],[],64,[]⟩),(ah [(0,464),(0,465),(0,233),(2,58),(1,29),(0,15)],⟨65,[(0,wS),(3,wS),(4,wH)],[],64,[]⟩)]
def z52(r0:(qsv fu).L 1):(qsv fu).L 0:=Fx.jm (vk fu r0.f) [r0.s]
def z5z:Nat->(qsv fu).L 1:=Fx.lq (qb7 fu) (qu4 fu) (fun r0=>[(z52 fu r0).s])
def z54:=(qsv fu).fi (qmy fu) [(z5z fu fu).s] call105
def z57:IF:=⟨.fn 74,[wS],[],_,RS.mk (.tup [.h (.prod .str (.prod .str wL)),.h .bool]) []⟩
def bm:Fx wG z57:=fx f74 74 func74 [(z4c fu).p,(z4i fu).p,(yc fu).p,(z40 fu).p,(z5l fu).p,(q5c fu).p,(z54 fu).p] false [] ao [(ah [(0,137423747722),(0,137423747723),(1,17177968465),(2,4294492116),(1,2147246058),(0,2147246059),(0,134202879),(1,131057),(2,32764),(1,16382),(0,16383)],⟨332,[(0,wS),(2,.ptr 32 0),(4,wH),(6,.ptr 33 0),(7,.own 34),(8,wS),(9,wS)],[(32,.cells [wS,wS,wN] 83),(33,.cells [wS,wS,wN] 83),(34,.row (.prod .str (.prod .str (.prod wI .bool))) 149)],64,[]⟩),(ah [(0,137423747721),(0,68711873861),(1,17177968465),(2,4294492116),(1,2147246058),(0,2147246059),(0,134202879),(1,131057),(2,32764),(1,16382),(0,16383)],⟨332,[(0,wS),(2,.ptr 32 0),(4,wH),(6,.ptr 33 0),(7,.own 34),(8,wS),(9,wS),(140,.h .bool)],[(32,.cells [wS,wS,wN] 83),(33,.cells [wS,wS,wN] 83),(34,.row (.prod .str (.prod .str (.prod wI .bool))) 149)],64,[]⟩),(ah [(0,137423747720),(0,137423747721),(0,68711873861),(1,17177968465),(2,4294492116),(1,2147246058),(0,2147246059),(0,134202879),(1,131057),(2,32764),(1,16382),(0,16383)],⟨332,[(0,wS),(2,.ptr 32 0),(4,wH),(6,.ptr 33 0),(7,.own 34),(8,wS),(9,wS)],[(32,.cells [wS,wS,wN] 83),(33,.cells [wS,wS,wN] 83),(34,.row (.prod .str (.prod .str (.prod wI .bool))) 149)],64,[]⟩),(ah [(0,268405758),(0,268405759),(1,131057),(2,32764),(1,16382),(0,16383)],⟨332,[(0,wS),(2,.ptr 32 0),(4,wH),(6,.ptr 33 0),(7,.own 34),(8,wS),(9,wS)],[(32,.cells [wS,wS,wN] 83),(33,.cells [wS,wS,wN] 83),(34,.row (.prod .str (.prod .str (.prod wI .bool))) 149)],64,[]⟩),(ah [(0,34355936929),(0,17177968465),(2,4294492116),(1,2147246058),(0,2147246059),(0,134202879),(1,131057),(2,32764),(1,16382),(0,16383)],⟨332,[(0,wS),(2,.ptr 32 0),(4,wH),(6,.ptr 33 0),(7,.own 34),(8,wS),(9,wS),(129,.h .bool)],[(32,.cells [wS,wS,wN] 83),(33,.cells [wS,wS,wN] 83),(34,.row (.prod .str (.prod .str (.prod wI .bool))) 149)],64,[]⟩),(ah [(0,34355936928),(0,34355936929),(0,17177968465),(2,4294492116),(1,2147246058),(0,2147246059),(0,134202879),(1,131057),(2,32764),(1,16382),(0,16383)],⟨332,[(0,wS),(2,.ptr 32 0),(4,wH),(6,.ptr 33 0),(7,.own 34),(8,wS),(9,wS)],[(32,.cells [wS,wS,wN] 83),(33,.cells [wS,wS,wN] 83),(34,.row (.prod .str (.prod .str (.prod wI .bool))) 149)],64,[]⟩),(ah [(0,268405757),(0,134202879),(1,131057),(2,32764),(1,16382),(0,16383)],⟨332,[(0,wS),(2,.ptr 32 0),(4,wH),(6,.ptr 33 0),(7,.own 34),(8,wS),(9,wS),(117,.h .bool)],[(32,.cells [wS,wS,wN] 83),(33,.cells [wS,wS,wN] 83),(34,.row (.prod .str (.prod .str (.prod wI .bool))) 149)],64,[]⟩),(ah [(0,33550718),(0,33550719),(1,131057),(2,32764),(1,16382),(0,16383)],⟨332,[(0,wS),(2,.ptr 32 0),(4,wH),(6,.ptr 33 0),(7,.own 34),(8,wS)],[(32,.cells [wS,wS,wN] 83),(33,.cells [wS,wS,wN] 83),(34,.row (.prod .str (.prod .str (.prod wI .bool))) 149)],64,[]⟩),(ah [(0,33550717),(0,16775359),(1,131057),(2,32764),(1,16382),(0,16383)],⟨332,[(0,wS),(2,.ptr 32 0),(4,wH),(6,.ptr 33 0),(7,.own 34),(8,wS),(102,.h .bool)],[(32,.cells [wS,wS,wN] 83),(33,.cells [wS,wS,wN] 83),(34,.row (.prod .str (.prod .str (.prod wI .bool))) 149)],64,[]⟩),(ah [(0,268423763),(2,33552970),(1,16776485),(0,8388243),(1,1048530),(0,1048531),(2,131066),(1,65533),(0,32767)],⟨332,[(2,.ptr 32 0),(6,.ptr 33 0),(7,.own 34),(12,wH),(13,.h .bool),(14,wH)],[(32,.cells [wS,wS,wN] 83),(33,.cells [wS,wS,.own 35] 83),(34,.row (.prod .str (.prod .str (.prod wI .bool))) 149),(35,.row wP 86)],64,[]⟩),(ah [(0,1073695187),(2,134211898),(1,67105949),(0,33552975),(1,1048530),(0,1048531),(2,131066),(1,65533),(0,32767)],⟨332,[(2,.ptr 32 0),(6,.ptr 33 0),(7,.own 34),(12,wH),(13,.h .bool),(15,wH),(16,wH)],[(32,.cells [wS,wS,wN] 83),(33,.cells [wS,wS,.own 35] 83),(34,.row (.prod .str (.prod .str (.prod wI .bool))) 149),(35,.row wP 86)],64,[]⟩),(ah [(0,4397855658579),(2,549731957322),(1,274865978661),(0,137432989331),(1,17179123666),(0,17179123667),(2,2147390458),(1,1073695229),(0,536847615),(1,1048530),(0,1048531),(2,131066),(1,65533),(0,32767)],⟨332,[(2,.ptr 32 0),(6,.ptr 33 0),(7,.own 34),(12,wH),(15,wH),(17,wS),(18,wH),(19,wH),(20,wH)],[(32,.cells [wS,wS,wN] 83),(33,.cells [wS,wS,.own 35] 83),(34,.row (.prod .str (.prod .str (.prod wI .bool))) 149),(35,.row wP 86)],64,[]⟩),(ah [(0,17591422634313),(1,4397855658578),(0,4397855658579),(2,549731957322),(1,274865978661),(0,137432989331),(1,17179123666),(0,17179123667),(2,2147390458),(1,1073695229),(0,536847615),(1,1048530),(0,1048531),(2,131066),(1,65533),(0,32767)],⟨332,[(2,.ptr 32 0),(6,.ptr 33 0),(7,.own 34),(12,wH),(15,wH),(17,wS),(18,wH),(19,wH),(20,wH),(283,.h .bool)],[(32,.cells [wS,wS,wN] 83),(33,.cells [wS,wS,.own 35] 83),(34,.row (.prod .str (.prod .str (.prod wI .bool))) 149),(35,.row wP 86)],64,[]⟩),(ah [(0,17179123667),(2,2147390458),(1,1073695229),(0,536847615),(1,1048530),(0,1048531),(2,131066),(1,65533),(0,32767)],⟨332,[(2,.ptr 32 0),(6,.ptr 33 0),(7,.own 34),(12,wH),(15,wH),(17,wS),(18,wH)],[(32,.cells [wS,wS,wN] 83),(33,.cells [wS,wS,.own 35] 83),(34,.row (.prod .str (.prod .str (.prod wI .bool))) 149),(35,.row wP 86)],64,[]⟩),(ah [(0,1099463914655),(1,17179123666),(0,17179123667),(2,2147390458),(1,1073695229),(0,536847615),(1,1048530),(0,1048531),(2,131066),(1,65533),(0,32767)],⟨332,[(2,.ptr 32 0),(6,.ptr 33 0),(7,.own 34),(12,wH),(15,wH),(17,wS),(18,wH),(21,wS)],[(32,.cells [wS,wS,wN] 83),(33,.cells [wS,wS,.own 35] 83),(34,.row (.prod .str (.prod .str (.prod wI .bool))) 149),(35,.row wP 86)],64,[]⟩),(ah [(0,8795711317237),(0,1099463914655),(1,17179123666),(0,17179123667),(2,2147390458),(1,1073695229),(0,536847615),(1,1048530),(0,1048531),(2,131066),(1,65533),(0,32767)],⟨332,[(2,.ptr 32 0),(6,.ptr 33 0),(7,.own 34),(12,wH),(15,wH),(17,wS),(18,wH),(21,wS)],[(32,.cells [wS,wS,wN] 83),(33,.cells [wS,wS,.own 35] 83),(34,.row (.prod .str (.prod .str (.prod wI .bool))) 149),(35,.row wP 86)],64,[]⟩),(ah [(0,17591422634473),(0,8795711317237),(0,1099463914655),(1,17179123666),(0,17179123667),(2,2147390458),(1,1073695229),(0,536847615),(1,1048530),(0,1048531),(2,131066),(1,65533),(0,32767)],⟨332,[(2,.ptr 32 0),(6,.ptr 33 0),(7,.own 34),(12,wH),(15,wH),(17,wS),(18,wH),(21,wS),(310,.h .bool)],[(32,.cells [wS,wS,wN] 83),(33,.cells [wS,wS,.own 35] 83),(34,.row (.prod .str (.prod .str (.prod wI .bool))) 149),(35,.row wP 86)],64,[]⟩),(ah [(0,4397855658576),(0,4397855658577),(0,2198927829289),(2,549731957322),(1,274865978661),(0,137432989331),(1,17179123666),(0,17179123667),(2,2147390458),(1,1073695229),(0,536847615),(1,1048530),(0,1048531),(2,131066),(1,65533),(0,32767)],⟨332,[(2,.ptr 32 0),(6,.ptr 33 0),(7,.own 34),(12,wH),(15,wH),(17,wS),(18,wH),(19,wH),(20,wH)],[(32,.cells [wS,wS,wN] 83),(33,.cells [wS,wS,.own 35] 83),(34,.row (.prod .str (.prod .str (.prod wI .bool))) 149),(35,.row wP 86)],64,[]⟩),(ah [(0,17179123664),(0,17179123665),(0,8589561833),(2,2147390458),(1,1073695229),(0,536847615),(1,1048530),(0,1048531),(2,131066),(1,65533),(0,32767)],⟨332,[(2,.ptr 32 0),(6,.ptr 33 0),(7,.own 34),(12,wH),(15,wH),(17,wS),(18,wH)],[(32,.cells [wS,wS,wN] 83),(33,.cells [wS,wS,.own 35] 83),(34,.row (.prod .str (.prod .str (.prod wI .bool))) 149),(35,.row wP 86)],64,[]⟩),(ah [(0,1073695184),(0,1073695185),(0,536847593),(2,134211898),(1,67105949),(0,33552975),(1,1048530),(0,1048531),(2,131066),(1,65533),(0,32767)],⟨332,[(2,.ptr 32 0),(6,.ptr 33 0),(7,.own 34),(12,wH),(13,.h .bool),(15,wH),(16,wH)],[(32,.cells [wS,wS,wN] 83),(33,.cells [wS,wS,.own 35] 83),(34,.row (.prod .str (.prod .str (.prod wI .bool))) 149),(35,.row wP 86)],64,[]⟩),(ah [(0,268423760),(0,268423761),(0,134211881),(2,33552970),(1,16776485),(0,8388243),(1,1048530),(0,1048531),(2,131066),(1,65533),(0,32767)],⟨332,[(2,.ptr 32 0),(6,.ptr 33 0),(7,.own 34),(12,wH),(13,.h .bool),(14,wH)],[(32,.cells [wS,wS,wN] 83),(33,.cells [wS,wS,.own 35] 83),(34,.row (.prod .str (.prod .str (.prod wI .bool))) 149),(35,.row wP 86)],64,[]⟩),(ah [(0,1048528),(0,1048529),(0,524265),(2,131066),(1,65533),(0,32767)],⟨332,[(2,.ptr 32 0),(6,.ptr 33 0),(7,.own 34),(12,wH)],[(32,.cells [wS,wS,wN] 83),(33,.cells [wS,wS,.own 35] 83),(34,.row (.prod .str (.prod .str (.prod wI .bool))) 149),(35,.row wP 86)],64,[]⟩),(ah [(0,262112),(0,262113),(0,131057),(2,32764),(1,16382),(0,16383)],⟨332,[(0,wS),(2,.ptr 32 0),(4,wH),(6,.ptr 33 0),(7,.own 34)],[(32,.cells [wS,wS,wN] 83),(33,.cells [wS,wS,wN] 83),(34,.row (.prod .str (.prod .str (.prod wI .bool))) 149)],64,[]⟩),(ah [(0,254),(0,255)],⟨332,[(0,wS),(2,.ptr 32 0),(4,wH),(6,.ptr 33 0)],[(32,.cells [wS,wS,wN] 83),(33,.cells [wS,wS,wN] 83)],64,[]⟩),(ah [(0,253),(0,127)],⟨332,[(0,wS),(2,.ptr 32 0),(4,wH),(6,.ptr 33 0),(49,.h .bool)],[(32,.cells [wS,wS,wN] 83),(33,.cells [wS,wS,wN] 83)],64,[]⟩)]
def z6h(r2:(bm fu).L 22)(r9:(bm fu).L 5):(bm fu).L 0:=Fx.jm (qfz fu r2.f r9.f) [r9.s]
def z6e(r2:(bm fu).L 22)(r9:(bm fu).L 5):(bm fu).L 1:=Fx.jm (qbs fu r2.f r9.f) [(z6h fu r2 r9).s]
def z6d(r2:(bm fu).L 22)(r9:(bm fu).L 5):(bm fu).L 2:=Fx.jm (qt8 fu r2.f r9.f) [(z6e fu r2 r9).s]
def zi0(r2:(bm fu).L 22):(bm fu).L 3:=Fx.jm (yu fu r2.f) [r2.s]
def z6a(r2:(bm fu).L 22)(r9:(bm fu).L 5):(bm fu).L 4:=Fx.jm (qbr fu r2.f r9.f) [(z6d fu r2 r9).s,(zi0 fu r2).s]
def z6u(r2:(bm fu).L 22):Nat->(bm fu).L 5:=Fx.lq (vf fu r2.f) (qmi fu r2.f) (fun r9=>[(z6a fu r2 r9).s])
def z6s(r2:(bm fu).L 22):(bm fu).L 6:=Fx.jm (qf4 fu r2.f) [(z6u fu r2 fu).s,(zi0 fu r2).s]
def z6q(r2:(bm fu).L 22):(bm fu).L 7:=Fx.jm (qua fu r2.f) [(z6s fu r2).s]
def z6o(r2:(bm fu).L 22):(bm fu).L 8:=Fx.jm (qf2 fu r2.f) [(z6q fu r2).s]
def z6f(r4:(bm fu).L 21)(r6:(bm fu).L 20):(bm fu).L 9:=Fx.jm (qfy fu r4.f r6.f) [r6.s]
def z6b(r4:(bm fu).L 21)(r8:(bm fu).L 19):(bm fu).L 10:=Fx.jm (qfx fu r4.f r8.f) [r8.s]
def z6k(r4:(bm fu).L 21)(r13:(bm fu).L 18)(r17:(bm fu).L 17):(bm fu).L 11:=Fx.jm (qbu fu r4.f r13.f r17.f) [r17.s]
def z6i(r4:(bm fu).L 21)(r13:(bm fu).L 18)(r17:(bm fu).L 17):(bm fu).L 12:=Fx.jm (qf0 fu r4.f r13.f r17.f) [(z6k fu r4 r13 r17).s]
def z6n(r4:(bm fu).L 21)(r13:(bm fu).L 18):(bm fu).L 13:=Fx.jm (qt9 fu r4.f r13.f) [r13.s]
def zi1(r4:(bm fu).L 21)(r13:(bm fu).L 18):(bm fu).L 14:=Fx.jm (qbv fu r4.f r13.f) [(z6n fu r4 r13).s]
def z6m(r4:(bm fu).L 21)(r13:(bm fu).L 18):(bm fu).L 15:=Fx.jm (qf1 fu r4.f r13.f) [(zi1 fu r4 r13).s]
def z6l(r4:(bm fu).L 21)(r13:(bm fu).L 18):(bm fu).L 16:=Fx.jm (qu fu r4.f r13.f) [(z6m fu r4 r13).s]
def z6g(r4:(bm fu).L 21)(r13:(bm fu).L 18):Nat->(bm fu).L 17:=Fx.lq (lb fu r4.f r13.f) (yq fu r4.f r13.f) (fun r17=>[(z6i fu r4 r13 r17).s,(z6l fu r4 r13).s,(zi1 fu r4 r13).s])
def z6c(r4:(bm fu).L 21):Nat->(bm fu).L 18:=Fx.lq (mh fu r4.f) (yp fu r4.f) (fun r13=>[(z6g fu r4 r13 fu).s,r4.s])
def z6t(r4:(bm fu).L 21):Nat->(bm fu).L 19:=Fx.lq (qw fu r4.f) (qbq fu r4.f) (fun r8=>[(z6b fu r4 r8).s,r4.s,(z6c fu r4 fu).s])
def z6r(r4:(bm fu).L 21):Nat->(bm fu).L 20:=Fx.lq (qf3 fu r4.f) (qt6 fu r4.f) (fun r6=>[(z6f fu r4 r6).s,(z6t fu r4 fu).s])
def z6p:Nat->(bm fu).L 21:=Fx.lq (nv fu) (qt5 fu) (fun r4=>[(z6r fu r4 fu).s])
def z6j:Nat->(bm fu).L 22:=Fx.lq (qbt fu) (qt4 fu) (fun r2=>[(z6o fu r2).s,(z6p fu fu).s])
def z59:(bm fu).L 23:=Fx.jm (qt7 fu) [(z6j fu fu).s]
def z58:(bm fu).L 24:=Fx.jm (yt fu) [(z59 fu).s]
def z6v:=(bm fu).fi (qfw fu) [(z58 fu).s] call74
def z7f:IF:=⟨.fn 107,[wS],[],_,RS.mk (.h .bool) []⟩
def zi2:Fx wG z7f:=fx f107 107 func107 [(q5g fu).p,u9.p] false [] ao [(ah [(0,208),(0,209),(0,105),(2,26),(1,13),(0,7)],⟨18,[(0,wS),(3,wH)],[],64,[]⟩)]
def z7g:Nat->(zi2 fu).L 0:=Fx.lq (qgg fu) (qup fu) (fun r0=>[r0.s])
def zi3:=(zi2 fu).fi (y5 fu) [(z7g fu fu).s] call107
def z7h:IF:=⟨.fn 108,[wS],[],_,RS.mk (.h .bool) []⟩
def zi4:Fx wG z7h:=fx f108 108 func108 [(zix fu).p] false [] ao [(ah [(0,208),(0,209),(0,105),(2,26),(1,13),(0,7)],⟨21,[(0,wS),(3,wH)],[],64,[]⟩)]
def z7i:Nat->(zi4 fu).L 0:=Fx.lq (qgl fu) (quw fu) (fun r0=>[r0.s])
def z7j:=(zi4 fu).fi (qgk fu) [(z7i fu fu).s] call108
def z7k:IF:=⟨.fn 75,[.h (.prod .str (.prod .str wL))],[],_,RS.mk (.h (.prod wI wI)) []⟩
def tg:Fx wG z7k:=fx f75 75 func75 [(zi3 fu).p,u7.p,(yc fu).p,(z7j fu).p] false [] ao [(ah [(0,500944),(0,500945),(0,250473),(2,62618),(1,31309),(0,15655),(1,978),(0,979),(2,122),(1,61),(0,31)],⟨75,[(1,.ptr 32 0),(2,.ptr 33 0),(3,wH),(4,.ptr 34 0),(5,wH)],[(32,.dat (.prod .str (.prod .str wL)) 83),(33,.dat (.prod wI wI) 30),(34,.dat wP 86)],64,[]⟩),(ah [(0,31308),(0,31309),(0,15655),(1,978),(0,979),(2,122),(1,61),(0,31)],⟨75,[(1,.ptr 32 0),(2,.ptr 33 0),(3,wH),(4,.ptr 34 0)],[(32,.dat (.prod .str (.prod .str wL)) 83),(33,.dat (.prod wI wI) 30),(34,.dat wP 86)],64,[]⟩),(ah [(0,15653),(0,7827),(1,978),(0,979),(2,122),(1,61),(0,31)],⟨75,[(1,.ptr 32 0),(2,.ptr 33 0),(3,wH),(4,.ptr 34 0),(43,.h .bool)],[(32,.dat (.prod .str (.prod .str wL)) 83),(33,.dat (.prod wI wI) 30),(34,.dat wP 86)],64,[]⟩),(ah [(0,976),(0,977),(0,489),(2,122),(1,61),(0,31)],⟨75,[(1,.ptr 32 0),(2,.ptr 33 0),(3,wH)],[(32,.dat (.prod .str (.prod .str wL)) 83),(33,.dat (.prod wI wI) 30)],64,[]⟩),(ah [(0,28),(0,29),(0,15)],⟨75,[(1,.ptr 32 0),(2,.ptr 33 0)],[(32,.dat (.prod .str (.prod .str wL)) 83),(33,.dat (.prod wI wI) 30)],64,[]⟩),(ah [(0,13),(0,7)],⟨75,[(1,.ptr 32 0),(2,.ptr 33 0),(15,.h .bool)],[(32,.dat (.prod .str (.prod .str wL)) 83),(33,.dat (.prod wI wI) 30)],64,[]⟩)]
def z7q(r2:(tg fu).L 3):Nat->(tg fu).L 0:=Fx.lq (qfv fu r2.f) (qt1 fu r2.f) (fun r5=>[r5.s,r2.s])
def z7p(r2:(tg fu).L 3):(tg fu).L 1:=Fx.jm (qt3 fu r2.f) [(z7q fu r2 fu).s]
def z7o(r2:(tg fu).L 3):(tg fu).L 2:=Fx.jm (yn fu r2.f) [(z7p fu r2).s]
def z7n:Nat->(tg fu).L 3:=Fx.lq (ym fu) (qt0 fu) (fun r2=>[(z7o fu r2).s])
def z7m:(tg fu).L 4:=Fx.jm (qt2 fu) [(z7n fu fu).s]
def z7l:(tg fu).L 5:=Fx.jm (qbp fu) [(z7m fu).s]
def z7r:=(tg fu).fi (qmh fu) [(z7l fu).s] call75
end
end
noncomputable section
open Go.Proofs
set_option linter.unusedVariables false
set_option maxRecDepth 100000
set_option maxHeartbeats 2000000
open Tryz
section
variable(fu:Nat)
def z7w:IF:=⟨.fn 43,[.h wL],[],_,RS.mk (.tup [.h (.prod .str (.prod .str wL)),.h .bool]) []⟩
def q5u:Fx wG z7w:=fx f43 43 func43 [(ziq fu).p,(z6v fu).p,(z7r fu).p] false [] ao [(ah [(0,30),(0,31)],⟨37,[(2,.ptr 32 0),(4,.own 33)],[(32,.cells [wS,wS,wN] 83),(33,.row .str 9)],64,[]⟩),(ah [(0,29),(0,15)],⟨37,[(2,.ptr 32 0),(4,.own 33),(18,.h .bool)],[(32,.cells [wS,wS,wN] 83),(33,.row .str 9)],64,[]⟩)]
def z7y:(q5u fu).L 0:=Fx.jm (qvk fu) []
def z7x:(q5u fu).L 1:=Fx.jm (qm9 fu) [(z7y fu).s]
def q5v:=(q5u fu).fi (qcd fu) [(z7x fu).s] call43
def z73:IF:=⟨.fn 55,[.h (.prod .str (.prod .str wL)),wS],[],_,RS.mk (.tup [wS,.h .bool]) []⟩
def zi5:Fx wG z73:=fx f55 55 func55 [(yc fu).p] false [] ao [(ah [(0,208),(0,209),(0,105),(2,26),(1,13),(0,7)],⟨28,[(1,wS),(2,.ptr 32 0),(6,wH)],[(32,.dat (.prod .str (.prod .str wL)) 83)],64,[]⟩)]
def z74:Nat->(zi5 fu).L 0:=Fx.lq (qf7 fu) (quc fu) (fun r0=>[r0.s])
def zi6:=(zi5 fu).fi (qmk fu) [(z74 fu fu).s] call55
def z79:IF:=⟨.fn 79,[.h wB,wH],[],_,RS.mk (.h .bool) []⟩
def z78:Fx wG z79:=fx f79 79 func79 [] false [] ao []
def zi7:=z78.fi qbj [] call79
def z8a:IF:=⟨.fn 48,[.h wB],[],_,RS.mk (.h (.prod wI wI)) []⟩
def qsz(fu:Nat):Fx wG z8a:=fx f48 48 func48 [zi7.p,u7.p] false [] ao [(ah [(0,7461),(0,3731),(1,466),(0,467),(2,58),(1,29),(0,15)],⟨37,[(0,.h wB),(2,.ptr 32 0),(3,wH),(4,wH),(29,.h .bool)],[(32,.dat (.prod wI wI) 30)],64,[]⟩),(ah [(0,464),(0,465),(0,233),(2,58),(1,29),(0,15)],⟨37,[(0,.h wB),(2,.ptr 32 0),(3,wH),(4,wH)],[(32,.dat (.prod wI wI) 30)],64,[]⟩)]
def z8c(r0:(qsz fu).L 1):(qsz fu).L 0:=Fx.jm (qm0 fu r0.f) [r0.s]
def z8b:Nat->(qsz fu).L 1:=Fx.lq (qgx fu) (qu7 fu) (fun r0=>[r0.s,(z8c fu r0).s])
def zi8:=(qsz fu).fi (qmz fu) [(z8b fu fu).s] call48
def z8e:IF:=⟨.fn 58,[.h wL],[],_,RS.mk (.tup [wS,.h .bool]) []⟩
def qs1:Fx wG z8e:=fx f58 58 func58 [(q5v fu).p,(yc fu).p,(zi6 fu).p,u9.p] false [] ao [(ah [(0,2000),(0,2001),(0,1001),(2,250),(1,125),(0,63)],⟨54,[(6,wS),(7,.h .bool),(8,wH)],[],64,[]⟩),(ah [(0,30),(0,31)],⟨54,[(4,.ptr 32 0)],[(32,.dat (.prod .str (.prod .str wL)) 83)],64,[]⟩),(ah [(0,29),(0,15)],⟨54,[(4,.ptr 32 0),(21,.h .bool)],[(32,.dat (.prod .str (.prod .str wL)) 83)],64,[]⟩)]
def z8h:Nat->(qs1 fu).L 0:=Fx.lq (qgw fu) (qu5 fu) (fun r2=>[r2.s])
def z8g:(qs1 fu).L 1:=Fx.jm (qu6 fu) [(z8h fu fu).s]
def z8f:(qs1 fu).L 2:=Fx.jm (qgv fu) [(z8g fu).s]
def zi9:=(qs1 fu).fi (qgu fu) [(z8f fu).s] call58
def z8n:IF:=⟨.fn 86,[wS,wS],[],_,RS.mk (wH) []⟩
def qfe(fu:Nat):Fx wG z8n:=fx f86 86 func86 [qlf.p] false [] ao [(ah [(0,226),(1,113),(2,28),(1,14),(0,15)],⟨32,[(0,wS),(1,wS),(5,wH)],[],64,[]⟩),(ah [(0,225),(0,113),(2,28),(1,14),(0,15)],⟨32,[(0,wS),(1,wS),(5,wH),(16,.h .bool)],[],64,[]⟩),(ah [(0,224),(0,225),(0,113),(2,28),(1,14),(0,15)],⟨32,[(0,wS),(1,wS),(5,wH)],[],64,[]⟩)]
def z8q(r0:(qfe fu).L 2):(qfe fu).L 0:=Fx.jm (qve fu r0.f) [r0.s]
def z8p(r0:(qfe fu).L 2):(qfe fu).L 1:=Fx.jm (qcb fu r0.f) [(z8q fu r0).s]
def z8o:Nat->(qfe fu).L 2:=Fx.lq (qca fu) (qvd fu) (fun r0=>[(z8p fu r0).s])
def z8r:=(qfe fu).fi (qvc fu) [(z8o fu fu).s] call86
def z8u:IF:=⟨.fn 59,[.h wB,wS],[],_,RS.mk (.own 0) [(0,.row wB 23)]⟩
def jb:Fx wG z8u:=fx f59 59 func59 [zi7.p,(z8r fu).p] false [] ao [(ah [(0,63650),(1,31825),(2,7956),(1,3978),(0,3979),(1,497),(2,124),(1,62),(0,63)],⟨74,[(0,.h wB),(1,wS),(5,.own 32),(6,wH),(7,wH),(8,wH)],[(32,.row wB 23)],64,[]⟩),(ah [(0,254716),(0,254717),(0,127359),(1,497),(2,124),(1,62),(0,63)],⟨74,[(0,.h wB),(1,wS),(5,.own 32),(6,wH),(9,wH),(10,wH)],[(32,.row wB 23)],64,[]⟩),(ah [(0,509429),(0,63679),(1,497),(2,124),(1,62),(0,63)],⟨74,[(0,.h wB),(1,wS),(5,.own 32),(9,wH),(10,wH)],[(32,.row wB 23)],64,[]⟩),(ah [(0,8150859),(0,509429),(0,63679),(1,497),(2,124),(1,62),(0,63)],⟨74,[(0,.h wB),(1,wS),(5,.own 32),(6,wH),(9,wH),(10,wH),(11,wH)],[(32,.row wB 23)],64,[]⟩),(ah [(0,31838),(0,31839),(1,497),(2,124),(1,62),(0,63)],⟨74,[(0,.h wB),(1,wS),(5,.own 32),(6,wH),(7,wH),(8,wH),(9,wH)],[(32,.row wB 23)],64,[]⟩),(ah [(0,63649),(0,31825),(2,7956),(1,3978),(0,3979),(1,497),(2,124),(1,62),(0,63)],⟨74,[(0,.h wB),(1,wS),(5,.own 32),(6,wH),(7,wH),(8,wH),(26,.h .bool)],[(32,.row wB 23)],64,[]⟩),(ah [(0,63648),(0,63649),(0,31825),(2,7956),(1,3978),(0,3979),(1,497),(2,124),(1,62),(0,63)],⟨74,[(0,.h wB),(1,wS),(5,.own 32),(6,wH),(7,wH),(8,wH)],[(32,.row wB 23)],64,[]⟩),(ah [(0,992),(0,993),(0,497),(2,124),(1,62),(0,63)],⟨74,[(0,.h wB),(1,wS),(5,.own 32),(6,wH),(7,wH)],[(32,.row wB 23)],64,[]⟩)]
def z8y(r0:(jb fu).L 7)(r1:(jb fu).L 6):(jb fu).L 0:=Fx.jm (qva fu r0.f r1.f) [r1.s]
def zjb(r0:(jb fu).L 7):(jb fu).L 1:=Fx.jm (qb8 fu r0.f) [r0.s]
def zja(r0:(jb fu).L 7):(jb fu).L 2:=Fx.jm (y7 fu r0.f) [(zjb fu r0).s]
def z81(r0:(jb fu).L 7):(jb fu).L 3:=Fx.jm (y8 fu r0.f) [(zja fu r0).s]
def z8z(r0:(jb fu).L 7):(jb fu).L 4:=Fx.jm (qg0 fu r0.f) [(z81 fu r0).s,(zja fu r0).s,(zjb fu r0).s]
def z8x(r0:(jb fu).L 7)(r1:(jb fu).L 6):(jb fu).L 5:=Fx.jm (qgz fu r0.f r1.f) [(z8y fu r0 r1).s,(z8z fu r0).s]
def z8w(r0:(jb fu).L 7):Nat->(jb fu).L 6:=Fx.lq (qgy fu r0.f) (qu9 fu r0.f) (fun r1=>[(z8x fu r0 r1).s])
def z8v:Nat->(jb fu).L 7:=Fx.lq (vl fu) (qu8 fu) (fun r0=>[(z8w fu r0 fu).s])
def zjc:=(jb fu).fi (qm1 fu) [(z8v fu fu).s] call59
def z89:IF:=⟨.fn 109,[wS],[],_,RS.mk (wS) []⟩
def qs2(fu:Nat):Fx wG z89:=fx f109 109 func109 [] false [] ao [(ah [(0,3729),(0,1865),(1,466),(0,467),(2,58),(1,29),(0,15)],⟨32,[(0,wS),(3,wS),(4,wH),(20,.h .bool)],[],64,[]⟩),(ah [(0,464),(0,465),(0,233),(2,58),(1,29),(0,15)],⟨32,[(0,wS),(3,wS),(4,wH)],[],64,[]⟩)]
def z9b(r0:(qs2 fu).L 1):(qs2 fu).L 0:=Fx.jm (yw fu r0.f) [r0.s]
def z9a:Nat->(qs2 fu).L 1:=Fx.lq (yv fu) (quf fu) (fun r0=>[(z9b fu r0).s])
def z9c:=(qs2 fu).fi (qmn fu) [(z9a fu fu).s] call109
def z9f:IF:=⟨.fn 110,[.h .byte],[],_,RS.mk (wS) []⟩
def z9e:Fx wG z9f:=fx f110 110 func110 [] false [] ao []
def z9g:=z9e.fi y6 [] call110
def z9h:IF:=⟨.fn 76,[.h wP],[],_,RS.mk (wS) []⟩
def qt:Fx wG z9h:=fx f76 76 func76 [(zi3 fu).p,u9.p,(z9c fu).p,z9g.p,(q5g fu).p,(ziw fu).p] false [] ao [(ah [(0,979),(2,122),(1,61),(0,31)],⟨108,[(1,.ptr 32 0),(3,.h .bool),(4,wH)],[(32,.dat wP 86)],64,[]⟩),(ah [(0,32723),(2,4090),(1,2045),(0,1023)],⟨108,[(1,.ptr 32 0),(5,wS),(6,wS),(7,wH),(8,wH)],[(32,.dat wP 86)],64,[]⟩),(ah [(0,523559),(1,32722),(0,32723),(2,4090),(1,2045),(0,1023)],⟨108,[(1,.ptr 32 0),(5,wS),(6,wS),(7,wH),(8,wH),(9,wS)],[(32,.dat wP 86)],64,[]⟩),(ah [(0,1047116),(0,1047117),(0,523559),(1,32722),(0,32723),(2,4090),(1,2045),(0,1023)],⟨108,[(1,.ptr 32 0),(5,wS),(6,wS),(7,wH),(8,wH),(9,wS)],[(32,.dat wP 86)],64,[]⟩),(ah [(0,32720),(0,32721),(0,16361),(2,4090),(1,2045),(0,1023)],⟨108,[(1,.ptr 32 0),(5,wS),(6,wS),(7,wH),(8,wH)],[(32,.dat wP 86)],64,[]⟩),(ah [(0,976),(0,977),(0,489),(2,122),(1,61),(0,31)],⟨108,[(1,.ptr 32 0),(3,.h .bool),(4,wH)],[(32,.dat wP 86)],64,[]⟩)]
def z9j(r0:(qt fu).L 5):(qt fu).L 0:=Fx.jm (qf9 fu r0.f) [r0.s]
def z9n(r2:(qt fu).L 4):(qt fu).L 1:=Fx.jm (qmm fu r2.f) [r2.s]
def z9m(r2:(qt fu).L 4):(qt fu).L 2:=Fx.jm (qgb fu r2.f) [(z9n fu r2).s]
def z9l(r2:(qt fu).L 4):(qt fu).L 3:=Fx.jm (qga fu r2.f) [(z9m fu r2).s]
def z9k:Nat->(qt fu).L 4:=Fx.lq (qbx fu) (que fu) (fun r2=>[(z9l fu r2).s])
def z9i:Nat->(qt fu).L 5:=Fx.lq (qf8 fu) (qud fu) (fun r0=>[(z9j fu r0).s,(z9k fu fu).s])
def z9o:=(qt fu).fi (qml fu) [(z9i fu fu).s] call76
def z9t:IF:=⟨.fn 45,[.h (.prod .str (.prod .str wL))],[],_,RS.mk (wS) []⟩
def zjd:Fx wG z9t:=fx f45 45 func45 [(z9o fu).p] false [] ao [(ah [(0,464),(0,465),(0,233),(2,58),(1,29),(0,15)],⟨27,[(1,.ptr 32 0),(3,wS),(4,wH)],[(32,.dat (.prod .str (.prod .str wL)) 83)],64,[]⟩)]
def z9u:Nat->(zjd fu).L 0:=Fx.lq (qf6 fu) (qub fu) (fun r0=>[r0.s])
def zje:=(zjd fu).fi (qf5 fu) [(z9u fu fu).s] call45
def z9v:IF:=⟨.fn 28,[.h wT,wH],[],_,RS.mk (wH) []⟩
def qlq:Fx wG z9v:=fx f28 28 func28 [(zim fu).p,(q5v fu).p,(zi6 fu).p,(yc fu).p,(zi8 fu).p,(zi9 fu).p,(zjc fu).p,(zje fu).p,(ziq fu).p] false [] ao [(ah [(0,7870),(0,7871),(0,31)],⟨104,[],[],64,[]⟩),(ah [(0,7869),(0,3935),(0,31)],⟨104,[(72,.h .bool)],[],64,[]⟩),(ah [(0,1966),(0,1967),(0,31)],⟨104,[(2,.ptr 32 0),(6,.ptr 33 0)],[(32,.dat wT 26),(33,.dat (.prod .str (.prod .str wL)) 83)],64,[]⟩),(ah [(0,1965),(0,983),(0,31)],⟨104,[(2,.ptr 32 0),(6,.ptr 33 0),(58,.h .bool)],[(32,.dat wT 26),(33,.dat (.prod .str (.prod .str wL)) 83)],64,[]⟩)]
def z9z:(qlq fu).L 0:=Fx.jm (q7a fu) []
def z9y:(qlq fu).L 1:=Fx.jm (qg2 fu) [(z9z fu).s]
def z9x:(qlq fu).L 2:=Fx.jm (qvf fu) [(z9y fu).s]
def z9w:(qlq fu).L 3:=Fx.jm (o6 fu) [(z9x fu).s]
def z90:=(qlq fu).fi (qm4 fu) [(z9w fu).s] call28
def z95:IF:=⟨.fn 11,[.h wT],[],_,RS.mk (.h (.prod wI wI)) []⟩
def q5z:Fx wG z95:=fx f11 11 func11 [(z2n fu).p,u7.p,(z90 fu).p] false [] ao [(ah [(0,2000),(0,2001),(0,1001),(2,250),(1,125),(0,63)],⟨50,[(2,.ptr 32 0),(3,.h (.list wT)),(4,.h (.list wI)),(6,wH)],[(32,.dat (.prod wI wI) 30)],64,[]⟩),(ah [(0,976),(0,977),(0,489),(2,122),(1,61),(0,31)],⟨50,[(2,.ptr 32 0),(3,.h (.list wT)),(4,.h (.list wI)),(5,wH)],[(32,.dat (.prod wI wI) 30)],64,[]⟩)]
def z97:Nat->(q5z fu).L 0:=Fx.lq (qg4 fu) (qvh fu) (fun r1=>[r1.s])
def z96:Nat->(q5z fu).L 1:=Fx.lq (qg3 fu) (qvg fu) (fun r0=>[r0.s,(z97 fu fu).s])
def z98:=(q5z fu).fi (qm5 fu) [(z96 fu fu).s] call11
def vac:IF:=⟨.fn 47,[.h wL],[],_,RS.mk (.own 0) [(0,.row .byte 5)]⟩
def qs5:Fx wG vac:=fx f47 47 func47 [(zij fu).p] false [] ao [(ah [(0,59696),(0,59697),(0,29849),(2,7462),(1,3731),(1,466),(0,467),(2,58),(1,29),(0,15)],⟨40,[(0,.h wL),(3,wS),(4,wH),(5,.own 32),(6,wH)],[(32,.row .str 9)],64,[]⟩),(ah [(0,464),(0,465),(0,233),(2,58),(1,29),(0,15)],⟨40,[(0,.h wL),(3,wS),(4,wH)],[],64,[]⟩)]
def vae(r0:(qs5 fu).L 1):Nat->(qs5 fu).L 0:=Fx.lq (qbm fu r0.f) (qtz fu r0.f) (fun r1=>[r1.s,r0.s])
def vad:Nat->(qs5 fu).L 1:=Fx.lq (yj fu) (qty fu) (fun r0=>[(vae fu r0 fu).s])
def vaf:=(qs5 fu).fi (qtx fu) [(vad fu fu).s] call47
def vah:IF:=⟨.fn 20,[.h (.prod wL wB)],[],_,RS.mk (.h (.prod wI wI)) []⟩
def vag:Fx wG vah:=fx f20 20 func20 [(zim fu).p,u7.p,(vaf fu).p,(zi8 fu).p] false [] ao []
def vai:=(vag fu).fi (qm3 fu) [] call20
def vaj:IF:=⟨.fn 44,[.h wL,wS],[],_,RS.mk (.own 0) [(0,.row wP 50)]⟩
def zjf:Fx wG vaj:=fx f44 44 func44 [(yc fu).p] false [] ao [(ah [(0,464),(0,465),(0,233),(2,58),(1,29),(0,15)],⟨28,[(0,.h wL),(1,wS),(5,.own 32),(6,wH)],[(32,.row wP 50)],64,[]⟩)]
def vak:Nat->(zjf fu).L 0:=Fx.lq (qhc fu) (qvq fu) (fun r0=>[r0.s])
def vam:=(zjf fu).fi (qvp fu) [(vak fu fu).s] call44
def van:IF:=⟨.fn 65,[.h wB],[],_,RS.mk (.tup [.own 0,wH,.h (.prod wI wI)]) [(0,.row wP 50)]⟩
def da:Fx wG van:=fx f65 65 func65 [u7.p,qlf.p,(ziu fu).p,(zie fu).p,(zih fu).p] false [] ao [(ah [(0,63650),(1,31825),(2,7956),(1,3978),(0,3979),(1,497),(2,124),(1,62),(0,63)],⟨189,[(0,.h wB),(4,.ptr 32 0),(5,.own 33),(6,wH),(7,wH)],[(32,.dat (.prod wI wI) 30),(33,.row wP 50)],64,[]⟩),(ah [(0,2085459),(2,260682),(1,130341),(0,65171),(1,8146),(0,8147),(2,1018),(1,509),(0,255)],⟨189,[(4,.ptr 32 0),(5,.own 33),(6,wH),(13,wH),(14,.own 34),(15,wH)],[(32,.dat (.prod wI wI) 30),(33,.row wP 50),(34,.row .byte 5)],64,[]⟩),(ah [(0,8341833),(1,2085458),(0,2085459),(2,260682),(1,130341),(0,65171),(1,8146),(0,8147),(2,1018),(1,509),(0,255)],⟨189,[(4,.ptr 32 0),(5,.own 33),(6,wH),(13,wH),(14,.own 34),(15,wH),(166,.h .bool)],[(32,.dat (.prod wI wI) 30),(33,.row wP 50),(34,.row .byte 5)],64,[]⟩),(ah [(0,2085456),(0,2085457),(0,1042729),(2,260682),(1,130341),(0,65171),(1,8146),(0,8147),(2,1018),(1,509),(0,255)],⟨189,[(4,.ptr 32 0),(5,.own 33),(6,wH),(13,wH),(14,.own 34),(15,wH)],[(32,.dat (.prod wI wI) 30),(33,.row wP 50),(34,.row .byte 5)],64,[]⟩),(ah [(0,8144),(0,8145),(0,4073),(2,1018),(1,509),(0,255)],⟨189,[(4,.ptr 32 0),(5,.own 33),(6,wH),(13,wH)],[(32,.dat (.prod wI wI) 30),(33,.row wP 50)],64,[]⟩),(ah [(0,252),(0,253),(0,127)],⟨189,[(4,.ptr 32 0),(5,.own 33),(6,wH)],[(32,.dat (.prod wI wI) 30),(33,.row wP 50)],64,[]⟩),(ah [(0,130416610),(1,65208305),(2,16302076),(1,8151038),(0,8151039),(1,497),(2,124),(1,62),(0,63)],⟨189,[(0,.h wB),(4,.ptr 32 0),(5,.own 33),(6,wH),(9,wH),(10,wS),(11,wH),(12,wS)],[(32,.dat (.prod wI wI) 30),(33,.row wP 50)],64,[]⟩),(ah [(0,130416609),(0,65208305),(2,16302076),(1,8151038),(0,8151039),(1,497),(2,124),(1,62),(0,63)],⟨189,[(0,.h wB),(4,.ptr 32 0),(5,.own 33),(6,wH),(9,wH),(10,wS),(11,wH),(12,wS),(114,.h .bool)],[(32,.dat (.prod wI wI) 30),(33,.row wP 50)],64,[]⟩),(ah [(0,130416608),(0,130416609),(0,65208305),(2,16302076),(1,8151038),(0,8151039),(1,497),(2,124),(1,62),(0,63)],⟨189,[(0,.h wB),(4,.ptr 32 0),(5,.own 33),(6,wH),(9,wH),(10,wS),(11,wH),(12,wS)],[(32,.dat (.prod wI wI) 30),(33,.row wP 50)],64,[]⟩),(ah [(0,1018878),(0,1018879),(1,497),(2,124),(1,62),(0,63)],⟨189,[(0,.h wB),(4,.ptr 32 0),(5,.own 33),(6,wH),(9,wH),(10,wS)],[(32,.dat (.prod wI wI) 30),(33,.row wP 50)],64,[]⟩),(ah [(0,1018877),(0,509439),(1,497),(2,124),(1,62),(0,63)],⟨189,[(0,.h wB),(4,.ptr 32 0),(5,.own 33),(6,wH),(9,wH),(10,wS),(80,.h .bool)],[(32,.dat (.prod wI wI) 30),(33,.row wP 50)],64,[]⟩),(ah [(0,127358),(0,127359),(1,497),(2,124),(1,62),(0,63)],⟨189,[(0,.h wB),(4,.ptr 32 0),(5,.own 33),(6,wH),(8,wH),(9,wH)],[(32,.dat (.prod wI wI) 30),(33,.row wP 50)],64,[]⟩),(ah [(0,31838),(0,31839),(1,497),(2,124),(1,62),(0,63)],⟨189,[(0,.h wB),(4,.ptr 32 0),(5,.own 33),(6,wH),(7,wH),(8,wH)],[(32,.dat (.prod wI wI) 30),(33,.row wP 50)],64,[]⟩),(ah [(0,31837),(0,15919),(1,497),(2,124),(1,62),(0,63)],⟨189,[(0,.h wB),(4,.ptr 32 0),(5,.own 33),(6,wH),(7,wH),(8,wH),(55,.h .bool)],[(32,.dat (.prod wI wI) 30),(33,.row wP 50)],64,[]⟩),(ah [(0,63649),(0,31825),(2,7956),(1,3978),(0,3979),(1,497),(2,124),(1,62),(0,63)],⟨189,[(0,.h wB),(4,.ptr 32 0),(5,.own 33),(6,wH),(7,wH),(35,.h .bool)],[(32,.dat (.prod wI wI) 30),(33,.row wP 50)],64,[]⟩),(ah [(0,63648),(0,63649),(0,31825),(2,7956),(1,3978),(0,3979),(1,497),(2,124),(1,62),(0,63)],⟨189,[(0,.h wB),(4,.ptr 32 0),(5,.own 33),(6,wH),(7,wH)],[(32,.dat (.prod wI wI) 30),(33,.row wP 50)],64,[]⟩),(ah [(0,992),(0,993),(0,497),(2,124),(1,62),(0,63)],⟨189,[(0,.h wB),(4,.ptr 32 0),(5,.own 33),(6,wH)],[(32,.dat (.prod wI wI) 30),(33,.row wP 50)],64,[]⟩)]
def vaz(r0:(da fu).L 16)(r1:(da fu).L 15):(da fu).L 0:=Fx.jm (q67 fu r0.f r1.f) [r1.s]
def vaw(r4:(da fu).L 4)(r14:(da fu).L 3):(da fu).L 1:=Fx.jm (qmq fu r4.f r14.f) [r14.s]
def vav(r4:(da fu).L 4)(r14:(da fu).L 3):(da fu).L 2:=Fx.jm (qmp fu r4.f r14.f) [(vaw fu r4 r14).s]
def vau(r4:(da fu).L 4):Nat->(da fu).L 3:=Fx.lq (yx fu r4.f) (quj fu r4.f) (fun r14=>[(vav fu r4 r14).s,r4.s])
def vay:Nat->(da fu).L 4:=Fx.lq (y4 fu) (quk fu) (fun r4=>[(vau fu r4 fu).s])
def qs6:(da fu).L 5:=Fx.jm (yy fu) [(vay fu fu).s]
def vat(r0:(da fu).L 16)(r11:(da fu).L 8):(da fu).L 6:=Fx.jm (qum fu r0.f r11.f) [r11.s]
def vas(r0:(da fu).L 16)(r11:(da fu).L 8):(da fu).L 7:=Fx.jm (qby fu r0.f r11.f) [(vat fu r0 r11).s,(qs6 fu).s,r0.s]
def var(r0:(da fu).L 16):Nat->(da fu).L 8:=Fx.lq (qgc fu r0.f) (qui fu r0.f) (fun r11=>[(vas fu r0 r11).s])
def vaq(r0:(da fu).L 16):(da fu).L 9:=Fx.jm (qul fu r0.f) [(qs6 fu).s,(var fu r0 fu).s]
def va3(r0:(da fu).L 16):(da fu).L 10:=Fx.jm (qb2 fu r0.f) [r0.s,(vaq fu r0).s]
def va2(r0:(da fu).L 16):(da fu).L 11:=Fx.jm (qb1 fu r0.f) [(qs6 fu).s,(va3 fu r0).s]
def va1(r0:(da fu).L 16):(da fu).L 12:=Fx.jm (qb0 fu r0.f) [(va2 fu r0).s]
def va0(r0:(da fu).L 16):(da fu).L 13:=Fx.jm (qbz fu r0.f) [(va1 fu r0).s]
def vax(r0:(da fu).L 16)(r1:(da fu).L 15):(da fu).L 14:=Fx.jm (yz fu r0.f r1.f) [(vaz fu r0 r1).s,(va0 fu r0).s]
def vap(r0:(da fu).L 16):Nat->(da fu).L 15:=Fx.lq (vj fu r0.f) (quh fu r0.f) (fun r1=>[(vax fu r0 r1).s])
def vao:Nat->(da fu).L 16:=Fx.lq (vi fu) (qug fu) (fun r0=>[(vap fu r0 fu).s,(qs6 fu).s])
def va4:=(da fu).fi (qmo fu) [(vao fu fu).s] call65
def oy:IF:=⟨.fn 36,[.h wL,.h wB,wH,wH],[],_,RS.mk (.tup [.h wT,wH,.h (.prod wI wI)]) []⟩
def va(s196:EI wG oy)(fu:Nat):Fx wG oy:=fx f36 36 func36 [u7.p,(zi9 fu).p,(zjc fu).p,(q5v fu).p,(yc fu).p,(zje fu).p,(vam fu).p,(va4 fu).p,s196.p] false [] ao [(ah [(0,32723),(2,4090),(1,2045),(0,1023)],⟨165,[(0,.h wL),(2,wH),(3,wH),(8,.ptr 32 0),(10,.ptr 33 0),(11,.ptr 34 0),(14,.own 35),(15,.ptr 36 0),(17,.ptr 37 0),(18,wH)],[(32,.cells [wN,wN,wN] 26),(33,.dat (.prod wI wI) 30),(34,.cells [.h wL,.h wB,wN] 26),(35,.row wB 23),(36,.dat (.prod .str (.prod .str wL)) 83),(37,.cells [wS,wS,.own 38] 83),(38,.row wP 86)],64,[]⟩),(ah [(0,1048528),(0,1048529),(0,524265),(2,131066),(1,65533),(0,32767)],⟨165,[(2,wH),(8,.ptr 32 0),(10,.ptr 33 0),(11,.ptr 34 0),(14,.own 35),(20,.ptr 36 0),(21,wH),(22,wH)],[(32,.cells [wN,wN,wN] 26),(33,.dat (.prod wI wI) 30),(34,.cells [.h wL,.h wB,wN] 26),(35,.row wB 23),(36,.cells [.own 37,wN,.own 38] 26),(37,.row wP 50),(38,.row wT 26)],64,[]⟩),(ah [(0,8190),(0,8191)],⟨165,[(0,.h wL),(2,wH),(3,wH),(8,.ptr 32 0),(10,.ptr 33 0),(11,.ptr 34 0),(14,.own 35),(19,wS)],[(32,.cells [wN,wN,wN] 26),(33,.dat (.prod wI wI) 30),(34,.cells [.h wL,.h wB,wN] 26),(35,.row wB 23)],64,[]⟩),(ah [(0,8189),(0,4095)],⟨165,[(0,.h wL),(2,wH),(3,wH),(8,.ptr 32 0),(10,.ptr 33 0),(11,.ptr 34 0),(14,.own 35),(19,wS),(100,.h .bool)],[(32,.cells [wN,wN,wN] 26),(33,.dat (.prod wI wI) 30),(34,.cells [.h wL,.h wB,wN] 26),(35,.row wB 23)],64,[]⟩),(ah [(0,32720),(0,32721),(0,16361),(2,4090),(1,2045),(0,1023)],⟨165,[(0,.h wL),(2,wH),(3,wH),(8,.ptr 32 0),(10,.ptr 33 0),(11,.ptr 34 0),(14,.own 35),(15,.ptr 36 0),(17,.ptr 37 0),(18,wH)],[(32,.cells [wN,wN,wN] 26),(33,.dat (.prod wI wI) 30),(34,.cells [.h wL,.h wB,wN] 26),(35,.row wB 23),(36,.dat (.prod .str (.prod .str wL)) 83),(37,.cells [wS,wS,.own 38] 83),(38,.row wP 86)],64,[]⟩),(ah [(0,126),(0,127)],⟨165,[(0,.h wL),(1,.h wB),(2,wH),(3,wH),(8,.ptr 32 0),(10,.ptr 33 0),(11,.ptr 34 0),(12,wS)],[(32,.cells [wN,wN,wN] 26),(33,.dat (.prod wI wI) 30),(34,.cells [.h wL,.h wB,wN] 26)],64,[]⟩),(ah [(0,125),(0,63)],⟨165,[(0,.h wL),(1,.h wB),(2,wH),(3,wH),(8,.ptr 32 0),(10,.ptr 33 0),(11,.ptr 34 0),(12,wS),(48,.h .bool)],[(32,.cells [wN,wN,wN] 26),(33,.dat (.prod wI wI) 30),(34,.cells [.h wL,.h wB,wN] 26)],64,[]⟩)]
def vbl(s196:EI wG oy)(fu:Nat)(r2:(va s196 fu).L 4):(va s196 fu).L 0:=Fx.jm (qg9 s196.f fu r2.f) [r2.s]
def vbo(s196:EI wG oy)(fu:Nat):Nat->(va s196 fu).L 1:=Fx.lq (qhb s196.f fu) (qvm s196.f fu) (fun r6=>[r6.s])
def vbn(s196:EI wG oy)(fu:Nat):(va s196 fu).L 2:=Fx.jm (qvo s196.f fu) [(vbo s196 fu fu).s]
def vbm(s196:EI wG oy)(fu:Nat):(va s196 fu).L 3:=Fx.jm (qha s196.f fu) [(vbn s196 fu).s]
def vbk(s196:EI wG oy)(fu:Nat):Nat->(va s196 fu).L 4:=Fx.lq (qg8 s196.f fu) (qvl s196.f fu) (fun r2=>[(vbl s196 fu r2).s,(vbm s196 fu).s])
def vbj(s196:EI wG oy)(fu:Nat):(va s196 fu).L 5:=Fx.jm (qvn s196.f fu) [(vbk s196 fu fu).s]
def vbi(s196:EI wG oy)(fu:Nat):(va s196 fu).L 6:=Fx.jm (tp s196.f fu) [(vbj s196 fu).s]
def vbh(s196:EI wG oy)(fu:Nat):EI wG oy:=(va s196 fu).fi (qg7 s196.f fu) [(vbi s196 fu).s] call36
def vbp:EI wG oy := .rc (nw fu) (fun r=>qg7 r fu) (fun _ _=>rfl) (fun _=>rfl) (fun s196=>vbh s196 fu) (fun _=>rfl) fu
def vbw:IF:=⟨.fn 16,[.h (.prod wL wB)],[],_,RS.mk (.tup [.h wT,.h (.prod wI wI)]) []⟩
def vbv:Fx wG vbw:=fx f16 16 func16 [(vai fu).p,(vbp fu).p,(z98 fu).p,u7.p] false [] ao []
def vbx:=(vbv fu).fi (qm6 fu) [] call16
def zjg:IF:=⟨.fn 4,[.h (.prod wL wB)],[],_,RS.mk (.h .bool) []⟩
def vby:Fx wG zjg:=fx f4 4 func4 [(z2k fu).p,(zh7 fu).p,(vbx fu).p,(zib fu).p] false [] ao []
def vbz:=(vby fu).fi (qce fu) [] call4
def zkr:(zjg.e (qce fu)).Sound wG:=(vbz fu).h
end
end
end Go.Sym
