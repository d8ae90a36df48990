/- What the claim rests on, part 5: gathered texts. -/
import Derived.Shelf.LaysC
import Derived.Shelf.LaysM
import Derived.Shelf.SlGeneric
import Derived.Shelf.SlLaysF0
import Derived.Ground.NamesProg
import Derived.Test.YtdnaaelkpgijeabGreatDoorProg
import Derived.Below
import Derived.Tactics
import Derived.Tactics2
import Derived.Laws.AppendOwn
import Derived.Shelf.Strconv.Itoa4
import Derived.Shelf.Bytes.SlIndexWhole
import Derived.Shelf.Strconv.AtoiAll
import Derived.Shelf.Strconv.ErrVarAll
import Derived.Shelf.SlicesE.Clone
import Derived.Shelf.SlSortCmp.NoneTotal
import Derived.Shelf.Strings.BuilderCap
import Derived.Shelf.Unicode.DecodeAny
import Derived.Laws.DeepStrings4
import Derived.Deep.LoopGhost
import Derived.Deep.DeepCutAuto
import Derived.Deep.DeepFit
import Derived.Deep.DeepMust
import Derived.Shelf.Unicode.ValidAny
import Derived.Shelf.Strings.Count
import Derived.Deep.OwnRows
import Derived.Laws.CopyRow
import Derived.Laws.IdiomStrings
import Derived.Laws.CopyOwn
import Derived.Lib.SlBytesConst
import Derived.Test.YtdnaaelkpgijeabGreatDoorRows
import Derived.Defers
import Derived.Laws.Pointers
import Derived.Laws.LoneSync
import Derived.RegionTactic
import Derived.RegionCalls
import Derived.ChangeAlike
import Derived.Laws.NewBlocks
import Derived.Laws.ByValue
import Derived.Shelf.Strings.Repeat
import Derived.Shelf.Strings.Replace
import Derived.Shelf.Strings.BuilderK
import Derived.Shelf.Strings.OnBuilder
import Derived.Shelf.Strings.Search2
import Derived.Shelf.Lays2
import Derived.Ground.Names2Prog
import Derived.Shelf.Sort.Plain
import Derived.Shelf.Slices.In.SortNone
import Derived.Shelf.Slices.CompactI
import Derived.Recover
import Derived.Test.YtdnaaelkpgijeabGreatDoorSyP4
set_option maxRecDepth 100000
set_option linter.defProp false
set_option linter.unusedSimpArgs false
set_option linter.unusedVariables false
namespace Go.Proofs
open Go.Sym(oB oE)
open Go.Shelf
def Tryz.lfn{α:Type}{a:Option α}{b c:α}(h:a=some b)(e:b=c:=by kernel_rfl):a=some c:=h.trans (congrArg some e)
def Tryz.uniR:Go.Shelf.Ren:=⟨fun|99=>165|105=>118|115=>29|129=>92|138=>362|143=>122|154=>348|155=>316|156=>130|165=>166|166=>167|167=>273|169=>169|170=>168|171=>66|172=>371|185=>206|187=>97|195=>377|196=>67|197=>149|205=>399|206=>209|212=>164|217=>217|218=>378|219=>172|224=>219|225=>218|240=>210|241=>211|243=>120|244=>380|245=>381|246=>171|247=>384|253=>254|254=>255|255=>145|259=>121|260=>188|263=>207|264=>208|266=>267|267=>220|270=>383|276=>256|277=>257|279=>385|280=>386|281=>387|282=>388|283=>213|284=>214|285=>215|286=>216|287=>397|291=>298|314=>268|316=>398|317=>263|318=>264|319=>265|320=>266|321=>403|322=>404|337=>307|338=>308|n=>n,fun|0=>0|2=>2|3=>3|4=>4|5=>5|9=>9|12=>12|20=>20|21=>21|31=>97|37=>44|46=>90|51=>148|53=>150|70=>243|72=>245|75=>248|76=>249|80=>252|85=>451|105=>226|109=>241|119=>198|127=>307|138=>200|139=>201|143=>468|145=>470|146=>303|148=>305|164=>344|167=>450|168=>453|171=>310|173=>312|175=>461|210=>464|212=>350|213=>351|232=>417|233=>418|n=>n,fun|1=>2|3=>0|4=>1|15=>6|16=>7|17=>3|18=>4|19=>5|n=>n⟩
abbrev Tryz.laysM171_ren:Go.Shelf.Ren:=Tryz.uniR
def Tryz.laysM171:Go.Proofs.LaysM.n171 Tryz.prog Tryz.laysM171_ren:={
 mixed:=oB
 f129:=Tryz.lfn Tryz.func92
 f171:=Tryz.lfn Tryz.func66
 f243:=Tryz.lfn Tryz.func120
 f246:=Tryz.lfn Tryz.func171
 f283:=Tryz.lfn Tryz.func213
 f284:=Tryz.lfn Tryz.func214
 f285:=Tryz.lfn Tryz.func215
 f286:=Tryz.lfn Tryz.func216
 f317:=Tryz.lfn Tryz.func263
 f318:=Tryz.lfn Tryz.func264
 f319:=Tryz.lfn Tryz.func265
 f320:=Tryz.lfn Tryz.func266
 f337:=Tryz.lfn Tryz.func307
 f338:=Tryz.lfn Tryz.func308
 t0:=Tryz.underlying0
 a0:=Tryz.isAgg0
 z0:=Tryz.sizeOf0
 v0:=Tryz.zeroValue0
 t2:=Tryz.underlying2
 a2:=Tryz.isAgg2
 z2:=Tryz.sizeOf2
 v2:=Tryz.zeroValue2
 t3:=Tryz.underlying3
 a3:=Tryz.isAgg3
 z3:=Tryz.sizeOf3
 v3:=Tryz.zeroValue3
 t4:=Tryz.underlying4
 a4:=Tryz.isAgg4
 z4:=Tryz.sizeOf4
 v4:=Tryz.zeroValue4
 t5:=Tryz.underlying5
 a5:=Tryz.isAgg5
 z5:=Tryz.sizeOf5
 v5:=Tryz.zeroValue5
 t9:=Tryz.underlying9
 a9:=Tryz.isAgg9
 z9:=Tryz.sizeOf9
 v9:=Tryz.zeroValue9
 t20:=Tryz.underlying20
 a20:=Tryz.isAgg20
 z20:=Tryz.sizeOf20
 v20:=Tryz.zeroValue20
 t37:=Tryz.underlying44
 a37:=Tryz.isAgg44
 z37:=Tryz.sizeOf44
 v37:=Tryz.zeroValue44
 t46:=Tryz.underlying90
 a46:=Tryz.isAgg90
 z46:=Tryz.sizeOf90
 v46:=Tryz.zeroValue90
 t51:=Tryz.underlying148
 a51:=Tryz.isAgg148
 z51:=Tryz.sizeOf148
 v51:=Tryz.zeroValue148
 t53:=Tryz.underlying150
 a53:=Tryz.isAgg150
 z53:=Tryz.sizeOf150
 v53:=Tryz.zeroValue150
 t171:=Tryz.underlying310
 a171:=Tryz.isAgg310
 z171:=Tryz.sizeOf310
 v171:=Tryz.zeroValue310
 t173:=Tryz.underlying312
 a173:=Tryz.isAgg312
 z173:=Tryz.sizeOf312
 v173:=Tryz.zeroValue312
 t212:=Tryz.underlying350
 a212:=Tryz.isAgg350
 z212:=Tryz.sizeOf350
 v212:=Tryz.zeroValue350
 t213:=Tryz.underlying351
 a213:=Tryz.isAgg351
 z213:=Tryz.sizeOf351
 t232:=Tryz.underlying417
 a232:=Tryz.isAgg417
 z232:=Tryz.sizeOf417
 v232:=Tryz.zeroValue417
 t233:=Tryz.underlying418
 a233:=Tryz.isAgg418
 z233:=Tryz.sizeOf418
 v233:=Tryz.zeroValue418
 g17:=oB
 g18:=oB
 g19:=oB
 i0:=oB
 i2:=oB
 i3:=oB
 i4:=oB
 i5:=oB
 i9:=oB
 i20:=oB
 i37:=oB
 i46:=oB
 i51:=oB
 i53:=oB
 i171:=oB
 i173:=oB
 i212:=oB
 i232:=oB
 i233:=oB
 m17:=oB
 m18:=oB
 m19:=by kernel_rfl }
abbrev Tryz.laysC172_ren:Go.Shelf.Ren:=Tryz.uniR
def Tryz.laysC172:Go.Proofs.LaysC.n172 Tryz.prog Tryz.laysC172_ren:={ Tryz.laysM171 with
 f172:=Tryz.lfn Tryz.func371
 f205:=Tryz.lfn Tryz.func399
 f244:=Tryz.lfn Tryz.func380
 f245:=Tryz.lfn Tryz.func381
 f247:=Tryz.lfn Tryz.func384
 f279:=Tryz.lfn Tryz.func385
 f280:=Tryz.lfn Tryz.func386
 f281:=Tryz.lfn Tryz.func387
 f282:=Tryz.lfn Tryz.func388
 f287:=Tryz.lfn Tryz.func397
 f316:=Tryz.lfn Tryz.func398
 f321:=Tryz.lfn Tryz.func403
 f322:=Tryz.lfn Tryz.func404
 t21:=Tryz.underlying21
 a21:=Tryz.isAgg21
 z21:=Tryz.sizeOf21
 v21:=Tryz.zeroValue21
 t75:=Tryz.underlying248
 a75:=Tryz.isAgg248
 z75:=Tryz.sizeOf248
 v75:=Tryz.zeroValue248
 t76:=Tryz.underlying249
 a76:=Tryz.isAgg249
 z76:=Tryz.sizeOf249
 v76:=Tryz.zeroValue249
 t85:=Tryz.underlying451
 a85:=Tryz.isAgg451
 z85:=Tryz.sizeOf451
 v85:=Tryz.zeroValue451
 t127:=Tryz.underlying307
 a127:=Tryz.isAgg307
 z127:=Tryz.sizeOf307
 v127:=Tryz.zeroValue307
 t143:=Tryz.underlying468
 a143:=Tryz.isAgg468
 z143:=Tryz.sizeOf468
 v143:=Tryz.zeroValue468
 t145:=Tryz.underlying470
 a145:=Tryz.isAgg470
 z145:=Tryz.sizeOf470
 v145:=Tryz.zeroValue470
 t167:=Tryz.underlying450
 a167:=Tryz.isAgg450
 z167:=Tryz.sizeOf450
 v167:=Tryz.zeroValue450
 t168:=Tryz.underlying453
 a168:=Tryz.isAgg453
 z168:=Tryz.sizeOf453
 v168:=Tryz.zeroValue453
 t175:=Tryz.underlying461
 a175:=Tryz.isAgg461
 z175:=Tryz.sizeOf461
 v175:=Tryz.zeroValue461
 t210:=Tryz.underlying464
 a210:=Tryz.isAgg464
 z210:=Tryz.sizeOf464
 v210:=Tryz.zeroValue464
 g15:=oB
 g16:=oB
 t80:=Tryz.underlying252
 a80:=Tryz.isAgg252
 z80:=Tryz.sizeOf252
 v80:=Tryz.zeroValue252
 i21:=oB
 i75:=oB
 i76:=oB
 i80:=oB
 i85:=oB
 i127:=oB
 i143:=oB
 i145:=oB
 i167:=oB
 i168:=oB
 i175:=oB
 i210:=oB
 m15:=oB
 m16:=oB
 c0:=oB
 c2:=oB
 c3:=oB
 c4:=oB
 c5:=oB
 c9:=oB
 c20:=oB
 c21:=oB
 c37:=oB
 c46:=oB
 c51:=oB
 c53:=oB
 c75:=oB
 c76:=oB
 c80:=oB
 c85:=oB
 c127:=oB
 c143:=oB
 c145:=oB
 c167:=oB
 c168:=oB
 c171:=oB
 c173:=oB
 c175:=oB
 c210:=oB
 c212:=oB
 c213:=oB
 c232:=oB
 c233:=by kernel_rfl }
abbrev Tryz.lays185_ren:Go.Shelf.Ren:=Tryz.uniR
def Tryz.lays185:Go.Proofs.Lays.n185 Tryz.prog Tryz.lays185_ren:={ Tryz.laysM171 with
 f115:=Tryz.lfn Tryz.func29
 f185:=Tryz.lfn Tryz.func206
 f187:=Tryz.lfn Tryz.func97
 f224:=Tryz.lfn Tryz.func219
 f253:=Tryz.lfn Tryz.func254
 f254:=Tryz.lfn Tryz.func255
 f255:=Tryz.lfn Tryz.func145
 f291:=Tryz.lfn Tryz.func298
 t146:=Tryz.underlying303
 a146:=Tryz.isAgg303
 z146:=Tryz.sizeOf303
 v146:=Tryz.zeroValue303
 g1:=by kernel_rfl }
abbrev Tryz.lays138_ren:Go.Shelf.Ren:=Tryz.uniR
def Tryz.lays138:Go.Proofs.Lays.n138 Tryz.prog Tryz.lays138_ren:={ Tryz.laysM171,Tryz.lays185 with
 f138:=Tryz.lfn Tryz.func362
 f143:=Tryz.lfn Tryz.func122
 f195:=Tryz.lfn Tryz.func377
 f217:=Tryz.lfn Tryz.func217
 f218:=Tryz.lfn Tryz.func378
 f219:=Tryz.lfn Tryz.func172
 f225:=Tryz.lfn Tryz.func218
 f266:=Tryz.lfn Tryz.func267
 f267:=Tryz.lfn Tryz.func220
 f314:=Tryz.lfn Tryz.func268 }
abbrev Tryz.lays165_ren:Go.Shelf.Ren:=Tryz.uniR
def Tryz.lays165:Go.Proofs.Lays.n165 Tryz.prog Tryz.lays165_ren:={ Tryz.laysM171 with
 f165:=Tryz.lfn Tryz.func166
 f240:=Tryz.lfn Tryz.func210
 f241:=Tryz.lfn Tryz.func211
 f276:=Tryz.lfn Tryz.func256
 f277:=Tryz.lfn Tryz.func257
 t70:=Tryz.underlying243
 a70:=Tryz.isAgg243
 z70:=Tryz.sizeOf243
 v70:=Tryz.zeroValue243
 t72:=Tryz.underlying245
 a72:=Tryz.isAgg245
 z72:=Tryz.sizeOf245
 v72:=Tryz.zeroValue245
 t164:=Tryz.underlying344
 a164:=Tryz.isAgg344
 z164:=Tryz.sizeOf344
 v164:=Tryz.zeroValue344 }
abbrev Tryz.lays169_ren:Go.Shelf.Ren:=Tryz.uniR
def Tryz.lays169:Go.Proofs.Lays.n169 Tryz.prog Tryz.lays169_ren:={ Tryz.laysM171,Tryz.lays165,Tryz.laysC172 with
 f169:=Tryz.lfn Tryz.func169 }
abbrev Tryz.lays196_ren:Go.Shelf.Ren:=Tryz.uniR
def Tryz.lays196:Go.Proofs.Lays.n196 Tryz.prog Tryz.lays196_ren:={ Tryz.laysM171 with
 f196:=Tryz.lfn Tryz.func67
 f259:=Tryz.lfn Tryz.func121
 t12:=Tryz.underlying12
 a12:=Tryz.isAgg12
 z12:=Tryz.sizeOf12
 v12:=Tryz.zeroValue12
 t119:=Tryz.underlying198
 a119:=Tryz.isAgg198
 z119:=Tryz.sizeOf198
 t138:=Tryz.underlying200
 a138:=Tryz.isAgg200
 z138:=Tryz.sizeOf200
 v138:=Tryz.zeroValue200
 t139:=Tryz.underlying201
 a139:=Tryz.isAgg201
 z139:=Tryz.sizeOf201
 v139:=Tryz.zeroValue201
 g3:=oB
 g4:=by kernel_rfl }
abbrev Tryz.lays197_ren:Go.Shelf.Ren:=Tryz.uniR
def Tryz.lays197:Go.Proofs.Lays.n197 Tryz.prog Tryz.lays197_ren:={ Tryz.laysM171,Tryz.laysC172,Tryz.lays196 with
 f197:=Tryz.lfn Tryz.func149
 f260:=Tryz.lfn Tryz.func188
 t105:=Tryz.underlying226
 a105:=Tryz.isAgg226
 z105:=Tryz.sizeOf226
 v105:=Tryz.zeroValue226 }
abbrev Tryz.lays105_ren:Go.Shelf.Ren:=Tryz.uniR
def Tryz.lays105:Go.Proofs.Lays.n105 Tryz.prog Tryz.lays105_ren:={ Tryz.laysM171,Tryz.lays165,Tryz.lays169,Tryz.laysC172,Tryz.lays185 with
 f99:=Tryz.lfn Tryz.func165
 f105:=Tryz.lfn Tryz.func118
 f166:=Tryz.lfn Tryz.func167
 f170:=Tryz.lfn Tryz.func168
 f206:=Tryz.lfn Tryz.func209
 f212:=Tryz.lfn Tryz.func164
 f263:=Tryz.lfn Tryz.func207
 f264:=Tryz.lfn Tryz.func208
 t109:=Tryz.underlying241
 a109:=Tryz.isAgg241
 z109:=Tryz.sizeOf241
 v109:=Tryz.zeroValue241
 t148:=Tryz.underlying305
 a148:=Tryz.isAgg305
 z148:=Tryz.sizeOf305
 v148:=Tryz.zeroValue305 }
abbrev Tryz.lays155_ren:Go.Shelf.Ren:=Tryz.uniR
def Tryz.lays155:Go.Proofs.Lays.n155 Tryz.prog Tryz.lays155_ren:={ Tryz.laysM171,Tryz.lays138,Tryz.lays165,Tryz.lays105,Tryz.lays169,Tryz.lays197,Tryz.lays185,Tryz.laysC172,Tryz.lays196 with
 f154:=Tryz.lfn Tryz.func348
 f155:=Tryz.lfn Tryz.func316 }
abbrev Tryz.lays156_ren:Go.Shelf.Ren:=Tryz.uniR
def Tryz.lays156:Go.Proofs.Lays.n156 Tryz.prog Tryz.lays156_ren:={ Tryz.laysM171,Tryz.lays165,Tryz.lays105,Tryz.lays169,Tryz.laysC172 with
 f156:=Tryz.lfn Tryz.func130
 t31:=Tryz.underlying97
 a31:=Tryz.isAgg97
 z31:=Tryz.sizeOf97
 v31:=Tryz.zeroValue97 }
abbrev Tryz.lays219_ren:Go.Shelf.Ren:=Tryz.uniR
def Tryz.lays219:Go.Proofs.Lays.n219 Tryz.prog Tryz.lays219_ren:={ Tryz.laysM171,Tryz.lays138,Tryz.lays185 with }
def Tryz.sortP_ren:Go.Shelf.Ren:=⟨fun|6=>373|15=>50|14=>382|28=>91|29=>92|20=>389|21=>390|22=>391|23=>392|24=>393|25=>394|26=>395|27=>396|46=>400|47=>139|48=>140|49=>401|50=>402|57=>405|n=>n,fun|22=>401|24=>403|25=>442|3=>3|39=>90|0=>0|53=>148|55=>150|4=>4|46=>142|45=>141|50=>64|5=>5|9=>9|66=>220|70=>224|76=>270|77=>137|n=>n,fun|n=>n⟩
def Tryz.sortP:Go.Proofs.SlLaysF0.n6 Tryz.prog Tryz.sortP_ren:={
 mixed:=oB
 f6:=⟨Tryz.f373.name,oE,Tryz.lfn Tryz.func373⟩
 f14:=⟨Tryz.f382.name,oE,Tryz.lfn Tryz.func382⟩
 f15:=Tryz.lfn Tryz.func50
 f20:=⟨Tryz.f389.name,oE,Tryz.lfn Tryz.func389⟩
 f21:=⟨Tryz.f390.name,oE,Tryz.lfn Tryz.func390⟩
 f22:=⟨Tryz.f391.name,oE,Tryz.lfn Tryz.func391⟩
 f23:=⟨Tryz.f392.name,oE,Tryz.lfn Tryz.func392⟩
 f24:=⟨Tryz.f393.name,oE,Tryz.lfn Tryz.func393⟩
 f25:=⟨Tryz.f394.name,oE,Tryz.lfn Tryz.func394⟩
 f26:=⟨Tryz.f395.name,oE,Tryz.lfn Tryz.func395⟩
 f27:=⟨Tryz.f396.name,oE,Tryz.lfn Tryz.func396⟩
 f28:=Tryz.lfn Tryz.func91
 f29:=Tryz.lfn Tryz.func92
 f46:=⟨Tryz.f400.name,oE,Tryz.lfn Tryz.func400⟩
 f47:=Tryz.lfn Tryz.func139
 f48:=Tryz.lfn Tryz.func140
 f49:=⟨Tryz.f401.name,oE,Tryz.lfn Tryz.func401⟩
 f50:=⟨Tryz.f402.name,oE,Tryz.lfn Tryz.func402⟩
 f57:=⟨Tryz.f405.name,oE,Tryz.lfn Tryz.func405⟩
 t0:=Tryz.underlying0
 a0:=Tryz.isAgg0
 z0:=Tryz.sizeOf0
 v0:=Tryz.zeroValue0
 t3:=Tryz.underlying3
 a3:=Tryz.isAgg3
 z3:=Tryz.sizeOf3
 v3:=Tryz.zeroValue3
 t4:=Tryz.underlying4
 a4:=Tryz.isAgg4
 z4:=Tryz.sizeOf4
 v4:=Tryz.zeroValue4
 t5:=Tryz.underlying5
 a5:=Tryz.isAgg5
 z5:=Tryz.sizeOf5
 v5:=Tryz.zeroValue5
 t9:=Tryz.underlying9
 a9:=Tryz.isAgg9
 z9:=Tryz.sizeOf9
 v9:=Tryz.zeroValue9
 t22:=Tryz.underlying401
 a22:=Tryz.isAgg401
 z22:=Tryz.sizeOf401
 v22:=Tryz.zeroValue401
 t25:=Tryz.underlying442
 a25:=Tryz.isAgg442
 z25:=Tryz.sizeOf442
 v25:=Tryz.zeroValue442
 t39:=Tryz.underlying90
 a39:=Tryz.isAgg90
 z39:=Tryz.sizeOf90
 v39:=Tryz.zeroValue90
 t45:=Tryz.underlying141
 a45:=Tryz.isAgg141
 z45:=Tryz.sizeOf141
 v45:=Tryz.zeroValue141
 t46:=Tryz.underlying142
 a46:=Tryz.isAgg142
 z46:=Tryz.sizeOf142
 v46:=Tryz.zeroValue142
 t50:=Tryz.underlying64
 a50:=Tryz.isAgg64
 z50:=Tryz.sizeOf64
 v50:=Tryz.zeroValue64
 t53:=Tryz.underlying148
 a53:=Tryz.isAgg148
 z53:=Tryz.sizeOf148
 v53:=Tryz.zeroValue148
 t55:=Tryz.underlying150
 a55:=Tryz.isAgg150
 z55:=Tryz.sizeOf150
 v55:=Tryz.zeroValue150
 t66:=Tryz.underlying220
 a66:=Tryz.isAgg220
 z66:=Tryz.sizeOf220
 v66:=Tryz.zeroValue220
 t70:=Tryz.underlying224
 a70:=Tryz.isAgg224
 z70:=Tryz.sizeOf224
 v70:=Tryz.zeroValue224
 t76:=Tryz.underlying270
 a76:=Tryz.isAgg270
 z76:=Tryz.sizeOf270
 v76:=Tryz.zeroValue270
 t77:=Tryz.underlying137
 a77:=Tryz.isAgg137
 z77:=Tryz.sizeOf137
 v77:=Tryz.zeroValue137 }
end Go.Proofs
namespace Go.Sym
open Go.RowKit
variable[LC]
def ce.data{P:Program}{f:FuncId}{xs:List AV}{r:AV}
  (h:∀(w:World)(G:Gh)(vs:List Value),bp G [] w->ak xs G vs->Calls P f vs.toArray w fun e w'=>∃v,e = .returned v/\aj r G v/\cg w w'):ce P f xs [] r []:=by
 intro w G vs hm hr;refine(h w G vs hm hr).mono ?_;rintro e w' ⟨v,rfl,hv,hs⟩
 refine⟨v,G,rfl,?_,hv⟩;exact(pa hm).extend (new:=[]) (Gh.le.refl G) hs (fun _ _ _ h => .inl h) (fun b o v hv=>by
  have hc:=hm.agree b o v hv;have hlt:=World.block_lt_of_cell? _ _ hc;rw[World.cell?_of_block (w:=w) (hs.block b hlt (fun h=>h))];exact hc) hm.one (fun n bx h=>by cases h) (fun n bx h=>by cases h) (fun n m bx bx' b h=>by cases h)
def cg.of_below{w w':World}(h:Below w.heap.size w w'):cg w w':=⟨h.os,h.tape,h.output,h.size,fun k hk _=>h.block k hk⟩
def cg.refl(w:World):cg w w:=⟨rfl,rfl,rfl,wF _,fun _ _ _=>rfl⟩
def ce.fresh{P:Program}{f:FuncId}{xs:List AV}{τ:Ty}{l:List τ.den}{E:TypeId}
  (h:∀(w:World)(G:Gh)(vs:List Value),bp G [] w->ak xs G vs->Calls P f vs.toArray w fun e w'=>∃ad c us,e = .returned (.slice ad l.length c)/\fc w' E τ.sz ad l.length c us/\ak (l.flatMap τ.enc) G.data us/\(∀b,cu ad=some b->w.heap.size<=b)/\cg w w') :
  ce P f xs [] (.own 0) [(0,.row τ l E)]:=by
 intro w G vs hm hr;refine(h w G vs hm hr).mono ?_;rintro e w' ⟨ad,c,us,rfl,hrow,hus,hb,hs⟩
 let G':Gh:={ imm:=G.imm,box:=fun _=>none,own:=fun m=>bif Nat.beq m 0 then some (ad,l.length,c) else none }
 have hself:(G'.own 0)=some (ad,l.length,c):=rfl;have hag:∀b o v,G.imm b o=some v->w'.cell? ⟨b,o,none⟩=some v:=fun b o v hv=>by
  have hc:=hm.agree b o v hv;have hlt:=World.block_lt_of_cell? _ _ hc;rw[World.cell?_of_block (w:=w) (hs.block b hlt (fun h=>h))];exact hc
 have hlt:∀b o v,G.imm b o=some v->b<w.heap.size:=fun b o v hv=>World.block_lt_of_cell? _ _ (hm.agree b o v hv)
 have hlk:∀m b,af [(0,ag.row τ l E)] m=some b->m=0/\b = .row τ l E:=fun m b hh=>by
  simp[af]at hh;cases hb:Nat.beq 0 m
  ·rw[hb]at hh;cases hh
  ·rw[hb]at hh;simp at hh;exact⟨(qN hb).symm,hh.symm⟩
 have hat:G'.at 0 (.row τ l E)=cu ad:=by
  simp[Gh.at,hself];cases ad<;>rfl
 refine⟨.slice ad l.length c,G',rfl,⟨⟨hag,hm.one,fun m b hh => ?_,fun m m' b b' c' h1 h2 _ _ => ?_,LC.mono (fun _ _ _ h=>h) (fun b o v h=>hs.block b (hlt b o v h) fun h=>h) hm.tab⟩,⟨hs.os,hs.tape,hs.output,hs.size,fun k hk _=>hs.block k hk fun h=>h⟩,fun _ _ _ h=>h,fun _ _ _ h => .inl h,fun m b c' h1 h2 => ?_,fun _ _ _ h=>(by cases h),fun _ _ _ h=>(by cases h)⟩,ad,l.length,c,hself,rfl⟩
 ·obtain⟨rfl,rfl⟩:=hlk m b hh;refine cy.row hself hrow (ak.data_le (fun _ _ _ h=>h) hus) fun b hb' o => ?_
  cases hq:G.imm b o with|none=>rfl|some v=>have:=hlt b o v hq;have:=hb b hb';omega
 ·obtain⟨rfl,_⟩:=hlk m b h1;obtain⟨rfl,_⟩:=hlk m' b' h2;rfl
 ·obtain⟨rfl,rfl⟩:=hlk m b h1;rw[hat]at h2;exact .inl (hb c' h2)
def zk0{P:Program}{G:Gh}{w:World}(hm:bp G [] w){τ:Ty}{l:List τ.den}{v:Value}(h:aj (.sl τ l) G v) :
  ∃news,(∀w,(Builtin.lenOf v).run P w = .ok l.length w)/\(∀w',(∀k,k<w.heap.size->w'.heap[k]? = w.heap[k]?)->(Builtin.firstCells τ.sz l.length v).run P w' = .ok news.toArray w')/\ak (l.flatMap τ.enc) G.data news/\∀u∈news,u.oneCell'=true:=by
 let s:St:={ n:=0,fr:=[],hp:=[],nx:=0,df:=[] }
 have hr:ai w G.data [] G.data s { tmps:=#[],defers:=[] } w:=
  ⟨⟨[],rfl,rfl⟩,rfl,fun i x h=>(by cases h),fun _ _ _=>⟨rfl,rfl⟩,pa ⟨hm.agree,hm.one,fun _ _ h=>(by cases h),fun _ _ _ _ _ h=>(by cases h),hm.tab⟩⟩
 rcases qin hr (x := .sl τ l) (v:=v) (flat:=l.flatMap τ.enc) (n:=l.length) h rfl with⟨b,hb,_⟩|⟨ad,c,us,rfl,h1,h2,h3⟩
 ·cases hb
 ·refine⟨us,fun w=>by simp[Builtin.lenOf],fun w' hw' => ?_,h1,h2⟩
  have hul:us.length=l.length*τ.sz:=by rw[← h1.length,mw]
  cases ad with
  |none=>
   have:us=[]:=by
    rcases h3 with h3|⟨_,_,h3,_⟩
    ·exact h3
    ·cases h3
   subst this;simp[Builtin.firstCells]
  |some ad=>
   have h3':us=[]\/∃b o,some ad=some (⟨b,o,none⟩:Addr)/\∀j u,us[j]? = some u->w'.cell? ⟨b,o+j,none⟩=some u:=by
    rcases h3 with h3|⟨b,o,h4,h5⟩
    ·exact .inl h3
    ·refine .inr ⟨b,o,h4,fun j u hu => ?_⟩
     have hc:=h5 j u hu;rw[World.cell?_of_block (w:=w) (hw' _ (World.block_lt_of_cell? _ _ hc))];exact hc
   have:=qc4 (P:=P) (w:=w') (ad:=ad) h3';rw[hul]at this;simp[Builtin.firstCells,this]
def zma{P:Program}{ops:Array Oper}{rest:List Oper}{o:Oper}{a:Act}{w:World}{Q:Exit->Act->World->Prop}(hgd:o.guard=none)(s x:Operand)(t:TypeId)
  (ho:o.op = .call { callee := .builtin .append,args:=#[s,x],argTypes:=#[t,t] }) {E:TypeId} {sz:Nat} (ht:P.underlying t=some (.slice E)) (hz:mb P E=true) (hsz:ee P E=some sz) (ht2:zm P t=true)
  {ad:Option Addr} {n c:Nat} {us:List Value} (hs:a.eval s = .slice ad n c) (hrow:fc w E sz ad n c us) {v:Value} (hx:a.eval x=v) {m:Nat} {news:List Value}
  (ac:∀w,(Builtin.lenOf v).run P w = .ok m w) (hcells:∀w',w'.heap=w.heap->(Builtin.firstCells sz m v).run P w' = .ok news.toArray w') (hnl:news.length=m*sz) (hn1:∀v∈news,v.oneCell'=true) (hmax:n+m<=ao)
  (h:∀ad' c' w',fc w' E sz ad' (n+m) c' (us++news)->(cu ad'=cu ad\/∃g,cu ad'=some g/\w.heap.size<=g)->b9 (fun b=>cu ad=some b) w w'->wpList P ops Q rest (a.put o.dst (.slice ad' (n+m) c')) w'):wpList P ops Q (o::rest) a w:=by
 obtain⟨i,z,hi,hz',z1,z2,z3,z4,zs⟩:=qjj hz hsz;rw[← zs]at hrow hcells hnl h;refine wpList_plain hgd fun _ hK => ?_
 obtain⟨ad',c',w',r1,r2,r3,r4⟩:=zkn (ty:=o.type) ht hi hz' z1 z2 z3 z4 ht2 hrow ac hcells hnl hn1 hmax;unfold Oper.wp execOp;simp only[ho,resolve,invoke,builtin,Sem.run_bind,Sem.run_pure,Result.andThen_ok,List.map_toArray,List.map_cons,List.map_nil,hs,hx,r1];exact hK _ _ (h ad' c' w' r2 r3 r4)
end Go.Sym
namespace Go.Sym
open Go.Proofs Go.RowKit Go.Sort
open Go.Proofs.Tryz
variable[LC]
def cg.below{w w':World}(h:cg w w'):Below w.heap.size w w':=⟨h.os,h.tape,h.output,h.size,fun k hk=>h.block k hk (fun h=>h)⟩
def bp.still{G:Gh}{w w':World}(hm:bp G [] w)(hs:cg w w'):bp G [] w':=
 have hlt:∀b o v,G.imm b o=some v->w'.heap[b]? = w.heap[b]? := fun b o v hv=>hs.block b (World.block_lt_of_cell? _ _ (hm.agree b o v hv)) (fun h=>h)
 ⟨fun b o v hv=>by rw[World.cell?_of_block (w:=w) (hlt b o v hv)];exact hm.agree b o v hv,hm.one,fun n bx h=>(by cases h),fun n m bx bx' b h=>(by cases h),LC.mono (fun _ _ _ h=>h) hlt hm.tab⟩
def zyo{G:Gh}{w:World}(hm:bp G [] w)(hg:LC.glob 3=some ⟨.int .u64,Lib.pow10Tab⟩)(hs:(3,20)∈LC.sizes):∃t fr,w.heap[3]? = some (.cells (Lib.pow10Tab.map fun z=>Value.int .u64 z).toArray t fr):=by
 obtain⟨_,cs,t,fr,hh,hz⟩:=hm.tab.2.2.2 _ hs;refine⟨t,fr,hh.trans ?_⟩;congr 2;apply Array.ext
 ·rw[hz];simp[Lib.pow10Tab]
 ·intro j h1 h2;have hj:j<Lib.pow10Tab.length:=by simpa using h2
  have h3:=hm.agree _ _ _ (hm.tab.1 _ _ _ hg j _ (List.getElem?_eq_getElem hj));rw[show j*(Ty.int .u64).sz=j from Nat.mul_one j]at h3
  simp only[World.cell?,hh]at h3;rw[Array.getElem?_eq_getElem h1]at h3;simp only[List.getElem_toArray,List.getElem_map];exact qJ h3
def zhp{G:Gh}{w:World}(hm:bp G [] w)(hg:LC.glob 3=some ⟨.int .u64,Lib.pow10Tab⟩)(hs:(3,20)∈LC.sizes)(n:Int)(h0 : -9223372036854775808<=n)(h1:n<=9223372036854775807) :
  Calls Tryz.prog 66 #[.int .i64 n] w fun e w'=>e = .returned (.string ⟨(Lib.itoa n).toArray⟩)/\cg w w':=
 (Any.strconv_Itoa Tryz.laysM171 n h0 h1 w (by
  unfold Lib.TabIs World.var?;obtain⟨t,fr,hh⟩:=zyo hm hg hs;rw[show Tryz.prog.globalNamed _=some 3 by kernel_rfl,qB,hh])).mono fun e w'⟨he,k,os,hw⟩=>⟨he,by
   subst hw;refine⟨rfl,rfl,rfl,by simp[grow],fun j hj _ => ?_⟩
   show(w.heap++os)[j]? = _;rw[Array.getElem?_append_left hj]⟩
def q1f:IF:=⟨.fn 66,[.h (.int .i64)],[],_,RS.mk (.h .str) []⟩
def zhq(hg:LC.glob 3=some ⟨.int .u64,Lib.pow10Tab⟩)(hs:(3,20)∈LC.sizes):(q1f.e sk).Sound Tryz.prog:=fun d d' r h=>by
 have h:sk d.1=some r:=h;unfold sk at h;cases hd:decide (-9223372036854775808<=(show Int from d.1)/\(show Int from d.1)<=9223372036854775807)<;>rw[hd]at h<;>simp only[qT,qF,reduceCtorEq]at h
 have h:=qJ h;subst h;have hd:=of_decide_eq_true hd;refine⟨call66,ce.data fun w G vs hm hr => ?_⟩
 match vs,hr with
 |[v],⟨h1,_⟩=>
  have h1:v = .int .i64 d.1:=h1;subst h1;exact(zhp hm hg hs _ hd.1 hd.2).mono fun e w'⟨he,hw⟩=>⟨_,he,rfl,hw⟩
def zv4{G:Gh}{w:World}(hm:bp G [] w)(hi:2∈LC.ints){a b:Bs}{u v:Value}(hu:aj (.sl .byte a) G u)(hv:aj (.sl .byte b) G v)(h2:2<=b.length)(hb:b.length<=maxLen)(ha:a.length<4294967281) :
  Calls Tryz.prog 206 #[u,v] w fun e w'=>e = .returned (.int .i64 (Lib.index a b))/\cg w w':=by
 obtain⟨p,c,rfl,hc,hp⟩:jc 1 (Ty.byte.At G.imm) a u:=hu;obtain⟨q,d,rfl,hd,hq⟩:jc 1 (Ty.byte.At G.imm) b v:=hv;by_cases hlt:a.length<b.length
 ·have h:=Any.bytes_Index_longer Tryz.lays185 p q a.length c b.length d w h2 hlt (by unfold maxLen at hb;omega)
  rw[Lib.index_past (i:=0) (by intro e;subst e;simp at h2) (fun j hj=>absurd hj (Nat.not_lt_zero _)) (by simpa using hlt)]
  exact h.mono fun e w'⟨he,hw⟩=>⟨he,by subst hw;exact cg.refl _⟩
 ·rcases hp with rfl|⟨g,o,rfl,hcells⟩
  ·exact absurd (show([]:Bs).length<b.length from by show 0<_;omega) hlt
  rcases hq with rfl|⟨g',o',rfl,hcells'⟩
  ·exact absurd h2 (by show ¬2<=0;omega)
  obtain⟨k,hk⟩:=hm.tab.2.1 _ hi;have hk:=hm.agree _ _ _ hk;have bb:∀l:Bs,Lib.bytesOf (l.map fun x=>(x.toNat:Int))=l:=fun l=>by
   unfold Lib.bytesOf;rw[List.map_map];have:((fun n:Int=>UInt8.ofNat n.toNat) ∘ fun x:UInt8=>(x.toNat:Int))=id:=by funext x;simp
   rw[this,List.map_id]
  have cl:∀(l:Bs)(g o:Nat),(∀(j:Nat)(x:UInt8),l[j]? = some x->Ty.byte.At G.imm x g (o+j*1))->∀i,i<l.length->w.cell? ((⟨g,o,none⟩:Addr).add i)=some (.int .u8 ((l.map fun x=>(x.toNat:Int)).getD i 0)):=fun l g o h i hi=>by
   have h1:G.imm g (o+i*1)=some (.int .u8 l[i].toNat):=h i _ (List.getElem?_eq_getElem hi);have h1:=hm.agree _ _ _ h1;rw[Nat.mul_one]at h1;rw[Lib.add_plain',h1];simp[List.getD_eq_getElem?_getD,hi]
  have rg:∀l:Bs,∀x∈l.map (fun x=>(x.toNat:Int)),0<=x/\x<256:=fun l x hx=>by
   obtain⟨c,_,rfl⟩:=List.mem_map.1 hx;have:=c.toNat_lt;omega
  have h:=Any.bytes_Index_at Tryz.lays185 ⟨g,o,none⟩ ⟨g',o',none⟩ a.length c b.length d (a.map fun x=>(x.toNat:Int)) (b.map fun x=>(x.toNat:Int)) k w oC oC (rg a) (rg b) (cl a g o hcells) (cl b g' o' hcells') hc ha (by unfold maxLen at hb;omega) hk
  rw[bb,bb]at h;exact h.mono fun e w'⟨he,n,hw⟩=>⟨he,by subst hw;exact⟨rfl,rfl,rfl,wF _,fun _ _ _=>rfl⟩⟩
def qzt:IF:=⟨.fn 206,[.h (.list .byte),.h (.list .byte)],[],_,RS.mk (.h (.int .i64)) []⟩
def zfc(hi:2∈LC.ints):(qzt.e yd).Sound Tryz.prog:=fun d d' r h=>by
 obtain⟨a,b,_⟩:=d;have h:yd a b=some r:=h;unfold yd at h;cases hd:decide (2<=List.length (α:=UInt8) b/\List.length (α:=UInt8) a<4294967281/\List.length (α:=UInt8) b<=maxLen)<;>rw[hd]at h<;>simp only[qT,qF,reduceCtorEq]at h
 have h:=qJ h;subst h;have hd:=of_decide_eq_true hd;refine⟨call206,ce.data fun w G vs hm hr => ?_⟩
 match vs,hr with
 |[u,v],⟨h1,h2,_⟩=>
  exact(zv4 hm hi h1 h2 hd.1 hd.2.2 hd.2.1).mono fun e w'⟨he,hw⟩=>⟨_,he,rfl,hw⟩
end Go.Sym
namespace Go.Sym
open Go.Proofs Go.RowKit Go.Sort
variable[LC]
def cg.trans{w w1 w2:World}(h:cg w w1)(k:cg w1 w2):cg w w2:=
 ⟨k.os.trans h.os,k.tape.trans h.tape,k.output.trans h.output,Nat.le_trans h.size k.size,fun j hj _=>(k.block j (Nat.lt_of_lt_of_le hj h.size) (fun h=>h)).trans (h.block j hj (fun h=>h))⟩
def zsn{l:Bs}{v:Int}(h:Lib.atoiAll l = .ok v) : -9223372036854775808<=v/\v<=9223372036854775807:=by
 unfold Lib.atoiAll at h;split at h
 ·cases h
 ·simp only at h;split at h
  ·cases h
  ·cases h
  ·split at h
   ·cases h
   ·split at h
    ·cases h
    ·rename_i h1 h2;injection h with h
     split at h<;>rename_i h3
     ·simp only[h3,not_true_eq_false,false_and,true_and]at h1 h2;omega
     ·simp only[h3,not_false_eq_true,true_and,false_and]at h1 h2;omega
def zxt{G:Gh}{w:World}(hm:bp G [] w)(hg:LC.glob 3=some ⟨.int .u64,Lib.pow10Tab⟩)(hs:(3,20)∈LC.sizes)(h1:6∈LC.ifs)(h2:7∈LC.ifs)(s:Bs)(most:Int)(hl:s.length<=281474976710656) :
  Calls Tryz.prog 352 #[.string ⟨s.toArray⟩,.int .i64 most] w fun e w'=>e = .returned (.tuple #[.int .i64 (qom s most).1,.bool (qom s most).2])/\cg w w':=by
 have hsz:(⟨s.toArray⟩:ByteArray).size=s.length:=il s;have hd:(⟨s.toArray⟩:ByteArray).data.toList=s:=oC
 have bw:∀t:ByteArray,cg w (Lib.bytesWorld w 5 t):=fun t=>by
  refine⟨rfl,rfl,rfl,?_,fun j hj _ => ?_⟩
  ·simp[Lib.bytesWorld,World.freeze]
  ·show((w.heap.push _).modify w.heap.size _)[j]? = _;rw[Array.getElem?_modify,qW,Array.getElem?_push_lt oA]
   exact(Array.getElem?_eq_getElem hj).symm
 have bad:(Calls Tryz.prog 371 #[.string ⟨s.toArray⟩] w fun e w'=>(∃n t v,e = .returned (.tuple #[.int .i64 n,.iface t v]))/\cg w w') ->
   Calls Tryz.prog 352 #[.string ⟨s.toArray⟩,.int .i64 most] w fun e w'=>e = .returned (.tuple #[.int .i64 0,.bool false])/\cg w w':=fun cA=>by
  clear hg hs hm
  go_enter Tryz.func352,Tryz.ntmps352
  go_wp2_with (go_at_call 371;refine cA.mono ?_;rintro e wa ⟨⟨n,t,v,rfl⟩,sa⟩)
  all_goals (clear cA;go_ret2;exact⟨rfl,sa⟩)
 unfold qom
 cases hA:Lib.atoiAll s with
 |ok v=>
  obtain⟨b1,b2⟩:=zsn hA;have cA:Calls Tryz.prog 371 #[.string ⟨s.toArray⟩] w fun e w'=>e = .returned (.tuple #[.int .i64 v,.nilIface])/\cg w w':=
   (Any.strconv_Atoi_ok Tryz.laysC172 ⟨s.toArray⟩ oA v (by rw[hd];exact hA) w).mono fun e w'⟨he,hw⟩=>⟨he,by
    rcases hw with rfl|⟨t,rfl⟩
    ·exact cg.refl _
    ·exact bw t⟩
  have cI:∀w',cg w w'->Calls Tryz.prog 66 #[.int .i64 v] w' fun e w''=>e = .returned (.string ⟨(Lib.itoa v).toArray⟩)/\cg w' w'':=fun w' h=>zhp (hm.still h) hg hs v b1 b2
  have hse:(⟨(Lib.itoa v).toArray⟩:ByteArray)=⟨s.toArray⟩↔Lib.itoa v=s:=by
   constructor
   ·intro h;have:=congrArg (fun x:ByteArray=>x.data.toList) h;simpa using this
   ·intro h;rw[h]
  show Calls Tryz.prog 352 _ w fun e w'=>e = .returned (.tuple #[.int .i64 (if Lib.itoa v=s/\0<=v/\v<=most then(v,true) else(0,false)).1,.bool (if Lib.itoa v=s/\0<=v/\v<=most then(v,true) else(0,false)).2])/\cg w w'
  generalize Lib.itoa v=t at cI hse ⊢;obtain⟨r,hr⟩:∃r,r=(if t=s/\0<=v/\v<=most then(v,true) else(0,false)):=⟨_,rfl⟩
  rw[← hr];clear hA hg hs hm
  go_enter Tryz.func352,Tryz.ntmps352
  go_wp2_with (first|(go_at_call 371;refine cA.mono ?_;rintro e wa ⟨rfl,sa⟩)|(go_at_call 66;refine(cI _ (by assumption)).mono ?_;rintro e wb ⟨rfl,sb⟩))
  all_goals (clear cA cI;go_ret2)
  all_goals (by_cases q:t=s/\0<=v/\v<=most)
  all_goals first
   |(rw[qX q]at hr;subst hr;first|exact⟨rfl,sa.trans sb⟩|(exfalso;omega)|(exfalso;exact absurd q.1 (by assumption)))
   |(rw[qW q]at hr;subst hr;first|exact⟨rfl,sa.trans sb⟩|(exfalso;exact q ⟨by assumption,oA,oA⟩))
 |range=>
  obtain⟨te,pe,hv⟩:=hm.tab.2.2.1 _ h2;have cA:Calls Tryz.prog 371 #[.string ⟨s.toArray⟩] w fun e w'=>(∃n t v,e = .returned (.tuple #[.int .i64 n,.iface t v]))/\cg w w':=
   (Any.strconv_Atoi_range Tryz.laysC172 ⟨s.toArray⟩ oA (by rw[hd];exact hA) _ w (hm.agree _ _ _ hv) (.inr ⟨_,_,rfl⟩)).mono fun e w'⟨N,he,_,_,hw⟩=>⟨⟨_,_,_,he⟩,cg.of_below hw⟩
  exact bad cA
 |_=>
  obtain⟨te,pe,hv⟩:=hm.tab.2.2.1 _ h1;have cA:Calls Tryz.prog 371 #[.string ⟨s.toArray⟩] w fun e w'=>(∃n t v,e = .returned (.tuple #[.int .i64 n,.iface t v]))/\cg w w':=
   (Any.strconv_Atoi_syntax Tryz.laysC172 ⟨s.toArray⟩ oA (by rw[hd];exact hA) _ w (hm.agree _ _ _ hv) (.inr ⟨_,_,rfl⟩)).mono fun e w'⟨N,he,_,_,hw⟩=>⟨⟨_,_,_,he⟩,cg.of_below hw⟩
  exact bad cA
def zi2:IF:=⟨.fn 352,[.h .str,.h (.int .i64)],[],_,RS.mk (.tup [.h (.int .i64),.h .bool]) []⟩
def zxu(hg:LC.glob 3=some ⟨.int .u64,Lib.pow10Tab⟩)(hs:(3,20)∈LC.sizes)(h1:6∈LC.ifs)(h2:7∈LC.ifs):(zi2.e qe6).Sound Tryz.prog:=fun d d' r h=>by
 obtain⟨s,most,_⟩:=d;have h:qe6 s most=some r:=h;unfold qe6 at h;cases hd:decide (List.length (α:=UInt8) s<=281474976710656)<;>rw[hd]at h<;>simp only[qT,qF,reduceCtorEq]at h
 have h:=qJ h;subst h;refine⟨Tryz.call352,ce.data fun w G vs hm hr => ?_⟩
 match vs,hr with
 |[u,v],⟨e1,e2,_⟩=>
  have e1:u = .string ⟨List.toArray s⟩:=e1;have e2:v = .int .i64 most:=e2;subst e1 e2;exact(zxt hm hg hs h1 h2 s most (of_decide_eq_true hd)).mono fun e w'⟨he,hw⟩=>⟨_,he,⟨_,rfl,rfl,rfl,trivial⟩,hw⟩
end Go.Sym
namespace Go.Sym
open Go.Proofs Go.RowKit
variable[LC]
def qn5(w:World)(o:Obj){k:Nat}(hk:k<w.heap.size):(w.alloc o).heap[k]? = w.heap[k]? := by
 show(w.heap.push _)[k]? = _;rw[Array.getElem?_push_lt hk];exact(Array.getElem?_eq_getElem hk).symm
def zkh(w:World)(E:TypeId)(sz:Nat):fc (w.alloc (.cells #[] E)) E sz (some ⟨w.heap.size,0,none⟩) 0 0 []:=
 ⟨oC,.inr ⟨w.heap.size,#[],(0,0),rfl,by show(w.heap.push _)[w.heap.size]? = _;simp,.inl rfl,wF _,by unfold maxLen;omega,oC,oC,oC⟩⟩
def zty(l:List (.prod .str .str:Ty).den)(hd:l.length<=ao):ce Tryz.prog 155 [.sl (.prod .str .str) l] [] (.own 0) [(0,.row (.prod .str .str) l 42)]:=by
 refine ce.fresh fun w G vs hm hr => ?_
 match vs,hr with
 |[v],⟨h1,_⟩=>
  obtain⟨news,k1,k2,k3,k4⟩:=zk0 (P:=Tryz.prog) hm h1;have hnl:news.length=l.length*(.prod .str .str:Ty).sz:=by rw[← k3.length];exact mw l
  obtain⟨p,c,rfl,hc,hp⟩:jc (.prod .str .str:Ty).sz ((.prod .str .str:Ty).At G.imm) l v:=h1
  cases p with
  |none=>
   have hl:l=[]:=by
    rcases hp with h|⟨_,_,h,_⟩
    ·exact h
    ·cases h
   subst hl;have e0:news=[]:=List.eq_nil_of_length_eq_zero (by rw[hnl];exact Nat.zero_mul _)
   subst e0;have hg:Calls Tryz.prog 155 #[.slice none 0 c] w fun e w'=>e = .returned (.slice none 0 0)/\w'=w:=by
    clear hp hr k1 k2 hm hnl hc hd k3 k4;have q22:∀(w:World)(a:Option Addr)(n c n' c':Nat),(binOp .eql 43 (.slice a n c) (.slice none n' c')).run Tryz.prog w = .ok (.bool a.isNone) w:=fun w a n c n' c'=>Lib.run_eql_slice_nil w _ _ a n c n' c' Tryz.underlying43
    have u22:∀w,Sem.run Tryz.prog (underlying 43) w = .ok (TypeDesc.slice 42) w:=run_underlying Tryz.underlying43
    go_enter Tryz.func155,Tryz.ntmps155
    go_wp2
    go_ret
    exact⟨rfl,rfl⟩
   exact hg.mono fun e w'⟨he,hw⟩=>⟨none,0,[],he,⟨rfl,.inl ⟨rfl,rfl,rfl⟩⟩,k3,fun b hb=>(by cases hb),by subst hw;exact cg.refl _⟩
  |some ad=>
   generalize hn:l.length=n at *;have hg:Calls Tryz.prog 155 #[.slice (some ad) n c] w fun e w'=>∃ad' c',e = .returned (.slice ad' n c')/\fc w' 42 (.prod .str .str:Ty).sz ad' n c' news/\(∀b,cu ad'=some b->w.heap.size<=b)/\cg w w':=by
    clear hm k3 hr hp hn;have q22:∀(w:World)(a:Option Addr)(n c n' c':Nat),(binOp .eql 43 (.slice a n c) (.slice none n' c')).run Tryz.prog w = .ok (.bool a.isNone) w:=fun w a n c n' c'=>Lib.run_eql_slice_nil w _ _ a n c n' c' Tryz.underlying43
    have u22:∀w,Sem.run Tryz.prog (underlying 43) w = .ok (TypeDesc.slice 42) w:=run_underlying Tryz.underlying43
    go_enter Tryz.func155,Tryz.ntmps155
    go_wp2_with (at_builtin;refine zma rfl _ _ 43 rfl (E:=42) (sz:=(.prod .str .str:Ty).sz) oB oB oB oB rfl (zkh w 42 _) rfl k1 ?qc hnl k4 oA ?_)
    case qc=>exact fun w' hw'=>k2 w' fun k hk=>by rw[hw'];exact qn5 w _ hk
    intro ad' c' w1 hrow hblk hbel
    go_wp2
    go_ret
    refine⟨ad',c',rfl,by simpa using hrow,fun b hb => ?_,⟨hbel.os,hbel.tape,hbel.output,Nat.le_trans (by show w.heap.size<=(w.heap.push _).size;simp) hbel.size,fun k hk _ => ?_⟩⟩
    ·rcases hblk with h|⟨g,h,hg⟩
     ·rw[h]at hb;injection hb with hb;have hb:w.heap.size=b:=hb;omega
     ·rw[h]at hb;injection hb with hb
      have:w.heap.size<=(w.alloc (.cells #[] 42)).heap.size:=by show w.heap.size<=(w.heap.push _).size;simp
      omega
    ·rw[hbel.block k (by show k<(w.heap.push _).size;simp;omega) (fun e=>by injection e with e;have e:w.heap.size=k:=e;omega)]
     exact qn5 w _ hk
   exact hg.mono fun e w'⟨ad',c',he,hrow,hb,hs⟩=>⟨ad',c',news,he,hrow,k3,hb,hs⟩
def qm5:IF:=⟨.fn 155,[.h (.list (.prod .str .str))],[],_,RS.mk (.own 0) [(0,.row (.prod .str .str) 42)]⟩
def qz4:(qm5.e (mf (α:=(.prod .str .str:Ty).den))).Sound Tryz.prog:=fun d d' r h=>by
 obtain⟨l,_⟩:=d;have h:(bif decide (List.length (α:=(.prod .str .str:Ty).den) l<=ao) then some (show List (.prod .str .str:Ty).den from l) else none)=some r:=h
 cases hd:decide (List.length (α:=(.prod .str .str:Ty).den) l<=ao)<;>rw[hd]at h<;>simp only[qT,qF,reduceCtorEq]at h
 have h:=qJ h;subst h;exact⟨Tryz.call155,zty l (of_decide_eq_true hd)⟩
def ztz(l:List (.byte:Ty).den)(hd:l.length<=ao):ce Tryz.prog 156 [.sl (.byte) l] [] (.own 0) [(0,.row (.byte) l 5)]:=by
 refine ce.fresh fun w G vs hm hr => ?_
 match vs,hr with
 |[v],⟨h1,_⟩=>
  obtain⟨news,k1,k2,k3,k4⟩:=zk0 (P:=Tryz.prog) hm h1;have hnl:news.length=l.length*(.byte:Ty).sz:=by rw[← k3.length];exact mw l
  obtain⟨p,c,rfl,hc,hp⟩:jc (.byte:Ty).sz ((.byte:Ty).At G.imm) l v:=h1
  cases p with
  |none=>
   have hl:l=[]:=by
    rcases hp with h|⟨_,_,h,_⟩
    ·exact h
    ·cases h
   subst hl;have e0:news=[]:=List.eq_nil_of_length_eq_zero (by rw[hnl];exact Nat.zero_mul _)
   subst e0;have hg:Calls Tryz.prog 156 #[.slice none 0 c] w fun e w'=>e = .returned (.slice none 0 0)/\w'=w:=by
    clear hp hr k1 k2 hm hnl hc hd k3 k4;have q22:∀(w:World)(a:Option Addr)(n c n' c':Nat),(binOp .eql 44 (.slice a n c) (.slice none n' c')).run Tryz.prog w = .ok (.bool a.isNone) w:=fun w a n c n' c'=>Lib.run_eql_slice_nil w _ _ a n c n' c' Tryz.underlying44
    have u22:∀w,Sem.run Tryz.prog (underlying 44) w = .ok (TypeDesc.slice 5) w:=run_underlying Tryz.underlying44
    go_enter Tryz.func156,Tryz.ntmps156
    go_wp2
    go_ret
    exact⟨rfl,rfl⟩
   exact hg.mono fun e w'⟨he,hw⟩=>⟨none,0,[],he,⟨rfl,.inl ⟨rfl,rfl,rfl⟩⟩,k3,fun b hb=>(by cases hb),by subst hw;exact cg.refl _⟩
  |some ad=>
   generalize hn:l.length=n at *;have hg:Calls Tryz.prog 156 #[.slice (some ad) n c] w fun e w'=>∃ad' c',e = .returned (.slice ad' n c')/\fc w' 5 (.byte:Ty).sz ad' n c' news/\(∀b,cu ad'=some b->w.heap.size<=b)/\cg w w':=by
    clear hm k3 hr hp hn;have q22:∀(w:World)(a:Option Addr)(n c n' c':Nat),(binOp .eql 44 (.slice a n c) (.slice none n' c')).run Tryz.prog w = .ok (.bool a.isNone) w:=fun w a n c n' c'=>Lib.run_eql_slice_nil w _ _ a n c n' c' Tryz.underlying44
    have u22:∀w,Sem.run Tryz.prog (underlying 44) w = .ok (TypeDesc.slice 5) w:=run_underlying Tryz.underlying44
    go_enter Tryz.func156,Tryz.ntmps156
    go_wp2_with (at_builtin;refine zma rfl _ _ 44 rfl (E:=5) (sz:=(.byte:Ty).sz) oB oB oB oB rfl (zkh w 5 _) rfl k1 ?qc hnl k4 oA ?_)
    case qc=>exact fun w' hw'=>k2 w' fun k hk=>by rw[hw'];exact qn5 w _ hk
    intro ad' c' w1 hrow hblk hbel
    go_wp2
    go_ret
    refine⟨ad',c',rfl,by simpa using hrow,fun b hb => ?_,⟨hbel.os,hbel.tape,hbel.output,Nat.le_trans (by show w.heap.size<=(w.heap.push _).size;simp) hbel.size,fun k hk _ => ?_⟩⟩
    ·rcases hblk with h|⟨g,h,hg⟩
     ·rw[h]at hb;injection hb with hb;have hb:w.heap.size=b:=hb;omega
     ·rw[h]at hb;injection hb with hb
      have:w.heap.size<=(w.alloc (.cells #[] 5)).heap.size:=by show w.heap.size<=(w.heap.push _).size;simp
      omega
    ·rw[hbel.block k (by show k<(w.heap.push _).size;simp;omega) (fun e=>by injection e with e;have e:w.heap.size=k:=e;omega)]
     exact qn5 w _ hk
   exact hg.mono fun e w'⟨ad',c',he,hrow,hb,hs⟩=>⟨ad',c',news,he,hrow,k3,hb,hs⟩
def qz5:IF:=⟨.fn 156,[.h (.list (.byte))],[],_,RS.mk (.own 0) [(0,.row (.byte) 5)]⟩
def zfw:(qz5.e (mf (α:=(.byte:Ty).den))).Sound Tryz.prog:=fun d d' r h=>by
 obtain⟨l,_⟩:=d;have h:(bif decide (List.length (α:=(.byte:Ty).den) l<=ao) then some (show List (.byte:Ty).den from l) else none)=some r:=h
 cases hd:decide (List.length (α:=(.byte:Ty).den) l<=ao)<;>rw[hd]at h<;>simp only[qT,qF,reduceCtorEq]at h
 have h:=qJ h;subst h;exact⟨Tryz.call156,ztz l (of_decide_eq_true hd)⟩
end Go.Sym
namespace Go.Sym
open Go.Proofs Go.RowKit Go.Sort
variable[LC]
def ce.inPlaceA{ys:List AV}{P:Program}{f:FuncId}{τ:Ty}{l l':List τ.den}{E:TypeId}(ac:l'.length=l.length)(h:∀(w:World)(G:Gh)(ad:Option Addr)(c:Nat)(us vs:List Value),fc w E τ.sz ad l.length c us->ak (l.flatMap τ.enc) G.data us->ak ys G vs ->
  Calls P f (Value.slice ad l.length c::vs).toArray w fun e w'=>e = .returned (.tuple #[])/\∃us',fc w' E τ.sz ad l.length c us'/\ak (l'.flatMap τ.enc) G.data us'/\b9 (fun b=>cu ad=some b) w w') :
  ce P f (.own 0::ys) [(0,.row τ l E)] (.tup []) [(0,.row τ l' E)]:=by
 intro w G vs hm hreps;have hl:af [(0,ag.row τ l E)] 0=some (.row τ l E):=rfl;obtain⟨ad,c,us,h1,h3,h4,h5⟩:=(hm.holds 0 _ hl).rowAt
 match vs,hreps with
 |v::vs,hreps=>
  obtain⟨⟨a',n',c',q1,rfl⟩,hys⟩:=hreps;rw[h1]at q1;simp at q1;obtain⟨rfl,rfl,rfl⟩:=q1;refine(h w G ad c us vs h3 h4 hys).mono ?_;rintro e w' ⟨rfl,us',r1,r2,r3⟩
  refine⟨_,G,rfl,?_,#[],rfl,trivial⟩;have hself:=pa hm;have hbox:cy G w' 0 (.row τ l' E):=cy.row (by rw[ac];exact h1) (by rw[ac];exact r1) r2 (fun b hb=>h5 b hb)
  cases had:cu ad with
  |none=>
   have hst:cg w w':=⟨r3.os,r3.tape,r3.output,r3.size,fun k hk _=>r3.block k hk (fun e=>by rw[had]at e;cases e)⟩
   have hf:=hself.extend (new:=[]) (Gh.le.refl G) hst (fun _ _ _ h => .inl h) (fun b o v hv=>by
    have hc:=hm.agree b o v hv;have hlt:=World.block_lt_of_cell? _ _ hc;rw[World.cell?_of_block (w:=w) (hst.block b hlt (fun h=>h))];exact hc) hm.one (fun n bx h=>by cases h) (fun n bx h=>by cases h) (fun n m bx bx' b h=>by cases h)
   have hlk:∀m b,af [(0,ag.row τ l' E)] m=some b->m=0/\b = .row τ l' E:=fun m b hh=>by
    simp[af]at hh;cases hb:Nat.beq 0 m
    ·rw[hb]at hh;cases hh
    ·rw[hb]at hh;simp at hh;exact⟨(qN hb).symm,hh.symm⟩
   have hat:G.at 0 (.row τ l' E)=none:=by
    simp[Gh.at,h1]
    cases ad with|none=>rfl|some a=>cases had
   refine⟨⟨hf.mem.agree,hf.mem.one,fun m b hh => ?_,fun m m' b b' c h1 h2 h3 _ => ?_,hf.mem.tab⟩,hf.bel,hf.imm_le,hf.imm_new,fun m b c h1 h2 => ?_,hf.keep,hf.keepOwn⟩
   ·obtain⟨rfl,rfl⟩:=hlk m b hh;exact hbox
   ·obtain⟨rfl,_⟩:=hlk m b h1;obtain⟨rfl,_⟩:=hlk m' b' h2;rfl
   ·obtain⟨rfl,rfl⟩:=hlk m b h1;rw[hat]at h2;cases h2
  |some B=>
   have hat:∀l:List τ.den,G.at 0 (.row τ l E)=some B:=fun l=>by
    simp[Gh.at,h1]
    cases ad with
    |none=>cases had
    |some a=>exact had
   have hf:=hself.update (bx' := .row τ l' E) hl (hat l) (hat l') ⟨r3.os,r3.tape,r3.output,r3.size,fun k hk hne=>r3.block k hk (fun e=>by rw[had]at e;injection e with e;exact hne e.symm)⟩ hbox (h5 B had)
   have hlk:∀m b,af [(0,ag.row τ l' E)] m=some b->af (ol [(0,ag.row τ l E)] 0 (.row τ l' E)) m=some b:=fun m b hh=>by
    simp[af]at hh;simp[ol,af];cases hb:Nat.beq 0 m
    ·rw[hb]at hh;cases hh
    ·rw[hb]at hh;exact hh
   exact⟨⟨hf.mem.agree,hf.mem.one,fun m b hh=>hf.mem.holds m b (hlk m b hh),fun m m' b b' c h1 h2 h3 h4=>hf.mem.apart m m' b b' c (hlk _ _ h1) (hlk _ _ h2) h3 h4,hf.mem.tab⟩,hf.bel,hf.imm_le,hf.imm_new,fun m b c h1 h2=>hf.base m b c (hlk _ _ h1) h2,hf.keep,hf.keepOwn⟩
 |[],hreps=>exact hreps.elim
def zyx(w:World)(n g:Nat)(d:Array Value)(os:Array Obj)(k:Nat)(hk:k<w.heap.size)(hne:k≠g):(grow (putRow id (Sort.ahead w n) g 0 d) os).heap[k]? = w.heap[k]? := by
 show((w.heap.modify g (onCells (putCells id 0 d)))++os)[k]? = _;rw[Array.getElem?_append_left (by simpa using hk),Array.getElem?_modify,qW]
def zyy(w:World)(n g:Nat)(d:Array Value)(os:Array Obj){cur:Array Value}{e:TypeId}{fr:Nat×Nat}(hh:w.heap[g]? = some (.cells cur e fr)) :
  (grow (putRow id (Sort.ahead w n) g 0 d) os).heap[g]? = some (.cells (putCells id 0 d cur) e fr):=by
 have hg:g<w.heap.size:=(Array.getElem?_eq_some_iff.1 hh).1;show((w.heap.modify g (onCells (putCells id 0 d)))++os)[g]? = _;rw[Array.getElem?_append_left (by simpa using hg),Array.getElem?_modify,qX rfl,hh]
 rfl
def zy0(zs:List Value)(cur:Array Value)(h:zs.length<=cur.size):(putCells id 0 zs.toArray cur).toList.take zs.length=zs:=by
 apply List.ext_getElem?;intro j;rw[List.getElem?_take];by_cases hj:j<zs.length
 ·rw[qX hj,Array.getElem?_toList];unfold putCells;rw[Array.getElem?_mapIdx,Array.getElem?_eq_getElem oA]
  simp[hj]
 ·rw[qW hj];exact(List.getElem?_eq_none oA).symm
def zyz(w:World)(n g:Nat)(d:Array Value)(os:Array Obj):w.heap.size<=(grow (putRow id (Sort.ahead w n) g 0 d) os).heap.size:=by
 show w.heap.size<=((w.heap.modify g (onCells (putCells id 0 d)))++os).size;simp
def zyw(zs:List Value)(cur:Array Value)(v:Value)(hv:v∈(putCells id 0 zs.toArray cur).toList):v∈cur.toList\/v∈zs:=by
 unfold putCells at hv;rw[Array.mem_toList_iff,Array.mem_mapIdx]at hv;obtain⟨j,hj,rfl⟩:=hv;split
 ·rename_i hj2;have hj3:j<zs.length:=by simpa using hj2
  refine .inr ?_;simp[hj3]
 ·exact .inl oC
end Go.Sym
namespace Go.Sym
open Go.Proofs Go.RowKit Go.Sort
variable[LC]
def zgp{α:Type}[Inhabited α](enc:α->List Value)(k:Nat)(hk:∀x,(enc x).length=k)(l:List α):flatK enc k l.toArray=(l.flatMap enc).toArray:=by
 have key:∀(l:List α)(t:Nat),t<l.length*k->(l.flatMap enc)[t]? = some ((enc l[t/k]!)[t%k]!):=by
  intro l
  induction l with
  |nil=>intro t ht;simp at ht|cons x l ih=>
   intro t ht;have k0:0<k:=by
    rcases Nat.eq_zero_or_pos k with h|h;· subst h;simp at ht
    ·exact h
   rw[List.flatMap_cons];by_cases h:t<k
   ·rw[List.getElem?_append_left (by rw[hk];exact h),Nat.div_eq_of_lt h,Nat.mod_eq_of_lt h,List.getElem?_eq_getElem (by rw[hk];exact h)]
    simp[hk,h]
   ·rw[List.getElem?_append_right (by rw[hk];omega),hk,ih (t-k) (by rw[qL,Nat.add_mul,Nat.one_mul]at ht;omega)]
    obtain⟨u,rfl⟩:∃u,t=u+k:=⟨t-k,oA⟩
    rw[Nat.add_sub_cancel,Nat.add_mod_right,Nat.add_div_right _ k0];simp
 have ac:(l.flatMap enc).length=l.length*k:=by
  clear key
  induction l with|nil=>simp|cons x l ih=>rw[List.flatMap_cons,qM,hk,ih,qL,Nat.add_mul,Nat.one_mul,Nat.add_comm]
 refine ext_get! (by simp[ac]) fun t ht => ?_
 have ht':t<l.length*k:=by simpa using ht
 rw[get_flatK enc k l.toArray t (by simpa using ht')]
 have:=key l t ht';simp only[List.getElem!_toArray];rw[List.getElem!_eq_getElem?_getD (l:=l.flatMap enc),this];rfl
def fg(x:Pq):List Value:=[.string ⟨x.1.1.toArray⟩,.int .i64 x.1.2.1,.bool x.1.2.2.1,.string ⟨x.1.2.2.2.toArray⟩]
def zlg:SWO (ltOf pc):=by
 have e:∀x y:Pq,ltOf pc x y=decide (x.1.2.1<y.1.2.1):=fun x y=>by
  have:=x.2;have:=y.2;unfold ltOf pc;have h:ae (x.1.2.1-y.1.2.1)=x.1.2.1-y.1.2.1:=by unfold ae;simp[IntKind.wrap,IntKind.bits,IntKind.signed];omega
  rw[h];by_cases q:x.1.2.1<y.1.2.1<;>simp[q]<;>omega
 exact⟨fun x=>by rw[e];simp,fun x y z h1 h2=>by rw[e]at *;simp at *;omega,fun x y z h1 h2=>by rw[e]at *;simp at *;omega⟩
set_option maxHeartbeats 1000000 in
def zt1(x y:Pq)(W:World):Calls Tryz.prog 374 #[.agg (fg x).toArray,.agg (fg y).toArray] W fun e w'=>e = .returned (.int .i64 (pc x y))/\∃q os',w'=grow (W.drewN q) os':=by
 unfold fg pc;obtain⟨⟨a,n,s,v⟩,hx⟩:=x;obtain⟨⟨a',n',s',v'⟩,hy⟩:=y;simp only;have hw:ae (n-n')=wrap64 (n-n'):=by show IntKind.i64.wrap (n-n')=_;rw[IntKind.wrap_i64];unfold Go.RowKit.wrap64;rfl
 rw[hw];clear hx hy hw
 go_enter Tryz.func374,Tryz.ntmps374
 go_wp2
 go_ret
 exact⟨rfl,0,_,by rw[alloc_eq_grow,alloc_eq_grow,grow_grow];rfl⟩
abbrev τQ:Ty := .prod .str (.prod (.int .i64) (.prod .bool .str))
def zj8{G:Gh}:∀{l:List Pq}{us:List Value},ak (List.flatMap (β:=AV) τQ.enc (l.map (·.1))) G us->us=l.flatMap fg
 |[],[],_=>rfl|[],_::_,h=>h.elim|x::l,us,h=>by
  match us,h with
  |a::b::c::d::us,h=>
   have h1:a = .string ⟨x.1.1.toArray⟩:=h.1;have h2:b = .int .i64 x.1.2.1:=h.2.1;have h3:c = .bool x.1.2.2.1:=h.2.2.1;have h4:d = .string ⟨x.1.2.2.2.toArray⟩:=h.2.2.2.1;have h5:=zj8 (l:=l) h.2.2.2.2;rw[h1,h2,h3,h4,h5];rfl
  |[],h=>exact h.elim|[_],h=>exact h.2.elim|[_,_],h=>exact h.2.2.elim|[_,_,_],h=>exact h.2.2.2.elim
def zj9{G:Gh}:∀(l:List Pq),ak (List.flatMap (β:=AV) τQ.enc (l.map (·.1))) G (l.flatMap fg)
 |[]=>trivial|_::l=>⟨rfl,rfl,rfl,rfl,zj9 l⟩
def zlt:∀(l:List Pc)(q:List Pq),toQ l=some q->l=q.map (·.1)
 |[],_,h=>by cases h;rfl
 |x::l,q,h=>by
  unfold toQ at h;split at h
  ·split at h
   ·rename_i r hr;cases h;rw[zlt l r hr];rfl
   ·cases h
  ·cases h
def q3a(l:List Pq):(ld l).length=l.length:=by
 have h:=(pdq_sorts (ltOf pc) zlg l.toArray 0 l.length (Lib.bitLen l.length) true true (Nat.zero_le _) oC (Or.inl rfl)).1.1
 unfold ld;rw[Array.length_toList,h];simp
def qnl(x:Pq):(fg x).length=4:=rfl
def zgf(l:List Pq):(l.flatMap fg).length=l.length*4:=by
 induction l with|nil=>rfl|cons x l ih=>rw[List.flatMap_cons,qM,qnl,ih,qL];omega
def zvv{w:World}{g:Nat}{vs:Array Value}{fz:Nat×Nat}{E:TypeId}{l:List Pq}(h2:w.heap[g]? = some (.cells vs E fz))(h3:fz=(0,0)\/vs.size<=fz.1)(h4:l.length*4<=vs.size)(h7:vs.toList.take (l.length*4)=l.flatMap fg):HoldsK fg 4 w g 0 l.toArray:=by
 unfold HoldsK;rw[zgp fg 4 qnl];intro j hj;have hl:=zgf l;have hj':j<(l.flatMap fg).length:=by simpa using hj
 have hjv:j<vs.size:=oA
 refine⟨?_,?_⟩
 ·have hc:(vs.toList.take (l.length*4))[j]? = some ((l.flatMap fg)[j]):=by
   rw[h7,List.getElem?_eq_getElem hj']
  rw[List.getElem?_take,qX]at hc
  simp only[World.cell?,h2,wO];have hg:(l.flatMap fg).toArray[j]! = (l.flatMap fg)[j]:=by rw[getElem!_pos _ j hj];rfl
  rw[hg];simpa using hc
 ·simp only[World.frozen?,h2];rcases h3 with rfl|h3
  ·simp
  ·simp;omega
set_option maxHeartbeats 1000000 in
def z0h(q:List Pq)(ac:q.length<=ao):ce Tryz.prog 373 [.own 0,.fn (.func 374) [] []] [(0,.row τQ (q.map (·.1)) 403)] (.tup []) [(0,.row τQ ((ld q).map (·.1)) 403)]:=by
 unfold ao at ac
 refine ce.inPlaceA (by show((ld q).map (·.1)).length=(q.map (·.1)).length;rw[wC,wC,q3a]) (fun w G ad c us fvs hrow hreps hfv => ?_)
 have hus:=zj8 hreps;have hfv:fvs=[.func (.func 374) #[] #[]]:=by
  match fvs,hfv with
  |[v],⟨h,_⟩=>
   obtain⟨us1,us2,k1,k2,k3⟩:=h;have e1:us1=#[]:=Array.eq_empty_of_size_eq_zero k2.length.symm;have e2:us2=#[]:=Array.eq_empty_of_size_eq_zero k3.length.symm;subst e1;subst e2;rw[k1]
 subst hfv;have hml:(q.map (fun x=>x.1)).length=q.length:=wC ..
 obtain⟨hul,hrow⟩:=hrow
 have hnone:q=[]->Calls Tryz.prog 373 (Value.slice ad (q.map (fun x=>x.1)).length c::[.func (.func 374) #[] #[]]).toArray w fun e w'=>e = .returned (.tuple #[])/\∃us',fc w' 403 τQ.sz ad (q.map (fun x=>x.1)).length c us'/\ak (List.flatMap (β:=AV) τQ.enc ((ld q).map (·.1))) G.data us'/\b9 (fun b=>cu ad=some b) w w':=fun hq=>by
  subst hq;refine(AnyF.slices_SortFunc_none Tryz.sortP ad c (.func (.func 374) #[] #[]) w).mono ?_;rintro e w' ⟨rfl,rfl⟩
  refine⟨rfl,us,⟨hul,hrow⟩,?_,⟨rfl,rfl,rfl,wF _,fun _ _ _=>rfl⟩⟩
  rw[hus];have e:ld []=[]:=List.eq_nil_of_length_eq_zero (q3a []);rw[e];exact trivial
 by_cases hq:q=[]
 ·exact hnone hq
 rcases hrow with⟨rfl,h2,rfl⟩|⟨g,vs,fz,rfl,h2,h3,h4,h5,h6,h7,h8⟩
 ·exact absurd (List.eq_nil_of_length_eq_zero (by rw[← hml];exact h2)) hq
 ·have hlt:g<w.heap.size:=(Array.getElem?_eq_some_iff.1 h2).1;have hs4:τQ.sz=4:=rfl;rw[hs4]at h6 h7 hul;have h4':q.length<=c:=by rw[← hml];exact h4
  have hH:=zvv (l:=q) h2 h3 oA (by rw[← hus];have h7':=h7;rw[show(List.length (α:=τQ.den) (q.map fun x=>x.1))=q.length from hml]at h7';exact h7')
  have hcmp:CmpLays Tryz.prog 374 #[] fg 4 pc g 0 q.toArray.size w:=fun m os dk _ x y=>zt1 x y _
  have key:=AnyQ.slices_SortFunc_eq (P:=Tryz.prog) Tryz.sortP 4 Tryz.isAgg403 Tryz.sizeOf403 fg qnl (by intro x v hv;simp only[fg,wE,List.not_mem_nil,or_false]at hv;rcases hv with rfl|rfl|rfl|rfl<;>rfl) pc zlg 374 #[] g 0 c q.toArray w Tryz.call374 hcmp hH hlt oD
  have hargs:#[Value.slice (some ⟨g,0,none⟩) (List.length (α:=τQ.den) (List.map (β:=τQ.den) (fun x:Pq=>x.1) q)) c,Value.func (.func 374) #[] #[]]=#[.slice (some ⟨g,0,none⟩) q.toArray.size c,.func (.func 374) #[] #[]]:=by
   rw[show List.length (α:=τQ.den) (List.map (β:=τQ.den) (fun x:Pq=>x.1) q)=q.toArray.size from hml.trans oC]
  refine Eq.mpr (congrArg (fun a=>Calls _ _ a _ _) hargs) (key.mono ?_)
  rintro e w' ⟨rfl,n,os,rfl⟩
  have hsl:=q3a q;have hw:sortWorldK fg 4 w g 0 n (pdq (ltOf pc) q.toArray 0 q.toArray.size (Lib.bitLen q.toArray.size) true true) os=grow (putRow id (Sort.ahead w n) g 0 ((ld q).flatMap fg).toArray) os:=by
   unfold sortWorldK putRowK;rw[show pdq (ltOf pc) q.toArray 0 q.toArray.size (Lib.bitLen q.toArray.size) true true=(ld q).toArray from by unfold ld;simp,zgp fg 4 qnl]
  rw[hw];have hzl:((ld q).flatMap fg).length=q.length*4:=by rw[zgf,hsl]
  refine⟨rfl,(ld q).flatMap fg,⟨?_,.inr ⟨g,putCells id 0 ((ld q).flatMap fg).toArray vs,fz,rfl,zyy w n g _ os h2,?_,h4,h5,?_,?_,?_⟩⟩,zj9 _,⟨rfl,rfl,rfl,zyz w n g _ os,fun k hk hne=>zyx w n g _ os k hk (fun e=>hne (by subst e;rfl))⟩⟩
  ·rw[hzl];show q.length*4=(q.map (fun x=>x.1)).length*4;rw[hml]
  ·have:(putCells id 0 ((ld q).flatMap fg).toArray vs).size=vs.size:=by unfold putCells;rw[Array.size_mapIdx]
   rw[this];exact h3
  ·unfold putCells;rw[Array.size_mapIdx];exact h6
  ·rw[show List.length (α:=τQ.den) (q.map (fun x=>x.1))*τQ.sz=((ld q).flatMap fg).length from by rw[hzl];show(q.map (fun x=>x.1)).length*4=_;rw[hml]]
   exact zy0 _ vs (by rw[hzl];omega)
  ·intro v hv;rcases zyw _ _ _ hv with h|h
   ·exact h8 v h
   ·obtain⟨x,_,hx⟩:=List.mem_flatMap.1 h;simp only[fg,wE,List.not_mem_nil,or_false]at hx;rcases hx with rfl|rfl|rfl|rfl<;>rfl
def zk2:IF:=⟨.fn 373,[.own 0,.fn 374 []],[(0,.row τQ 403)],_,RS.mk (.tup []) [(0,.row τQ 403)]⟩
def z0j:(zk2.e qf3).Sound Tryz.prog:=fun d d' r h=>by
 obtain⟨l,_⟩:=d';have h:qf3 l=some r:=h;unfold qf3 at h;cases hd:decide (List.length (α:=Pc) l<=ao)<;>rw[hd]at h<;>simp only[qT,qF,reduceCtorEq]at h
 cases hq:toQ l with
 |none=>rw[hq]at h;cases h
 |some q=>
  rw[hq]at h;have h:=qJ h;subst h;have hl:=zlt l q hq;subst hl;refine⟨Tryz.call373,z0h q ?_⟩;have:=of_decide_eq_true hd
  rwa [wC]at this
end Go.Sym
set_option linter.unusedVariables false
namespace Go.Proofs.ToValid
open Go.Shelf Go.RowKit Go.Lib Go.Sym
def bx:Builder.Extra Tryz.prog Tryz.uniR:={
 sizeBuilder:=oB
 liesBuilder:=oB
 t5:=Tryz.laysM171.t5
 a5:=Tryz.laysM171.a5
 z5:=Tryz.laysM171.z5
 v5:=Tryz.laysM171.v5
 infoByte:=oB
 cellsByte:=oB
 sizeByte:=oB
 neB5:=by decide }
def zwq:Lays.n166 Tryz.prog Tryz.uniR:={ Tryz.lays165,Tryz.lays169,Tryz.laysC172 with f166:=Tryz.func167.trans (congrArg some oB) }
def zwr:Lays.n167 Tryz.prog Tryz.uniR:={ Tryz.lays165,Tryz.lays169,Tryz.laysC172 with f167:=Tryz.func273.trans (congrArg some oB) }
def zfq(b:Nat)(p:Option Addr)(n cap:Nat)(w:World)(c1:w.cell? ⟨b,1,none⟩=some (.slice p n cap)) :
  Calls Tryz.prog 383 #[.pointer (some ⟨b,0,none⟩)] w fun e w'=>e = .returned (.int .i64 cap)/\w'=w:=by
 go_enter Tryz.func383,Tryz.ntmps383
 go_wp2
 go_ret
 exact⟨rfl,rfl⟩
def zvn(b n:Nat)(w:World)(hbk:w.heap[b]? = some (.cells #[.pointer none,.slice none 0 0] 245 (0,0)))(hBw:b<=w.heap.size)(hn:n<=281474976710656) :
  Calls Tryz.prog 166 #[.pointer (some ⟨b,0,none⟩),.int .i64 n] w fun e w'=>e = .returned (.tuple #[])/\(Lib.BuilderAt 245 5 b b (.pointer (some ⟨b,0,none⟩)) [] w'/\Below b w w')/\∃p cap,w'.cell? ⟨b,1,none⟩=some (.slice p 0 cap)/\n<=cap:=
 Any.Builder_Grow_fresh_cap Tryz.lays165 bx b b n w (wF _) hbk hBw hn
def q34(b:Nat)(bs:List Value)(s:ByteArray)(w:World)(h:Lib.IsBuilderF 245 5 b b bs w)(ac:bs.length+s.size<=140737488355328)(hBw:b<=w.heap.size) :
  Calls Tryz.prog 167 #[.pointer (some ⟨b,0,none⟩),.string s] w fun e w'=>e = .returned (.tuple #[.int .i64 s.size,.nilIface])/\(Lib.BuilderAtF 245 5 b b (.pointer (some ⟨b,0,none⟩)) (bs++Lib.strCells s) w'/\Below b w w'/\Lib.OthersKept 5 (some b) w w')/\∀v0,w.cell? ⟨b,1,none⟩=some v0->∃v1,w'.cell? ⟨b,1,none⟩=some v1/\v0.capOf<=v1.capOf:=
 Any.Builder_WriteString_kc zwq bx b b bs s w h ac hBw
def z13(b:Nat)(bs:List Value)(c:Int)(w:World)(h:Lib.IsBuilderF 245 5 b b bs w)(ac:bs.length+1<=140737488355328)(hBw:b<=w.heap.size) :
  Calls Tryz.prog 273 #[.pointer (some ⟨b,0,none⟩),.int .u8 c] w fun e w'=>e = .returned .nilIface/\(Lib.BuilderAtF 245 5 b b (.pointer (some ⟨b,0,none⟩)) (bs++[.int .u8 c]) w'/\Below b w w'/\Lib.OthersKept 5 (some b) w w'):=
 Any.Builder_WriteByte_k zwr bx b b bs c w h ac hBw
def z01(b:Nat)(l:List UInt8)(w:World)(h:Lib.IsBuilderF 245 5 b b (Lib.byteCells l) w)(hBw:b<=w.heap.size) :
  Calls Tryz.prog 169 #[.pointer (some ⟨b,0,none⟩)] w fun e w'=>e = .returned (.string ⟨l.toArray⟩)/\(Lib.IsBuilderF 245 5 b b (Lib.byteCells l) w'/\Below b w w'):=
 Any.Builder_String_any_f Tryz.lays169 bx b b l w h hBw
def decC(s:ByteArray)(w:World)(hT:Lib.Utf8Tabs 0 1 w) :
  Calls Tryz.prog 149 #[.string s] w fun e w'=>e = .returned (.tuple #[.int .i32 (Lib.decodeGo s).1,.int .i64 (Lib.decodeGo s).2])/\Below w.heap.size w w':=
 Any.utf8_DecodeRuneInString Tryz.lays197 s w hT
def zf9(s:ByteArray)(pos:Nat)(h:pos<s.size):decodeGo (s.extract pos s.size)=Utf8.decode s pos:=by
 have hx:(s.extract pos s.size).data.toList=s.data.toList.drop pos:=by
  rw[extract_data,List.take_of_length_le (by rw[List.length_drop,← size_eq];omega)]
 have hsz:(s.extract pos s.size).size≠0:=by rw[size_eq,hx,List.length_drop,← size_eq];omega
 unfold decodeGo;rw[qW hsz,← decodeL_drop s pos,← hx];rfl
def zmb(n:Int)(h0:0<=n:=by omega)(h1:n<=4000000:=by omega):wrap64 n=n:=by unfold wrap64;omega
def z18(p n:Nat)(h:p+n<=4000000):wrap64 ((p:Int)+(n:Int))=(p:Int)+(n:Int):=zmb _
def z19(p:Nat)(h:p+1<=4000000):wrap64 ((p:Int)+1)=(p:Int)+1:=zmb _
def vI(p k:Nat):Value.int .i64 ((p:Int)+(k:Int)) = .int .i64 ((p+k:Nat):Int):=by rw[Int.natCast_add]
def qe(p:Nat):Value.int .i64 ((p:Int)+1) = .int .i64 ((p+1:Nat):Int):=by rw[Int.natCast_add];rfl
def q3x(rep:Bs)(n:Nat)(inv:Bool)(l:Bs)(hne:l≠[])(h:(Lib.decodeL l).1=65533/\(Lib.decodeL l).2=1):vu rep (n+1) inv l=(if inv then[] else rep)++vu rep n true (l.drop 1):=by
 cases l with|nil=>exact absurd rfl hne|cons c l=>rw[vu,qX h];rfl
def qpk(rep:Bs)(n:Nat)(inv:Bool)(l:Bs)(hne:l≠[])(h:¬((Lib.decodeL l).1=65533/\(Lib.decodeL l).2=1)):vu rep (n+1) inv l=l.take (Lib.decodeL l).2++vu rep n false (l.drop (Lib.decodeL l).2):=by
 cases l with|nil=>exact absurd rfl hne|cons c l=>rw[vu,qW h]
def xa(rep:Bs)(n:Nat)(inv:Bool):vu rep n inv []=[]:=by cases n<;>rfl
def qiw(rep:Bs):∀(n m:Nat)(inv:Bool)(l:Bs),l.length<=n->l.length<=m->vu rep n inv l=vu rep m inv l
 |0,m,inv,l,h1,_=>by
  have:l=[]:=by cases l with|nil=>rfl|cons c l=>simp at h1
  subst this;rw[xa,xa]
 |n+1,0,inv,l,_,h2=>by
  have:l=[]:=by cases l with|nil=>rfl|cons c l=>simp at h2
  subst this;rw[xa,xa]
 |n+1,m+1,inv,l,h1,h2=>by
  cases l with
  |nil=>rw[xa,xa]|cons c l=>
   have hw:=Lib.decodeL_width (c::l);simp only[qL]at h1 h2;by_cases h:(Lib.decodeL (c::l)).1=65533/\(Lib.decodeL (c::l)).2=1
   ·rw[q3x rep n inv _ oC h,q3x rep m inv _ oC h,qiw rep n m true _ oD oD]
   ·rw[qpk rep n inv _ oC h,qpk rep m inv _ oC h,qiw rep n m false _ (by simp only[List.length_drop,qL];omega) (by simp only[List.length_drop,qL];omega)]
def zuk(s:ByteArray)(pos:Nat)(h:pos<s.size)(hc:(s.get! pos).toNat<128):Utf8.decode s pos=((s.get! pos).toNat,1):=by
 unfold Utf8.decode;simp only[Nat.add_zero,hc,if_true]
def zuj(s:ByteArray)(pos:Nat)(h:pos<s.size)(hc:¬(s.get! pos).toNat<128)(h1:(Utf8.decode s pos).2=1):(Utf8.decode s pos).1=65533:=by
 revert h1;unfold Utf8.decode;simp only[Nat.add_zero,hc,if_false]
 repeat' split
 all_goals first|(intro _;rfl)|(intro h1;exact absurd h1 oC)
def qzu{T e:TypeId}{B b:Nat}{bs:List Value}{W W':World}(h:Lib.IsBuilderF T e B b bs W)(hb:Below W.heap.size W W'):Lib.IsBuilderF T e B b bs W':=by
 have k:∀p,Lib.BuilderAtF T e B b p bs W->Lib.BuilderAtF T e B b p bs W':=fun p h=>by
  have hlt:=h.lt;obtain⟨hB,v,hv,hown,hne⟩:=h;exact⟨hB,v,(hb.block b hlt).trans hv,hown.kept (row:=none) ⟨hb.os,hb.tape,hb.output,hb.size,fun k hk _=>hb.block k hk⟩ (Classical.em _),hne⟩
 exact h.elim (fun x => .inl (k _ x)) (fun x => .inr (k _ x))
set_option maxHeartbeats 4000000 in
set_option maxRecDepth 1000000 in
def tovalid(s rep:ByteArray)(w:World)(hs:s.size<=1000000)(hr:rep.size<=1000)(hT:Lib.Utf8Tabs 0 1 w) :
  Calls Tryz.prog 376 #[.string s,.string rep] w fun e w'=>e = .returned (.string ⟨(vu rep.data.toList s.size false s.data.toList).toArray⟩)/\Below w.heap.size w w':=by
 obtain⟨ANS,hANS⟩:∃ANS,vu rep.data.toList s.size false s.data.toList=ANS:=⟨_,rfl⟩;rw[hANS];have ac:s.data.toList.length=s.size:=(Lib.size_eq s).symm
 go_enter Tryz.func376,Tryz.ntmps376
 go_wp2
 go_loopg [0] s.size (fun gk s0 wx=>s0 = .string s/\∃pos:Nat,wx.heap[w.heap.size]? = some (.cells #[.pointer none,.slice none 0 0] 245 (0,0))/\wx.heap[w.heap.size+1]? = some (.stringIter s pos)/\Below w.heap.size w wx /\
  s.data.toList.take pos++vu rep.data.toList (s.size-pos) false (s.data.toList.drop pos)=ANS/\s.size<=pos+gk/\pos<=s.size)
 case atStart=>
  refine⟨rfl,0,?_,?_,((Below.refl _ w).alloc (wF _) _).alloc oC _,by simpa using hANS,oA,oA⟩
  ·have h1:=heap_alloc_new w (.cells #[.pointer none,.slice none 0 0] 245);exact(Below.heap_alloc _ _ _ oC).trans h1
  ·have:=World.iter_heap (w.alloc (.cells #[.pointer none,.slice none 0 0] 245)) s 0;simpa using this
 case round=>
  obtain⟨rfl,pos,hfr,hit,hbw,hsp,hfu,hps⟩:=hrel;by_cases hlt:pos<s.size
  ·obtain⟨g',rfl⟩:∃g',gk=g'+1:=⟨gk-1,oA⟩
   have hnx:∀ty,(Instr.next (.pointer (some ⟨w.heap.size+1,0,none⟩)) true ty).run Tryz.prog wr=_:=fun ty=>Lib.run_next_any_at wr (w.heap.size+1) s pos ty hit hlt
   have hne:s.data.toList.drop pos≠[]:=by
    intro h0;have:=congrArg List.length h0;rw[List.length_drop,ac]at this;simp at this;omega
   have hwd:=Lib.width_pos s pos;have hwn:pos+(Utf8.decode s pos).2<=s.size:=by
    have:=Lib.decodeL_le _ hne;rw[Lib.decodeL_drop,List.length_drop,ac]at this;omega
   have hgood:=qpk rep.data.toList (s.size-pos-1) false _ hne;have hdg:=zf9 s pos hlt;rw[Lib.decodeL_drop]at hgood;obtain⟨R,hR⟩:∃R,(Utf8.decode s pos).1=R:=⟨_,rfl⟩;obtain⟨K,hK⟩:∃K,(Utf8.decode s pos).2=K:=⟨_,rfl⟩;rw[hR,hK]at hnx hgood;rw[hK]at hwd hwn;rw[List.drop_drop,show s.size-pos-1+1=s.size-pos by omega]at hgood
   have hit2:=Lib.iterAt_heap wr (w.heap.size+1) s pos (pos+K) hit;have hbw2:=Lib.below_iterAt hbw (k:=w.heap.size+1) oA s (pos+K)
   have hfr2:(wr.iterAt (w.heap.size+1) s (pos+K)).heap[w.heap.size]? = _:=(Lib.iterAt_other wr (w.heap.size+1) w.heap.size s (pos+K) oA).trans hfr
   obtain⟨W,hWd⟩:∃W,wr.iterAt (w.heap.size+1) s (pos+K)=W:=⟨_,rfl⟩;rw[hWd]at hnx hit2 hbw2 hfr2;clear hit hbw hfr hWd;have HS:Aside (¬(R=65533/\K=1)->s.data.toList.take (pos+K)++vu rep.data.toList (s.size-(pos+K)) false (s.data.toList.drop (pos+K))=ANS):=by
    intro h;rw[← hsp,hgood h,← qS,← List.take_add];congr 1;exact qiw _ _ _ _ _ (by rw[List.length_drop,ac];omega) (by rw[List.length_drop,ac];omega)
   have HP:Aside (s.data.toList.take pos++vu rep.data.toList (s.size-pos) false (s.data.toList.drop pos)=ANS):=hsp;clear hgood hsp;have hszW:w.heap.size+1<W.heap.size:=(Array.getElem?_eq_some_iff.1 hit2).1;by_cases h5:R=65533
   ·have h5z:(R:Int)=65533:=oA
    have cD:=decC (s.extract pos s.size) W (Utf8Tabs_below hT hbw2);rw[hdg,hR,hK]at cD;by_cases hk:K=1
    ·
     have hkz:(K:Int)=1:=oA
     have hkb:((K:Int)==1)=true:=by simp[hkz]
     go_wp2_with (go_at_call 149;go_must (refine cD.mono ?_;rintro e W3 ⟨rfl,b3⟩))
     have hfr3:=(b3.block _ (show w.heap.size<W.heap.size by omega)).trans hfr2
     have hbw3:=hbw2.trans (b3.mono (show w.heap.size<=W.heap.size by omega))
     have hs0:=HP.out;clear cD hnx hit2 hfr2 hbw2 hdg HS hszW HP;have cG:=zvn w.heap.size (s.size+rep.size) W3 hfr3 hbw3.size oA
     go_fit cG
     rintro e W4 ⟨rfl,⟨h4,b4⟩,p4,cap4,hc4,hcap4⟩
     have hxs:(s.extract 0 pos).size=pos:=by rw[Lib.size_eq,Lib.extract_data,List.length_take,List.length_drop,ac];omega
     have hxd:(s.extract 0 pos).data.toList=s.data.toList.take pos:=by rw[Lib.extract_data];simp
     have cW:=q34 w.heap.size [] (s.extract 0 pos) W4 (Lib.IsBuilderF.of (Or.inr h4)) (by rw[hxs];simp;omega) (Nat.le_trans hbw3.size b4.size)
     go_wp2_with (go_at_call 167;go_must (refine cW.mono ?_;rintro e W5 ⟨rfl,⟨h5w,b5,-⟩,hcp⟩))
     have hb5:Below w.heap.size w W5:=(hbw3.trans b4).trans b5;have hcells:[]++Lib.strCells (s.extract 0 pos)=Lib.byteCells (s.data.toList.take pos):=by
      rw[List.nil_append,Lib.strCells_eq,hxd]
     rw[hcells]at h5w;obtain⟨p5,n5,cap5,hc5,hcap5⟩:∃p5 n5 cap5,W5.cell? ⟨w.heap.size,1,none⟩=some (.slice p5 n5 cap5)/\1<=cap5:=by
      obtain⟨v1,hv1,hle⟩:=hcp _ hc4;obtain⟨_,v6,hv6,hown6,_⟩:=h5w;have hv:W5.cell? ⟨w.heap.size,1,none⟩=some v6:=by rw[Lib.cell_of_heap hv6];rfl
      rw[hv1]at hv;have:=qJ hv;subst this;have hle:cap4<=v1.capOf:=hle;rcases hown6.2 with⟨rfl,h0⟩|⟨g6,cap6,_,_,rfl,_⟩
      ·have:cap4<=0:=hle;omega
      ·have:cap4<=cap6:=hle;exact⟨_,_,cap6,hv1,oA⟩
     clear hcp hc4;have hcapz:¬((cap5:Int)=0):=oA
     have hcapb:((cap5:Int)==0)=false:=by simp;omega
     have cC:=zfq w.heap.size p5 n5 cap5 W5 hc5;obtain⟨s2,hs2⟩:∃s2,s.extract pos s.size=s2:=⟨_,rfl⟩;have hl2:s2.data.toList=s.data.toList.drop pos:=by
      rw[← hs2,Lib.extract_data,List.take_of_length_le (by rw[List.length_drop,ac];omega)]
     have hz2:s2.size=s.size-pos:=by rw[Lib.size_eq,hl2,List.length_drop,ac]
     go_wp2_with (go_at_call 383;go_must (refine cC.mono ?_;rintro e W6 ⟨rfl,rfl⟩))
     have hrl:rep.data.toList.length=rep.size:=(Lib.size_eq rep).symm
     go_loopg [10,11] s2.size (fun gk s10 s11 wx=>∃(p2:Nat)(acc:List UInt8)(inv:Bool),s10 = .bool inv/\s11 = .int .i64 p2/\Lib.IsBuilderF 245 5 w.heap.size w.heap.size (Lib.byteCells acc) wx/\Below w.heap.size w wx /\
      acc++vu rep.data.toList (s2.size-p2) inv (s2.data.toList.drop p2)=ANS/\s2.size<=p2+gk/\p2<=s2.size/\acc.length<=pos+1001*p2)
     case atStart=>
      refine⟨0,s.data.toList.take pos,false,rfl,rfl,Or.inr h5w,hb5,?_,oA,oA,?_⟩
      ·rw[List.drop_zero,hl2,hz2];exact hs0
      ·rw[List.length_take,ac];omega
     case round=>
      obtain⟨p2,acc,inv,rfl,rfl,hI,hbw,hacc,hfu2,hp2,hal⟩:=hrel;have hbs:w.heap.size<=wr.heap.size:=hbw.size;by_cases hlt2:p2<s2.size
      ·obtain⟨g2,rfl⟩:∃g2,gk=g2+1:=⟨gk-1,oA⟩
       have hne2:s2.data.toList.drop p2≠[]:=by
        intro h0;have:=congrArg List.length h0;rw[List.length_drop,← Lib.size_eq,qZ]at this;omega
       have hwd2:=Lib.width_pos s2 p2;have hwn2:p2+(Utf8.decode s2 p2).2<=s2.size:=by
        have:=Lib.decodeL_le _ hne2;rw[Lib.decodeL_drop,List.length_drop,← Lib.size_eq]at this;omega
       have hgood:=qpk rep.data.toList (s2.size-p2-1) inv _ hne2;have hbad:=q3x rep.data.toList (s2.size-p2-1) inv _ hne2;have hdg:=zf9 s2 p2 hlt2;have hlow:=zuk s2 p2 hlt2;have hhigh:=zuj s2 p2 hlt2;rw[Lib.decodeL_drop,List.drop_drop,show s2.size-p2-1+1=s2.size-p2 by omega]at hgood hbad
       have hl3:s2.data.toList.length=s2.size:=(Lib.size_eq s2).symm;obtain⟨c,hc⟩:∃c,s2[p2]'hlt2=c:=⟨_,rfl⟩;have hd2:p2<s2.data.size:=hlt2;have hcd:s2.data[p2]'hd2=c:=hc;have hcg:s2.get! p2=c:=by
        show s2.data[p2]! = c;rw[getElem!_pos s2.data p2 hd2];exact hcd
       rw[hcg]at hlow hhigh;obtain⟨R2,hR2⟩:∃R2,(Utf8.decode s2 p2).1=R2:=⟨_,rfl⟩;obtain⟨K2,hK2⟩:∃K2,(Utf8.decode s2 p2).2=K2:=⟨_,rfl⟩;rw[hK2]at hwd2 hwn2;have HG:Aside (¬(R2=65533/\K2=1)->(acc++(s2.data.toList.drop p2).take K2)++vu rep.data.toList (s2.size-(p2+K2)) false (s2.data.toList.drop (p2+K2))=ANS):=by
        intro h;rw[← hacc,hgood (by rw[hR2,hK2];exact h),hK2,qS]
        congr 2;exact qiw _ _ _ _ _ (by rw[List.length_drop,hl3];omega) (by rw[List.length_drop,hl3];omega)
       have HB:Aside (R2=65533/\K2=1->(acc++(if inv then[] else rep.data.toList))++vu rep.data.toList (s2.size-(p2+1)) true (s2.data.toList.drop (p2+1))=ANS):=by
        intro h;rw[← hacc,hbad (by rw[hR2,hK2];exact h),qS]
        congr 2
       have hxl:(s2.extract p2 (p2+K2)).data.toList=(s2.data.toList.drop p2).take K2:=by
        rw[Lib.extract_data,Nat.add_sub_cancel_left]
       have hxz:(s2.extract p2 (p2+K2)).size=K2:=by rw[Lib.size_eq,hxl,List.length_take,List.length_drop,hl3];omega
       have hcl:acc.length<=1001000000:=oA
       have hbl:(Lib.byteCells acc).length=acc.length:=Lib.byteCells_length acc;clear hgood hbad hacc hs0;have H1:Aside (s2.data.toList.length=s2.size/\(s2.extract p2 (p2+K2)).data.toList=(s2.data.toList.drop p2).take K2/\(Lib.byteCells acc).length=acc.length/\rep.data.toList.length=rep.size):=⟨hl3,hxl,hbl,hrl⟩;have H2:Aside (c.toNat<128->R2=c.toNat/\K2=1):=fun h=>by
        have hd:=hlow h;rw[hd]at hR2 hK2;exact⟨hR2.symm,hK2.symm⟩
       have H3:Aside (¬c.toNat<128->K2=1->R2=65533):=fun h hk=>by
        have:=hhigh h (by rw[hK2];exact hk)
        rw[← hR2];exact this
       have H4:Aside ((List.drop p2 s2.data.toList).take 1=[c]):=by
        show _=_;have hlt':p2<s2.data.toList.length:=by rw[hl3];exact hlt2
        rw[List.drop_eq_getElem_cons hlt',List.take_succ_cons,List.take_zero,Array.getElem_toList,hcd]
       have cD:=decC (s2.extract p2 s2.size) wr (Utf8Tabs_below hT hbw);rw[hdg,hR2,hK2]at cD;have hsz2:s2.size<=s.size:=by rw[hz2];exact Nat.sub_le _ _
       have HW1:Aside (wrap64 ((p2:Int)+1)=(p2:Int)+1):=z19 _ (Nat.le_trans hlt2 (Nat.le_trans hsz2 (Nat.le_trans hs oE)))
       have HWK:Aside (wrap64 ((p2:Int)+(K2:Int))=(p2:Int)+(K2:Int)):=z18 _ _ (Nat.le_trans hwn2 (Nat.le_trans hsz2 (Nat.le_trans hs oE)))
       have HM:Aside (s2.size<=p2+1+g2/\s2.size<=p2+K2+g2/\acc.length+1<=pos+1001*(p2+1)/\acc.length+rep.size<=pos+1001*(p2+1)/\acc.length+K2<=pos+1001*(p2+K2)/\acc.length<=pos+1001*(p2+1)/\acc.length+1<=140737488355328/\acc.length+rep.size<=140737488355328/\acc.length+K2<=140737488355328):=by
        refine⟨?_,?_,?_,?_,?_,?_,?_,?_,?_⟩<;>omega
       clear hal hcl hfu2;clear hcd hcg hlow hhigh hdg hR2 hK2 hl3 hxl hbl hrl hs2 hl2 ac hne2 hz2 hxs hxd hcells hne hR hK;by_cases h128:c.toNat<128
       ·
        obtain⟨_,hk1⟩:=H2.out h128;subst hk1;have H5:Aside (acc++[c]++vu rep.data.toList (s2.size-(p2+1)) false (List.drop (p2+1) s2.data.toList)=ANS):=by
         have:=HG.out oA
         rw[H4.out]at this;exact this
        have cB:=z13 w.heap.size (Lib.byteCells acc) c.toNat wr hI (by rw[H1.out.2.2.1];exact HM.out.2.2.2.2.2.2.1) hbs
        clear HG HB H2 H3 H4 cD;have h128z:(c.toNat:Int)<128:=oA
        go_wp2_with (go_at_call 273;go_must (refine cB.mono ?_;rintro e W7 ⟨rfl,h7,b7,k7⟩))
        go_roundg g2
        case measure=>exact Nat.lt_succ_self _
        case rel=>
         refine⟨p2+1,acc++[c],false,rfl,by first|exact qe p2|exact(congrArg (Value.int .i64) HW1.out).trans (qe p2),Or.inr ?_,hbw.trans b7,H5.out,HM.out.1,hlt2,by rw[qM];exact HM.out.2.2.1⟩
         rw[Lib.byteCells_append];exact h7
       ·have h128z:¬((c.toNat:Int)<128):=oA
        by_cases hk:K2=1
        ·have hr2:=H3.out h128 hk;have H5:Aside ((acc++(if inv then[] else rep.data.toList))++vu rep.data.toList (s2.size-(p2+1)) true (List.drop (p2+1) s2.data.toList)=ANS):=HB.out ⟨hr2,hk⟩
         have hkz:(K2:Int)=1:=oA
         have hkb:((K2:Int)==1)=true:=by simp[hkz]
         clear HG HB H2 H3 H4
         cases inv with
         |true=>
          go_wp2_with (go_at_call 149;go_must (refine cD.mono ?_;rintro e W7 ⟨rfl,b7⟩))
          go_roundg g2
          case measure=>exact Nat.lt_succ_self _
          case rel=>
           refine⟨p2+1,acc,true,rfl,by first|exact qe p2|exact(congrArg (Value.int .i64) HW1.out).trans (qe p2),qzu hI b7,hbw.trans (b7.mono hbs),?_,HM.out.1,hlt2,HM.out.2.2.2.2.2.1⟩
           have h:(acc++[])++vu rep.data.toList (s2.size-(p2+1)) true (List.drop (p2+1) s2.data.toList)=ANS:=H5.out;rw[List.append_nil]at h;exact h
         |false=>
          go_wp2_with (go_at_call 149;go_must (refine cD.mono ?_;rintro e W7 ⟨rfl,b7⟩))
          have cW:=q34 w.heap.size (Lib.byteCells acc) rep W7 (qzu hI b7) (by rw[H1.out.2.2.1];exact HM.out.2.2.2.2.2.2.2.1) (Nat.le_trans hbs b7.size)
          go_wp2_with (go_at_call 167;go_must (refine cW.mono ?_;rintro e W8 ⟨rfl,⟨h8,b8,-⟩,-⟩))
          go_roundg g2
          case measure=>exact Nat.lt_succ_self _
          case rel=>
           refine⟨p2+1,acc++rep.data.toList,true,rfl,by first|exact qe p2|exact(congrArg (Value.int .i64) HW1.out).trans (qe p2),Or.inr ?_,(hbw.trans (b7.mono hbs)).trans b8,?_,HM.out.1,hlt2,by rw[qM,H1.out.2.2.2];exact HM.out.2.2.2.1⟩
           ·rw[Lib.byteCells_append,← Lib.strCells_eq];exact h8
           ·have h:(acc++rep.data.toList)++vu rep.data.toList (s2.size-(p2+1)) true (List.drop (p2+1) s2.data.toList)=ANS:=H5.out;exact h
        ·have hkz:¬((K2:Int)=1):=oA
         have hkb:((K2:Int)==1)=false:=by simp;omega
         have H5:=HG.out (fun h=>hk h.2)
         go_wp2_with (go_at_call 149;go_must (refine cD.mono ?_;rintro e W7 ⟨rfl,b7⟩))
         have cW:=q34 w.heap.size (Lib.byteCells acc) (s2.extract p2 (p2+K2)) W7 (qzu hI b7) (by rw[H1.out.2.2.1,hxz];exact HM.out.2.2.2.2.2.2.2.2) (Nat.le_trans hbs b7.size)
         go_wp2_with (go_at_call 167;go_must (refine cW.mono ?_;rintro e W8 ⟨rfl,⟨h8,b8,-⟩,-⟩))
         go_roundg g2
         case measure=>exact Nat.lt_succ_self _
         case rel=>
          refine⟨p2+K2,acc++(s2.data.toList.drop p2).take K2,false,rfl,by first|exact vI p2 K2|exact(congrArg (Value.int .i64) HWK.out).trans (vI p2 K2),Or.inr ?_,(hbw.trans (b7.mono hbs)).trans b8,H5,HM.out.2.1,hwn2,?_⟩
          ·rw[Lib.byteCells_append,← H1.out.2.1,← Lib.strCells_eq];exact h8
          ·rw[qM,← H1.out.2.1,← Lib.size_eq,hxz];exact HM.out.2.2.2.2.1
      ·
       obtain rfl:p2=s2.size:=oA
       have cS:=z01 w.heap.size acc wr hI hbs
       go_wp2_with (go_at_call 169;go_must (refine cS.mono ?_;rintro e W8 ⟨rfl,_,b8⟩))
       go_ret
       refine⟨?_,hbw.trans b8⟩;rw[Lib.size_eq,List.drop_length,xa,List.append_nil]at hacc;subst hacc;rfl
    ·have hkz:¬((K:Int)=1):=oA
     have hkb:((K:Int)==1)=false:=by simp;omega
     have hs3:=HS.out (fun h=>hk h.2)
     go_wp2_with (go_at_call 149;go_must (refine cD.mono ?_;rintro e W3 ⟨rfl,b3⟩))
     go_roundg g'
     case measure=>omega
     case rel=>exact⟨rfl,pos+K,(b3.block _ (by show _<W.heap.size;omega)).trans hfr2,(b3.block _ (by show _<W.heap.size;omega)).trans hit2,hbw2.trans (b3.mono (by show _<=W.heap.size;omega)),hs3,oA,hwn⟩
   ·have h5':¬((R:Int)=65533):=oA
    have hs3:=HS.out (fun h=>h5 h.1)
    go_wp2
    go_roundg g'
    case measure=>omega
    case rel=>exact⟨rfl,pos+K,hfr2,hit2,hbw2,hs3,oA,hwn⟩
  ·
   obtain rfl:pos=s.size:=oA
   have hnx:∀ty,(Instr.next (.pointer (some ⟨w.heap.size+1,0,none⟩)) true ty).run Tryz.prog wr=_:=fun ty=>Lib.run_next_end_at wr (w.heap.size+1) s s.size ty hit hlt
   have cC:=zfq w.heap.size none 0 0 wr (by rw[Lib.cell_of_heap hfr];rfl)
   go_wp2_with (go_at_call 383;go_must (refine cC.mono ?_;rintro e W' ⟨rfl,rfl⟩))
   go_ret
   refine⟨?_,hbw⟩;rw[← hsp,← ac,List.drop_length,List.take_length,xa,List.append_nil];rfl
end Go.Proofs.ToValid
namespace Go.Sym
open Go.Proofs Go.RowKit
open Go.Proofs.Tryz
variable[LC]
def vg(t:List UInt8):Bool:=(List.range 256).all fun c=>match t[c]? with|some x=>Nat.beq x.toNat (Lib.firstT c)|none=>false
def vh(t:List (UInt8×UInt8)):Bool:=(List.range 16).all fun c=>match t[c]? with|some x=>Nat.beq x.1.toNat (Lib.accLo c)&&Nat.beq x.2.toNat (Lib.accHi c)|none=>false
def q3s{G:Gh}{w:World}(hm:bp G [] w){t0:List UInt8}{t1:List (UInt8×UInt8)}(h0:LC.glob 0=some ⟨.byte,t0⟩)(h1:LC.glob 1=some ⟨.prod .byte .byte,t1⟩)(e0:vg t0=true)(e1:vh t1=true):Lib.Utf8Tabs 0 1 w:=by
 refine⟨fun c hc => ?_,fun i hi => ?_⟩
 ·have h:=List.all_eq_true.1 e0 c (List.mem_range.2 hc)
  cases hx:t0[c]? with
  |none=>rw[hx]at h;cases h
  |some x=>
   rw[hx]at h;have ha:G.imm 0 (c*1)=some (.int .u8 x.toNat):=hm.tab.1 _ _ _ h0 c x hx;rw[Nat.mul_one]at ha;rw[hm.agree _ _ _ ha,qN h]
 ·have h:=List.all_eq_true.1 e1 i (List.mem_range.2 hi)
  cases hx:t1[i]? with
  |none=>rw[hx]at h;cases h
  |some x=>
   rw[hx]at h;simp only[qA]at h;have ha:G.imm 1 (i*2)=some (.int .u8 x.1.toNat)/\G.imm 1 (i*2+1)=some (.int .u8 x.2.toNat):=hm.tab.1 _ _ _ h1 i x hx;rw[Nat.mul_comm]at ha;exact⟨by rw[hm.agree _ _ _ ha.1,qN h.1],by rw[hm.agree _ _ _ ha.2,qN h.2]⟩
def z1i{G:Gh}{w:World}(hm:bp G [] w){t0:List UInt8}{t1:List (UInt8×UInt8)}(h0:LC.glob 0=some ⟨.byte,t0⟩)(h1:LC.glob 1=some ⟨.prod .byte .byte,t1⟩)(e0:vg t0=true)(e1:vh t1=true)(s o:Bs)(d1:s.length<=1000000)(d2:o.length<=1000) :
  Calls Tryz.prog 376 #[.string ⟨s.toArray⟩,.string ⟨o.toArray⟩] w fun e w'=>e = .returned (.string ⟨(vu o s.length false s).toArray⟩)/\cg w w':=by
 refine(ToValid.tovalid ⟨s.toArray⟩ ⟨o.toArray⟩ w (by rw[il];exact d1) (by rw[il];exact d2) (q3s hm h0 h1 e0 e1)).mono ?_
 rintro e w' ⟨rfl,hw⟩
 exact⟨by rw[il],cg.of_below hw⟩
def zlv:IF:=⟨.fn 376,[.h .str,.h .str],[],_,RS.mk (.h .str) []⟩
def z1j{t0:List UInt8}{t1:List (UInt8×UInt8)}(h0:LC.glob 0=some ⟨.byte,t0⟩)(h1:LC.glob 1=some ⟨.prod .byte .byte,t1⟩)(e0:vg t0=true)(e1:vh t1=true):(zlv.e qf6).Sound Tryz.prog:=fun d d' r h=>by
 obtain⟨s,o,_⟩:=d;have h:qf6 s o=some r:=h;unfold qf6 at h;cases hd:decide (List.length (α:=UInt8) s<=1000000/\List.length (α:=UInt8) o<=1000)<;>rw[hd]at h<;>simp only[qT,qF,reduceCtorEq]at h
 have h:=qJ h;subst h;obtain⟨d1,d2⟩:=of_decide_eq_true hd;refine⟨call376,ce.data fun w G vs hm hr => ?_⟩
 match vs,hr with
 |[u,v],⟨h1',h2',_⟩=>
  have h1':u = .string ⟨s.toArray⟩:=h1';have h2':v = .string ⟨o.toArray⟩:=h2';subst h1' h2';exact(z1i hm h0 h1 e0 e1 s o d1 d2).mono fun e w'⟨he,hw⟩=>⟨_,he,rfl,hw⟩
def z1w{G:Gh}{w:World}(hm:bp G [] w){t0:List UInt8}{t1:List (UInt8×UInt8)}(h0:LC.glob 0=some ⟨.byte,t0⟩)(h1:LC.glob 1=some ⟨.prod .byte .byte,t1⟩)(e0:vg t0=true)(e1:vh t1=true)(s:Bs)(d1:s.length<=9223372036854775807) :
  Calls Tryz.prog 67 #[.string ⟨s.toArray⟩] w fun e w'=>e = .returned (.bool (Lib.validD s))/\cg w w':=by
 refine(Any.utf8_ValidString Tryz.lays196 ⟨s.toArray⟩ w (by rw[il];exact d1) (q3s hm h0 h1 e0 e1)).mono ?_
 rintro e w' ⟨rfl,hw⟩
 exact⟨rfl,cg.of_below hw⟩
def qda:IF:=⟨.fn 67,[.h .str],[],_,RS.mk (.h .bool) []⟩
def qiv{t0:List UInt8}{t1:List (UInt8×UInt8)}(h0:LC.glob 0=some ⟨.byte,t0⟩)(h1:LC.glob 1=some ⟨.prod .byte .byte,t1⟩)(e0:vg t0=true)(e1:vh t1=true):(qda.e im).Sound Tryz.prog:=fun d d' r h=>by
 obtain⟨s,_⟩:=d;have h:im s=some r:=h;unfold im at h;cases hd:decide (List.length (α:=UInt8) s<=9223372036854775807)<;>rw[hd]at h<;>simp only[qT,qF,reduceCtorEq]at h
 have h:=qJ h;subst h;have d1:=of_decide_eq_true hd;refine⟨call67,ce.data fun w G vs hm hr => ?_⟩
 match vs,hr with
 |[u],⟨h1',_⟩=>
  have h1':u = .string ⟨s.toArray⟩:=h1';subst h1';exact(z1w hm h0 h1 e0 e1 s d1).mono fun e w'⟨he,hw⟩=>⟨_,he,rfl,hw⟩
end Go.Sym
namespace Go.Sym
open Go.RowKit
variable[LC]
section
variable{P:Program}{vhe:World}{vg8:Gh}{vhb:List (Nat×ag)}{G:Gh}{s:St}{a:Act}{w:World}
def ai.drewOk(hr:ai vhe vg8 vhb G s a w):ai vhe vg8 vhb G s a w.drew:=
 ⟨hr.defers,hr.size,hr.frame,hr.fresh,⟨⟨hr.fin.mem.agree,hr.fin.mem.one,hr.fin.mem.holds,hr.fin.mem.apart,LC.mono (fun _ _ _ h=>h) (fun _ _ _ _=>rfl) hr.fin.mem.tab⟩,⟨hr.fin.bel.os,hr.fin.bel.tape,hr.fin.bel.output,hr.fin.bel.size,hr.fin.bel.block⟩,hr.fin.imm_le,hr.fin.imm_new,hr.fin.base,hr.fin.keep,hr.fin.keepOwn⟩⟩
def ak.setAt{G:Gh}{x:AV}{v:Value}(hx:aj x G v):∀{xs:List AV}{vs:List Value}{i:Nat},ak xs G vs->ak (xs.set i x) G (vs.set i v)|[],[],_,_=>trivial|_::_,_::_,0,h=>⟨hx,h.2⟩|_::_,_::_,_+1,h=>⟨h.1,ak.setAt hx h.2⟩|[],_::_,_,h=>h.elim|_::_,[],_,h=>h.elim
def ai.setCellAt(hr:ai vhe vg8 vhb G s a w){n B i:Nat}{cs:List AV}{T:TypeId}{x:AV}{v:Value}(hn:af s.hp n=some (.cells cs T))(hB:G.box n=some B)(hx:aj x G v)(h1:v.oneCell'=true) :
  ai vhe vg8 vhb G { s with hp:=(n,.cells (cs.set i x) T)::s.hp } a (w.setCell ⟨B,i,none⟩ v):=by
 obtain⟨B',vs,k1,k2,k3,k4,k5⟩:=hr.fin.mem.holds n _ hn;rw[hB]at k1;cases k1;have hheap:(w.setCell ⟨B,i,none⟩ v).heap[B]? = some (.cells (vs.setIfInBounds i v) T (0,0)):=by
  simp[World.setCell,Array.getElem?_modify,k2]
 have hbel:b9 (fun b=>b=B) w (w.setCell ⟨B,i,none⟩ v):=
  ⟨rfl,rfl,rfl,by simp[World.setCell],fun k _ hne=>by
   simp only[World.setCell,Array.getElem?_modify];rw[qW (fun e=>hne e.symm)]⟩
 have hat:∀cs',G.at n (.cells cs' T)=some B:=fun _=>hB
 refine⟨hr.defers,hr.size,hr.frame,fun m hm hl=>hr.fresh m hm (by
  simp only[af]at hl;cases hb:Nat.beq n m
  ·rw[hb]at hl;exact hl
  ·rw[hb]at hl;cases hl),hr.fin.update hn (hat cs) (hat _) hbel ⟨B,_,hB,hheap,?_,?_,k5⟩ k5⟩
 ·rw[Array.toList_setIfInBounds];exact ak.setAt hx k3
 ·intro u hu;rw[Array.toList_setIfInBounds]at hu;rcases List.mem_or_eq_of_mem_set hu with hu|hu
  ·exact k4 u hu
  ·rw[hu];exact h1
def ai.cellAt(hr:ai vhe vg8 vhb G s a w){n B i:Nat}{cs:List AV}{T:TypeId}{x:AV}(hn:af s.hp n=some (.cells cs T))(hB:G.box n=some B)(hx:cs[i]? = some x) :
  ∃v,w.cell? ⟨B,i,none⟩=some v/\aj x G v/\w.frozen? ⟨B,i,none⟩=false:=by
 obtain⟨B',vs,k1,k2,k3,k4,k5⟩:=hr.fin.mem.holds n _ hn;rw[hB]at k1;cases k1;obtain⟨v,v1,v2⟩:=jk k3 hx;refine⟨v,cell_of_heap k2 v1,v2,?_⟩;simp only[World.frozen?,k2];simp
def ai.start{G:Gh}{hp:List (Nat×ag)}{w:World}{N:NM}(hm:bp G hp w)(h:∀n b,af hp n=some b->ar N n=some n/\dx (ar N) b=b)(hN:∀n,af hp n=none->az N n=none)(k:Nat) :
  ai w (G.view N) hp (G.view N) { n:=k,fr:=[],hp:=hp,nx:=64,df:=[] } { tmps:=Array.replicate k undef,defers:=[] } w:=by
 refine⟨⟨[],rfl,rfl⟩,oC,fun i x hx=>(by cases hx),fun m _ hl => ?_,pa (hm.only h)⟩
 have:=hN m hl;simp[Gh.view,this]
end
end Go.Sym
set_option linter.unusedVariables false
namespace Go.Proofs.Repl
open Go.Shelf Go.RowKit Go.Lib Go.Sym
def rv(a b:UInt8)(ga gb ca cb:Nat)(c:UInt8):Value:=if c=a then .slice (some ⟨ga,0,none⟩) 2 ca else if c=b then .slice (some ⟨gb,0,none⟩) 2 cb else .slice none 0 0
structure lf(R:Nat)(a b a1 a2 b1 b2:UInt8)(w:World):Prop where
 ex:∃ga gb gt ca cb ct,(∀c:UInt8,w.cell? ⟨R,c.toNat,none⟩=some (rv a b ga gb ca cb c))/\w.cell? ⟨R,256,none⟩=some (.slice (some ⟨gt,0,none⟩) 2 ct) /\
  w.cell? ⟨gt,0,none⟩=some (.string ⟨#[b]⟩)/\w.cell? ⟨gt,1,none⟩=some (.string ⟨#[a]⟩) /\
  w.cell? ⟨ga,0,none⟩=some (.int .u8 a1.toNat)/\w.cell? ⟨ga,1,none⟩=some (.int .u8 a2.toNat)/\w.cell? ⟨gb,0,none⟩=some (.int .u8 b1.toNat)/\w.cell? ⟨gb,1,none⟩=some (.int .u8 b2.toNat)
def lf.below{R:Nat}{a b a1 a2 b1 b2:UInt8}{w w':World}(h:lf R a b a1 a2 b1 b2 w)(hb:Below w.heap.size w w'):lf R a b a1 a2 b1 b2 w':=by
 have k:∀{p:Addr}{v:Value},w.cell? p=some v->w'.cell? p=some v:=fun{p v} hc=>(hb.cell (World.block_lt_of_cell? _ _ hc)).trans hc
 obtain⟨ga,gb,gt,ca,cb,ct,h1,h2,h3,h4,h5,h6,h7,h8⟩:=h.ex;exact⟨ga,gb,gt,ca,cb,ct,fun c=>k (h1 c),k h2,k h3,k h4,k h5,k h6,k h7,k h8⟩
def zf2(s:ByteArray)(c:UInt8)(w:World) :
  Calls Tryz.prog 362 #[.string s,.string ⟨#[c]⟩] w fun e w'=>e = .returned (.int .i64 (Lib.countByte s.data.toList c))/\w'=w:=
 Any.strings_Count_one Tryz.lays138 s c w
def zzq{w:World}{g:Nat}{t:TypeId}{N:Nat}{f:Nat->Value}{cur:Array Value}(hg:w.heap[g]? = some (.cells cur t (0,0)))(hz:cur.size=N)(hc:∀i,i<N->cur[i]? = some (f i)){j:Nat}(hj:j+2<=N)(v1 v2:Value) :
  (w.setRow g (cur.toList.take j++[v1,v2]++cur.toList.drop (j+2)).toArray).rowIs g t N (fun i=>if i=j then v1 else if i=j+1 then v2 else f i):=by
 have hl:cur.toList.length=N:=by simpa using hz
 refine⟨_,setRow_heap w g cur _ t _ hg,oD,fun i hi => ?_⟩
 simp only[List.getElem?_toArray];rw[qS];by_cases h1:i<j
 ·rw[List.getElem?_append_left oD,List.getElem?_take,qX h1,qW,qW,← hc i hi];simp
 ·rw[List.getElem?_append_right oD,show(cur.toList.take j).length=j by simp;omega]
  by_cases h2:i=j
  ·subst h2;simp
  ·by_cases h3:i=j+1
   ·subst h3;rw[qW h2,qX rfl,show j+1-j=1 by omega];rfl
   ·rw[qW h2,qW h3,List.getElem?_append_right oD,List.getElem?_drop,← hc i hi]
    simp;congr 1;omega
def qy3(b o n:Nat):(⟨b,o,none⟩:Addr).add n=⟨b,o+n,none⟩:=by unfold Addr.add;split<;>simp_all
def zf1{w:World}{G ga j M c:Nat}{f:Nat->Value}{x1 x2:UInt8}(hrow:w.rowIs G 5 M f)(hj:j+2<=M)(h0:w.cell? ⟨ga,0,none⟩=some (.int .u8 x1.toNat))(h1:w.cell? ⟨ga,1,none⟩=some (.int .u8 x2.toNat)) :
  ∃ROW,(Builtin.copy_ #[44,44] 3 #[.slice (some ⟨G,j,none⟩) (M-j) (M-j),.slice (some ⟨ga,0,none⟩) 2 c]).run Tryz.prog w = .ok (.int .i64 2) (w.setRow G ROW) /\
   (w.setRow G ROW).rowIs G 5 M (fun i=>if i=j then .int .u8 x1.toNat else if i=j+1 then .int .u8 x2.toNat else f i):=by
 obtain⟨cur,k1,k2,k3⟩:=hrow;refine⟨_,?_,zzq k1 k2 k3 hj _ _⟩;exact run_copy_row (P:=Tryz.prog) w 44 44 3 5 G j (M-j) (M-j) ⟨ga,0,none⟩ 2 c cur 5 [.int .u8 x1.toNat,.int .u8 x2.toNat] Tryz.underlying44 oB k1
  (by show 2=Nat.min 2 (M-j);exact(Nat.min_eq_left oA).symm)
  (fun i v hv=>by
   rw[qy3]
   match i,hv with
   |0,hv=>cases hv;exact h0
   |1,hv=>cases hv;exact h1
   | i+2,hv=>cases hv)
  (by show j+2<=cur.size;omega) (fun v hv=>by
   rcases List.mem_cons.1 hv with rfl|hv
   ·rfl
   ·rcases List.mem_cons.1 hv with rfl|hv
    ·rfl
    ·cases hv)
def bv(l:Bs)(j:Nat):Value := .int .u8 (l.getD j 0).toNat
def zfk(l m:Bs)(j:Nat)(h:j<l.length):bv (l++m) j=bv l j:=by unfold bv;rw[List.getD_eq_getElem?_getD,List.getD_eq_getElem?_getD,List.getElem?_append_left h]
def zfj(l m:Bs)(c:UInt8):bv (l++c::m) l.length = .int .u8 c.toNat:=by unfold bv;rw[List.getD_eq_getElem?_getD,List.getElem?_append_right (wF _),Nat.sub_self];rfl
def ztd(l m:Bs)(c d:UInt8):bv (l++c::d::m) (l.length+1) = .int .u8 d.toNat:=by unfold bv;rw[List.getD_eq_getElem?_getD,List.getElem?_append_right oA,show l.length+1-l.length=1 by omega];rfl
def qg5(l:Bs)(j:Nat)(h:l.length<=j:=by omega):bv l j = .int .u8 0:=by unfold bv;rw[List.getD_eq_getElem?_getD,List.getElem?_eq_none h];rfl
def zfl(l:Bs)(c d:UInt8)(i:Nat):(if i=l.length then Value.int .u8 c.toNat else if i=l.length+1 then .int .u8 d.toNat else bv l i)=bv (l++[c,d]) i:=by
 by_cases h:i<l.length
 ·rw[qW,qW,zfk _ _ _ h]
 ·by_cases h1:i=l.length
  ·subst h1;rw[qX rfl,zfj]
  ·by_cases h2:i=l.length+1
   ·subst h2;rw[qW h1,qX rfl,ztd]
   ·rw[qW h1,qW h2,qg5 _ _,qg5 _ _ oD]
def zte(l:Bs)(c:UInt8)(i:Nat):(if i=l.length then Value.int .u8 c.toNat else bv l i)=bv (l++[c]) i:=by
 by_cases h:i<l.length
 ·rw[qW,zfk _ _ _ h]
 ·by_cases h1:i=l.length
  ·subst h1;rw[qX rfl,zfj]
  ·rw[qW h1,qg5 _ _,qg5 _ _ oD]
def vI2(p:Nat):Value.int .i64 ((p:Int)+2) = .int .i64 ((p+2:Nat):Int):=by rw[Int.natCast_add];rfl
def qe(p:Nat):Value.int .i64 ((p:Int)+1) = .int .i64 ((p+1:Nat):Int):=by rw[Int.natCast_add];rfl
def zmc(n:Nat)(h:n<=4000000:=by omega):wrap64 (n:Int)=(n:Int):=by unfold wrap64;omega
def zxm(p:Addr)(n c:Nat)(w:World):(binOp .neq 44 (.slice (some p) n c) (.slice none 0 0)).run Tryz.prog w = .ok (.bool true) w:=oB
def zxl(w:World):(binOp .neq 44 (.slice none 0 0) (.slice none 0 0)).run Tryz.prog w = .ok (.bool false) w:=oB
def zu6(p:Addr)(n c:Nat)(w:World):(binOp .eql 44 (.slice (some p) n c) (.slice none 0 0)).run Tryz.prog w = .ok (.bool false) w:=oB
def zu5(w:World):(binOp .eql 44 (.slice none 0 0) (.slice none 0 0)).run Tryz.prog w = .ok (.bool true) w:=oB
set_option maxHeartbeats 4000000 in
set_option maxRecDepth 1000000 in
def zs8(R:Nat)(a b a1 a2 b1 b2:UInt8)(s:ByteArray)(w:World)(hab:a≠b)(hs:s.size<=1000000)(hB:lf R a b a1 a2 b1 b2 w) :
  Calls Tryz.prog 431 #[.pointer (some ⟨R,0,none⟩),.string s] w fun e w'=>e = .returned (.string ⟨(gc a b [a1,a2] [b1,b2] s.data.toList).toArray⟩)/\Below w.heap.size w w':=by
 obtain⟨ga,gb,gt,ca,cb,ct,-,hT,ht0,ht1,-⟩:=hB.ex;obtain⟨L,hL⟩:∃L,s.data.toList=L:=⟨_,rfl⟩;have ac:L.length=s.size:=by rw[← hL];exact(Lib.size_eq s).symm
 rw[hL];have HB:Aside (lf R a b a1 a2 b1 b2 w):=hB;clear hB;have cBc:=fun w=>zf2 s b w
 have cAc:=fun w=>zf2 s a w
 rw[hL]at cBc cAc;obtain⟨Z,hZ⟩:∃Z,iq a b L=Z:=⟨_,rfl⟩;have HZ:Aside (iq a b L=Z):=hZ;have hZ2:Z<=2000000:=by
  rw[← hZ];unfold iq;have h1:=List.count_le_length (a:=a) (l:=L);have h2:=List.count_le_length (a:=b) (l:=L);omega
 clear hZ;obtain⟨M,hM⟩:∃M,s.size+Z=M:=⟨_,rfl⟩;have HM:Aside (s.size+Z=M):=hM;have hMb:M<=3000000:=oA
 clear hM;have hn1:=zxm;have hn2:=zxl
 go_enter Tryz.func431,Tryz.ntmps431
 go_upto_if 26 with(fail)
 go_cut [5,6] (fun s5 s6 wx=>s5 = .int .i64 (M:Nat)/\s6 = .bool (decide (0<Z))/\Below w.heap.size w wx)
 case first=>
  obtain⟨X,hX⟩:∃X,L.count b=X:=⟨_,rfl⟩;obtain⟨Y,hY⟩:∃Y,L.count a=Y:=⟨_,rfl⟩;have HXY:Aside (Z=Y+X):=by show Z=Y+X;rw[← HZ.out];unfold iq;rw[hX,hY]
  have hXl:X<=s.size:=by rw[← hX,← ac];exact List.count_le_length
  have hYl:Y<=s.size:=by rw[← hY,← ac];exact List.count_le_length
  have cBc:∀w,Calls Tryz.prog 362 #[.string s,.string ⟨#[b]⟩] w fun e w'=>e = .returned (.int .i64 (X:Nat))/\w'=w:=fun w=>by rw[← hX];exact cBc w
  have cAc:∀w,Calls Tryz.prog 362 #[.string s,.string ⟨#[a]⟩] w fun e w'=>e = .returned (.int .i64 (Y:Nat))/\w'=w:=fun w=>by rw[← hY];exact cAc w
  clear hX hY
  go_wp2
  ·rename_i h16;clear h16
   go_loopg [5,6,32] 2 (fun gk s5 s6 s32 wx=>Below w.heap.size w wx/\((s32 = .int .i64 0/\s5 = .int .i64 (s.size:Nat)/\s6 = .bool false/\gk=2)\/(s32 = .int .i64 1/\s5 = .int .i64 ((s.size+X:Nat):Int)/\s6 = .bool (decide (0<X))/\gk=1)\/(s32 = .int .i64 2/\s5 = .int .i64 ((s.size+(Y+X):Nat):Int)/\s6 = .bool (decide (0<Y+X))/\gk=0)))
   case atStart=>exact⟨Below.refl _ _,Or.inl ⟨rfl,rfl,rfl,rfl⟩⟩
   case round=>
    obtain⟨hbw,h⟩:=hrel;have ht0':wr.cell? ⟨gt,0,none⟩=some (.string ⟨#[b]⟩):=(hbw.cell (World.block_lt_of_cell? _ _ ht0)).trans ht0;have ht1':wr.cell? ⟨gt,1,none⟩=some (.string ⟨#[a]⟩):=(hbw.cell (World.block_lt_of_cell? _ _ ht1)).trans ht1;clear ht0 ht1;rcases h with⟨rfl,rfl,rfl,rfl⟩|⟨rfl,rfl,rfl,rfl⟩|⟨rfl,rfl,rfl,rfl⟩
    ·have cX:=cBc wr;by_cases h0:X=0
     ·subst h0
      go_wp2_with (go_at_call 362;go_must (refine cX.mono ?_;rintro e W1 ⟨rfl,rfl⟩))
      go_roundg 1
      case measure=>omega
      case rel=>exact⟨hbw,Or.inr (Or.inl ⟨rfl,rfl,rfl,rfl⟩)⟩
     ·have hz:¬((X:Int)=0):=oA
      obtain⟨ga',gb',gt',ca',cb',ct',hR,-⟩:=(HB.out.below hbw).ex;have hRb:wr.cell? ⟨R,b.toNat,none⟩=some (.slice (some ⟨gb',0,none⟩) 2 cb'):=by rw[hR b];unfold rv;rw[qW (fun h=>hab h.symm),qX rfl]
      clear hR;have g0:∀h,(⟨#[b]⟩:ByteArray)[0]'h=b:=fun _=>rfl
      have g1:(b.toNat:Int)<256:=by have:=b.toNat_lt;omega
      go_wp2_with (go_at_call 362;go_must (refine cX.mono ?_;rintro e W1 ⟨rfl,rfl⟩))
      go_region
      all_goals go_wp2
      go_roundg 1
      case measure=>omega
      case rel=>exact⟨hbw.drew,Or.inr (Or.inl ⟨rfl,congrArg _ oA,by rw[decide_eq_true (Nat.pos_of_ne_zero h0)],rfl⟩)⟩
    ·have cX:=cAc wr;by_cases h0:Y=0
     ·subst h0
      go_wp2_with (go_at_call 362;go_must (refine cX.mono ?_;rintro e W1 ⟨rfl,rfl⟩))
      go_roundg 0
      case measure=>omega
      case rel=>exact⟨hbw,Or.inr (Or.inr ⟨rfl,congrArg _ oA,by rw[wO],rfl⟩)⟩
     ·have hz:¬((Y:Int)=0):=oA
      obtain⟨ga',gb',gt',ca',cb',ct',hR,-⟩:=(HB.out.below hbw).ex;have hRb:wr.cell? ⟨R,a.toNat,none⟩=some (.slice (some ⟨ga',0,none⟩) 2 ca'):=by rw[hR a];unfold rv;rw[qX rfl]
      clear hR;have g0:∀h,(⟨#[a]⟩:ByteArray)[0]'h=a:=fun _=>rfl
      have g1:(a.toNat:Int)<256:=by have:=a.toNat_lt;omega
      go_wp2_with (go_at_call 362;go_must (refine cX.mono ?_;rintro e W1 ⟨rfl,rfl⟩))
      go_region
      all_goals go_wp2
      go_roundg 0
      case measure=>omega
      case rel=>exact⟨hbw.drew,Or.inr (Or.inr ⟨rfl,congrArg _ oA,by rw[decide_eq_true (show 0<Y+X by omega)],rfl⟩)⟩
    ·go_wp2
     go_meet
     case rel=>exact⟨by rw[← HM.out,HXY.out],by rw[HXY.out],hbw⟩
  ·rename_i h16;clear h16
   go_loopg [5,6,10] s.size (fun gk s5 s6 s10 wx=>wx=w/\∃k C:Nat,s10 = .int .i64 k/\s5 = .int .i64 ((s.size+C:Nat):Int)/\s6 = .bool (decide (0<C))/\k<=s.size/\s.size<=k+gk/\Aside (iq a b (L.take k)=C)/\C<=2000000)
   case atStart=>exact⟨rfl,0,0,rfl,rfl,rfl,Nat.zero_le _,oA,rfl,oA⟩
   case round=>
    obtain⟨rfl,k,C,rfl,rfl,rfl,hk,hgk,HC,hC⟩:=hrel;by_cases hk2:k<s.size
    ·obtain⟨g,rfl⟩:∃g,gk=g+1:=⟨gk-1,oA⟩
     obtain⟨c,hc⟩:∃c,s[k]'hk2=c:=⟨_,rfl⟩;have hstep:Aside (iq a b (L.take (k+1))=C+(if c=a then 1 else if c=b then 1 else 0)):=by
      have h1:k<L.length:=by rw[ac];exact hk2
      have h2:L[k]'h1=c:=by subst hL;exact hc
      show _=_;rw[zlk L k h1,qz7,HC.out,qz8 hab,h2]
     have hC3:Aside (iq a b (L.take (k+1))<=2000000):=by
      show _<=_;unfold iq;have h1:=List.count_le_length (a:=a) (l:=L.take (k+1));have h2:=List.count_le_length (a:=b) (l:=L.take (k+1));rw[List.length_take]at h1 h2;omega
     obtain⟨ga',gb',gt',ca',cb',ct',hR,-⟩:=HB.out.ex;have hRc:=hR c;unfold rv at hRc;clear hR;have g1:(c.toNat:Int)<256:=by have:=c.toNat_lt;omega
     by_cases h1:c=a
     ·rw[qX h1]at hRc;rw[qX h1]at hstep;clear h1
      go_wp2
      go_roundg g
      case measure=>omega
      case rel=>exact⟨rfl,k+1,C+1,congrArg _ oA,congrArg _ oA,by rw[decide_eq_true (Nat.succ_pos C)],oA,oA,hstep,by have:=hC3.out;rw[hstep.out]at this;exact this⟩
     ·rw[qW h1]at hRc;rw[qW h1]at hstep;by_cases h2:c=b
      ·rw[qX h2]at hRc;rw[qX h2]at hstep;clear h1 h2
       go_wp2
       go_roundg g
       case measure=>omega
       case rel=>exact⟨rfl,k+1,C+1,congrArg _ oA,congrArg _ oA,by rw[decide_eq_true (Nat.succ_pos C)],oA,oA,hstep,by have:=hC3.out;rw[hstep.out]at this;exact this⟩
      ·rw[qW h2]at hRc;rw[qW h2]at hstep;clear h1 h2
       go_wp2
       go_roundg g
       case measure=>omega
       case rel=>exact⟨rfl,k+1,C,congrArg _ oA,congrArg _ oA,rfl,oA,oA,hstep,hC⟩
    ·obtain rfl:k=s.size:=oA
     have HC2:C=Z:=by rw[← HC.out,← ac,List.take_length,HZ.out]
     subst HC2
     go_wp2
     go_meet
     case rel=>exact⟨by rw[HM.out],rfl,Below.refl _ _⟩
 case rest=>
  obtain⟨rfl,hs6,hbw⟩:=hcut;cases h0:decide (0<Z)<;>rw[h0]at hs6<;>subst hs6
  ·have hz0:=of_decide_eq_false h0;have hid:=zgj hab [a1,a2] [b1,b2] L (by rw[HZ.out];omega)
   clear h0 hz0;have HI:Aside (gc a b [a1,a2] [b1,b2] L=L):=hid;clear hid
   go_wp2
   go_ret
   exact⟨by rw[HI.out,← hL];rfl,hbw⟩
  ·clear h0;have hmk:∀w:World,(Instr.makeSlice 44 (.int .i64 (M:Int)) (.int .i64 (M:Int))).run Tryz.prog w = .ok (.slice (some ⟨w.heap.size,0,none⟩) M M) (w.alloc (.cells (madeCells #[.int .u8 0] M) 5)):=fun w=>
    run_make_row' (P:=Tryz.prog) 44 5 (.int .u8 0) 1 Tryz.underlying44 oB rfl .i64 .i64 M oA oA w
   go_wp2
   obtain⟨G,hG⟩:∃G,wc.heap.size=G:=⟨_,rfl⟩;have hrow0:=World.rowIs_made wc (.int .u8 0) M 5;have hGle:w.heap.size<=G:=by rw[← hG];exact hbw.size
   have hbw1:=hbw.alloc hbw.size (Obj.cells (madeCells #[.int .u8 0] M) 5);rw[hG]at hrow0 ⊢;have hLM:Aside (∀k,(gc a b [a1,a2] [b1,b2] (L.take k)).length<=M):=fun k=>by
    have h1:gc a b [a1,a2] [b1,b2] L=gc a b [a1,a2] [b1,b2] (L.take k)++gc a b [a1,a2] [b1,b2] (L.drop k):=by rw[← qnq,List.take_append_drop]
    have h2:=congrArg List.length h1;rw[qnr hab,ac,HZ.out,HM.out,qM]at h2;omega
   go_loopg [13,14] s.size (fun gk s13 s14 wx=>∃k j:Nat,s13 = .int .i64 j/\s14 = .int .i64 k/\k<=s.size/\s.size<=k+gk/\j<=M/\Aside ((gc a b [a1,a2] [b1,b2] (L.take k)).length=j)/\Aside (wx.rowIs G 5 M (bv (gc a b [a1,a2] [b1,b2] (L.take k))))/\Below w.heap.size w wx)
   case atStart=>exact⟨0,0,rfl,rfl,Nat.zero_le _,oA,Nat.zero_le _,rfl,hrow0.congr (fun i _=>(qg5 [] i (Nat.zero_le _)).symm),hbw1⟩
   case round=>
    obtain⟨k,j,rfl,rfl,hk,hgk,hjM,HJ,hrow,hbx⟩:=hrel;clear hrow0 hbw1;by_cases hk2:k<s.size
    ·obtain⟨g,rfl⟩:∃g,gk=g+1:=⟨gk-1,oA⟩
     have HG:Aside (s.size<=k+1+g):=by show _<=_;omega
     clear hgk hk;obtain⟨c,hc⟩:∃c,s[k]'hk2=c:=⟨_,rfl⟩;have hk1:k<L.length:=by rw[ac];exact hk2
     have hLk:L[k]'hk1=c:=by subst hL;exact hc
     have hstep:Aside (gc a b [a1,a2] [b1,b2] (L.take (k+1))=gc a b [a1,a2] [b1,b2] (L.take k)++tn a b [a1,a2] [b1,b2] c):=by
      show _=_;rw[zlk L k hk1,qnq,hLk];show _++(tn a b [a1,a2] [b1,b2] c++[])=_;rw[List.append_nil]
     have hfit:Aside (j+(tn a b [a1,a2] [b1,b2] c).length<=M):=by
      have:=hLM.out (k+1);rw[hstep.out,qM,HJ.out]at this;exact this
     clear hLk hk1;obtain⟨ga',gb',gt',ca',cb',ct',hR,hT',ht0',ht1',ha0,ha1,hb0,hb1⟩:=(HB.out.below hbx).ex;have hRc:=hR c;unfold rv at hRc;clear hR hT' ht0' ht1';have g1:(c.toNat:Int)<256:=by have:=c.toNat_lt;omega
     unfold tn at hstep hfit;by_cases h1:c=a
     ·rw[qX h1]at hRc hstep hfit;have hf2:j+2<=M:=hfit.out;clear h1;have hMj:¬M=j:=oA
      obtain⟨ROW,hcp,hnew⟩:=zf1 (w:=wr.drew) (c:=ca') hrow.out.drew hf2 (by rw[World.cell?_drew];exact ha0) (by rw[World.cell?_drew];exact ha1)
      have HN:Aside (_):=hnew;have HW:Aside (wrap64 ((j:Int)+2)=(j:Int)+2):=by have:=zmc (j+2);rw[Int.natCast_add]at this;exact this
      clear hnew
      go_wp2
      go_region
      all_goals go_wp2
      go_roundg g
      case measure=>exact Nat.lt_succ_self _
      case rel=>exact⟨k+1,j+2,by first|exact vI2 j|exact(congrArg (Value.int .i64) HW.out).trans (vI2 j),qe k,hk2,HG.out,hf2,by show _=_;rw[hstep.out,qM,HJ.out];rfl,World.rowIs.congr HN.out (fun i _=>by rw[hstep.out,← zfl,HJ.out]),below_setRow hbx.drew hGle _⟩
     ·rw[qW h1]at hRc hstep hfit;by_cases h2:c=b
      ·rw[qX h2]at hRc hstep hfit;have hf2:j+2<=M:=hfit.out;clear h1 h2;have hMj:¬M=j:=oA
       obtain⟨ROW,hcp,hnew⟩:=zf1 (w:=wr.drew) (c:=cb') hrow.out.drew hf2 (by rw[World.cell?_drew];exact hb0) (by rw[World.cell?_drew];exact hb1)
       have HN:Aside (_):=hnew;have HW:Aside (wrap64 ((j:Int)+2)=(j:Int)+2):=by have:=zmc (j+2);rw[Int.natCast_add]at this;exact this
       clear hnew
       go_wp2
       go_region
       all_goals go_wp2
       go_roundg g
       case measure=>exact Nat.lt_succ_self _
       case rel=>exact⟨k+1,j+2,by first|exact vI2 j|exact(congrArg (Value.int .i64) HW.out).trans (vI2 j),qe k,hk2,HG.out,hf2,by show _=_;rw[hstep.out,qM,HJ.out];rfl,World.rowIs.congr HN.out (fun i _=>by rw[hstep.out,← zfl,HJ.out]),below_setRow hbx.drew hGle _⟩
      ·rw[qW h2]at hRc hstep hfit;have hf1:j+1<=M:=hfit.out;clear h1 h2;have hcell:wr.cell? ⟨G,j,none⟩=some (bv (gc a b [a1,a2] [b1,b2] (L.take k)) j):=hrow.out.cell oA
       have hfroz:wr.frozen? ⟨G,j,none⟩=false:=hrow.out.frozen j
       go_wp2
       go_roundg g
       case measure=>exact Nat.lt_succ_self _
       case rel=>exact⟨k+1,j+1,qe j,qe k,hk2,HG.out,hf1,by show _=_;rw[hstep.out,qM,HJ.out];rfl,World.rowIs.congr (World.rowIs.set hrow.out j _) (fun i _=>by rw[hstep.out,← zte,HJ.out]),hbx.setCell hGle _⟩
    ·obtain rfl:k=s.size:=oA
     have HT:Aside (L.take s.size=L):=by show _=_;rw[← ac,List.take_length]
     have HE:Aside (∃l,l=gc a b [a1,a2] [b1,b2] L/\l.length=M):=⟨_,rfl,by rw[qnr hab,ac,HZ.out,HM.out]⟩
     obtain⟨E,hE,hEl⟩:=HE.out;have hcv:(convert 44 9 (.slice (some ⟨G,0,none⟩) M M)).run Tryz.prog wr = .ok (.string ⟨E.toArray⟩) wr:=by
      have h:=run_convert_bytes_back (P:=Tryz.prog) wr 44 9 5 ⟨G,0,none⟩ M E Tryz.underlying44 Tryz.underlying5 Tryz.underlying9 (fun i hi=>by
       rw[qy3,wO,hrow.out.cell oA,HT.out,← hE]
       unfold bv;rw[List.getD_eq_getElem?_getD,List.getElem?_eq_getElem hi];rfl)
      rw[hEl]at h;exact h
     have HEq:Aside (E=gc a b [a1,a2] [b1,b2] L):=hE;clear hE hEl
     go_wp2
     go_ret
     exact⟨by rw[← HEq.out];rfl,hbx⟩
end Go.Proofs.Repl
set_option linter.unusedVariables false
namespace Go.Proofs.Repl
open Go.Shelf Go.RowKit Go.Lib Go.Sym
def zv7:(Tryz.prog.info? 9).map (fun i=>(i.zero,i.size,i.bytes))=some (some (Value.string ⟨#[]⟩),1,16):=oB
def mk2(w:World):(Instr.makeSlice 97 (.int .i64 0) (.int .i64 2)).run Tryz.prog w = .ok (.slice (some ⟨w.heap.size,0,none⟩) 0 2) (w.alloc (.cells #[.string ⟨#[]⟩,.string ⟨#[]⟩] 9)):=by
 obtain⟨i,hi,hzz⟩:=Option.map_eq_some_iff.1 zv7;simp only[qP]at hzz;obtain⟨hz,hs,hb⟩:=hzz;have h:=run_make (P:=Tryz.prog) w 97 9 i (.string ⟨#[]⟩) Tryz.underlying97 hi hz .i64 .i64 0 2 oE oE (by rw[hb];decide) oE
 rw[hs,show madeCells (Value.string ⟨#[]⟩).cells (Int.toNat 2*1)=#[.string ⟨#[]⟩,.string ⟨#[]⟩] from oB]at h
 exact h
def zr(V:Value)(j:Nat):Value:=if j=256 then V else .slice none 0 0
def z1(b:UInt8)(g c:Nat)(V:Value)(j:Nat):Value:=if j=b.toNat then .slice (some ⟨g,0,none⟩) 2 c else zr V j
def vg3:Tryz.zeroCells285.toList.length=257:=oB
def vg0:Tryz.zeroCells285.toList.all (fun v=>v.oneCell')=true:=oB
def lx:Option Value->Bool|some (.slice none n c)=>Nat.beq n 0&&Nat.beq c 0|_=>false
def zwf{v:Option Value}(h:lx v=true):v=some (.slice none 0 0):=by
 unfold lx at h;split at h
 ·simp only[qA]at h;rw[qN h.1,qN h.2]
 ·cases h
def vg1:(List.range 257).all (fun j=>lx Tryz.zeroCells285.toList[j]?)=true:=oB
def z0q(w:World)(T:Nat):∃ROW,(storeCells ⟨w.heap.size,0,none⟩ (Tryz.zeroCells285.toList.set 256 (.slice (some ⟨T,0,none⟩) 0 2))).run Tryz.prog (w.alloc (.cells Tryz.zeroCells285 285)) = .ok () ((w.alloc (.cells Tryz.zeroCells285 285)).setRow w.heap.size ROW) /\
  ((w.alloc (.cells Tryz.zeroCells285 285)).setRow w.heap.size ROW).rowIs w.heap.size 285 257 (zr (.slice (some ⟨T,0,none⟩) 0 2)):=by
 have hnew:(w.alloc (.cells Tryz.zeroCells285 285)).heap[w.heap.size]? = some (.cells Tryz.zeroCells285 285):=heap_alloc_new w _;have hz:=vg3;have h:=run_storeCells_at Tryz.prog w.heap.size 0 285 (Tryz.zeroCells285.toList.set 256 (.slice (some ⟨T,0,none⟩) 0 2)) 0 _ _ hnew (by rw[List.length_set,hz,← Array.length_toList,hz];decide) (fun v hv=>by
  rcases List.mem_or_eq_of_mem_set hv with hv|rfl
  ·exact List.all_eq_true.1 vg0 v hv
  ·rfl)
 refine⟨_,h,?_⟩;refine⟨_,setRow_heap _ _ _ _ _ _ hnew,?_,fun i hi => ?_⟩
 ·simp only[List.size_toArray,qM,List.length_set,List.length_take,List.length_drop,hz];decide
 ·rw[List.getElem?_toArray,List.length_set,hz,List.drop_eq_nil_of_le (by rw[hz];decide),List.append_nil]
  show([]++_)[i]? = _;rw[List.nil_append,List.getElem?_set];unfold zr;by_cases h2:256=i
  ·subst h2;rw[qX rfl,qX rfl,hz];rfl
  ·rw[qW h2,qW (fun e=>h2 e.symm)]
   exact zwf (List.all_eq_true.1 vg1 i (List.mem_range.2 hi))
def qcc(w:World)(x y:UInt8):Obj := .cells (bytesRow ⟨#[x,y]⟩ (grownCap w 2 0 5)) 5 ((bytesRow ⟨#[x,y]⟩ (grownCap w 2 0 5)).size,(bytesRow ⟨#[x,y]⟩ (grownCap w 2 0 5)).size+1)
def qb8(w:World):Nat:=grownCap w 2 0 5
def cv2(w:World)(x y:UInt8):(convert 9 44 (.string ⟨#[x,y]⟩)).run Tryz.prog w = .ok (.slice (some ⟨w.heap.size,0,none⟩) 2 (qb8 w)) (w.drew.alloc (qcc w x y)):=
 run_bytes_of_string (P:=Tryz.prog) w 9 44 5 ⟨#[x,y]⟩ Tryz.underlying9 Tryz.underlying44 Tryz.underlying5
def zs9(w W:World)(x y:UInt8):(W.alloc (qcc w x y)).cell? ⟨W.heap.size,0,none⟩=some (.int .u8 x.toNat)/\(W.alloc (qcc w x y)).cell? ⟨W.heap.size,1,none⟩=some (.int .u8 y.toNat):=by
 unfold qcc;rw[World.cell?_alloc_mark,World.cell?_alloc_mark];exact⟨bytesRow_at ⟨#[x,y]⟩ _ 0 (by show 0<2;decide),bytesRow_at ⟨#[x,y]⟩ _ 1 (by show 1<2;decide)⟩
def cv1(w:World)(x:UInt8):(convert 44 9 (.slice (some ⟨w.heap.size,0,none⟩) 1 1)).run Tryz.prog (w.alloc (.cells #[.int .u8 x.toNat] 5)) = .ok (.string ⟨#[x]⟩) (w.alloc (.cells #[.int .u8 x.toNat] 5)):=
 run_convert_bytes_back (P:=Tryz.prog) _ 44 9 5 ⟨w.heap.size,0,none⟩ 1 [x] Tryz.underlying44 Tryz.underlying5 Tryz.underlying9 (fun i hi=>by
  have:i=0:=by simpa using hi
  subst this;rw[qy3];show World.cell? _ ⟨w.heap.size,0,none⟩=_;unfold World.cell?;rw[show(w.alloc (.cells #[.int .u8 (x.toNat:Int)] 5)).heap[w.heap.size]? = _ from heap_alloc_new w _]
  rfl)
def w4(wr:World)(T k n:Nat)(c:UInt8):World:=(((wr.alloc (.cells #[.int .u8 c.toNat] 5)).alloc (.cells #[.string ⟨#[c]⟩] 9)).setCell ⟨T,k,none⟩ (.string ⟨#[c]⟩)).setCell ⟨T+1,256,none⟩ (.slice (some ⟨T,0,none⟩) n 2)
def w5(wr:World)(T k n:Nat)(c x y:UInt8):World:=(((w4 wr T k n c).alloc (qcc (w4 wr T k n c) x y)).setCell ⟨T+1,c.toNat,none⟩ (.slice (some ⟨wr.heap.size+1+1,0,none⟩) 2 (qb8 (w4 wr T k n c)))).drew
def zla(wr:World)(T k n:Nat)(c x y:UInt8)(hT:T+2<=wr.heap.size){f h:Nat->Value}(hR:wr.rowIs (T+1) 285 257 f)(hTr:wr.rowIs T 9 2 h) :
  (w5 wr T k n c x y).rowIs (T+1) 285 257 (fun j=>if j=c.toNat then .slice (some ⟨wr.heap.size+1+1,0,none⟩) 2 (qb8 (w4 wr T k n c)) else if j=256 then .slice (some ⟨T,0,none⟩) n 2 else f j)/\(w5 wr T k n c x y).rowIs T 9 2 (fun i=>if i=k then .string ⟨#[c]⟩ else h i) /\
   (w5 wr T k n c x y).cell? ⟨wr.heap.size+1+1,0,none⟩=some (.int .u8 x.toNat)/\(w5 wr T k n c x y).cell? ⟨wr.heap.size+1+1,1,none⟩=some (.int .u8 y.toNat)/\(∀p:Addr,T+2<=p.block->p.block<wr.heap.size->(w5 wr T k n c x y).cell? p=wr.cell? p)/\Below T wr (w5 wr T k n c x y)/\T+2<=(w5 wr T k n c x y).heap.size:=by
 unfold w5;generalize hWb:qcc (w4 wr T k n c) x y=B;generalize (Value.slice (some ⟨wr.heap.size+1+1,0,none⟩) 2 (qb8 (w4 wr T k n c)))=V3;have hbc0:=fun W=>zs9 (w4 wr T k n c) W x y
 rw[hWb]at hbc0;unfold w4;clear hWb;generalize (Obj.cells #[.int .u8 c.toNat] 5)=o1;generalize (Obj.cells #[.string ⟨#[c]⟩] 9)=o2;generalize (Value.string ⟨#[c]⟩)=S;generalize (Value.slice (some ⟨T,0,none⟩) n 2)=V2;have hsz:((((wr.alloc o1).alloc o2).setCell ⟨T,k,none⟩ S).setCell ⟨T+1,256,none⟩ V2).heap.size=wr.heap.size+1+1:=by simp[World.setCell]
 have hbc:=hbc0 ((((wr.alloc o1).alloc o2).setCell ⟨T,k,none⟩ S).setCell ⟨T+1,256,none⟩ V2);rw[hsz]at hbc;refine⟨?_,?_,?_,?_,fun p h1 h2 => ?_,?_,?_⟩
 ·exact(((((hR.alloc o1).alloc o2).setOther (a:=⟨T,k,none⟩) oC S).set 256 V2).alloc _).set _ V3
 ·exact(((((hTr.alloc o1).alloc o2).set k S).setOther (a:=⟨T+1,256,none⟩) oC V2).alloc _).setOther (a:=⟨T+1,c.toNat,none⟩) oC V3
 ·rw[World.cell?_drew,World.cell?_setCell_other _ _ _ _ (by intro h;have:=congrArg Addr.block h;simp at this;omega)];exact hbc.1
 ·rw[World.cell?_drew,World.cell?_setCell_other _ _ _ _ (by intro h;have:=congrArg Addr.block h;simp at this;omega)];exact hbc.2
 ·refine World.cell?_of_block (w:=wr) ?_;show(World.setCell _ _ _).heap[p.block]? = _;rw[Below.heap_setCell _ _ _ _ oD,Below.heap_alloc _ _ _ (by rw[hsz];omega),Below.heap_setCell _ _ _ _ oD,Below.heap_setCell _ _ _ _ oD,Below.heap_alloc _ _ _ oD,Below.heap_alloc _ _ _ h2]
 ·have hsz2:wr.heap.size+1+1=((((wr.alloc o1).alloc o2).setCell ⟨T,k,none⟩ S).setCell ⟨T+1,256,none⟩ V2).heap.size:=hsz.symm;exact(((((((Below.refl T wr).alloc oA o1).alloc oD o2).setCell (p:=⟨T,k,none⟩) (wF _) S).setCell (p:=⟨T+1,256,none⟩) (Nat.le_succ _) V2).alloc oA _).setCell (p:=⟨T+1,c.toNat,none⟩) (Nat.le_succ _) V3).drew
 ·show _<=(World.setCell _ _ _).heap.size;simp[World.setCell];omega
set_option maxHeartbeats 4000000 in
set_option maxRecDepth 1000000 in
def zs3(q ro cap:Nat)(a b a1 a2 b1 b2:UInt8)(w:World)(hab:a≠b)
  (hc:w.cell? ⟨q,4,none⟩=some (.slice (some ⟨ro,0,none⟩) 4 cap)) (h0:w.cell? ⟨ro,0,none⟩=some (.string ⟨#[a]⟩)) (h1:w.cell? ⟨ro,1,none⟩=some (.string ⟨#[a1,a2]⟩)) (h2:w.cell? ⟨ro,2,none⟩=some (.string ⟨#[b]⟩)) (h3:w.cell? ⟨ro,3,none⟩=some (.string ⟨#[b1,b2]⟩)) :
  Calls Tryz.prog 154 #[.pointer (some ⟨q,0,none⟩)] w fun e w'=>∃R,e = .returned (.iface 286 (.pointer (some ⟨R,0,none⟩)))/\lf R a b a1 a2 b1 b2 w'/\Below w.heap.size w w':=by
 go_enter Tryz.func154,Tryz.ntmps154
 go_wp2
 go_loopg [4,5] 2 (fun gk s4 s5 wx=>wx=w/\((s5 = .int .i64 0/\s4 = .bool true/\gk=2)\/(s5 = .int .i64 2/\s4 = .bool false/\gk=1)\/(s5 = .int .i64 4/\s4 = .bool false/\gk=0)))
 case atStart=>exact⟨rfl,Or.inl ⟨rfl,rfl,rfl⟩⟩
 case round=>
  obtain⟨rfl,⟨rfl,rfl,rfl⟩|⟨rfl,rfl,rfl⟩|⟨rfl,rfl,rfl⟩⟩:=hrel
  ·go_wp2
   go_roundg 1
   case measure=>exact Nat.lt_succ_self _
   case rel=>exact⟨rfl,Or.inr (Or.inl ⟨rfl,rfl,rfl⟩)⟩
  ·go_wp2
   go_roundg 0
   case measure=>exact Nat.lt_succ_self _
   case rel=>exact⟨rfl,Or.inr (Or.inr ⟨rfl,rfl,rfl⟩)⟩
  ·have hmk:=mk2;obtain⟨W1,hW1⟩:∃W1,wr.alloc (.cells #[.string ⟨#[]⟩,.string ⟨#[]⟩] 9)=W1:=⟨_,rfl⟩;have hz1:W1.heap.size=wr.heap.size+1:=by rw[← hW1];simp
   have hT1:W1.rowIs wr.heap.size 9 2 (fun _ => .string ⟨#[]⟩):=by rw[← hW1];exact World.rowIs_alloc wr _ _ _ (fun i hi=>by match i,hi with|0,_=>rfl|1,_=>rfl)
   have hb1:Below wr.heap.size wr W1:=by rw[← hW1];exact(Below.refl _ _).alloc (wF _) _
   obtain⟨ROW,hst,hrow⟩:=z0q W1 wr.heap.size;rw[hz1]at hst hrow;have hT2:=(hT1.alloc (.cells Tryz.zeroCells285 285)).of_block (setRow_other (W1.alloc (.cells Tryz.zeroCells285 285)) (wr.heap.size+1) wr.heap.size ROW oA)
   have hb2:=below_setRow (hb1.alloc hb1.size (.cells Tryz.zeroCells285 285)) (Nat.le_succ wr.heap.size) ROW;obtain⟨W2,hW2⟩:∃W2,(W1.alloc (.cells Tryz.zeroCells285 285)).setRow (wr.heap.size+1) ROW=W2:=⟨_,rfl⟩;rw[hW2]at hst hrow hT2 hb2;have HB2:Aside (W2.rowIs (wr.heap.size+1) 285 257 (zr (.slice (some ⟨wr.heap.size,0,none⟩) 0 2))/\W2.rowIs wr.heap.size 9 2 (fun _ => .string ⟨#[]⟩)/\Below wr.heap.size wr W2):=⟨hrow,hT2,hb2⟩
   clear hrow hT2 hb2 hT1 hb1 hW2
   go_wp2
   obtain⟨T,hT⟩:∃T,wr.heap.size=T:=⟨_,rfl⟩;rw[hT]at HB2 ⊢;have hS:Aside (wr.heap.size=T):=hT;clear hst hmk hz1 hW1 hT
   go_loopg [12] 2 (fun gk s12 wx=>Below T wr wx/\T+2<=wx.heap.size/\(
    (s12 = .int .i64 2/\gk=2/\Aside (wx.rowIs (T+1) 285 257 (zr (.slice (some ⟨T,0,none⟩) 0 2))/\wx.rowIs T 9 2 (fun _ => .string ⟨#[]⟩))) \/
    (s12 = .int .i64 0/\gk=1/\∃gb cb,T+2<=gb/\gb<wx.heap.size/\Aside (wx.rowIs (T+1) 285 257 (fun j=>if j=b.toNat then .slice (some ⟨gb,0,none⟩) 2 cb else if j=256 then .slice (some ⟨T,0,none⟩) 1 2 else .slice none 0 0)/\wx.rowIs T 9 2 (fun i=>if i=0 then .string ⟨#[b]⟩ else .string ⟨#[]⟩)/\wx.cell? ⟨gb,0,none⟩=some (.int .u8 b1.toNat)/\wx.cell? ⟨gb,1,none⟩=some (.int .u8 b2.toNat))) \/
    (s12 = .int .i64 (-2)/\gk=0/\Aside (lf (T+1) a b a1 a2 b1 b2 wx))))
   case atStart=>exact⟨HB2.out.2.2,by have:=HB2.out.1.lt;omega,Or.inl ⟨rfl,rfl,HB2.out.1,HB2.out.2.1⟩⟩
   case round=>
    obtain⟨hbx,hsz,h⟩:=hrel;have k0:=(hbx.cell (p:=⟨ro,0,none⟩) (by rw[← hS.out];exact World.block_lt_of_cell? _ _ h0)).trans h0
    have k1:=(hbx.cell (p:=⟨ro,1,none⟩) (by rw[← hS.out];exact World.block_lt_of_cell? _ _ h1)).trans h1
    have k2:=(hbx.cell (p:=⟨ro,2,none⟩) (by rw[← hS.out];exact World.block_lt_of_cell? _ _ h2)).trans h2
    have k3:=(hbx.cell (p:=⟨ro,3,none⟩) (by rw[← hS.out];exact World.block_lt_of_cell? _ _ h3)).trans h3
    clear h0 h1 h2 h3 hc HB2;have e1:=zu6;have e2:=zu5;have e3:=cv1;have e4:=cv2;rcases h with⟨rfl,rfl,hr⟩|⟨rfl,rfl,gb,cb,hgb,hgs,hr⟩|⟨rfl,rfl,hr⟩
    ·have g0:∀h,(⟨#[b]⟩:ByteArray)[0]'h=b:=fun _=>rfl
     have g1:(b.toNat:Int)<256:=by have:=b.toNat_lt;omega
     have g2:b.toNat<256:=b.toNat_lt;have hRb:wr.cell? ⟨T+1,b.toNat,none⟩=some (.slice none 0 0):=by
      rw[hr.out.1.cell oA];unfold zr;rw[qW (by have:=b.toNat_lt;omega)]
     have hR2:wr.cell? ⟨T+1,256,none⟩=some (.slice (some ⟨T,0,none⟩) 0 2):=by rw[hr.out.1.cell oE];rfl
     have hT0:∀o1 o2,((wr.alloc o1).alloc o2).cell? ⟨T,0,none⟩=some (.string ⟨#[]⟩):=fun o1 o2=>((hr.out.2.alloc o1).alloc o2).cell oE
     have hTf:∀o1 o2,((wr.alloc o1).alloc o2).frozen? ⟨T,0,none⟩=false:=fun o1 o2=>((hr.out.2.alloc o1).alloc o2).frozen _
     have hR3:∀o1 o2,((wr.alloc o1).alloc o2).cell? ⟨T+1,256,none⟩=some (.slice (some ⟨T,0,none⟩) 0 2):=fun o1 o2=>by rw[((hr.out.1.alloc o1).alloc o2).cell oE];rfl
     have hRf:∀o1 o2,((wr.alloc o1).alloc o2).frozen? ⟨T+1,256,none⟩=false:=fun o1 o2=>((hr.out.1.alloc o1).alloc o2).frozen _
     have hR4:∀o1 o2 v1 v2 o3,(((((wr.alloc o1).alloc o2).setCell ⟨T,0,none⟩ v1).setCell ⟨T+1,256,none⟩ v2).alloc o3).cell? ⟨T+1,b.toNat,none⟩=some (.slice none 0 0):=fun o1 o2 v1 v2 o3=>by
      rw[((((((hr.out.1.alloc o1).alloc o2).setOther (a:=⟨T,0,none⟩) oC v1).set 256 v2)).alloc o3).cell oA]
      rw[qW];unfold zr;rw[qW (by have:=b.toNat_lt;omega)]
     have hRg:∀o1 o2 v1 v2 o3,(((((wr.alloc o1).alloc o2).setCell ⟨T,0,none⟩ v1).setCell ⟨T+1,256,none⟩ v2).alloc o3).frozen? ⟨T+1,b.toNat,none⟩=false:=fun o1 o2 v1 v2 o3=>
      ((((((hr.out.1.alloc o1).alloc o2).setOther (a:=⟨T,0,none⟩) oC v1).set 256 v2)).alloc o3).frozen _
     clear g2
     go_wp2
     go_roundg 1
     case measure=>exact Nat.lt_succ_self _
     case rel=>
      have HS:=zla wr T 0 1 b b1 b2 hsz hr.out.1 hr.out.2;obtain⟨q1,q2,q3,q4,q5,q6,q7⟩:=HS;have q8:=World.block_lt_of_cell? _ _ q3;refine⟨hbx.trans q6,q7,Or.inr (Or.inl ⟨rfl,rfl,wr.heap.size+1+1,qb8 (w4 wr T 0 1 b),oA,q8,(?_:_/\_/\_/\_)⟩)⟩
      refine⟨q1.congr (fun j _ => ?_),q2,q3,q4⟩
      ·show(if _ then _ else if _ then _ else zr _ j)=_
       unfold zr;by_cases h1:j=b.toNat
       ·rw[qX h1,qX h1]
       ·by_cases h2:j=256
        ·rw[qW h1,qX h2,qW h1,qX h2]
        ·rw[qW h1,qW h2,qW h2,qW h1,qW h2]
    ·have g0:∀h,(⟨#[a]⟩:ByteArray)[0]'h=a:=fun _=>rfl
     have g1:(a.toNat:Int)<256:=by have:=a.toNat_lt;omega
     have g2:a.toNat<256:=a.toNat_lt;have hne:¬a.toNat=b.toNat:=fun h=>hab (UInt8.toNat_inj.1 h)
     have HNE:Aside (¬a.toNat=b.toNat):=hne;have hRb:wr.cell? ⟨T+1,a.toNat,none⟩=some (.slice none 0 0):=by
      rw[hr.out.1.cell oA];rw[qW,qW]
     have hR2:wr.cell? ⟨T+1,256,none⟩=some (.slice (some ⟨T,0,none⟩) 1 2):=by rw[hr.out.1.cell oE];rw[qW (by have:=b.toNat_lt;omega),qX rfl]
     have hT0:∀o1 o2,((wr.alloc o1).alloc o2).cell? ⟨T,1,none⟩=some (.string ⟨#[]⟩):=fun o1 o2=>((hr.out.2.1.alloc o1).alloc o2).cell oE
     have hTf:∀o1 o2,((wr.alloc o1).alloc o2).frozen? ⟨T,1,none⟩=false:=fun o1 o2=>((hr.out.2.1.alloc o1).alloc o2).frozen _
     have hR3:∀o1 o2,((wr.alloc o1).alloc o2).cell? ⟨T+1,256,none⟩=some (.slice (some ⟨T,0,none⟩) 1 2):=fun o1 o2=>by rw[((hr.out.1.alloc o1).alloc o2).cell oE];rw[qW (by have:=b.toNat_lt;omega),qX rfl]
     have hRf:∀o1 o2,((wr.alloc o1).alloc o2).frozen? ⟨T+1,256,none⟩=false:=fun o1 o2=>((hr.out.1.alloc o1).alloc o2).frozen _
     have hR4:∀o1 o2 v1 v2 o3,(((((wr.alloc o1).alloc o2).setCell ⟨T,1,none⟩ v1).setCell ⟨T+1,256,none⟩ v2).alloc o3).cell? ⟨T+1,a.toNat,none⟩=some (.slice none 0 0):=fun o1 o2 v1 v2 o3=>by
      rw[((((((hr.out.1.alloc o1).alloc o2).setOther (a:=⟨T,1,none⟩) oC v1).set 256 v2)).alloc o3).cell oA]
      rw[qW];rw[qW,qW]
     have hRg:∀o1 o2 v1 v2 o3,(((((wr.alloc o1).alloc o2).setCell ⟨T,1,none⟩ v1).setCell ⟨T+1,256,none⟩ v2).alloc o3).frozen? ⟨T+1,a.toNat,none⟩=false:=fun o1 o2 v1 v2 o3=>
      ((((((hr.out.1.alloc o1).alloc o2).setOther (a:=⟨T,1,none⟩) oC v1).set 256 v2)).alloc o3).frozen _
     clear g2 hne
     go_wp2
     go_roundg 0
     case measure=>exact Nat.lt_succ_self _
     case rel=>
      have HS:=zla wr T 1 2 a a1 a2 hsz hr.out.1 hr.out.2.1;obtain⟨q1,q2,q3,q4,q5,q6,q7⟩:=HS;have hgbR:=(q5 ⟨gb,0,none⟩ hgb hgs).trans hr.out.2.2.1;have hgbS:=(q5 ⟨gb,1,none⟩ hgb hgs).trans hr.out.2.2.2;have hB:lf (T+1) a b a1 a2 b1 b2 (w5 wr T 1 2 a a1 a2):=by
       refine⟨wr.heap.size+1+1,gb,T,qb8 (w4 wr T 1 2 a),cb,2,fun d => ?_,?_,?_,?_,q3,q4,hgbR,hgbS⟩
       ·rw[q1.cell (by have:=d.toNat_lt;omega)]
        unfold rv;by_cases h1:d=a
        ·rw[qX (congrArg _ h1),qX h1]
        ·rw[qW (fun h=>h1 (UInt8.toNat_inj.1 h)),qW h1,qW (by have:=d.toNat_lt;omega)]
         by_cases h2:d=b
         ·rw[qX (congrArg _ h2),qX h2]
         ·rw[qW (fun h=>h2 (UInt8.toNat_inj.1 h)),qW h2,qW (by have:=d.toNat_lt;omega)]
       ·rw[q1.cell oE,qW (by have:=a.toNat_lt;omega),qX rfl]
       ·rw[q2.cell oE];rfl
       ·rw[q2.cell oE];rfl
      exact⟨hbx.trans q6,q7,Or.inr (Or.inr ⟨rfl,rfl,hB⟩)⟩
    ·go_wp2
     go_ret
     exact⟨T+1,rfl,hr.out,by rw[hS.out];exact hbx⟩
end Go.Proofs.Repl
namespace Go.Proofs.YtdnaaelkpgijeabGreatDoor.Once
open Go.Sym(oB)
def disable(w:World):(callFunc 282 #[]).run Tryz.prog w = .ok (.value (.tuple #[])) w:=run_call_mark0 Tryz.func282 oB oB oB .disable oB w
def enable(w:World):(callFunc 284 #[]).run Tryz.prog w = .ok (.value (.tuple #[])) w:=run_call_mark0 Tryz.func284 oB oB oB .enable oB w
def acquire(a:Addr)(w:World):(callFunc 285 #[.pointer (some a)]).run Tryz.prog w = .ok (.value (.tuple #[])) w:=run_call_marked Tryz.func285 oB oB oB .acquire oB a w
def releaseMerge(a:Addr)(w:World):(callFunc 287 #[.pointer (some a)]).run Tryz.prog w = .ok (.value (.tuple #[])) w:=run_call_marked Tryz.func287 oB oB oB .releaseMerge oB a w
set_option maxHeartbeats 1600000 in
def z0w(a:Addr)(x:Value)(u:FrameMode)(w:World)(hc:w.cell? a=some x)(hz:w.frozen? a=false) :
  CallsD Tryz.prog 194 #[.pointer (some a),.bool true] u w fun e u' w'=>u'=u/\(e = .returned (.tuple #[])/\w'=w.drew.setCell a (.int .u32 1)):=by
 have hc':w.drew.cell? a=some x:=by go_simp
 have hz':w.drew.frozen? a=false:=by go_simp
 have hst:=run_call_store (P:=Tryz.prog) Tryz.func240 oB oB oB oB (k := .u32) (y:=1) hc' hz'
 go_enter_d Tryz.func194,Tryz.ntmps194
 go_wp2
 go_region_calls
 all_goals (go_end0;exact⟨rfl,rfl⟩)
set_option maxHeartbeats 1600000 in
def z1s(a:Addr)(u:FrameMode)(w:World)(hc:w.cell? a=some (.int .i32 1))(hz:w.frozen? a=false) :
  CallsD Tryz.prog 193 #[.pointer (some a)] u w fun e u' w'=>u'=u/\(e = .returned (.tuple #[])/\w'=w.setCell a (.int .i32 0)):=by
 have hd:=disable;have he:=enable;have hr:=releaseMerge;have hadd:=run_call_add (P:=Tryz.prog) Tryz.func288 oB oB oB .i32 oB (y := -1) (s:=0) hc hz (by simp[go_sem];rfl)
 have hcv:=run_convert_to_unsafe (P:=Tryz.prog) (src:=360) (dst:=344) Tryz.underlying360 Tryz.underlying344 oB hc
 go_enter_d Tryz.func193,Tryz.ntmps193
 go_wp2
 go_end0
 go_wp2
 go_end0
 exact⟨rfl,rfl⟩
set_option maxHeartbeats 1600000 in
def zw5(a:Addr)(w:World)(hc:w.cell? a=some (.int .i32 0))(hz:w.frozen? a=false) :
  Calls Tryz.prog 192 #[.pointer (some a)] w fun e w'=>e = .returned (.tuple #[])/\w'=w.setCell a (.int .i32 1):=by
 have hd:=disable;have he:=enable;have ha:=acquire;have hcas:=run_call_cas_hit (P:=Tryz.prog) Tryz.func283 oB oB oB .i32 oB (y:=1) hc hz
 have hc':(w.setCell a (.int .i32 1)).cell? a=some (.int .i32 1):=World.cell?_setCell_same w a _ hc;have hcv:=run_convert_to_unsafe (P:=Tryz.prog) (src:=360) (dst:=344) Tryz.underlying360 Tryz.underlying344 oB hc'
 go_enter Tryz.func192,Tryz.ntmps192
 go_wp2
 first|go_end0|(simp only[Exit.inBlock,Exit.then];refine bodyPost_ret (results_none rfl _ _ _) rfl ?_)|refine bodyPost_ret (results_none rfl _ _ _) rfl ?_
 go_wp2
 go_end0
 exact⟨rfl,rfl⟩
end Go.Proofs.YtdnaaelkpgijeabGreatDoor.Once
namespace Go.Proofs.YtdnaaelkpgijeabGreatDoor.Once
open Go.Sym(oB oC)
set_option maxHeartbeats 1600000 in
def z0g(b:Nat)(w:World)(R:World->Prop)
  (h0:w.cell? ⟨b,0,none⟩=some (.int .u32 0)) (h1:w.cell? ⟨b,0+1,none⟩=some (.int .i32 0)) (f0:w.frozen? ⟨b,0,none⟩=false) (f1:w.frozen? ⟨b,0+1,none⟩=false)
  (hf:Calls Tryz.prog 110 #[.pointer (some ⟨b,0,none⟩)] (w.setCell ⟨b,0+1,none⟩ (.int .i32 1)) fun e w'=>e = .returned (.tuple #[])/\R w')
  (hR:∀w',R w'->w'.cell? ⟨b,0,none⟩=some (.int .u32 0)/\w'.frozen? ⟨b,0,none⟩=false/\w'.cell? ⟨b,0+1,none⟩=some (.int .i32 1)/\w'.frozen? ⟨b,0+1,none⟩=false) :
  Calls Tryz.prog 153 #[.pointer (some ⟨b,0,none⟩),.func (.func 110) #[.pointer (some ⟨b,0,none⟩)] #[]] w fun e w'=>e = .returned (.tuple #[])/\∃w1,R w1/\w'=(w1.drew.setCell ⟨b,0,none⟩ (.int .u32 1)).setCell ⟨b,0+1,none⟩ (.int .i32 0):=by
 have hl:=run_call_load (P:=Tryz.prog) Tryz.func191 oB oB oB .u32 oB (w:=w.setCell ⟨b,0+1,none⟩ (.int .i32 1)) (a:=⟨b,0,none⟩) (x:=0) ((World.cell?_setCell_other _ ⟨b,0+1,none⟩ ⟨b,0,none⟩ _ oC).trans h0)
 have hnot:∀(x:Bool)(w:World),(Op.unary .not (.bool x)).run Tryz.prog w = .ok (.bool (!x)) w:=fun _ _=>rfl
 go_enter_defers Tryz.func153,Tryz.ntmps153
 go_wp2_with (first|(go_at_call 192;refine(zw5 ⟨b,0+1,none⟩ _ (by go_simp) (by go_simp)).mono ?_;rintro e w' ⟨rfl,rfl⟩)|(go_at_call 152;go_in)|(go_at_call 110;refine hf.mono ?_;rintro e w' ⟨rfl,hw⟩))
 obtain⟨r0,rf0,r1,rf1⟩:=hR w' hw
 first|go_end0|skip
 first|go_wp2|skip
 refine leaves_cons (f:=194) (args:=#[.pointer (some ⟨b,0,none⟩),.bool true]) oC (by simp[go_sem]) ?_
 refine(z0w ⟨b,0,none⟩ (.int .u32 0) .returning _ r0 rf0).mono ?_;rintro e u' w'' ⟨rfl,rfl,rfl⟩
 refine leaves_cons (f:=193) (args:=#[.pointer (some ⟨b,0+1,none⟩)]) (by simp[settle]) (by simp[go_sem]) ?_
 have r1':(w'.drew.setCell ⟨b,0,none⟩ (.int .u32 1)).cell? ⟨b,0+1,none⟩=some (.int .i32 1):=by
  refine(World.cell?_setCell_other _ ⟨b,0,none⟩ ⟨b,0+1,none⟩ _ oC).trans ?_
  rw[World.cell?_drew];exact r1
 refine(z1s ⟨b,0+1,none⟩ _ _ r1' (by simp[rf1])).mono ?_
 rintro e u' w'' ⟨rfl,rfl,rfl⟩
 simp[Leaves,settle,results,Tryz.results153];exact⟨w',hw,rfl⟩
set_option maxHeartbeats 1600000 in
def zgb(b:Nat)(w:World)(R:World->Prop)
  (h0:w.cell? ⟨b,0,none⟩=some (.int .u32 0)) (h1:w.cell? ⟨b,0+1,none⟩=some (.int .i32 0)) (f0:w.frozen? ⟨b,0,none⟩=false) (f1:w.frozen? ⟨b,0+1,none⟩=false)
  (hf:Calls Tryz.prog 110 #[.pointer (some ⟨b,0,none⟩)] (w.setCell ⟨b,0+1,none⟩ (.int .i32 1)) fun e w'=>e = .returned (.tuple #[])/\R w')
  (hR:∀w',R w'->w'.cell? ⟨b,0,none⟩=some (.int .u32 0)/\w'.frozen? ⟨b,0,none⟩=false/\w'.cell? ⟨b,0+1,none⟩=some (.int .i32 1)/\w'.frozen? ⟨b,0+1,none⟩=false) :
  Calls Tryz.prog 109 #[.pointer (some ⟨b,0,none⟩),.func (.func 110) #[.pointer (some ⟨b,0,none⟩)] #[]] w fun e w'=>e = .returned (.tuple #[])/\∃w1,R w1/\w'=(w1.drew.setCell ⟨b,0,none⟩ (.int .u32 1)).setCell ⟨b,0+1,none⟩ (.int .i32 0):=by
 have hl:=run_call_load (P:=Tryz.prog) Tryz.func191 oB oB oB .u32 oB h0
 have hnot:∀(x:Bool)(w:World),(Op.unary .not (.bool x)).run Tryz.prog w = .ok (.bool (!x)) w:=fun _ _=>rfl
 go_enter Tryz.func109,Tryz.ntmps109
 go_wp2_with (first|(go_at_call 152;go_in)|(go_at_call 153;refine(z0g b w R h0 h1 f0 f1 hf hR).mono ?_;rintro e w' ⟨rfl,w1,hw1,rfl⟩))
 go_end0
 exact⟨rfl,w1,hw1,rfl⟩
set_option maxHeartbeats 1600000 in
def zuq(a:Addr)(d:Int)(hd:¬d=0)(fv:Value)(w:World)(h0:w.cell? a=some (.int .u32 d)) :
  Calls Tryz.prog 109 #[.pointer (some a),fv] w fun e w'=>e = .returned (.tuple #[])/\w'=w:=by
 have hl:=run_call_load (P:=Tryz.prog) Tryz.func191 oB oB oB .u32 oB h0
 have hnot:∀(x:Bool)(w:World),(Op.unary .not (.bool x)).run Tryz.prog w = .ok (.bool (!x)) w:=fun _ _=>rfl
 have hd':(d != 0)=true:=by simp[hd]
 go_enter Tryz.func109,Tryz.ntmps109
 go_wp2
 go_end0
 exact⟨rfl,rfl⟩
end Go.Proofs.YtdnaaelkpgijeabGreatDoor.Once
namespace Go.Proofs.YtdnaaelkpgijeabGreatDoor.Once
open Go.Sym(oC)
set_option maxHeartbeats 1600000 in
def replace_first(b:Nat)(s:ByteArray)(w:World)(R:World->Prop)(Q:Value->World->Prop)
  (h0:w.cell? ⟨b,0,none⟩=some (.int .u32 0)) (h1:w.cell? ⟨b,0+1,none⟩=some (.int .i32 0)) (f0:w.frozen? ⟨b,0,none⟩=false) (f1:w.frozen? ⟨b,0+1,none⟩=false)
  (hf:Calls Tryz.prog 110 #[.pointer (some ⟨b,0,none⟩)] (w.setCell ⟨b,0+1,none⟩ (.int .i32 1)) fun e w'=>e = .returned (.tuple #[])/\R w')
  (hR:∀w',R w'->w'.cell? ⟨b,0,none⟩=some (.int .u32 0)/\w'.frozen? ⟨b,0,none⟩=false/\w'.cell? ⟨b,0+1,none⟩=some (.int .i32 1)/\w'.frozen? ⟨b,0+1,none⟩=false)
  (hg:∀w',R w'->∃g,w'.cell? ⟨b,3,none⟩=some (.iface 282 (.pointer (some ⟨g,0,none⟩))) /\
   Calls Tryz.prog 429 #[.pointer (some ⟨g,0,none⟩),.string s] ((w'.drew.setCell ⟨b,0,none⟩ (.int .u32 1)).setCell ⟨b,0+1,none⟩ (.int .i32 0)) fun e w''=>∃v,e = .returned v/\Q v w'') :
  Calls Tryz.prog 59 #[.pointer (some ⟨b,0,none⟩),.string s] w fun e w'=>∃v,e = .returned v/\Q v w':=by
 have hme : ∀ (g : Nat) (w : World), (method 596 282 (.pointer (some ⟨g, 0, none⟩)) "Replace").run Tryz.prog w = .ok (429, .pointer (some ⟨g, 0, none⟩)) w := fun _ _ => by kernel_rfl
 go_enter Tryz.func59,Tryz.ntmps59
 go_wp2_with (first|(go_at_call 109;refine(zgb b w R h0 h1 f0 f1 hf hR).mono ?_;rintro e w' ⟨rfl,w1,hw1,rfl⟩;obtain⟨g,hg1,hg2⟩:=hg w1 hw1;have hc3:((w1.drew.setCell ⟨b,0,none⟩ (.int .u32 1)).setCell ⟨b,0+1,none⟩ (.int .i32 0)).cell? ⟨b,3,none⟩=some (.iface 282 (.pointer (some ⟨g,0,none⟩))):=((World.cell?_setCell_other _ ⟨b,0+1,none⟩ ⟨b,3,none⟩ _ oC).trans ((World.cell?_setCell_other _ ⟨b,0,none⟩ ⟨b,3,none⟩ _ oC).trans (by rw[World.cell?_drew];exact hg1))))|(go_at_call 429;refine hg2.mono ?_;rintro e w' ⟨v,rfl,hq⟩))
 go_ret
 exact⟨_,rfl,hq⟩
set_option maxHeartbeats 1600000 in
def replace_done(b g:Nat)(s:ByteArray)(w:World)(Q:Value->World->Prop)(d:Int)(hd:¬d=0)
  (h0:w.cell? ⟨b,0,none⟩=some (.int .u32 d)) (hc3:w.cell? ⟨b,3,none⟩=some (.iface 282 (.pointer (some ⟨g,0,none⟩))))
  (hg2:Calls Tryz.prog 429 #[.pointer (some ⟨g,0,none⟩),.string s] w fun e w''=>∃v,e = .returned v/\Q v w'') :
  Calls Tryz.prog 59 #[.pointer (some ⟨b,0,none⟩),.string s] w fun e w'=>∃v,e = .returned v/\Q v w':=by
 have hme : ∀ (g : Nat) (w : World), (method 596 282 (.pointer (some ⟨g, 0, none⟩)) "Replace").run Tryz.prog w = .ok (429, .pointer (some ⟨g, 0, none⟩)) w := fun _ _ => by kernel_rfl
 go_enter Tryz.func59,Tryz.ntmps59
 go_wp2_with (first|(go_at_call 109;refine(zuq ⟨b,0,none⟩ d hd _ w h0).mono ?_;rintro e w' ⟨rfl,rfl⟩)|(go_at_call 429;refine hg2.mono ?_;rintro e w' ⟨v,rfl,hq⟩))
 go_ret
 exact⟨_,rfl,hq⟩
set_option maxHeartbeats 1600000 in
def replaceS_first(b:Nat)(s:ByteArray)(w:World)(R:World->Prop)(Q:Value->World->Prop)
  (h0:w.cell? ⟨b,0,none⟩=some (.int .u32 0)) (h1:w.cell? ⟨b,0+1,none⟩=some (.int .i32 0)) (f0:w.frozen? ⟨b,0,none⟩=false) (f1:w.frozen? ⟨b,0+1,none⟩=false)
  (hf:Calls Tryz.prog 110 #[.pointer (some ⟨b,0,none⟩)] (w.setCell ⟨b,0+1,none⟩ (.int .i32 1)) fun e w'=>e = .returned (.tuple #[])/\R w')
  (hR:∀w',R w'->w'.cell? ⟨b,0,none⟩=some (.int .u32 0)/\w'.frozen? ⟨b,0,none⟩=false/\w'.cell? ⟨b,0+1,none⟩=some (.int .i32 1)/\w'.frozen? ⟨b,0+1,none⟩=false)
  (hg:∀w',R w'->∃g,w'.cell? ⟨b,3,none⟩=some (.iface 286 (.pointer (some ⟨g,0,none⟩))) /\
   Calls Tryz.prog 431 #[.pointer (some ⟨g,0,none⟩),.string s] ((w'.drew.setCell ⟨b,0,none⟩ (.int .u32 1)).setCell ⟨b,0+1,none⟩ (.int .i32 0)) fun e w''=>∃v,e = .returned v/\Q v w'') :
  Calls Tryz.prog 59 #[.pointer (some ⟨b,0,none⟩),.string s] w fun e w'=>∃v,e = .returned v/\Q v w':=by
 have hme : ∀ (g : Nat) (w : World), (method 596 286 (.pointer (some ⟨g, 0, none⟩)) "Replace").run Tryz.prog w = .ok (431, .pointer (some ⟨g, 0, none⟩)) w := fun _ _ => by kernel_rfl
 go_enter Tryz.func59,Tryz.ntmps59
 go_wp2_with (first|(go_at_call 109;refine(zgb b w R h0 h1 f0 f1 hf hR).mono ?_;rintro e w' ⟨rfl,w1,hw1,rfl⟩;obtain⟨g,hg1,hg2⟩:=hg w1 hw1;have hc3:((w1.drew.setCell ⟨b,0,none⟩ (.int .u32 1)).setCell ⟨b,0+1,none⟩ (.int .i32 0)).cell? ⟨b,3,none⟩=some (.iface 286 (.pointer (some ⟨g,0,none⟩))):=((World.cell?_setCell_other _ ⟨b,0+1,none⟩ ⟨b,3,none⟩ _ oC).trans ((World.cell?_setCell_other _ ⟨b,0,none⟩ ⟨b,3,none⟩ _ oC).trans (by rw[World.cell?_drew];exact hg1))))|(go_at_call 431;refine hg2.mono ?_;rintro e w' ⟨v,rfl,hq⟩))
 go_ret
 exact⟨_,rfl,hq⟩
end Go.Proofs.YtdnaaelkpgijeabGreatDoor.Once
namespace Go.Sym
open Go.RowKit
variable[LC]
def bp.blocks_none{G:Gh}{hp:List (Nat×ag)}{w:World}(hm:bp G hp w){b:Nat}(h:nv G hp b)(o:Nat):G.imm b o=none:=by
 obtain⟨n,bx,hl,ha⟩:=h;have hb:=hm.holds n bx hl
 cases bx with
 |cells cs T=>obtain⟨B,vs,h1,_,_,_,h5⟩:=hb;simp only[Gh.at,h1,qI]at ha;subst ha;exact h5 o
 |row τ l E=>
  obtain⟨a,c,h1,h2⟩:=hb;rcases h2 with⟨rfl,_⟩|⟨g,vs,fz,rfl,_,_,_,_,_,_,_,h9⟩
  ·simp only[Gh.at,h1]at ha;cases ha
  ·simp only[Gh.at,h1,qI]at ha;subst ha;exact h9 o
 |loop st pe f m fr ps tag D=>obtain⟨B,tmps,DB,h1,_,_,_,_,h5⟩:=hb;simp only[Gh.at,h1,qI]at ha;subst ha;exact h5 o
 |dfr=>obtain⟨B,h1,_,h5⟩:=hb;simp only[Gh.at,h1,qI]at ha;subst ha;exact h5 o
 |it s p=>obtain⟨B,h1,_,h5⟩:=hb;simp only[Gh.at,h1,qI]at ha;subst ha;exact h5 o
 |dead=>cases ha
def ce.gone{P:Program}{f:FuncId}{xs:List AV}{hp:List (Nat×ag)}{r:AV}
  (h:∀(w:World)(G:Gh)(vs:List Value),bp G hp w->ak xs G vs->Calls P f vs.toArray w fun e w'=>∃v,e = .returned v/\aj r G v/\b9 (nv G hp) w w'):ce P f xs hp r []:=by
 intro w G vs hm hr;refine(h w G vs hm hr).mono ?_;rintro e w' ⟨v,rfl,hv,hs⟩
 have hblk:∀b o v,G.imm b o=some v->w'.heap[b]? = w.heap[b]? := fun b o v hv=>hs.block b (World.block_lt_of_cell? _ _ (hm.agree b o v hv)) fun hb=>by
  rw[hm.blocks_none hb o]at hv;cases hv
 refine⟨v,G,rfl,⟨⟨fun b o v hv=>by rw[World.cell?_of_block (w:=w) (hblk b o v hv)];exact hm.agree b o v hv,hm.one,fun n bx h=>(by cases h),fun n m bx bx' b h=>(by cases h),LC.mono (fun _ _ _ h=>h) hblk hm.tab⟩,hs,fun _ _ _ h=>h,fun _ _ _ h => .inl h,fun n bx b h=>(by cases h),fun _ _ _ _ h=>h,fun _ _ _ _ h=>h⟩,hv⟩
end Go.Sym
set_option linter.unusedVariables false
namespace Go.Proofs.Repl
open Go.Shelf Go.RowKit Go.Lib Go.Sym
def lf.setCell{R q n:Nat}{u:Int}{a b a1 a2 b1 b2:UInt8}{w:World}(h:lf R a b a1 a2 b1 b2 w)(hq:w.cell? ⟨q,0,none⟩=some (.int .u32 u))(v:Value):lf R a b a1 a2 b1 b2 (w.setCell ⟨q,n,none⟩ v):=by
 obtain⟨ga,gb,gt,ca,cb,ct,h1,h2,h3,h4,h5,h6,h7,h8⟩:=h.ex;have kR:¬R=q:=fun e=>by
  have:=h1 0;subst e;rw[show(0:UInt8).toNat=0 from rfl,hq]at this
  unfold rv at this;split at this
  ·cases this
  ·split at this<;>cases this
 have kt:¬gt=q:=fun e=>by subst e;rw[hq]at h3;cases h3
 have ka:¬ga=q:=fun e=>by subst e;rw[hq]at h5;cases h5
 have kb:¬gb=q:=fun e=>by subst e;rw[hq]at h7;cases h7
 have k:∀{p:Nat}{o:Nat}{x:Value},¬p=q->w.cell? ⟨p,o,none⟩=some x->(w.setCell ⟨q,n,none⟩ v).cell? ⟨p,o,none⟩=some x:=fun{p o x} hp hx=>by
  rw[World.cell?_of_block (w:=w) (Below.heap_setCell w ⟨q,n,none⟩ v p hp)];exact hx
 exact⟨ga,gb,gt,ca,cb,ct,fun c=>k kR (h1 c),k kR h2,k kt h3,k kt h4,k ka h5,k ka h6,k kb h7,k kb h8⟩
structure Once(q:Nat)(w w':World):Prop where
 bel:b9 (fun k=>k=q) w w'
 c0:w'.cell? ⟨q,0,none⟩=some (.int .u32 0)
 c1:w'.cell? ⟨q,0+1,none⟩=some (.int .i32 1)
 f0:w'.frozen? ⟨q,0,none⟩=false
 f1:w'.frozen? ⟨q,0+1,none⟩=false
def zsx(S:Nat->Prop)(w:World):b9 S w w.drew:=⟨rfl,rfl,rfl,wF _,fun _ _ _=>rfl⟩
def qzp{S:Nat->Prop}{w w':World}(h:Below w.heap.size w w'):b9 S w w':=⟨h.os,h.tape,h.output,h.size,fun k hk _=>h.block k hk⟩
def qg4{q:Nat}{w w':World}(h:b9 (fun k=>k=q) w w')(n:Nat)(v:Value):b9 (fun k=>k=q) w (w'.setCell ⟨q,n,none⟩ v):=
 ⟨h.os,h.tape,h.output,by simp[World.setCell];exact h.size,fun k hk hn=>(Below.heap_setCell w' ⟨q,n,none⟩ v k hn).trans (h.block k hk hn)⟩
def qzq{S:Nat->Prop}{a b c:World}(h:b9 S a b)(k:b9 S b c):b9 S a c:=
 ⟨k.os.trans h.os,k.tape.trans h.tape,k.output.trans h.output,Nat.le_trans h.size k.size,fun i hi hn=>(k.block i (Nat.lt_of_lt_of_le hi h.size) hn).trans (h.block i hi hn)⟩
set_option maxHeartbeats 1600000 in
def zs5(q ro cap:Nat)(v3:Value)(a b a1 a2 b1 b2:UInt8)(w:World)(hab:a≠b)
  (c0:w.cell? ⟨q,0,none⟩=some (.int .u32 0)) (c1:w.cell? ⟨q,0+1,none⟩=some (.int .i32 1)) (hf:∀j,w.frozen? ⟨q,j,none⟩=false) (c3:w.cell? ⟨q,3,none⟩=some v3)
  (hc:w.cell? ⟨q,4,none⟩=some (.slice (some ⟨ro,0,none⟩) 4 cap)) (h0:w.cell? ⟨ro,0,none⟩=some (.string ⟨#[a]⟩)) (h1:w.cell? ⟨ro,1,none⟩=some (.string ⟨#[a1,a2]⟩)) (h2:w.cell? ⟨ro,2,none⟩=some (.string ⟨#[b]⟩)) (h3:w.cell? ⟨ro,3,none⟩=some (.string ⟨#[b1,b2]⟩)) :
  Calls Tryz.prog 110 #[.pointer (some ⟨q,0,none⟩)] w fun e w'=>e = .returned (.tuple #[])/\Once q w w'/\∃R,w'.cell? ⟨q,3,none⟩=some (.iface 286 (.pointer (some ⟨R,0,none⟩)))/\lf R a b a1 a2 b1 b2 w':=by
 have hqlt:q<w.heap.size:=World.block_lt_of_cell? _ _ c0;have hB:=zs3 q ro cap a b a1 a2 b1 b2 w hab hc h0 h1 h2 h3
 go_enter Tryz.func110,Tryz.ntmps110
 go_wp2_with (go_at_call 154;go_must (refine hB.mono ?_;rintro e W ⟨R,rfl,hBu,hbe⟩;have k0:∀{j:Nat}{v:Value},w.cell? ⟨q,j,none⟩=some v->W.cell? ⟨q,j,none⟩=some v:=(fun hj=>(hbe.cell (World.block_lt_of_cell? _ _ hj)).trans hj);have kf:∀j,W.frozen? ⟨q,j,none⟩=false:=(fun j=>(hbe.frozen (p:=⟨q,j,none⟩) hqlt).trans (hf j));have d0:=k0 c0;have d1:=k0 c1;have d3:=k0 c3;have d4:=k0 hc;clear hB hf k0))
 have d0':(W.setCell ⟨q,3,none⟩ (.iface 286 (.pointer (some ⟨R,0,none⟩)))).cell? ⟨q,0,none⟩=some (.int .u32 0):=by rw[World.cell?_setCell_other _ _ _ _ oC];exact d0
 have d1':(W.setCell ⟨q,3,none⟩ (.iface 286 (.pointer (some ⟨R,0,none⟩)))).cell? ⟨q,0+1,none⟩=some (.int .i32 1):=by rw[World.cell?_setCell_other _ _ _ _ oC];exact d1
 have d3':=World.cell?_setCell_same W ⟨q,3,none⟩ (.iface 286 (.pointer (some ⟨R,0,none⟩))) d3
 go_end0
 refine⟨rfl,⟨qg4 (qg4 (qzp hbe) 3 _) 4 _,?_,?_,?_,?_⟩,R,?_,(hBu.setCell d0 _).setCell d0' _⟩
 ·rw[World.cell?_setCell_other _ _ _ _ oC];exact d0'
 ·rw[World.cell?_setCell_other _ _ _ _ oC];exact d1'
 ·simp[kf]
 ·simp[kf]
 ·rw[World.cell?_setCell_other _ _ _ _ oC];exact d3'
def replS(q ro cap:Nat)(v3:Value)(a b a1 a2 b1 b2:UInt8)(s:ByteArray)(w:World)(hab:a≠b)(hs:s.size<=1000000)
  (c0:w.cell? ⟨q,0,none⟩=some (.int .u32 0)) (c1:w.cell? ⟨q,0+1,none⟩=some (.int .i32 0)) (hf:∀j,w.frozen? ⟨q,j,none⟩=false) (c3:w.cell? ⟨q,3,none⟩=some v3)
  (hc:w.cell? ⟨q,4,none⟩=some (.slice (some ⟨ro,0,none⟩) 4 cap)) (h0:w.cell? ⟨ro,0,none⟩=some (.string ⟨#[a]⟩)) (h1:w.cell? ⟨ro,1,none⟩=some (.string ⟨#[a1,a2]⟩)) (h2:w.cell? ⟨ro,2,none⟩=some (.string ⟨#[b]⟩)) (h3:w.cell? ⟨ro,3,none⟩=some (.string ⟨#[b1,b2]⟩)) :
  Calls Tryz.prog 59 #[.pointer (some ⟨q,0,none⟩),.string s] w fun e w'=>∃v,e = .returned v/\v = .string ⟨(gc a b [a1,a2] [b1,b2] s.data.toList).toArray⟩/\b9 (fun k=>k=q) w w':=by
 have hne:¬ro=q:=fun e=>by subst e;rw[c0]at h0;cases h0
 have k:∀{p:Addr}{x:Value},p≠⟨q,0+1,none⟩->w.cell? p=some x->(w.setCell ⟨q,0+1,none⟩ (.int .i32 1)).cell? p=some x:=fun{p x} hp hx=>by
  rw[World.cell?_setCell_other _ _ _ _ (fun e=>hp e.symm)];exact hx
 have kb:b9 (fun k=>k=q) w (w.setCell ⟨q,0+1,none⟩ (.int .i32 1)):=qg4 (qzp (Below.refl _ _)) _ _
 refine Go.Proofs.YtdnaaelkpgijeabGreatDoor.Once.replaceS_first q s w (fun w'=>Once q (w.setCell ⟨q,0+1,none⟩ (.int .i32 1)) w'/\∃R,w'.cell? ⟨q,3,none⟩=some (.iface 286 (.pointer (some ⟨R,0,none⟩)))/\lf R a b a1 a2 b1 b2 w') (fun v w'=>v = .string ⟨(gc a b [a1,a2] [b1,b2] s.data.toList).toArray⟩/\b9 (fun k=>k=q) w w') c0 c1 (hf _) (hf _) ?_ ?_ ?_
 ·exact zs5 q ro cap v3 a b a1 a2 b1 b2 _ hab (k oC c0) (World.cell?_setCell_same w _ _ c1) (fun j=>by simp[hf]) (k oC c3) (k oC hc) (k (by intro h;exact hne (congrArg Addr.block h)) h0) (k (by intro h;exact hne (congrArg Addr.block h)) h1) (k (by intro h;exact hne (congrArg Addr.block h)) h2) (k (by intro h;exact hne (congrArg Addr.block h)) h3)
 ·rintro w' ⟨ho,_⟩
  exact⟨ho.c0,ho.f0,ho.c1,ho.f1⟩
 ·rintro w' ⟨ho,R,hR,hBu⟩
  refine⟨R,hR,?_⟩;have e0:w'.drew.cell? ⟨q,0,none⟩=some (.int .u32 0):=by rw[World.cell?_drew];exact ho.c0
  have e1:=World.cell?_setCell_same w'.drew ⟨q,0,none⟩ (.int .u32 1) e0;have hB2:lf R a b a1 a2 b1 b2 ((w'.drew.setCell ⟨q,0,none⟩ (.int .u32 1)).setCell ⟨q,0+1,none⟩ (.int .i32 0)):=
   ((hBu.below (Below.refl _ w').drew).setCell e0 _).setCell e1 _
  have hBel:b9 (fun k=>k=q) w ((w'.drew.setCell ⟨q,0,none⟩ (.int .u32 1)).setCell ⟨q,0+1,none⟩ (.int .i32 0)):=
   qg4 (qg4 (qzq (qzq kb ho.bel) (zsx _ _)) 0 _) (0+1) _
  refine(zs8 R a b a1 a2 b1 b2 s _ hab hs hB2).mono ?_;rintro e w2 ⟨rfl,hb2⟩
  exact⟨_,rfl,rfl,qzq hBel (qzp hb2)⟩
end Go.Proofs.Repl
namespace Go.Sym
open Go.Proofs Go.RowKit
variable[LC]
def zzf(a b a1 a2 b1 b2:UInt8)(s:Bs)(p2:Int)(hab:a≠b)(hs:s.length<=1000000) :
  ce Tryz.prog 59 [.ptr 0 0,.str s] [(0,.cells [.int .u32 0,.int .i32 0,.int .u32 p2,.val .nilIface,.own 1] 171),(1,.row .str [[a],[a1,a2],[b],[b1,b2]] 9)] (.str (gc a b [a1,a2] [b1,b2] s)) []:=by
 refine ce.gone fun w G vs hm hr => ?_
 match vs,hr with
 |[v1,v2],hr=>
 obtain⟨⟨q,hG,rfl⟩,r2,_⟩:=hr;have r2:v2 = .string ⟨s.toArray⟩:=r2;subst r2;obtain⟨B,cs,g1,g2,g3,g4,g5⟩:=hm.holds 0 _ rfl;rw[show G.box 0=some q from hG]at g1
 cases g1
 obtain⟨ad,c,us,o1,o2,o3,o4⟩:=(hm.holds 1 (.row .str [[a],[a1,a2],[b],[b1,b2]] 9) rfl).rowAt;obtain⟨u0,c0,x0⟩:=jk g3 (i:=0) rfl;obtain⟨u1,c1,x1⟩:=jk g3 (i:=1) rfl;obtain⟨u3,c3,x3⟩:=jk g3 (i:=3) rfl;obtain⟨u4,c4,x4⟩:=jk g3 (i:=4) rfl;have x0:u0 = .int .u32 0:=x0;have x1:u1 = .int .i32 0:=x1;obtain⟨ad',n',c',x5,x4⟩:=x4;rw[o1]at x5;cases x5
 subst x0 x1 x4;have k:∀{i:Nat}{v:Value},cs.toList[i]? = some v->w.cell? ⟨q,i,none⟩=some v:=fun{i v} h=>cell_of_heap g2 h
 obtain⟨ho1,ho2⟩:=o2;rcases ho2 with⟨_,h0,_⟩|⟨g,vr,fz,rfl,e1,_,e3,e4,e5,e6,_⟩
 ·cases h0
 ·have hus:us=[.string ⟨#[a]⟩,.string ⟨#[a1,a2]⟩,.string ⟨#[b]⟩,.string ⟨#[b1,b2]⟩]:=by
   match us,o3 with
   |[y0,y1,y2,y3],⟨z0,z1,z2,z3,_⟩=>
    have z0:y0 = .string ⟨#[a]⟩:=z0;have z1:y1 = .string ⟨#[a1,a2]⟩:=z1;have z2:y2 = .string ⟨#[b]⟩:=z2;have z3:y3 = .string ⟨#[b1,b2]⟩:=z3;rw[z0,z1,z2,z3]
  have kr:∀{i:Nat}{v:Value},us[i]? = some v->w.cell? ⟨g,i,none⟩=some v:=fun{i v} h=>by
   rw[← e6,List.getElem?_take]at h;split at h
   ·exact cell_of_heap e1 h
   ·cases h
  subst hus;refine(Go.Proofs.Repl.replS q g c u3 a b a1 a2 b1 b2 ⟨s.toArray⟩ w hab (by rw[il];exact hs) (k c0) (k c1) (fun j=>by simp[World.frozen?,g2]) (k c3) (k c4) (kr (i:=0) rfl) (kr (i:=1) rfl) (kr (i:=2) rfl) (kr (i:=3) rfl)).mono ?_
  rintro e w' ⟨v,rfl,rfl,hb⟩
  refine⟨_,rfl,rfl,⟨hb.os,hb.tape,hb.output,hb.size,fun k hk hn=>hb.block k hk (fun e=>hn ?_)⟩⟩
  subst e;exact⟨0,_,rfl,hG⟩
def q2s:IF:=⟨.fn 59,[.ptr 0 0,.h .str],[(0,.cells [.h (.int .u32),.h (.int .i32),.h (.int .u32),.c .nilIface,.own 1] 171),(1,.row .str 9)],_,RS.mk (.h .str) []⟩
def zj4:(q2s.e si).Sound Tryz.prog:=fun d d' r h=>by
 obtain⟨_,s,_⟩:=d;obtain⟨⟨p0,p1,p2,_,_,_⟩,on,_⟩:=d';have h:si s p0 p1 p2 on=some r:=h;obtain⟨a,a1,a2,b,b1,b2,rfl,rfl,rfl,hab,hs,rfl⟩:=zzi h;exact⟨Tryz.call59,zzf a b a1 a2 b1 b2 s p2 hab hs⟩
end Go.Sym
namespace Go.Sym
open Go.Proofs Go.RowKit
open Go.Proofs.Tryz
variable[LC]
def ze7:Builder.Extra Tryz.prog Tryz.lays105_ren:={
 sizeBuilder:=oB
 liesBuilder:=oB
 t5:=Tryz.lays105.t5
 a5:=Tryz.lays105.a5
 z5:=Tryz.lays105.z5
 v5:=Tryz.lays105.v5
 infoByte:=oB
 cellsByte:=oB
 sizeByte:=oB
 neB5:=by decide }
def zzb{w:World}(s:Bs)(n:Int)(d1:0<=n)(d2:n<=9223372036854775807)(d3:s.length*n.toNat<=140737488355328) :
  Calls Tryz.prog 118 #[.string ⟨s.toArray⟩,.int .i64 n] w fun e w'=>e = .returned (.string ⟨(Lib.repeatL s n.toNat).toArray⟩)/\cg w w':=by
 have hn:n=((n.toNat:Nat):Int):=oA
 have key:=Any.strings_Repeat Tryz.lays105 ze7 ⟨s.toArray⟩ n.toNat w oA (by rw[il];exact d3)
 rw[← hn]at key;exact key.mono fun e w'⟨he,hw⟩=>⟨he,cg.of_below hw⟩
def zj0:IF:=⟨.fn 118,[.h .str,.h (.int .i64)],[],_,RS.mk (.h .str) []⟩
def zzc:(zj0.e qf5).Sound Tryz.prog:=fun d d' r h=>by
 obtain⟨s,n,_⟩:=d;have h:qf5 s n=some r:=h;unfold qf5 at h;cases hd:decide (0<=(show Int from n)/\(show Int from n)<=9223372036854775807/\List.length (α:=UInt8) s*(show Int from n).toNat<=140737488355328)<;>rw[hd]at h<;>simp only[qT,qF,reduceCtorEq]at h
 have h:=qJ h;subst h;obtain⟨d1,d2,d3⟩:=of_decide_eq_true hd;refine⟨call118,ce.data fun w G vs hm hr => ?_⟩
 match vs,hr with
 |[u,v],⟨h1,h2,_⟩=>
  have h1:u = .string ⟨s.toArray⟩:=h1;have h2:v = .int .i64 n:=h2;subst h1 h2;exact(zzb s n d1 d2 d3).mono fun e w'⟨he,hw⟩=>⟨_,he,rfl,hw⟩
def zs0:Builder.Extra Tryz.prog Tryz.lays155_ren:={
 sizeBuilder:=oB
 liesBuilder:=oB
 t5:=Tryz.lays155.t5
 a5:=Tryz.lays155.a5
 z5:=Tryz.lays155.z5
 v5:=Tryz.lays155.v5
 infoByte:=oB
 cellsByte:=oB
 sizeByte:=oB
 neB5:=by decide }
def zzd{G:Gh}{w:World}(hm:bp G [] w)(hi:2∈LC.ints)(s o n:Bs)(d1:1<=o.length)(d2:s.length<4294967281)(d3:s.length+s.length*n.length<=140737488355328) :
  Calls Tryz.prog 316 #[.string ⟨s.toArray⟩,.string ⟨o.toArray⟩,.string ⟨n.toArray⟩] w fun e w'=>e = .returned (.string ⟨(Lib.replaceAll s o n).toArray⟩)/\cg w w':=by
 obtain⟨k,hk⟩:=hm.tab.2.1 _ hi;have hk:=hm.agree _ _ _ hk;have hc:Lib.countB ⟨s.toArray⟩ ⟨o.toArray⟩<=s.length:=by
  have:=Lib.countB_mul_le (⟨o.toArray⟩:ByteArray) (by rw[il];exact d1) _ (⟨s.toArray⟩:ByteArray) (wF _)
  rw[il,il]at this;exact Nat.le_trans (Nat.le_mul_of_pos_right _ d1) this
 exact(Any.strings_ReplaceAll Tryz.lays155 zs0 ⟨s.toArray⟩ ⟨o.toArray⟩ ⟨n.toArray⟩ k w (by rw[il];exact d2) hk (by rw[il];exact d1) (by
  rw[il,il];exact Nat.le_trans (Nat.add_le_add_left (Nat.mul_le_mul_right _ hc) _) d3)).mono fun e w'⟨he,hw⟩=>⟨he,cg.of_below hw⟩
def zj1:IF:=⟨.fn 316,[.h .str,.h .str,.h .str],[],_,RS.mk (.h .str) []⟩
def zze(hi:2∈LC.ints):(zj1.e qbq).Sound Tryz.prog:=fun d d' r h=>by
 obtain⟨s,o,n,_⟩:=d;have h:qbq s o n=some r:=h;unfold qbq at h;cases hd:decide (1<=List.length (α:=UInt8) o/\List.length (α:=UInt8) s<4294967281/\List.length (α:=UInt8) s+List.length (α:=UInt8) s*List.length (α:=UInt8) n<=140737488355328)<;>rw[hd]at h<;>simp only[qT,qF,reduceCtorEq]at h
 have h:=qJ h;subst h;obtain⟨d1,d2,d3⟩:=of_decide_eq_true hd;refine⟨call316,ce.data fun w G vs hm hr => ?_⟩
 match vs,hr with
 |[u,v,x],⟨h1,h2,h3,_⟩=>
  have h1:u = .string ⟨s.toArray⟩:=h1;have h2:v = .string ⟨o.toArray⟩:=h2;have h3:x = .string ⟨n.toArray⟩:=h3;subst h1 h2 h3;exact(zzd hm hi s o n d1 d2 d3).mono fun e w'⟨he,hw⟩=>⟨_,he,rfl,hw⟩
end Go.Sym
namespace Go.Sym
open Go.Proofs Go.RowKit Go.Shelf
def b9.refl(S:Nat->Prop)(w:World):b9 S w w:=⟨rfl,rfl,rfl,wF _,fun _ _ _=>rfl⟩
def b9.drew(S:Nat->Prop)(w:World):b9 S w w.drew:=⟨rfl,rfl,rfl,wF _,fun _ _ _=>rfl⟩
def b9.freeze{S:Nat->Prop}(w:World)(p:Addr)(n:Nat)(h:S p.block):b9 S w (w.drew.freeze p n):=by
 unfold World.freeze;split
 ·exact b9.drew S w
 ·exact⟨rfl,rfl,rfl,oC,fun k hk hS=>by
   simp[Array.getElem?_modify];rw[qW (fun e=>hS (by rw[← e];exact h))];rfl⟩
def b9.drew_alloc(S:Nat->Prop)(w:World)(o:Obj):b9 S w (w.drew.alloc o):=⟨rfl,rfl,rfl,oC,fun k hk _=>Below.heap_alloc w.drew _ k hk⟩
def zfo{G:Gh}:∀{l:List UInt8}{us:List Value},ak (l.flatMap Ty.byte.enc) G us->us=Lib.byteCells l
 |[],[],_=>rfl|c::l,u::us,⟨h1,h2⟩=>by
  have h1:u = .int .u8 c.toNat:=h1;rw[h1,zfo (l:=l) h2];rfl
 |[],_::_,h=>h.elim|_::_,[],h=>h.elim
section
variable{P:Program}{ρ:Ren}
set_option maxHeartbeats 2000000 in
def z0x(L:Lays.n169 P ρ)(X:Builder.Extra P ρ)(b:Nat)(p:Value)(l:List UInt8)(g cap:Nat)(w:World)(hbk:w.heap[b]? = some (.cells #[p,.slice (some ⟨g,0,none⟩) l.length cap] (ρ.t 72) (0,0)))
  (cur:Array Value) (fz:Nat×Nat) (hg:w.heap[g]? = some (.cells cur (ρ.t 5) fz)) (hnc:l.length<=cap) (hcm:cap<=maxLen) (hcs:cur.size=cap*1) (htake:cur.toList.take (l.length*1)=Lib.byteCells l) (h0:l≠[]) :
  Calls P (ρ.f 169) #[.pointer (some ⟨b,0,none⟩)] w fun e w'=>e = .returned (.string ⟨l.toArray⟩)/\b9 (fun k=>k=g) w w':=by
 have kp:l.length≠0:=by simpa using h0
 have c1:w.drew.cell? ⟨b,1,none⟩=some (.slice (some ⟨g,0,none⟩) l.length cap):=by
  have:w.drew.heap[b]? = some (.cells #[p,.slice (some ⟨g,0,none⟩) l.length cap] (ρ.t 72) (0,0)):=hbk;rw[Lib.cell_of_heap this];rfl
 have hSD:(Builtin.unsafeSliceData_ #[(ρ.t 37)] (ρ.t 127) #[.slice (some ⟨g,0,none⟩) l.length cap]).run P w.drew = .ok (.pointer (some ⟨g,0,none⟩)) w.drew:=
  Lib.run_unsafeSliceData_row _ _ _ _ _ _ oA
 have hUS:(Builtin.unsafeString_ #[(ρ.t 127),(ρ.t 3)] (ρ.t 9) #[.pointer (some ⟨g,0,none⟩),.int .i64 l.length]).run P w.drew = .ok (.string ⟨l.toArray⟩) (w.drew.freeze ⟨g,0,none⟩ l.length):=by
  refine Lib.run_unsafeString_row w.drew (ρ.t 127) (ρ.t 3) (ρ.t 9) (ρ.t 5) L.t127 X.cellsByte g cur.size (by have hg':w.drew.heap[g]? = some (.cells cur (ρ.t 5) fz):=hg;simp[World.shape?,hg']) l h0 oA (by unfold maxLen at hcm;omega) ?_
  intro j x hx;have hj:(cur.toList.take (l.length*1))[j]? = some (.int .u8 x.toNat):=by rw[htake];simp[Lib.byteCells,hx]
  have hj2:cur[j]? = some (.int .u8 x.toNat):=by
   rw[List.getElem?_take]at hj;split at hj
   ·simpa using hj
   ·cases hj
  have hg':w.drew.heap[g]? = some (.cells cur (ρ.t 5) fz):=hg;by_cases hj0:j=0
  ·subst hj0;simp[World.cell?,Addr.add,hg',hj2]
  ·simp[World.cell?,Addr.add,hj0,hg',hj2]
 have mixed:=L.mixed;have t72:=L.t72;have a72:=L.a72;have z72:=L.z72;have v72:=L.v72;have u72:=run_underlying L.t72;have t70:=L.t70;have a70:=L.a70;have z70:=L.z70;have v70:=L.v70;have u70:=run_underlying L.t70;have t37:=L.t37;have a37:=L.a37;have z37:=L.z37;have v37:=L.v37;have u37:=run_underlying L.t37;have t127:=L.t127;have a127:=L.a127;have z127:=L.z127;have v127:=L.v127;have u127:=run_underlying L.t127;have t3:=L.t3;have a3:=L.a3;have z3:=L.z3;have v3:=L.v3;have u3:=run_underlying L.t3;have t9:=L.t9;have a9:=L.a9;have z9:=L.z9;have v9:=L.v9;have u9:=run_underlying L.t9;have t5:=X.t5;have a5:=X.a5;have z5:=X.z5;have v5:=X.v5;have u5:=run_underlying X.t5;clear hcs htake hnc hcm hg
 go_enter L.f169,Body.n169_ntmps ρ
 go_wp2
 go_region_o
 all_goals (go_wp2;go_ret;exact⟨rfl,b9.freeze w ⟨g,0,none⟩ _ rfl⟩)
set_option maxHeartbeats 2000000 in
def z0y(L:Lays.n169 P ρ)(X:Builder.Extra P ρ)(b:Nat)(p:Value)(w:World)(hbk:w.heap[b]? = some (.cells #[p,.slice none 0 0] (ρ.t 72) (0,0))) :
  Calls P (ρ.f 169) #[.pointer (some ⟨b,0,none⟩)] w fun e w'=>e = .returned (.string ⟨#[]⟩)/\b9 (fun _=>False) w w':=by
 have hUS:=Any.unsafeString_none L X;have c1:w.drew.cell? ⟨b,1,none⟩=some (.slice none 0 0):=by
  have:w.drew.heap[b]? = some (.cells #[p,.slice none 0 0] (ρ.t 72) (0,0)):=hbk;rw[Lib.cell_of_heap this];rfl
 have hSD:(Builtin.unsafeSliceData_ #[(ρ.t 37)] (ρ.t 127) #[.slice none 0 0]).run P w.drew = .ok (.pointer none) w.drew:=rfl;have mixed:=L.mixed;have t72:=L.t72;have a72:=L.a72;have z72:=L.z72;have v72:=L.v72;have u72:=run_underlying L.t72;have t70:=L.t70;have a70:=L.a70;have z70:=L.z70;have v70:=L.v70;have u70:=run_underlying L.t70;have t37:=L.t37;have a37:=L.a37;have z37:=L.z37;have v37:=L.v37;have u37:=run_underlying L.t37;have t127:=L.t127;have a127:=L.a127;have z127:=L.z127;have v127:=L.v127;have u127:=run_underlying L.t127;have t3:=L.t3;have a3:=L.a3;have z3:=L.z3;have v3:=L.v3;have u3:=run_underlying L.t3;have t9:=L.t9;have a9:=L.a9;have z9:=L.z9;have v9:=L.v9;have u9:=run_underlying L.t9;have t5:=X.t5;have a5:=X.a5;have z5:=X.z5;have v5:=X.v5;have u5:=run_underlying X.t5
 go_enter L.f169,Body.n169_ntmps ρ
 go_wp2
 go_region_o
 all_goals (go_wp2;go_ret;exact⟨rfl,b9.drew _ w⟩)
set_option maxHeartbeats 2000000 in
def z0z(L:Lays.n169 P ρ)(X:Builder.Extra P ρ)(b g:Nat)(p:Value)(cur:Array Value)(w:World)(hbk:w.heap[b]? = some (.cells #[p,.slice (some ⟨g,0,none⟩) 0 0] (ρ.t 72) (0,0)))(fz:Nat×Nat)(hg:w.heap[g]? = some (.cells cur (ρ.t 5) fz)) :
  Calls P (ρ.f 169) #[.pointer (some ⟨b,0,none⟩)] w fun e w'=>e = .returned (.string ⟨#[]⟩)/\b9 (fun _=>False) w w':=by
 have hUS:=Any.unsafeString_none L X;have hlt:b<w.heap.size:=by
  rcases Nat.lt_or_ge b w.heap.size with h'|h'
  ·exact h'
  ·simp[Array.getElem?_eq_none h']at hbk
 have c1:w.drew.cell? ⟨b,1,none⟩=some (.slice (some ⟨g,0,none⟩) 0 0):=by
  have:w.drew.heap[b]? = some (.cells #[p,.slice (some ⟨g,0,none⟩) 0 0] (ρ.t 72) (0,0)):=hbk;rw[Lib.cell_of_heap this];rfl
 have hSD:(Builtin.unsafeSliceData_ #[(ρ.t 37)] (ρ.t 127) #[.slice (some ⟨g,0,none⟩) 0 0]).run P w.drew = .ok (.pointer (some ⟨w.drew.heap.size,0,none⟩)) (w.drew.alloc (.view ⟨g,0,none⟩ (ρ.t 5))):=
  Lib.run_unsafeSliceData_zero w.drew _ _ (ρ.t 5) L.t127 ⟨g,0,none⟩ 0 ((ρ.t 5),cur.size) (by have hg':w.drew.heap[g]? = some (.cells cur (ρ.t 5) fz):=hg;simp[World.shape?,hg'])
 have c2:(w.drew.alloc (.view ⟨g,0,none⟩ (ρ.t 5))).cell? ⟨b,1,none⟩=some (.slice (some ⟨g,0,none⟩) 0 0):=by
  have:(w.drew.alloc (.view ⟨g,0,none⟩ (ρ.t 5))).heap[b]? = _:=(Lib.alloc_old w.drew _ b hlt).trans hbk;rw[Lib.cell_of_heap this];rfl
 have c3:(w.alloc (.view ⟨g,0,none⟩ (ρ.t 5))).drew.cell? ⟨b,1,none⟩=some (.slice (some ⟨g,0,none⟩) 0 0):=c2;have c0:w.cell? ⟨b,1,none⟩=some (.slice (some ⟨g,0,none⟩) 0 0):=c1;have mixed:=L.mixed;have t72:=L.t72;have a72:=L.a72;have z72:=L.z72;have v72:=L.v72;have u72:=run_underlying L.t72;have t70:=L.t70;have a70:=L.a70;have z70:=L.z70;have v70:=L.v70;have u70:=run_underlying L.t70;have t37:=L.t37;have a37:=L.a37;have z37:=L.z37;have v37:=L.v37;have u37:=run_underlying L.t37;have t127:=L.t127;have a127:=L.a127;have z127:=L.z127;have v127:=L.v127;have u127:=run_underlying L.t127;have t3:=L.t3;have a3:=L.a3;have z3:=L.z3;have v3:=L.v3;have u3:=run_underlying L.t3;have t9:=L.t9;have a9:=L.a9;have z9:=L.z9;have v9:=L.v9;have u9:=run_underlying L.t9;have t5:=X.t5;have a5:=X.a5;have z5:=X.z5;have v5:=X.v5;have u5:=run_underlying X.t5
 go_enter L.f169,Body.n169_ntmps ρ
 go_wp2
 go_region_o
 all_goals (go_wp2;go_ret;exact⟨rfl,b9.drew_alloc _ w _⟩)
set_option maxHeartbeats 2000000 in
def z00(L:Lays.n169 P ρ)(X:Builder.Extra P ρ)(b g cap:Nat)(p:Value)(w:World)(hc0:cap≠0)(hbk:w.heap[b]? = some (.cells #[p,.slice (some ⟨g,0,none⟩) 0 cap] (ρ.t 72) (0,0))) :
  Calls P (ρ.f 169) #[.pointer (some ⟨b,0,none⟩)] w fun e w'=>e = .returned (.string ⟨#[]⟩)/\b9 (fun _=>False) w w':=by
 have hUS:=Any.unsafeString_none L X;have c1:w.drew.cell? ⟨b,1,none⟩=some (.slice (some ⟨g,0,none⟩) 0 cap):=by
  have:w.drew.heap[b]? = some (.cells #[p,.slice (some ⟨g,0,none⟩) 0 cap] (ρ.t 72) (0,0)):=hbk;rw[Lib.cell_of_heap this];rfl
 have hSD:(Builtin.unsafeSliceData_ #[(ρ.t 37)] (ρ.t 127) #[.slice (some ⟨g,0,none⟩) 0 cap]).run P w.drew = .ok (.pointer (some ⟨g,0,none⟩)) w.drew:=
  Lib.run_unsafeSliceData_row _ _ _ _ _ _ hc0
 clear hc0;have mixed:=L.mixed;have t72:=L.t72;have a72:=L.a72;have z72:=L.z72;have v72:=L.v72;have u72:=run_underlying L.t72;have t70:=L.t70;have a70:=L.a70;have z70:=L.z70;have v70:=L.v70;have u70:=run_underlying L.t70;have t37:=L.t37;have a37:=L.a37;have z37:=L.z37;have v37:=L.v37;have u37:=run_underlying L.t37;have t127:=L.t127;have a127:=L.a127;have z127:=L.z127;have v127:=L.v127;have u127:=run_underlying L.t127;have t3:=L.t3;have a3:=L.a3;have z3:=L.z3;have v3:=L.v3;have u3:=run_underlying L.t3;have t9:=L.t9;have a9:=L.a9;have z9:=L.z9;have v9:=L.v9;have u9:=run_underlying L.t9;have t5:=X.t5;have a5:=X.a5;have z5:=X.z5;have v5:=X.v5;have u5:=run_underlying X.t5
 go_enter L.f169,Body.n169_ntmps ρ
 go_wp2
 go_region_o
 all_goals (go_wp2;go_ret;exact⟨rfl,b9.drew _ w⟩)
end
open Go.Proofs.Tryz
variable[LC]
def zsy{q:Nat}(w:World)(n:Nat)(v:Value):b9 (fun k=>k=q) w (w.setCell ⟨q,n,none⟩ v):=
 ⟨rfl,rfl,rfl,by simp[World.setCell],fun k hk hS=>by simp only[World.setCell,Array.getElem?_modify];rw[qW (fun e=>hS e.symm)]⟩
def b9.mono{S S':Nat->Prop}{w w':World}(h:b9 S w w')(hS:∀k,S k->S' k):b9 S' w w':=⟨h.os,h.tape,h.output,h.size,fun k hk hn=>h.block k hk fun q=>hn (hS k q)⟩
def Fin.same{vhe w:World}{vg8 G:Gh}{vhb hp hp':List (Nat×ag)}(hf:Fin vhe vg8 vhb G hp' w)(h:∀n,af hp n=af hp' n):Fin vhe vg8 vhb G hp w:=
 ⟨⟨hf.mem.agree,hf.mem.one,fun n bx hl=>hf.mem.holds n bx (by rw[← h];exact hl),fun n m bx bx' b h1 h2=>hf.mem.apart n m bx bx' b (by rw[← h];exact h1) (by rw[← h];exact h2),hf.mem.tab⟩,
  hf.bel,hf.imm_le,hf.imm_new,fun n bx b hl=>hf.base n bx b (by rw[← h];exact hl),hf.keep,hf.keepOwn⟩
abbrev bxB:List (Nat×bc):=[(0,.cells [.pn 0,.own 1] 245),(1,.row .byte 5)]
def qm8:IF:=⟨.fn 210,[.ptr 0 0],bxB,_,RS.mk (.tup []) bxB⟩
def qzw:IF:=⟨.fn 169,[.ptr 0 0],bxB,_,RS.mk (.h .str) []⟩
abbrev bxh(l:Bs):List (Nat×ag):=[(0,.cells [.pn 0,.own 1] 245),(1,.row .byte l 5)]
def zfm{G:Gh}{w:World}{l:Bs}{vs:List Value}(hm:bp G (bxh l) w)(hr:ak [AV.ptr 0 0] G vs) :
  ∃B p ad c,vs=[.pointer (some ⟨B,0,none⟩)]/\G.box 0=some B/\G.own 1=some (ad,l.length,c)/\(p = .pointer none\/p = .pointer (some ⟨B,0,none⟩)) /\
   w.heap[B]? = some (.cells #[p,.slice ad l.length c] 245 (0,0))/\(∀o,G.imm B o=none):=by
 match vs,hr with
 |[v],⟨⟨B,h1,h2⟩,_⟩=>
  obtain⟨B',arr,k1,k2,k3,_,k5⟩:=hm.holds 0 _ rfl;rw[h1]at k1;injection k1 with k1;subst k1
  match arr,k2,k3 with
  |⟨[]⟩,_,h=>exact h.elim|⟨[_]⟩,_,h=>exact h.2.elim|⟨_::_::_::_⟩,_,h=>exact h.2.2.elim|⟨[p,x]⟩,k2,⟨⟨B2,q1,q2⟩,⟨a,n,c,q3,q4⟩,_⟩=>
   rw[h1]at q1;injection q1 with q1;subst q1
   obtain⟨a',c',r1,_⟩:=hm.holds 1 _ rfl;rw[r1]at q3;simp only[qI,qP]at q3;obtain⟨rfl,rfl,rfl⟩:=q3;subst q4 h2;exact⟨B,p,a',c',rfl,h1,r1,q2,k2,k5⟩
def q0c:(qm8.e ql).Sound Tryz.prog:=fun d d' r h=>by
 obtain⟨d0,l,_⟩:=d';have h:ql l=some r:=h;have h:=qJ h;subst h;refine⟨call210,?_⟩;show ce _ _ [.ptr 0 0] (bxh l) (.tup []) (bxh l);intro w G vs hm hr;obtain⟨B,p,ad,c,rfl,h1,h2,h3,h4,h5⟩:=zfm hm hr;rcases h3 with rfl|rfl
 ·refine(Any.Builder_copyCheck_fresh { Tryz.lays165 with } ToValid.bx.toX72 B w (by rw[Lib.cell_of_heap h4];rfl) (by have q:w.shape? B=some (245,2):=by{ simp[World.shape?,h4] };exact q) (Lib.frozen_of_heap h4 0)).mono ?_
  rintro e w' ⟨rfl,rfl⟩
  refine⟨_,G,rfl,?_,#[],rfl,trivial⟩;refine((pa hm).update (n:=0) (bx := .cells [.pn 0,.own 1] 245) (bx' := .cells [.pn 0,.own 1] 245) (B:=B) rfl h1 h1 (zsy w 0 _) ?_ h5).same (fun n => ?_)
  ·exact⟨B,#[.pointer (some ⟨B,0,none⟩),.slice ad l.length c],h1,by simp[World.setCell,Array.getElem?_modify,h4];rfl,⟨⟨B,h1,.inr rfl⟩,⟨ad,l.length,c,h2,rfl⟩,trivial⟩,by intro v hv;simp at hv;rcases hv with rfl|rfl<;>rfl,h5⟩
  ·cases n<;>rfl
 ·refine(Any.Builder_copyCheck_used { Tryz.lays165 with } ToValid.bx.toX72 B w (by rw[Lib.cell_of_heap h4];rfl)).mono ?_
  rintro e w' ⟨rfl,rfl⟩
  exact⟨_,G,rfl,pa hm,#[],rfl,trivial⟩
def zfg:(qzw.e ya).Sound Tryz.prog:=fun d d' r h=>by
 obtain⟨d0,l,_⟩:=d';have h:ya l=some r:=h;have h:=qJ h;subst h;refine⟨call169,ce.gone fun w G vs hm hr => ?_⟩
 have hm:bp G (bxh l) w:=hm;obtain⟨B,p,ad,c,rfl,h1,h2,h3,h4,h5⟩:=zfm hm hr;obtain⟨a',c',k1,k2⟩:=hm.holds 1 _ rfl;rw[h2]at k1;simp only[qI,qP]at k1;obtain⟨rfl,-,rfl⟩:=k1;rcases k2 with⟨rfl,rfl,rfl⟩|⟨g,cs,fz,rfl,hg,_,hnc,hcm,hcs,hrep,_,_⟩
 ·refine(z0y Tryz.lays169 ToValid.bx B p w h4).mono ?_;rintro e w' ⟨rfl,hb⟩
  exact⟨_,rfl,rfl,hb.mono fun _ q=>q.elim⟩
 ·by_cases h0:l=[]
  ·subst h0;by_cases hc0:c=0
   ·subst hc0;refine(z0z Tryz.lays169 ToValid.bx B g p cs w h4 fz hg).mono ?_;rintro e w' ⟨rfl,hb⟩
    exact⟨_,rfl,rfl,hb.mono fun _ q=>q.elim⟩
   ·refine(z00 Tryz.lays169 ToValid.bx B g c p w hc0 h4).mono ?_;rintro e w' ⟨rfl,hb⟩
    exact⟨_,rfl,rfl,hb.mono fun _ q=>q.elim⟩
  ·refine(z0x Tryz.lays169 ToValid.bx B p l g c w h4 cs fz hg hnc hcm hcs (zfo hrep) h0).mono ?_;rintro e w' ⟨rfl,hb⟩
   refine⟨_,rfl,rfl,hb.mono fun k q => ?_⟩
   subst q;exact⟨1,.row .byte l 5,rfl,by simp only[Gh.at,h2]⟩
end Go.Sym
namespace Go.Sym
open Go.Proofs Go.RowKit Go.Sort
open Go.Proofs.Tryz
variable[LC]
end Go.Sym
namespace Go.Sym
open Go.Proofs Go.RowKit
open Go.Proofs.Tryz
variable[LC]
def ze8:Builder.Extra Tryz.prog Tryz.lays156_ren:=ze7
def zwm{G:Gh}{w:World}(hm:bp G [] w){l:List Bs}{u:Value}(sep:Bs)(hu:aj (.sl .str l) G u)(d1:l.length<=140737488355328)(d2:(Lib.join l sep).length<=140737488355328) :
  Calls Tryz.prog 130 #[u,.string ⟨sep.toArray⟩] w fun e w'=>e = .returned (.string ⟨(Lib.join l sep).toArray⟩)/\cg w w':=by
 obtain⟨p,c,rfl,hc,hp⟩:jc 1 (Ty.str.At G.imm) l u:=hu;by_cases hl:l=[]
 ·subst hl;exact(Any.strings_Join_none Tryz.lays156 ze8 p c ⟨sep.toArray⟩ w).mono fun e w'⟨he,hw⟩=>⟨he,hw▸cg.refl _⟩
 ·rcases hp with h|⟨g,o,rfl,hcells⟩
  ·exact absurd h hl
  have e:(l.map fun s:Bs=>(⟨s.toArray⟩:ByteArray)).map (·.data.toList)=l:=by
   rw[List.map_map];exact(List.map_congr_left fun s _=>rfl).trans (List.map_id l)
  have hcl:∀(j:Nat) x,(l.map fun s:Bs=>(⟨s.toArray⟩:ByteArray))[j]? = some x->w.cell? ⟨g,o+j,none⟩=some (.string x):=fun j x hx=>by
   rw[List.getElem?_map]at hx;obtain⟨s,hs,rfl⟩:=Option.map_eq_some_iff.1 hx;have h1:G.imm g (o+j*1)=some (.string ⟨s.toArray⟩):=hcells j s hs;rw[Nat.mul_one]at h1;exact hm.agree _ _ _ h1
  have hlt:g<w.heap.size:=by
   obtain⟨x,t,rfl⟩:=List.exists_cons_of_ne_nil hl;exact World.block_lt_of_cell? _ _ (hcl 0 ⟨x.toArray⟩ rfl)
  have key:=Any.strings_Join Tryz.lays156 ze8 g o c (l.map fun s:Bs=>(⟨s.toArray⟩:ByteArray)) ⟨sep.toArray⟩ w hcl hlt (by rw[wC];exact d1) (by rw[wC];exact hc) (by rw[e];exact d2)
  rw[e,wC]at key;exact key.mono fun e w'⟨he,hw⟩=>⟨he,cg.of_below hw⟩
def qh1:IF:=⟨.fn 130,[.h (.list .str),.h .str],[],_,RS.mk (.h .str) []⟩
def qoc:(qh1.e jt).Sound Tryz.prog:=fun d d' r h=>by
 obtain⟨l,s,_⟩:=d;have h:jt l s=some r:=h;unfold jt at h;cases hd:decide (List.length (α:=Bs) l<=140737488355328/\List.length (Lib.join l s)<=140737488355328)<;>rw[hd]at h<;>simp only[qT,qF,reduceCtorEq]at h
 have h:=qJ h;subst h;obtain⟨d1,d2⟩:=of_decide_eq_true hd;refine⟨call130,ce.data fun w G vs hm hr => ?_⟩
 match vs,hr with
 |[u,v],⟨h1,h2,_⟩=>
  have h2:v = .string ⟨s.toArray⟩:=h2;subst h2;exact(zwm hm s h1 d1 d2).mono fun e w'⟨he,hw⟩=>⟨_,he,rfl,hw⟩
def szl(a:Bs)(h:a.length<4294967281):(⟨a.toArray⟩:ByteArray).size<4294967281:=by rw[il];exact h
def q29:IF:=⟨.fn 172,[.h .str,.h .str],[],_,RS.mk (.h (.int .i64)) []⟩
def zkz(hi:2∈LC.ints):(q29.e qn).Sound Tryz.prog:=fun d d' r h=>by
 obtain⟨a,b,_⟩:=d;have h:qn a b=some r:=h;unfold qn at h;cases hd:decide (List.length (α:=UInt8) a<4294967281)<;>rw[hd]at h<;>simp only[qT,qF,reduceCtorEq]at h
 have h:=qJ h;subst h;have hd:=of_decide_eq_true hd;refine⟨call172,ce.data fun w G vs hm hr => ?_⟩
 match vs,hr with
 |[u,v],⟨h1,h2,_⟩=>
  have h1:u = .string ⟨a.toArray⟩:=h1;have h2:v = .string ⟨b.toArray⟩:=h2;subst h1 h2;obtain⟨k,hk⟩:=hm.tab.2.1 _ hi;have hk:=hm.agree _ _ _ hk;exact(Any.stringslite_Index Tryz.lays219 ⟨a.toArray⟩ ⟨b.toArray⟩ k w (szl a hd) hk).mono fun e w'⟨he,hw⟩=>⟨_,he,rfl,hw▸cg.refl _⟩
end Go.Sym
namespace Go.Sym
open Go.Proofs Go.RowKit
open Go.Proofs.Tryz
variable[LC]
def zum(s:Bs):Lib.decodeGo ⟨s.toArray⟩=qcm s:=by
 unfold Lib.decodeGo qcm
 cases s with|nil=>rfl|cons c s=>rw[qW (by simp[ByteArray.size]),qW,← Lib.decodeL_drop];rfl
def zun{G:Gh}{w:World}(hm:bp G [] w){t0:List UInt8}{t1:List (UInt8×UInt8)}(h0:LC.glob 0=some ⟨.byte,t0⟩)(h1:LC.glob 1=some ⟨.prod .byte .byte,t1⟩)(e0:vg t0=true)(e1:vh t1=true)(s:Bs) :
  Calls Tryz.prog 149 #[.string ⟨s.toArray⟩] w fun e w'=>e = .returned (.tuple #[.int .i32 (qcm s).1,.int .i64 (qcm s).2])/\cg w w':=by
 have k:=ToValid.decC ⟨s.toArray⟩ w (q3s hm h0 h1 e0 e1);rw[zum]at k;exact k.mono fun e w'⟨he,hw⟩=>⟨he,cg.of_below hw⟩
def vj:IF:=⟨.fn 149,[.h .str],[],_,RS.mk (.tup [.h (.int .i32),.h (.int .i64)]) []⟩
def y6{t0:List UInt8}{t1:List (UInt8×UInt8)}(h0:LC.glob 0=some ⟨.byte,t0⟩)(h1:LC.glob 1=some ⟨.prod .byte .byte,t1⟩)(e0:vg t0=true)(e1:vh t1=true):(vj.e iz).Sound Tryz.prog:=fun d d' r h=>by
 obtain⟨s,_⟩:=d;have h:iz s=some r:=h;unfold iz at h;have h:=qJ h;subst h;refine⟨call149,ce.data fun w G vs hm hr => ?_⟩
 match vs,hr with
 |[u],⟨h1',_⟩=>
  have h1':u = .string ⟨s.toArray⟩:=h1';subst h1';exact(zun hm h0 h1 e0 e1 s).mono fun e w'⟨he,hw⟩=>⟨_,he,⟨_,rfl,rfl,rfl,trivial⟩,hw⟩
end Go.Sym
namespace Go.Proofs
open Go.Sym(oB)
open Go.Shelf
def Tryz.lays189_ren:Go.Shelf.Ren:=⟨fun|189=>22|125=>50|257=>49|128=>91|129=>92|294=>83|295=>84|296=>85|297=>86|298=>87|299=>88|216=>46|300=>89|301=>90|328=>138|329=>139|330=>140|331=>141|332=>142|215=>82|343=>186|n=>n,fun|28=>25|3=>3|46=>90|0=>0|51=>148|53=>150|4=>4|183=>142|182=>141|131=>64|5=>5|9=>9|218=>220|222=>224|228=>270|229=>137|n=>n,fun|n=>n⟩
def Tryz.lays189:Go.Proofs.Lays.n189 Tryz.prog Tryz.lays189_ren:={
 mixed:=oB
 f125:=Tryz.func50.trans (congrArg some oB)
 f128:=Tryz.func91.trans (congrArg some oB)
 f129:=Tryz.func92.trans (congrArg some oB)
 f189:=Tryz.func22.trans (congrArg some oB)
 f215:=Tryz.func82.trans (congrArg some oB)
 f216:=Tryz.func46.trans (congrArg some oB)
 f257:=Tryz.func49.trans (congrArg some oB)
 f294:=Tryz.func83.trans (congrArg some oB)
 f295:=Tryz.func84.trans (congrArg some oB)
 f296:=Tryz.func85.trans (congrArg some oB)
 f297:=Tryz.func86.trans (congrArg some oB)
 f298:=Tryz.func87.trans (congrArg some oB)
 f299:=Tryz.func88.trans (congrArg some oB)
 f300:=Tryz.func89.trans (congrArg some oB)
 f301:=Tryz.func90.trans (congrArg some oB)
 f328:=Tryz.func138.trans (congrArg some oB)
 f329:=Tryz.func139.trans (congrArg some oB)
 f330:=Tryz.func140.trans (congrArg some oB)
 f331:=Tryz.func141.trans (congrArg some oB)
 f332:=Tryz.func142.trans (congrArg some oB)
 f343:=Tryz.func186.trans (congrArg some oB)
 t0:=Tryz.underlying0
 a0:=Tryz.isAgg0
 z0:=Tryz.sizeOf0
 v0:=Tryz.zeroValue0
 t3:=Tryz.underlying3
 a3:=Tryz.isAgg3
 z3:=Tryz.sizeOf3
 v3:=Tryz.zeroValue3
 t4:=Tryz.underlying4
 a4:=Tryz.isAgg4
 z4:=Tryz.sizeOf4
 v4:=Tryz.zeroValue4
 t5:=Tryz.underlying5
 a5:=Tryz.isAgg5
 z5:=Tryz.sizeOf5
 v5:=Tryz.zeroValue5
 t9:=Tryz.underlying9
 a9:=Tryz.isAgg9
 z9:=Tryz.sizeOf9
 v9:=Tryz.zeroValue9
 t28:=Tryz.underlying25
 a28:=Tryz.isAgg25
 z28:=Tryz.sizeOf25
 v28:=Tryz.zeroValue25
 t46:=Tryz.underlying90
 a46:=Tryz.isAgg90
 z46:=Tryz.sizeOf90
 v46:=Tryz.zeroValue90
 t51:=Tryz.underlying148
 a51:=Tryz.isAgg148
 z51:=Tryz.sizeOf148
 v51:=Tryz.zeroValue148
 t53:=Tryz.underlying150
 a53:=Tryz.isAgg150
 z53:=Tryz.sizeOf150
 v53:=Tryz.zeroValue150
 t131:=Tryz.underlying64
 a131:=Tryz.isAgg64
 z131:=Tryz.sizeOf64
 v131:=Tryz.zeroValue64
 t182:=Tryz.underlying141
 a182:=Tryz.isAgg141
 z182:=Tryz.sizeOf141
 v182:=Tryz.zeroValue141
 t183:=Tryz.underlying142
 a183:=Tryz.isAgg142
 z183:=Tryz.sizeOf142
 v183:=Tryz.zeroValue142
 t218:=Tryz.underlying220
 a218:=Tryz.isAgg220
 z218:=Tryz.sizeOf220
 v218:=Tryz.zeroValue220
 t222:=Tryz.underlying224
 a222:=Tryz.isAgg224
 z222:=Tryz.sizeOf224
 v222:=Tryz.zeroValue224
 t228:=Tryz.underlying270
 a228:=Tryz.isAgg270
 z228:=Tryz.sizeOf270
 v228:=Tryz.zeroValue270
 t229:=Tryz.underlying137
 a229:=Tryz.isAgg137
 z229:=Tryz.sizeOf137
 v229:=Tryz.zeroValue137 }
def Tryz.laysNm220_ren:Go.Shelf.Ren:=⟨fun|20=>23|n=>n,fun|22=>25|3=>3|4=>4|0=>0|n=>n,fun|n=>n⟩
def Tryz.laysNm220:Go.Proofs.Lays2.n20 Tryz.prog Tryz.laysNm220_ren:={
 mixed:=oB
 f20:=Tryz.func23.trans (congrArg some oB)
 t0:=Tryz.underlying0
 a0:=Tryz.isAgg0
 z0:=Tryz.sizeOf0
 v0:=Tryz.zeroValue0
 t3:=Tryz.underlying3
 a3:=Tryz.isAgg3
 z3:=Tryz.sizeOf3
 v3:=Tryz.zeroValue3
 t4:=Tryz.underlying4
 a4:=Tryz.isAgg4
 z4:=Tryz.sizeOf4
 v4:=Tryz.zeroValue4
 t22:=Tryz.underlying25
 a22:=Tryz.isAgg25
 z22:=Tryz.sizeOf25
 v22:=Tryz.zeroValue25
 i3:=by kernel_rfl }
end Go.Proofs
namespace Go.Sym
open Go.RowKit
def cy.cv{L L':LC}(h:LC.Same L L'){G:Gh}{w:World}{n:Nat}{bx:ag}(k:@cy L G w n bx):@cy L' G w n bx:=by
 cases bx with
 |loop st pe f m fr ps tag D=>
  obtain⟨B,tmps,DB,h1,h2,⟨asn,bo,h3,h4⟩,h5⟩:=k;exact⟨B,tmps,DB,h1,h2,⟨asn,bo,by rw[h.lc];exact h3,h4⟩,h5⟩
 |_=>exact k
def LC.tab_cv{L L':LC}(h:LC.Same L L'){m:Nat->Nat->Option Value}{w:World}(k:@LC.tab L m w):@LC.tab L' m w:=by
 unfold LC.tab at k ⊢;rw[h.glob,h.ints,h.ifs,h.sizes];exact k
def bp.cv{L L':LC}(h:LC.Same L L'){G:Gh}{hp:List (Nat×ag)}{w:World}(k:@bp L G hp w):@bp L' G hp w:=
 @bp.mk L' _ _ _ (@bp.agree L _ _ _ k) (@bp.one L _ _ _ k) (fun n bx hb=>cy.cv h (@bp.holds L _ _ _ k n bx hb)) (@bp.apart L _ _ _ k) (LC.tab_cv h (@bp.tab L _ _ _ k))
def Fin.cv{L L':LC}(h:LC.Same L L'){vhe:World}{vg8:Gh}{vhb:List (Nat×ag)}{G:Gh}{hp:List (Nat×ag)}{w:World}(k:@Fin L vhe vg8 vhb G hp w):@Fin L' vhe vg8 vhb G hp w:=
 @Fin.mk L' _ _ _ _ _ _ (bp.cv h (@Fin.mem L _ _ _ _ _ _ k)) (@Fin.bel L _ _ _ _ _ _ k) (@Fin.imm_le L _ _ _ _ _ _ k) (@Fin.imm_new L _ _ _ _ _ _ k) (@Fin.base L _ _ _ _ _ _ k) (@Fin.keep L _ _ _ _ _ _ k) (@Fin.keepOwn L _ _ _ _ _ _ k)
def LC.Same.symm{L L':LC}(h:LC.Same L L'):LC.Same L' L:=⟨h.lc.symm,h.glob.symm,h.ints.symm,h.ifs.symm,h.sizes.symm⟩
def ja.cv{L L':LC}(h:LC.Same L L'){vhe:World}{vg8:Gh}{vhb:List (Nat×ag)}{r:AV}{hp:List (Nat×ag)}{e:Ending}{w:World}(k:@ja L vhe vg8 vhb r hp e w):@ja L' vhe vg8 vhb r hp e w:=by
 obtain⟨v,G,h1,h2,h3⟩:=k;exact⟨v,G,h1,Fin.cv h h2,h3⟩
def ce.cv{L L':LC}(h:LC.Same L L'){P:Program}{f:FuncId}{xs:List AV}{hp:List (Nat×ag)}{r:AV}{hp':List (Nat×ag)}(k:@ce L P f xs hp r hp'):@ce L' P f xs hp r hp':=
 fun w G vs hm hr=>(k w G vs (bp.cv h.symm hm) hr).mono fun _ _ q=>ja.cv h q
def cm.Sound.cv{L L':LC}(h:LC.Same L L'){P:Program}{e:cm}(k:@cm.Sound L P e):@cm.Sound L' P e:=by
 intro d d' r hr;have:=k d d' r hr
 cases hk:e.key with
 |fn f=>rw[hk]at this;exact⟨this.1,ce.cv h this.2⟩|yld m=>
  rw[hk]at this;intro w G vs B hm hrs hB;obtain⟨lp,h1,h2⟩:=this w G vs B (bp.cv h.symm hm) hrs hB;exact⟨lp,h1,fun c cs=>by
   obtain⟨h3,v,w',h4,h5⟩:=h2 c cs;exact⟨h3,v,w',ja.cv h h4,h5⟩⟩
 |ext f=>rw[hk]at this;exact fun w G vs hm hrs=>this w G vs (bp.cv h.symm hm) hrs
 |thr f ks=>
  rw[hk]at this;refine⟨this.1,?_⟩;have h2:=this.2
  cases hm:kv (e.out.res r).1 with
  |none=>rw[hm]at h2;exact ce.cv h h2|some x=>
   rw[hm]at h2;exact fun w G vs hmm hrs=>(h2 w G vs (bp.cv h.symm hmm) hrs).mono fun _ _⟨q1,G',q2⟩=>⟨q1,G',Fin.cv h q2⟩
def EP.cv{L L':LC}{P:Program}(x:@EP L P)(h:LC.Same L L':=by exact⟨rfl,rfl,rfl,rfl,rfl⟩):@EP L' P:=@EP.mk L' P (@EP.e L P x) (cm.Sound.cv h (@EP.h L P x))
end Go.Sym
namespace Go.Proofs
open Go.Shelf
open Go.Sort Go.RowKit in
def Tryz.slices_Sort_int(blk off cap:Nat)(zs:List Int)(w:World)(hH:Holds (Value.int .i64) w blk off zs.toArray)(hblk:blk<w.heap.size)(hsz:zs.length<4611686018427387904) :
  Calls Tryz.prog 22 #[.slice (some ⟨blk,off,none⟩) zs.length cap] w fun e w'=>
   e = .returned (.tuple #[])/\∃n os,w'=grow (putRow (Value.int .i64) (Sort.ahead w n) blk off (zs.mergeSort fun x y=>decide (x<=y)).toArray) os:=Any.slices_Sort_int Tryz.lays189 blk off cap zs w hH hblk hsz
def Tryz.slices_Sort_int_none(p:Option Addr)(cap:Nat)(w:World) :
  Calls Tryz.prog 22 #[.slice p 0 cap] w fun e w'=>e = .returned (.tuple #[])/\w'=w:=Any.slices_Sort_int_none Tryz.lays189 p cap w
open Go.RowKit Go.Lib Go.Sort in
def Tryz.slices_Compact_int(blk off cap:Nat)(zs:List Int)(w:World)(hH:Holds (Value.int .i64) w blk off zs.toArray)(hsz:zs.length<=9223372036854775807)(hcap:zs.length<=cap) :
  Calls Tryz.prog 23 #[.slice (some ⟨blk,off,none⟩) zs.length cap] w fun e w'=>e = .returned (.slice (some ⟨blk,off,none⟩) (Lib.compact zs).length cap)/\∃q,w'=putRow (Value.int .i64) (Sort.ahead w q) blk off (Lib.compact zs++List.replicate (zs.length-(Lib.compact zs).length) 0).toArray:=Any.slices_Compact_int Tryz.laysNm220 blk off cap zs w hH hsz hcap
open Go.RowKit Go.Lib Go.Sort in
def Tryz.slices_Compact_int_empty(a:Option Addr)(cap:Nat)(w:World) :
  Calls Tryz.prog 23 #[.slice a 0 cap] w fun e w'=>e = .returned (.slice a 0 cap)/\w'=w:=Any.slices_Compact_int_empty Tryz.laysNm220 a cap w
end Go.Proofs
namespace Go.Sym
open Go.Proofs Go.Sort Go.RowKit
open Go.Proofs.Tryz
variable[LC]
def ce.inPlace{P:Program}{f:FuncId}{τ:Ty}{l l':List τ.den}{E:TypeId}(ac:l'.length=l.length)(h:∀(w:World)(G:Gh)(ad:Option Addr)(c:Nat)(us:List Value),fc w E τ.sz ad l.length c us->ak (l.flatMap τ.enc) G.data us ->
  Calls P f #[.slice ad l.length c] w fun e w'=>e = .returned (.tuple #[])/\∃us',fc w' E τ.sz ad l.length c us'/\ak (l'.flatMap τ.enc) G.data us'/\b9 (fun b=>cu ad=some b) w w') :
  ce P f [.own 0] [(0,.row τ l E)] (.tup []) [(0,.row τ l' E)]:=by
 intro w G vs hm hreps;have hl:af [(0,ag.row τ l E)] 0=some (.row τ l E):=rfl;obtain⟨ad,c,us,h1,h3,h4,h5⟩:=(hm.holds 0 _ hl).rowAt
 match vs,hreps with
 |[v],hreps=>
  obtain⟨⟨a',n',c',q1,rfl⟩,_⟩:=hreps;rw[h1]at q1;simp only[qI,qP]at q1;obtain⟨rfl,rfl,rfl⟩:=q1;refine(h w G ad c us h3 h4).mono ?_;rintro e w' ⟨rfl,us',r1,r2,r3⟩
  refine⟨_,G,rfl,?_,#[],rfl,trivial⟩;have hself:=pa hm;have hbox:cy G w' 0 (.row τ l' E):=cy.row (by rw[ac];exact h1) (by rw[ac];exact r1) r2 (fun b hb=>h5 b hb)
  cases had:cu ad with
  |none=>
   have hst:cg w w':=⟨r3.os,r3.tape,r3.output,r3.size,fun k hk _=>r3.block k hk (fun e=>by rw[had]at e;cases e)⟩
   have hf:=hself.extend (new:=[]) (Gh.le.refl G) hst (fun _ _ _ h => .inl h) (fun b o v hv=>by
    have hc:=hm.agree b o v hv;have hlt:=World.block_lt_of_cell? _ _ hc;rw[World.cell?_of_block (w:=w) (hst.block b hlt (fun h=>h))];exact hc) hm.one (fun n bx h=>by cases h) (fun n bx h=>by cases h) (fun n m bx bx' b h=>by cases h)
   have hlk:∀m b,af [(0,ag.row τ l' E)] m=some b->m=0/\b = .row τ l' E:=fun m b hh=>by
    simp only[af]at hh;cases hb:Nat.beq 0 m
    ·rw[hb]at hh;cases hh
    ·rw[hb]at hh;simp only[qT,qI]at hh;exact⟨(qN hb).symm,hh.symm⟩
   have hat:G.at 0 (.row τ l' E)=none:=by
    simp only[Gh.at,h1]
    cases ad with|none=>rfl|some a=>cases had
   refine⟨⟨hf.mem.agree,hf.mem.one,fun m b hh => ?_,fun m m' b b' c h1 h2 h3 _ => ?_,hf.mem.tab⟩,hf.bel,hf.imm_le,hf.imm_new,fun m b c h1 h2 => ?_,hf.keep,hf.keepOwn⟩
   ·obtain⟨rfl,rfl⟩:=hlk m b hh;exact hbox
   ·obtain⟨rfl,_⟩:=hlk m b h1;obtain⟨rfl,_⟩:=hlk m' b' h2;rfl
   ·obtain⟨rfl,rfl⟩:=hlk m b h1;rw[hat]at h2;cases h2
  |some B=>
   have hat:∀l:List τ.den,G.at 0 (.row τ l E)=some B:=fun l=>by
    simp only[Gh.at,h1]
    cases ad with
    |none=>cases had
    |some a=>exact had
   have hf:=hself.update (bx' := .row τ l' E) hl (hat l) (hat l') ⟨r3.os,r3.tape,r3.output,r3.size,fun k hk hne=>r3.block k hk (fun e=>by rw[had]at e;injection e with e;exact hne e.symm)⟩ hbox (h5 B had)
   have hlk:∀m b,af [(0,ag.row τ l' E)] m=some b->af (ol [(0,ag.row τ l E)] 0 (.row τ l' E)) m=some b:=fun m b hh=>by
    simp only[af]at hh;simp only[ol,af];cases hb:Nat.beq 0 m
    ·rw[hb]at hh;cases hh
    ·rw[hb]at hh;exact hh
   exact⟨⟨hf.mem.agree,hf.mem.one,fun m b hh=>hf.mem.holds m b (hlk m b hh),fun m m' b b' c h1 h2 h3 h4=>hf.mem.apart m m' b b' c (hlk _ _ h1) (hlk _ _ h2) h3 h4,hf.mem.tab⟩,hf.bel,hf.imm_le,hf.imm_new,fun m b c h1 h2=>hf.base m b c (hlk _ _ h1) h2,hf.keep,hf.keepOwn⟩
 |[],hreps=>exact hreps.elim|_::_::_,hreps=>exact hreps.2.elim
def zyt(w:World)(n g:Nat)(d:Array Int)(os:Array Obj)(k:Nat)(hk:k<w.heap.size)(hne:k≠g):(grow (putRow (Value.int .i64) (Sort.ahead w n) g 0 d) os).heap[k]? = w.heap[k]? := by
 show((w.heap.modify g (onCells (putCells (Value.int .i64) 0 d)))++os)[k]? = _;rw[Array.getElem?_append_left (by simpa using hk),Array.getElem?_modify,qW]
def zyu(w:World)(n g:Nat)(d:Array Int)(os:Array Obj){cur:Array Value}{e:TypeId}{fr:Nat×Nat}(hh:w.heap[g]? = some (.cells cur e fr)) :
  (grow (putRow (Value.int .i64) (Sort.ahead w n) g 0 d) os).heap[g]? = some (.cells (putCells (Value.int .i64) 0 d cur) e fr):=by
 have hg:g<w.heap.size:=(Array.getElem?_eq_some_iff.1 hh).1;show((w.heap.modify g (onCells (putCells (Value.int .i64) 0 d)))++os)[g]? = _;rw[Array.getElem?_append_left (by simpa using hg),Array.getElem?_modify,qX rfl,hh]
 rfl
def zjp(zs:List Int)(cur:Array Value)(h:zs.length<=cur.size):(putCells (Value.int .i64) 0 zs.toArray cur).toList.take zs.length=zs.map (Value.int .i64):=by
 apply List.ext_getElem?;intro j;rw[List.getElem?_take,List.getElem?_map];by_cases hj:j<zs.length
 ·rw[qX hj,Array.getElem?_toList];unfold putCells;rw[Array.getElem?_mapIdx,Array.getElem?_eq_getElem oA]
  simp[hj]
 ·rw[qW hj,List.getElem?_eq_none oA];rfl
def zyv(w:World)(n g:Nat)(d:Array Int)(os:Array Obj):w.heap.size<=(grow (putRow (Value.int .i64) (Sort.ahead w n) g 0 d) os).heap.size:=by
 show w.heap.size<=((w.heap.modify g (onCells (putCells (Value.int .i64) 0 d)))++os).size;simp
def zjo(zs:List Int)(cur:Array Value)(v:Value)(hv:v∈(putCells (Value.int .i64) 0 zs.toArray cur).toList):v∈cur.toList\/∃n,v = .int .i64 n:=by
 unfold putCells at hv;rw[Array.mem_toList_iff,Array.mem_mapIdx]at hv;obtain⟨j,hj,rfl⟩:=hv;split
 ·exact .inr ⟨_,rfl⟩
 ·exact .inl oC
def q01:∀(l:List Int),List.flatMap (β:=AV) (Ty.int .i64).enc l=l.map (AV.int .i64)
 |[]=>rfl|c::b=>congrArg (AV.int .i64 c::·) (q01 b)
def q2v{G:Gh}:∀{l:List Int}{us:List Value},ak (l.map (AV.int .i64)) G us->us=l.map (Value.int .i64)
 |[],[],_=>rfl|c::b,u::us,h=>by
  have h1:u = .int .i64 c:=h.1;rw[List.map_cons,← q2v h.2,h1]
 |[],_::_,h=>h.elim|_::_,[],h=>h.elim
def q2w{G:Gh}:∀(l:List Int),ak (l.map (AV.int .i64)) G (l.map (Value.int .i64))|[]=>trivial|_::b=>⟨rfl,q2w b⟩
def zk3(l:List Int):(d9 l).length=l.length:=List.length_mergeSort l
def zg9{w:World}{g c:Nat}{vs:Array Value}{fz:Nat×Nat}{E:TypeId}{l:List Int}{us:List Value}(h2:w.heap[g]? = some (.cells vs E fz))(h3:fz=(0,0)\/vs.size<=fz.1)(h4:l.length<=c)(h6:vs.size=c)(h7:vs.toList.take l.length=us)(hus:us=l.map (Value.int .i64)):Holds (Value.int .i64) w g 0 l.toArray:=by
 intro j hj;have hj':j<l.length:=by simpa using hj
 have hjv:j<vs.size:=oA
 refine⟨?_,?_⟩
 ·have hc:(vs.toList.take l.length)[j]? = some (.int .i64 l[j]):=by
   rw[h7,hus,List.getElem?_map,List.getElem?_eq_getElem hj'];rfl
  rw[List.getElem?_take,qX hj']at hc;simp only[World.cell?,h2,wO];simpa [hj'] using hc
 ·simp only[World.frozen?,h2];rcases h3 with rfl|h3
  ·simp
  ·simp;omega
def vg7(l:List Int)(ac:l.length<=ao):ce Tryz.prog 22 [.own 0] [(0,.row (.int .i64) l 3)] (.tup []) [(0,.row (.int .i64) (d9 l) 3)]:=by
 unfold ao at ac;refine ce.inPlace (τ := .int .i64) (l:=l) (l':=d9 l) (zk3 l) (fun w G ad c us hrow hreps => ?_)
 rw[q01]at hreps ⊢;have hus:=q2v hreps;obtain⟨hul,hrow⟩:=hrow;rcases hrow with⟨rfl,h2,rfl⟩|⟨g,vs,fz,rfl,h2,h3,h4,h5,h6,h7,h8⟩
 ·have hl:l=[]:=List.eq_nil_of_length_eq_zero h2;subst hl;refine(Tryz.slices_Sort_int_none none 0 w).mono ?_;rintro e w' ⟨rfl,rfl⟩
  exact⟨rfl,us,⟨hul,.inl ⟨rfl,rfl,rfl⟩⟩,by rw[hus];simp[d9,ak],⟨rfl,rfl,rfl,wF _,fun _ _ _=>rfl⟩⟩
 ·by_cases hne:l=[]
  ·subst hne;refine(Tryz.slices_Sort_int_none (some ⟨g,0,none⟩) c w).mono ?_;rintro e w' ⟨rfl,rfl⟩
   exact⟨rfl,us,⟨hul,.inr ⟨g,vs,fz,rfl,h2,h3,h4,h5,h6,h7,h8⟩⟩,by rw[hus];simp[d9,ak],⟨rfl,rfl,rfl,wF _,fun _ _ _=>rfl⟩⟩
  ·have hlt:g<w.heap.size:=(Array.getElem?_eq_some_iff.1 h2).1;simp only[Ty.sz,Nat.mul_one]at h6 h7;have hH:=zg9 h2 h3 h4 h6 h7 hus;refine(Tryz.slices_Sort_int g 0 c l w hH hlt oA).mono ?_
   rintro e w' ⟨rfl,n,os,rfl⟩
   have hl:=zk3 l;refine⟨rfl,(d9 l).map (Value.int .i64),⟨by show((d9 l).map (Value.int .i64)).length=List.length (α:=Int) l*1;rw[wC,hl,Nat.mul_one],.inr ⟨g,putCells (Value.int .i64) 0 (d9 l).toArray vs,fz,rfl,zyu w n g _ os h2,?_,h4,h5,?_,?_,?_⟩⟩,q2w _,⟨rfl,rfl,rfl,zyv w n g _ os,fun k hk hne=>zyt w n g _ os k hk (fun e=>hne (by subst e;rfl))⟩⟩
   ·have:(putCells (Value.int .i64) 0 (d9 l).toArray vs).size=vs.size:=by unfold putCells;rw[Array.size_mapIdx]
    rw[this];exact h3
   ·unfold putCells;rw[Array.size_mapIdx];show vs.size=c*1;omega
   ·show List.take (List.length (α:=Int) l*1) _=_;rw[Nat.mul_one,← hl];exact zjp _ vs (by rw[hl];have h4':List.length (α:=Int) l<=c:=h4;omega)
   ·intro v hv;rcases zjo _ _ _ hv with h|⟨m,rfl⟩
    ·exact h8 v h
    ·rfl
def qvv(r:(List Int)->Option qyj):cm:={ key := .fn 22,args:=[.own 0],hp:=[(0,.row (.int .i64) 3)],R:=qyj,F:=fun _ d'=>r d'.1,out := .one (α:=List Int) (.tup []) [(0,.row (.int .i64) 3)] (fun r=>((),(r,()))) (fun y=>y.2.1) (fun _=>rfl) }
def zbp:(qvv sj).Sound Tryz.prog:=fun d d' r h=>by
 refine⟨call22,?_⟩;have h:(bif decide (List.length (α:=Int) d'.1<=ao) then some (d9 d'.1) else none)=some r:=h
 cases hd:decide (List.length (α:=Int) d'.1<=ao)<;>rw[hd]at h
 ·cases h
 have h:=qJ h;subst h;exact vg7 d'.1 (of_decide_eq_true hd)
def zt5(l:List Int):(jf l).length<=l.length:=by
 unfold jf Lib.compact Lib.compactUpTo;rw[wC];exact Nat.le_trans (List.length_filter_le _ _) oC
def Fin.sub{vhe:World}{vg8:Gh}{vhb:List (Nat×ag)}{G:Gh}{hp l:List (Nat×ag)}{w:World}(hf:Fin vhe vg8 vhb G hp w)(h:∀m b,af l m=some b->af hp m=some b):Fin vhe vg8 vhb G l w:=
 ⟨⟨hf.mem.agree,hf.mem.one,fun m b hh=>hf.mem.holds m b (h m b hh),fun m m' b b' c h1 h2 h3 h4=>hf.mem.apart m m' b b' c (h _ _ h1) (h _ _ h2) h3 h4,hf.mem.tab⟩,hf.bel,hf.imm_le,hf.imm_new,fun m b c h1 h2=>hf.base m b c (h _ _ h1) h2,hf.keep,hf.keepOwn⟩
def ce.shorter{P:Program}{f:FuncId}{τ:Ty}{l l':List τ.den}{E:TypeId}(h:∀(w:World)(G:Gh)(ad:Option Addr)(c:Nat)(us:List Value),fc w E τ.sz ad l.length c us->ak (l.flatMap τ.enc) G.data us ->
  Calls P f #[.slice ad l.length c] w fun e w'=>e = .returned (.slice ad l'.length c)/\∃us',fc w' E τ.sz ad l'.length c us'/\ak (l'.flatMap τ.enc) G.data us'/\b9 (fun b=>cu ad=some b) w w') :
  ce P f [.own 0] [(0,.row τ l E)] (.own 1) [(0,.dead),(1,.row τ l' E)]:=by
 intro w G vs hm hreps;have hl:af [(0,ag.row τ l E)] 0=some (.row τ l E):=rfl;have hlk:∀m b,af [(0,ag.row τ l E)] m=some b->m=0/\b = .row τ l E:=fun m b hh=>by
  simp only[af]at hh;cases hb:Nat.beq 0 m
  ·rw[hb]at hh;cases hh
  ·rw[hb]at hh;simp only[qT,qI]at hh;exact⟨(qN hb).symm,hh.symm⟩
 have hin:∀n b,af [(0,ag.row τ l E)] n=some b->ar [(0,0)] n=some n/\dx (ar [(0,0)]) b=b:=fun n b hh=>by
  obtain⟨rfl,rfl⟩:=hlk n b hh;exact⟨rfl,rfl⟩
 have hm':=hm.only hin;obtain⟨ad,c,us,h1,h3,h4,h5⟩:=(hm'.holds 0 _ hl).rowAt;have h1':G.own 0=some (ad,l.length,c):=h1
 match vs,hreps with
 |[v],hreps=>
  obtain⟨⟨a',n',c',q1,rfl⟩,_⟩:=hreps;rw[h1']at q1;simp only[qI,qP]at q1;obtain⟨rfl,rfl,rfl⟩:=q1;refine(h w (G.view [(0,0)]) ad c us h3 h4).mono ?_;rintro e w' ⟨rfl,us',r1,r2,r3⟩
  have hf:=(pa hm').take (k:=0) (k':=1) hl h1 rfl rfl h5 r3 (.inl rfl) r1 r2;refine⟨_,_,rfl,(hf.sub fun m b hh => ?_).only hin,ad,l'.length,c,Gh.addOwn_self,rfl⟩
  simp only[af]at hh ⊢;cases hb:Nat.beq 0 m
  ·rw[hb]at hh;cases hb1:Nat.beq 1 m
   ·rw[hb1]at hh;cases hh
   ·rw[hb1]at hh;exact hh
  ·rw[hb]at hh;have:=qN hb;subst this;exact hh
 |[],hreps=>exact hreps.elim|_::_::_,hreps=>exact hreps.2.elim
def zrq(w:World)(n g:Nat)(d:Array Int)(k:Nat)(hne:k≠g):(putRow (Value.int .i64) (Sort.ahead w n) g 0 d).heap[k]? = w.heap[k]? := by
 show(w.heap.modify g (onCells (putCells (Value.int .i64) 0 d)))[k]? = _;rw[Array.getElem?_modify,qW]
def zrr(w:World)(n g:Nat)(d:Array Int){cur:Array Value}{e:TypeId}{fr:Nat×Nat}(hh:w.heap[g]? = some (.cells cur e fr)) :
  (putRow (Value.int .i64) (Sort.ahead w n) g 0 d).heap[g]? = some (.cells (putCells (Value.int .i64) 0 d cur) e fr):=by
 show(w.heap.modify g (onCells (putCells (Value.int .i64) 0 d)))[g]? = _;rw[Array.getElem?_modify,qX rfl,hh];rfl
def zt6(l:List Int)(ac:l.length<=ao):ce Tryz.prog 23 [.own 0] [(0,.row (.int .i64) l 3)] (.own 1) [(0,.dead),(1,.row (.int .i64) (jf l) 3)]:=by
 unfold ao at ac;refine ce.shorter (τ := .int .i64) (l:=l) (l':=jf l) (fun w G ad c us hrow hreps => ?_)
 rw[q01]at hreps ⊢;have hus:=q2v hreps;obtain⟨hul,hrow⟩:=hrow;have hle:=zt5 l;by_cases hne:l=[]
 ·subst hne;have hc:jf []=[]:=List.eq_nil_of_length_eq_zero (by simpa using hle)
  rw[hc];refine(Tryz.slices_Compact_int_empty ad c w).mono ?_;rintro e w' ⟨rfl,rfl⟩
  exact⟨rfl,us,⟨hul,hrow⟩,by rw[hus];trivial,⟨rfl,rfl,rfl,wF _,fun _ _ _=>rfl⟩⟩
 ·rcases hrow with⟨rfl,h2,rfl⟩|⟨g,vs,fz,rfl,h2,h3,h4,h5,h6,h7,h8⟩
  ·exact absurd (List.eq_nil_of_length_eq_zero h2) hne
  ·have h4':l.length<=c:=h4;have h6':vs.size=c:=by have:vs.size=c*1:=h6;omega
   have h7':vs.toList.take l.length=us:=by have:vs.toList.take (l.length*1)=us:=h7;rwa [Nat.mul_one]at this
   have hH:=zg9 h2 h3 h4' h6' h7' hus;refine(Tryz.slices_Compact_int g 0 c l w hH oA h4').mono ?_
   rintro e w' ⟨rfl,q,rfl⟩
   obtain⟨d,hd⟩:∃d,d=jf l++List.replicate (l.length-(jf l).length) 0:=⟨_,rfl⟩;have hdl:d.length=l.length:=by rw[hd];simp;omega
   rw[show Lib.compact l++List.replicate (l.length-(Lib.compact l).length) 0=d from hd.symm]
   refine⟨rfl,(jf l).map (Value.int .i64),⟨by show((jf l).map (Value.int .i64)).length=(jf l).length*1;simp,.inr ⟨g,putCells (Value.int .i64) 0 d.toArray vs,fz,rfl,zrr w q g _ h2,?_,?_,h5,?_,?_,?_⟩⟩,q2w _,⟨rfl,rfl,rfl,?_,fun k _ hne=>zrq w q g _ k (fun e=>hne (by subst e;rfl))⟩⟩
   ·have:(putCells (Value.int .i64) 0 d.toArray vs).size=vs.size:=by unfold putCells;rw[Array.size_mapIdx]
    rw[this];exact h3
   ·exact Nat.le_trans hle h4'
   ·unfold putCells;rw[Array.size_mapIdx];show vs.size=c*1;omega
   ·show List.take ((jf l).length*1) _=_;rw[Nat.mul_one];have e1:=zjp d vs (by rw[hdl];omega)
    have e2:List.take (jf l).length (List.take d.length (putCells (Value.int .i64) 0 d.toArray vs).toList)=List.take (jf l).length (putCells (Value.int .i64) 0 d.toArray vs).toList:=by
     rw[List.take_take,Nat.min_eq_left oA]
    rw[← e2,e1,hd,List.map_append,List.take_append_of_le_length oC,List.take_of_length_le oC]
   ·intro v hv;rcases zjo _ _ _ hv with h|⟨m,rfl⟩
    ·exact h8 v h
    ·rfl
   ·show w.heap.size<=(w.heap.modify g _).size;simp
def zbd(r:(List Int)->Option qyi):cm:={ key := .fn 23,args:=[.own 0],hp:=[(0,.row (.int .i64) 3)],R:=qyi,F:=fun _ d'=>r d'.1,out := .one (α:=List Int) (.own 1) [(0,.dead),(1,.row (.int .i64) 3)] (fun r=>((),((),(r,())))) (fun y=>y.2.2.1) (fun _=>rfl) }
def zqd:(zbd qlc).Sound Tryz.prog:=fun d d' r h=>by
 refine⟨call23,?_⟩;have h:(bif decide (List.length (α:=Int) d'.1<=ao) then some (jf d'.1) else none)=some r:=h
 cases hd:decide (List.length (α:=Int) d'.1<=ao)<;>rw[hd]at h
 ·cases h
 have h:=qJ h;subst h;exact zt6 d'.1 (of_decide_eq_true hd)
end Go.Sym
namespace Go.Sym
open Go.RowKit
def z0t{P:Program}{b:Frame}{a:Act}{k:List Item}{cs:List Frame}{w:World}{ops:Array Oper}{i:Nat}{rest:List Nat}{o:Oper}{c:Call}{dd:Deferred}(ho:ops[i]? = some o)(hg:o.guard=none)(hop:o.op = .defer c)(hdst:o.dst=none)(hro:b.roundOf=none)(hres:(resolve a.eval c o.type).run P w = .ok dd w) :
  step P (lone (b.atR a (.inRegion ops (i::rest)::k)) cs w) = .next (lone (b.atR { a with defers:=dd::a.defers } (.inRegion ops rest::k)) cs w):=by
 have hw:Region.wanted o (yielded ops a.tmps)=true:=by simp[Region.wanted,hg]
 have hg':=stepGR_op (P:=P) (b:=b) (a:=a) (k:=k) (cs:=cs) (w:=w) (rest:=rest) ho hw;rw[hro,Oper.semAt_none]at hg';have hr':(execOp a.eval o).run P w = .ok (.defer dd) w:=by
  obtain⟨dst,op,ty,pos,after,guard⟩:=o;simp only at hop;subst hop;simp[execOp,hres]
 have hfin:({ b.atR a (.inRegion ops (i::rest)::k) with defers:=dd::a.defers }:Frame).finish undef=b.atR { a with defers:=dd::a.defers } (.inRegion ops rest::k):=by
  have:=Frame.finish_atR b { a with defers:=dd::a.defers } ops i rest k undef
  rw[ho]at this;simp only[qB,hdst]at this;exact this
 refine step_lone_go ?_;rw[hg'];simp only[stepG.apply,Sem.runT_eq,hr',GStep.bare_after];exact congrArg (fun fr=>GStep.go { frame:=fr,callers:=cs,status := .running,dying:=none } w) hfin
section
variable[LC]
def Fin.wild{vhe:World}{vg8:Gh}{vhb:List (Nat×ag)}{G:Gh}{hp:List (Nat×ag)}{w w':World}(hf:Fin vhe vg8 vhb G hp w){S:Nat->Prop}(hw:b9 S w w')(hS:∀b,S b->(∀o,G.imm b o=none)/\(vhe.heap.size<=b\/nv vg8 vhb b)):Fin vhe vg8 vhb G [] w':=by
 have hlt:∀b o v,G.imm b o=some v->w'.heap[b]? = w.heap[b]? := fun b o v h=>by
  refine hw.block b (World.block_lt_of_cell? _ _ (hf.mem.agree b o v h)) fun hs => ?_
  rw[(hS b hs).1 o]at h;cases h
 refine⟨⟨fun b o v h => ?_,hf.mem.one,fun n bx h=>(by cases h),fun n m bx bx' b h=>(by cases h),LC.mono (fun _ _ _ h=>h) hlt hf.mem.tab⟩,⟨hw.os.trans hf.bel.os,hw.tape.trans hf.bel.tape,hw.output.trans hf.bel.output,Nat.le_trans hf.bel.size hw.size,fun k hk hb => ?_⟩,hf.imm_le,hf.imm_new,fun n bx b h=>(by cases h),hf.keep,hf.keepOwn⟩
 ·rw[World.cell?_of_block (w:=w) (hlt b o v h)];exact hf.mem.agree b o v h
 ·rw[hw.block k (Nat.lt_of_lt_of_le hk hf.bel.size) fun hs => ?_]
  ·exact hf.bel.block k hk hb
  ·rcases (hS k hs).2 with h|h
   ·omega
   ·exact hb h
def ai.fresh_start{G:Gh}{hp:List (Nat×ag)}{w:World}{names:List (Nat×Nat)}(hm:bp (G.view names) hp w)(hN:∀m,64<=m->az names m=none){n:Nat}{fr:List (Nat×AV)}{tmps:Array Value}(hsz:tmps.size=n)(hfr:∀i x,af fr i=some x->∃v,tmps[i]? = some v/\aj x (G.view names) v) :
  ai w (G.view names) hp (G.view names) { n:=n,fr:=fr,hp:=hp,nx:=64,df:=[] } { tmps:=tmps,defers:=[] } w:=
 ⟨⟨[],rfl,rfl⟩,hsz,hfr,fun m hm' _=>by simp[Gh.view,hN m hm'],pa hm⟩
end
def zj5{x:AV}{G:Gh}{vs:Array Value}(h:ak [x] G vs.toList):∃u,vs=#[u]/\aj x G u:=by
 obtain⟨l⟩:=vs
 match l,h with|[u],h=>exact⟨u,rfl,h.1⟩|[],h=>exact h.elim|_::_::_,h=>exact h.2.elim
def zzj{x y:AV}{G:Gh}{vs:Array Value}(h:ak [x,y] G vs.toList):∃u v,vs=#[u,v]:=by
 obtain⟨l⟩:=vs
 match l,h with|[u,v],h=>exact⟨u,v,rfl⟩|[],h=>exact h.elim|[_],h=>exact h.2.elim|_::_::_::_,h=>exact h.2.2.elim
def qzr{w:World}{a:Addr}{v:Value}:b9 (fun b=>b=a.block) w (w.setCell a v):=
 ⟨rfl,rfl,rfl,by simp[World.setCell],fun k _ hne=>by
  simp only[World.setCell,Array.getElem?_modify];rw[qW (fun e=>hne e.symm)]⟩
def ze3{w:World}{o:Obj}:b9 (fun _=>False) w (w.alloc o):=
 ⟨rfl,rfl,rfl,by rw[World.size_alloc];omega,fun k hk _=>by
  show(w.heap.push o)[k]? = _;rw[Array.getElem?_push,qW]⟩
def b9.wide{S T:Nat->Prop}{w w':World}(h:b9 S w w')(k:∀b,S b->T b):b9 T w w':=⟨h.os,h.tape,h.output,h.size,fun b hb hT=>h.block b hb (fun hs=>hT (k b hs))⟩
def b9.tr{S:Nat->Prop}{w w1 w2:World}(h:b9 S w w1)(k:b9 S w1 w2):b9 S w w2:=⟨k.os.trans h.os,k.tape.trans h.tape,k.output.trans h.output,Nat.le_trans h.size k.size,fun b hb hS=>(k.block b (Nat.lt_of_lt_of_le hb h.size) hS).trans (h.block b hb hS)⟩
end Go.Sym
namespace Go.Sym
noncomputable section
open Go.Proofs
set_option linter.unusedVariables false
set_option maxRecDepth 100000
set_option maxHeartbeats 2000000
open Tryz
abbrev wT : Ty := .tree (.prod (.list (.prod .str .str)) (.list .byte))
abbrev wL : Ty := .list (.prod .str .str)
abbrev wP : Ty := .prod .str .str
abbrev wH : Pt := .h (.int .i64)
abbrev wI : Ty := .int .i64
abbrev wB : Ty := .list .byte
abbrev wN : Pt := .c .nilS
abbrev wS : Pt := .h .str
abbrev wG : Program := Tryz.prog
section
variable(fu:Nat)
def q04:Nat->Option ((τ:Ty)×List τ.den)|0=>some ⟨.byte,qpa⟩|1=>some ⟨.prod .byte .byte,qpb⟩|3=>some ⟨.int .u64,z09⟩|_=>none
abbrev oh(f:Nat)(p:List Nat):Option (Code×Code):=some (tg 0 (sub (tf (n9 wG f)) p),tg 1 (sub (tf (n9 wG f)) p))
def zwv:Nat->Option (Code×Code)|0=>oh 198 [0,1,0,1,1,1]|1=>oh 112 [0,1,0,1,1]|2=>oh 112 [0,1,0,1,1,1,1]|3=>oh 28 [0,1,0,1,1,1,1]|4=>oh 113 [0,1,1]|5=>oh 64 [0,1,0,1,1,1]|6=>oh 274 [0,1,0,1]|7=>oh 259 [0,1,0,1,1,1,1]|8=>oh 181 [0,1,0,1,1,1,1,1,1,1]|9=>oh 276 [0,1,0,1,1]|10=>oh 132 [0,1,0,1,1]|11=>oh 6 [0,1,0,1,1,1,1,1,1,1]|_=>none
instance[HB]:LC:=⟨zwv,q04,[2],[6,7],[(0,256),(1,32),(3,20)],HB.b⟩
def qys:wG.follows .mixedOrders=true:=oB
def etys:List (Nat×Ty):=[(3,.int .i64),(5,.byte),(9,.str),(21,.int .i32),(42,.prod .str .str),(44,.list .byte),(110,.tree (.prod wL wB)),(125,.prod .str (.prod .bool (.list (.prod .str wP)))),(127,.prod .str wP),(296,.prod .str .str),(316,.prod .str .bool),(403,.prod .str (.prod wI (.prod .bool .str)))]
abbrev fx{i:IF}(calls:List (EP wG):=[])(ls:List LB:=[])(sub:Bool:=false)(tags:List (List Nat×Nat):=[])(ht:∀p t,m0 p tags=some t->∀g ps x y,Sym.sub (tf (n9 wG (y8 i.key))) p = .rangeFunc g ps x y->LC.lc t=some (x,y):=by exact ez)(hf:wG.funcs[y8 i.key]? = some (n9 wG (y8 i.key)):=by kernel_rfl):Fx wG i:=Fx.at etys qys (y8 i.key) calls ls sub tags ht hf
abbrev fy{i:IF}(f:FuncId)(calls:List (EP wG):=[])(ls:List LB:=[])(sub:Bool:=false)(tags:List (List Nat×Nat):=[])(ht:∀p t,m0 p tags=some t->∀g ps x y,Sym.sub (tf (n9 wG f)) p = .rangeFunc g ps x y->LC.lc t=some (x,y):=by exact ez)(hf:wG.funcs[f]? = some (n9 wG f):=by kernel_rfl):Fx wG i:=Fx.at etys qys f calls ls sub tags ht hf
def zp6:(qr0 145 ut).Sound wG:=zp5 func145 oB oB oB oB
def zp4:(qrz 267 ut).Sound wG:=zp3 func267 oB oB oB oB
def zp2:(qry 378 qj8).Sound wG:=zp1 func378 oB oB oB oB
def dc:EI wG ⟨.fn 12,[wH,wH],[],_,RS.mk (.h (.prod wI wI)) []⟩:=(fx).fi aq
def x1s:EI wG ⟨.fn 143,[.h .byte],[],_,RS.mk (.h .bool) []⟩:=(fx).fi q8l
def x2(fu:Nat):Fx wG ⟨.fn 30,[wS,.fn 143 []],[],_,RS.mk (.h .bool) []⟩:=fx [x1s.p] [lb 104 [(0,wS),(1,.fn 143 []),(7,wH),(8,wH)]]
def vcw:Nat->(x2 fu).L 0:=Fx.lq (qrk fu) (q66 fu) (fun r0=>[r0.s])
def x2s:=(x2 fu).fi (q65 fu) [(vcw fu fu).s]
def x3s:EI wG ⟨.fn 94,[wS],[],_,RS.mk (.h .bool) []⟩:=(fx [(x2s fu).p]).fi (q8k fu)
def x4s:EI wG ⟨.fn 281,[wH],[],_,RS.mk (.h .bool) []⟩:=(fx).fi zck
def x5(fu:Nat):Fx wG ⟨.fn 104,[wS],[],_,RS.mk (.tup [.arr .bool,.h .bool]) []⟩:=fx [] [lb 208 [(0,wS),(2,.el 32 1),(4,wH)] [(32,.row .bool 174)]]
def vev:Nat->(x5 fu).L 0:=Fx.lq (qww fu) (zcj fu) (fun r0=>[r0.s])
def x5s:=(x5 fu).fi (qbs fu) [(vev fu fu).s]
def x6s:EI wG ⟨.fn 217,[wS,.h .byte],[],_,RS.mk (wH) []⟩:=(fx [⟨qrz 267 ut,zp4⟩]).fi q88
def x7s:EI wG ⟨.fn 223,[wS,.h .byte],[],_,RS.mk (wH) []⟩:=(fx [x6s.p]).fi sn
def x8s:EI wG ⟨.fn 237,[.h (.int .i32)],[],_,RS.mk (.h .bool) []⟩:=(fx).fi zc8
def x9(fu:Nat):Fx wG ⟨.fn 189,[wS,.h (.int .i32)],[],_,RS.mk (wH) []⟩:=fx [x7s.p,x8s.p] [lb 3528 [(175,.ptr 32 0)] [(32,.it)],lb 117301840 [(0,wS),(7,wS),(8,wH),(9,wH),(12,wH)],lb 7331364 [(0,wS),(7,wS),(8,wH),(9,wH)],lb 458208 [(0,wS),(7,wS),(8,wH),(9,wH)],lb 13 [(0,wS),(1,.h (.int .i32)),(160,.h .bool)]]
def vgp:Nat->(x9 fu).L 0:=Fx.lq (qv4 fu) (zby fu) (fun r1=>[r1.s])
def vgs(r2:(x9 fu).L 3):Nat->(x9 fu).L 1:=Fx.lq (qv7 fu r2.f) (zb0 fu r2.f) (fun r4=>[r4.s])
def vgr(r2:(x9 fu).L 3):(x9 fu).L 2:=Fx.jm (qv6 fu r2.f) [(vgs fu r2 fu).s]
def vgq:Nat->(x9 fu).L 3:=Fx.lq (qv5 fu) (zbz fu) (fun r2=>[(vgr fu r2).s])
def vgo:(x9 fu).L 4:=Fx.jm (qv3 fu) [(vgp fu fu).s,(vgq fu fu).s]
def x9s:=(x9 fu).fi (qli fu) [(vgo fu).s]
def q4a:EI wG ⟨.fn 148,[.el 0 1,.h .byte],[(0,.row .bool 174)],_,RS.mk (.h .bool) [(0,.row .bool 174)]⟩:=(fx).fi qlk
def x11:Fx wG ⟨.fn 236,[wS,wS],[],_,RS.mk (wH) []⟩:=fx [x4s.p,(x5s fu).p,(x9s fu).p,q4a.p] [lb 470 [(0,wS),(5,.h (.int .i32))],lb 62864 [(0,wS),(6,.el 32 1),(8,wH)] [(32,.row .bool 174)],lb 1000 [(1,wS),(45,.ptr 32 0)] [(32,.it)],lb 124 [(0,wS),(1,wS)]]
def z3f:(x11 fu).L 0:=Fx.jm (qvz fu)
def z3g:Nat->(x11 fu).L 1:=Fx.lq (qv0 fu) (zbw fu) (fun r1=>[r1.s])
def z3i:Nat->(x11 fu).L 2:=Fx.lq (qv2 fu) (zbx fu) (fun r3=>[r3.s])
def z3h:(x11 fu).L 3:=Fx.jm (qv1 fu) [(z3i fu fu).s]
def z3j:=(x11 fu).fi (zbv fu) [(z3f fu).s,(z3g fu fu).s,(z3h fu).s]
def z3v:EI wG ⟨.fn 187,[wS,wS],[],_,RS.mk (.h .bool) []⟩:=(fx [(z3j fu).p]).fi (zbr fu)
def z4r:EI wG ⟨.fn 144,[wS],[],_,RS.mk (.h .bool) []⟩:=(fx [(z3v fu).p]).fi (q8j fu)
def qdn:EI wG ⟨.fn 55,[.h .byte],[],_,RS.mk (.h .bool) []⟩:=(fx).fi oq
def z5q:EI wG ⟨.fn 95,[wS],[],_,RS.mk (.h .bool) []⟩:=(fx [(z4r fu).p,qdn.p]).fi (q8o fu)
def x16(fu:Nat):Fx wG ⟨.fn 96,[wS,wH],[],_,RS.mk (wH) []⟩:=fx [qdn.p] [lb 3729 [(0,wS),(5,wH),(6,wH),(26,.h .bool)],lb 464 [(0,wS),(5,wH),(6,wH)]]
def z59(r0:(x16 fu).L 1):(x16 fu).L 0:=Fx.jm (qs1 fu r0.f) [r0.s]
def z58:Nat->(x16 fu).L 1:=Fx.lq (qs0 fu) (q8n fu) (fun r0=>[(z59 fu r0).s])
def z6a:=(x16 fu).fi (q8m fu) [(z58 fu fu).s]
def c8:EI wG ⟨.fn 13,[],[],_,RS.mk (.h (.prod wI wI)) []⟩:=(fx).fi cd
def x18:Fx wG ⟨.fn 53,[wS,wS],[],_,RS.mk (.tup [.own 0,.h (.prod wI wI)]) [(0,.row .str 9)]⟩:=fx [(x3s fu).p,dc.p,(z5q fu).p,(z6a fu).p,c8.p] [lb 4072 [(5,.ptr 32 0),(8,.own 33),(55,.own 33),(56,wH),(57,wH)] [(32,.dat (.prod wI wI) 36),(33,.row .str 9)],lb 126 [(5,.ptr 32 0),(6,wS),(8,.own 33)] [(32,.dat (.prod wI wI) 36),(33,.row .str 9)],lb 992 [(5,.ptr 32 0),(6,wS),(7,wH),(8,.own 33)] [(32,.dat (.prod wI wI) 36),(33,.row .str 9)]]
def z6y:Nat->(x18 fu).L 0:=Fx.lq (qsz fu) (q8i fu) (fun r2=>[r2.s])
def z6x:(x18 fu).L 1:=Fx.jm (qsy fu) [(z6y fu fu).s]
def z6w:Nat->(x18 fu).L 2:=Fx.lq (qsx fu) (q8h fu) (fun r0=>[(z6x fu).s,r0.s])
def q4u:=(x18 fu).fi (qkk fu) [(z6w fu fu).s]
def eg:EI wG ⟨.fn 11,[.h (.prod wI wI)],[],_,RS.mk (.h .bool) []⟩:=(fx).fi ck
def x20:Fx wG ⟨.fn 51,[.h wL],[],_,RS.mk (.h (.prod wI wI)) []⟩:=fx [dc.p,(q4u fu).p,eg.p,c8.p] [lb 232 [(2,.ptr 32 0),(11,.h wL),(12,wH),(13,wH)] [(32,.dat (.prod wI wI) 36)]]
def z7y:Nat->(x20 fu).L 0:=Fx.lq (qtj fu) (q82 fu) (fun r0=>[r0.s])
def znq:=(x20 fu).fi (qti fu) [(z7y fu fu).s]
def x21:Fx wG ⟨.fn 25,[.h (.prod wL wB)],[],_,RS.mk (.own 0) [(0,.row .byte 5)]⟩:=fx [(q4u fu).p] [lb 119608 [(1,.ptr 32 0),(3,.own 34),(11,.h wL),(12,wH),(13,wH),(25,.own 33),(26,wH),(27,wH)] [(32,.dat (.prod wL wB) 46),(33,.row .str 9),(34,.row .byte 5)],lb 232 [(1,.ptr 32 0),(3,.own 33),(11,.h wL),(12,wH),(13,wH)] [(32,.dat (.prod wL wB) 46),(33,.row .byte 5)]]
def z8n(r0:(x21 fu).L 1):Nat->(x21 fu).L 0:=Fx.lq (qui fu r0.f) (zaf fu r0.f) (fun r1=>[r1.s,r0.s])
def z8m:Nat->(x21 fu).L 1:=Fx.lq (quh fu) (zae fu) (fun r0=>[(z8n fu r0 fu).s])
def znv:=(x21 fu).fi (qug fu) [(z8m fu fu).s]
def x22(fu:Nat):Fx wG ⟨.fn 93,[.h wB],[],_,RS.mk (wH) []⟩:=fx [] [lb 14924 [(0,.h wB),(3,wH),(4,wH),(5,.h .byte)],lb 7461 [(0,.h wB),(3,wH),(4,wH),(5,.h .byte),(32,.h .bool)],lb 464 [(0,.h wB),(3,wH),(4,wH)]]
def z9e(r0:(x22 fu).L 2):(x22 fu).L 0:=Fx.jm (q7i fu r0.f) [r0.s]
def z9d(r0:(x22 fu).L 2):(x22 fu).L 1:=Fx.jm (qj6 fu r0.f) [r0.s,(z9e fu r0).s]
def z9c:Nat->(x22 fu).L 2:=Fx.lq (qru fu) (q7h fu) (fun r0=>[(z9d fu r0).s])
def zn0:=(x22 fu).fi (qrt fu) [(z9c fu fu).s]
def z9z:EI wG ⟨.fn 52,[.h wB],[],_,RS.mk (.h (.prod wI wI)) []⟩:=(fx [(zn0 fu).p,dc.p,c8.p]).fi (zab fu)
def q5l:EI wG ⟨.fn 24,[.h (.prod wL wB)],[],_,RS.mk (.h (.prod wI wI)) []⟩:=(fx [(znq fu).p,eg.p,(znv fu).p,dc.p,(z9z fu).p]).fi (qkv fu)
def vaz:EI wG ⟨.fn 7,[.h (.prod wL wB)],[],_,RS.mk (.tup [.own 0,.h (.prod wI wI)]) [(0,.row .byte 5)]⟩:=(fx [(q5l fu).p,eg.p,(znv fu).p,c8.p]).fi (zaa fu)
def q5s:EI wG ⟨.fn 97,[.h wB,.h .byte],[],_,RS.mk (wH) []⟩:=(fx [⟨qr0 145 ut,zp6⟩]).fi qe7
def zod:EI wG ⟨.fn 29,[.h wB,.h wB],[],_,RS.mk (.h .bool) []⟩:=(fx).fi qr1
def zoi:EI wG ⟨.fn 146,[.h wB,.h wB],[],_,RS.mk (.h .bool) []⟩:=(fx [zod.p]).fi qr2
def zop:EI wG ⟨.fn 98,[.h wB,.h wB],[],_,RS.mk (.h wB) []⟩:=(fx [zoi.p]).fi qj9
def vc9:EI wG ⟨.fn 54,[.h wB],[],_,RS.mk (.tup [wS,wH]) []⟩:=(fx [q5s.p,zop.p]).fi q84
def q6a:EI wG ⟨.fn 57,[.own 0],[(0,.row .str 9)],_,RS.mk (.ptr 1 0) [(0,.dead),(1,.cells [.h (.int .u32),.h (.int .i32),.h (.int .u32),.c .nilIface,.own 2] 171),(2,.row .str 9)]⟩:=(fx [] [] true).fi qf4
def vda:EI wG ⟨.fn 147,[wS,wS],[],_,RS.mk (.tup [wS,wS,.h .bool]) []⟩:=(fx [⟨q29.e qn,zkz oE⟩]).fi q86
def zot:EI wG ⟨.fn 99,[wS,wS],[],_,RS.mk (.tup [wS,wS,.h .bool]) []⟩:=(fx [vda.p]).fi qvx
def x34(fu:Nat):Fx wG ⟨.fn 103,[wS,.h .byte],[],_,RS.mk (wS) []⟩:=fx [] [lb 96 [(0,wS),(1,.h .byte)]]
def vdb:Nat->(x34 fu).L 0:=Fx.lq (qxc fu) (zcw fu) (fun r0=>[r0.s])
def zov:=(x34 fu).fi (qxb fu) [(vdb fu fu).s]
def x35(fu:Nat):Fx wG ⟨.fn 106,[wS,.el 0 1],[(0,.row .bool 174)],_,RS.mk (wS) [(0,.row .bool 174)]⟩:=fx [q4a.p] [lb 96 [(0,wS),(1,.el 0 1)] [(0,.row .bool 174)]]
def vdc:Nat->(x35 fu).L 0:=Fx.lq (qxa fu) (zcv fu) (fun r0=>[r0.s])
def zox:=(x35 fu).fi (qw9 fu) [(vdc fu fu).s]
def zoy:EI wG ⟨.fn 190,[.h .byte],[],_,RS.mk (.h .bool) []⟩:=(fx).fi qxr
def mv:LC.glob 0=some ⟨.byte,qpa⟩:=rfl
def ml:LC.glob 1=some ⟨.prod .byte .byte,qpb⟩:=rfl
def mu:vg qpa=true:=oB
def mj:vh qpb=true:=oB
def x37(fu:Nat):Fx wG ⟨.fn 151,[wS],[],_,RS.mk (.tup [.h (.int .i32),wH]) []⟩:=fx [zoy.p,⟨vj.e iz,y6 mv ml mu mj⟩] [lb 2046 [(0,wS),(4,wH),(5,wH)],lb 2044 [(0,wS),(4,wH),(5,wH)],lb 16336 [(0,wS),(4,wH),(5,wH),(6,wH)]]
def vdf:(x37 fu).L 0:=Fx.jm (qxj fu)
def vde:(x37 fu).L 1:=Fx.jm (qxi fu) [(vdf fu).s]
def vdd:Nat->(x37 fu).L 2:=Fx.lq (qxh fu) (zc4 fu) (fun r0=>[(vde fu).s,r0.s])
def vdg:=(x37 fu).fi (zc3 fu) [(vdd fu fu).s]
def zoz:EI wG ⟨.fn 150,[wS,.h (.int .i32)],[],_,RS.mk (.h .bool) []⟩:=(fx [(x9s fu).p]).fi (qlh fu)
def x39:Fx wG ⟨.fn 108,[wS,wS],[],_,RS.mk (wS) []⟩:=fx [(vdg fu).p,(zoz fu).p] [lb 96 [(0,wS),(1,wS)]]
def vdh:Nat->(x39 fu).L 0:=Fx.lq (qxe fu) (zcx fu) (fun r0=>[r0.s])
def zo1:=(x39 fu).fi (qxd fu) [(vdh fu fu).s]
def x40:Fx wG ⟨.fn 100,[wS,wS],[],_,RS.mk (wS) []⟩:=fx [(zov fu).p,(x5s fu).p,(zox fu).p,(zo1 fu).p] [lb 60 [(0,wS),(1,wS)],lb 29 [(0,wS),(1,wS),(21,.h .bool)],lb 28 [(0,wS),(1,wS)],lb 13 [(0,wS),(1,wS),(12,.h .bool)]]
def vdm:(x40 fu).L 0:=Fx.jm (zcb fu)
def vdl:(x40 fu).L 1:=Fx.jm (qwk fu) [(vdm fu).s]
def vdk:(x40 fu).L 2:=Fx.jm (zca fu) [(vdl fu).s]
def vdj:(x40 fu).L 3:=Fx.jm (qwj fu) [(vdk fu).s]
def zo2:=(x40 fu).fi (qwi fu) [(vdj fu).s]
def vdn:EI wG ⟨.fn 101,[wS],[],_,RS.mk (.h .bool) []⟩:=(fx [(q4u fu).p,eg.p]).fi (q85 fu)
def vdo:EI wG ⟨.fn 56,[wS],[],_,RS.mk (.tup [.h wP,.h .bool]) []⟩:=(fx [zot.p,(zo2 fu).p,(vdn fu).p]).fi (q83 fu)
def ul(fu:Nat):Fx wG ⟨.fn 154,[.ptr 0 0],[(0,.cells [.h (.int .u32),.h (.int .i32),.h (.int .u32),.c .nilIface,.own 1] 171),(1,.row .str 9)],_,RS.mk (.iel 282 2 1) [(0,.cells [.h (.int .u32),.h (.int .i32),.h (.int .u32),.c .nilIface,.own 3] 171),(1,.dead),(2,.row .byte 281),(3,.row .str 9)]⟩:=fx [] [lb 2003 [(3,.own 32),(4,.h .bool),(5,wH)] [(0,.cells [.h (.int .u32),.h (.int .i32),.h (.int .u32),.c .nilIface,.own 32] 171),(1,.dead),(32,.row .str 9)],lb 129744 [(3,.own 32),(6,.el 33 1),(8,wH)] [(0,.cells [.h (.int .u32),.h (.int .i32),.h (.int .u32),.c .nilIface,.own 32] 171),(1,.dead),(32,.row .str 9),(33,.row .byte 281)],lb 32424 [(3,.own 32),(6,.el 33 1),(61,wH)] [(0,.cells [.h (.int .u32),.h (.int .i32),.h (.int .u32),.c .nilIface,.own 32] 171),(1,.dead),(32,.row .str 9),(33,.row .byte 281)],lb 16336 [(3,.own 32),(11,.ptr 33 0),(12,wH)] [(0,.cells [.h (.int .u32),.h (.int .i32),.h (.int .u32),.c .nilIface,.own 32] 171),(1,.dead),(32,.row .str 9),(33,.cells [wN,wN,wN,wN,wN,wN,wN,wN,wN,wN,wN,wN,wN,wN,wN,wN,wN,wN,wN,wN,wN,wN,wN,wN,wN,wN,wN,wN,wN,wN,wN,wN,wN,wN,wN,wN,wN,wN,wN,wN,wN,wN,wN,wN,wN,wN,wN,wN,wN,wN,wN,wN,wN,wN,wN,wN,wN,wN,wN,wN,wN,wN,wN,wN,wN,wN,wN,wN,wN,wN,wN,wN,wN,wN,wN,wN,wN,wN,wN,wN,wN,wN,wN,wN,wN,wN,wN,wN,wN,wN,wN,wN,wN,wN,wN,wN,wN,wN,wN,wN,wN,wN,wN,wN,wN,wN,wN,wN,wN,wN,wN,wN,wN,wN,wN,wN,wN,wN,wN,wN,wN,wN,wN,wN,wN,wN,wN,wN,wN,wN,wN,wN,wN,wN,wN,wN,wN,wN,wN,wN,wN,wN,wN,wN,wN,wN,wN,wN,wN,wN,wN,wN,wN,wN,wN,wN,wN,wN,wN,wN,wN,wN,wN,wN,wN,wN,wN,wN,wN,wN,wN,wN,wN,wN,wN,wN,wN,wN,wN,wN,wN,wN,wN,wN,wN,wN,wN,wN,wN,wN,wN,wN,wN,wN,wN,wN,wN,wN,wN,wN,wN,wN,wN,wN,wN,wN,wN,wN,wN,wN,wN,wN,wN,wN,wN,wN,wN,wN,wN,wN,wN,wN,wN,wN,wN,wN,wN,wN,wN,wN,wN,wN,wN,wN,wN,wN,wN,wN,wN,wN,wN,wN,wN,wN,wN,wN,wN,wN,wN,wN,wN,wN,wN,wN,wN,wN,.own 34] 285),(34,.row .str 9)],lb 2000 [(3,.own 32),(4,.h .bool),(5,wH)] [(0,.cells [.h (.int .u32),.h (.int .i32),.h (.int .u32),.c .nilIface,.own 32] 171),(1,.dead),(32,.row .str 9)],lb 30 [(3,.own 32)] [(0,.cells [.h (.int .u32),.h (.int .i32),.h (.int .u32),.c .nilIface,.own 32] 171),(1,.dead),(32,.row .str 9)],lb 29 [(3,.own 32),(28,.h .bool)] [(0,.cells [.h (.int .u32),.h (.int .i32),.h (.int .u32),.c .nilIface,.own 32] 171),(1,.dead),(32,.row .str 9)]]
def vds(r2:(ul fu).L 4):(ul fu).L 0:=Fx.jm (qwb fu r2.f) [r2.s]
def vdv:Nat->(ul fu).L 1:=Fx.lq (qwe fu) (zb5 fu) (fun r6=>[r6.s])
def vdt:Nat->(ul fu).L 2:=Fx.lq (qwc fu) (zb3 fu) (fun r4=>[r4.s,(vdv fu fu).s])
def vdu:Nat->(ul fu).L 3:=Fx.lq (qwd fu) (zb4 fu) (fun r5=>[])
def vdr:Nat->(ul fu).L 4:=Fx.lq (qwa fu) (zb2 fu) (fun r2=>[(vds fu r2).s,(vdt fu fu).s,(vdu fu fu).s])
def vdq:(ul fu).L 5:=Fx.jm (zb6 fu) [(vdr fu fu).s]
def vdp:(ul fu).L 6:=Fx.jm (qv9 fu) [(vdq fu).s]
def vdw:=(ul fu).fi (zb1 fu) [(vdp fu).s]
def q6c:IF:=⟨.fn 110,[.ptr 0 0],[(0,.cells [.h (.int .u32),.h (.int .i32),.h (.int .u32),.c .nilIface,.own 1] 171),(1,.row .str 9)],_,RS.mk (.tup []) [(0,.cells [.h (.int .u32),.h (.int .i32),.h (.int .u32),.iel 282 2 1,.own 3] 171),(1,.dead),(2,.row .byte 281),(3,.row .str 9)]⟩
def x44:Fx wG q6c:=fx [(vdw fu).p]
def vdy:EI wG q6c:=(x44 fu).fi (qv8 fu)
def zqe:(q6c.e (qv8 fu)).Sound wG:=(vdy fu).h
def q6d:IF:=⟨.fn 429,[.el 0 1,wS],[(0,.row .byte 281)],_,RS.mk (wS) [(0,.row .byte 281)]⟩
def x45(fu:Nat):Fx wG q6d:=fx [] [lb 14925 [(0,.el 0 1),(1,wS),(5,.own 32),(6,wH),(7,.h .byte)] [(0,.row .byte 281),(32,.row .byte 5)],lb 464 [(0,.el 0 1),(1,wS),(5,.own 32),(6,wH)] [(0,.row .byte 281),(32,.row .byte 5)],lb 464 [(0,.el 0 1),(1,wS),(5,wN),(6,wH)] [(0,.row .byte 281)]]
def zo3(r2:(x45 fu).L 1):(x45 fu).L 0:=Fx.jm (qwp fu r2.f) [r2.s]
def vd0:Nat->(x45 fu).L 1:=Fx.lq (qwq fu) (zcf fu) (fun r2=>[(zo3 fu r2).s,r2.s])
def vdz:Nat->(x45 fu).L 2:=Fx.lq (qwo fu) (zce fu) (fun r0=>[r0.s,(zo3 fu (vd0 fu fu)).s])
def vd1:EI wG q6d:=(x45 fu).fi (qll fu) [(vdz fu fu).s]
def zcg:(q6d.e (qll fu)).Sound wG:=(vd1 fu).h
def zj2:IF:=⟨.fn 59,[.ptr 0 0,wS],[(0,.cells [.h (.int .u32),.h (.int .i32),.h (.int .u32),.c .nilIface,.own 1] 171),(1,.row .str 9)],_,RS.mk (wS) [(0,.cells [.h (.int .u32),.h (.int .i32),.h (.int .u32),.iel 282 2 1,.u] 171),(1,.dead),(2,.row .byte 281)]⟩
def zj3:IF:=⟨.fn 59,[.ptr 0 0,wS],[(0,.cells [.h (.int .u32),.h (.int .i32),.h (.int .u32),.iel 282 1 1,.u] 171),(1,.row .byte 281)],_,RS.mk (wS) [(0,.cells [.h (.int .u32),.h (.int .i32),.h (.int .u32),.iel 282 1 1,.u] 171),(1,.row .byte 281)]⟩
def zqb(s:Bs)(p0 p1 p2:Int)(on:List Bs)(r:Bs×Int×Int×Int×Bs)(hr:qfw fu s p0 p1 p2 on=some r) :
  ce wG 59 [.ptr 0 0,.str s] [(0,.cells [.int .u32 p0,.int .i32 p1,.int .u32 p2,.val .nilIface,.own 1] 171),(1,.row .str on 9)] (.str r.1) [(0,.cells [.int .u32 r.2.1,.int .i32 r.2.2.1,.int .u32 r.2.2.2.1,.iface 282 (.oel 2 1 0 0),.undef] 171),(1,.dead),(2,.row .byte r.2.2.2.2 281)]:=by
 unfold qfw at hr;cases hc:decide (p0=0)&&decide (p1=0)<;>rw[hc]at hr<;>simp only[qT,qF,reduceCtorEq]at hr
 simp only[qA,decide_eq_true_eq]at hc;obtain⟨rfl,rfl⟩:=hc;obtain⟨x,hx,hr⟩:=Option.bind_eq_some_iff.1 hr;obtain⟨x0,x1,x2,tab,on'⟩:=x;simp only at hr;cases hc2:decide (x0=0)&&decide (x1=1)<;>rw[hc2]at hr<;>simp only[qT,qF,reduceCtorEq]at hr
 simp only[qA,decide_eq_true_eq]at hc2;obtain⟨rfl,rfl⟩:=hc2;obtain⟨y,hy,hr⟩:=Option.bind_eq_some_iff.1 hr;obtain⟨out,tab'⟩:=y;simp only[qI]at hr;subst hr;have hB:ce wG 110 [.ptr 0 0] [(0,.cells [.int .u32 0,.int .i32 1,.int .u32 p2,.val .nilIface,.own 1] 171),(1,.row .str on 9)] (.tup []) [(0,.cells [.int .u32 0,.int .i32 1,.int .u32 x2,.iface 282 (.oel 2 1 0 0),.own 3] 171),(1,.dead),(2,.row .byte tab 281),(3,.row .str on' 9)]:=
  (zqe fu ((),()) (((0:Int),((1:Int),(p2,((),((),()))))),(on,())) ((0:Int),(1:Int),x2,tab,on') hx).2
 have hP:ce wG 429 [.oel 0 1 0 0,.str s] [(0,.row .byte tab 281)] (.str out) [(0,.row .byte tab' 281)]:=
  (zcg fu ((),(s,())) (tab,()) (out,tab') hy).2
 intro w G vs hm hv;show Calls _ _ _ _ (ja w G [(0,.cells [.int .u32 0,.int .i32 0,.int .u32 p2,.val .nilIface,.own 1] 171),(1,.row .str on 9)] (.str out) [(0,.cells [.int .u32 1,.int .i32 0,.int .u32 x2,.iface 282 (.oel 2 1 0 0),.undef] 171),(1,.dead),(2,.row .byte tab' 281)]);have hm:bp G [(0,.cells [.int .u32 0,.int .i32 0,.int .u32 p2,.val .nilIface,.own 1] 171),(1,.row .str on 9)] w:=hm;have hv:ak [.ptr 0 0,.str s] G vs:=hv
 match vs,hv with
 |[v1,v2],hv=>
 obtain⟨⟨B,hGB,rfl⟩,rfl,_⟩:=hv;have hid:∀n b,af ([(0,.cells [.int .u32 0,.int .i32 0,.int .u32 p2,.val .nilIface,.own 1] 171),(1,.row .str on 9)]:List (Nat×ag)) n=some b->ar [(0,0),(1,1)] n=some n/\dx (ar [(0,0),(1,1)]) b=b:=by
  intro n b h
  match n,h with
  |0,h=>cases h;exact⟨rfl,rfl⟩
  |1,h=>cases h;exact⟨rfl,rfl⟩
  |n+2,h=>cases h
 have hr0:=ai.start (N:=[(0,0),(1,1)]) hm hid (fun n h=>by
  match n,h with
  |0,h=>cases h
  |1,h=>cases h
  | n+2,h=>rfl) 4
 have hGB0:(G.view [(0,0),(1,1)]).box 0=some B:=hGB;obtain⟨c0,e0,r0,z0⟩:=hr0.cellAt (i:=0) rfl hGB0 rfl;obtain⟨c1,e1,r1,z1⟩:=hr0.cellAt (i:=1) rfl hGB0 rfl;have r0:c0 = .int .u32 0:=r0;have r1:c1 = .int .i32 0:=r1;subst r0 r1;have hr1:=hr0.setCellAt (i:=1) (x := .int .i32 1) (v := .int .i32 1) rfl hGB0 rfl rfl
 -- the building
 have hmB:bp ((G.view [(0,0),(1,1)]).view [(0,0),(1,1)]) [(0,.cells [.int .u32 0,.int .i32 1,.int .u32 p2,.val .nilIface,.own 1] 171),(1,.row .str on 9)] (w.setCell ⟨B,1,none⟩ (.int .i32 1)):=
  hr1.fin.mem.view (names:=[(0,0),(1,1)]) rfl (fun m m' n h1 h2=>by
   match m,m',h1,h2 with
   |0,0,_,_=>rfl|1,1,_,_=>rfl|0,1,h1,h2=>cases h1;cases h2
   |1,0,h1,h2=>cases h1;cases h2
   |0,m'+2,_,h2=>cases h2
   |1,m'+2,_,h2=>cases h2
   | m+2,_,h1,_=>cases h1)
 have hcB:=hB (w.setCell ⟨B,1,none⟩ (.int .i32 1)) ((G.view [(0,0),(1,1)]).view [(0,0),(1,1)]) [.pointer (some ⟨B,0,none⟩)] hmB ⟨⟨B,hGB,rfl⟩,trivial⟩
 let s2:St:={ n:=4,fr:=[(0,.tup [])],hp:=[(0,.cells [.int .u32 0,.int .i32 1,.int .u32 x2,.iface 282 (.oel 66 1 0 0),.own 67] 171),(1,.dead),(66,.row .byte tab 281),(67,.row .str on' 9),(0,.dead),(1,.dead),(0,.cells [.int .u32 0,.int .i32 1,.int .u32 p2,.val .nilIface,.own 1] 171),(0,.cells [.int .u32 0,.int .i32 0,.int .u32 p2,.val .nilIface,.own 1] 171),(1,.row .str on 9)],nx:=64,df:=[] }
 let hp0:List (Nat×ag):=[(0,.cells [.int .u32 0,.int .i32 0,.int .u32 p2,.val .nilIface,.own 1] 171),(1,.row .str on 9)]
 let R:World->Prop:=fun w'=>∃G2 a2,ai w (G.view [(0,0),(1,1)]) hp0 G2 s2 a2 w'
 have hBw:∀{w':World}{G2:Gh}{a2:Act},ai w (G.view [(0,0),(1,1)]) hp0 G2 s2 a2 w'->G2.box 0=some B:=fun h=>h.fin.keep 0 _ B rfl hGB0
 refine(Go.Proofs.YtdnaaelkpgijeabGreatDoor.Once.replace_first B ⟨s.toArray⟩ w R (fun v w'=>∃G4,Fin w G hp0 G4 [(0,.cells [.int .u32 1,.int .i32 0,.int .u32 x2,.iface 282 (.oel 2 1 0 0),.undef] 171),(1,.dead),(2,.row .byte tab' 281)] w'/\aj (.str out) G4 v) e0 e1 z0 z1 ?_ ?_ ?_).mono ?_
 ·refine hcB.mono ?_;intro e w' hpost;obtain⟨G2,v,he,hr2⟩:=qc0 hr1 (t:=0) (names:=[(0,0),(1,1)]) (hpv:=[(0,.cells [.int .u32 0,.int .i32 1,.int .u32 p2,.val .nilIface,.own 1] 171),(1,.row .str on 9)]) (hp:=[(0,.cells [.int .u32 0,.int .i32 1,.int .u32 p2,.val .nilIface,.own 1] 171),(1,.row .str on 9)]) rfl rfl (show 0<4 by decide) rfl rfl (by repeat (first|trivial|refine⟨rfl,?_⟩)) hpost
  obtain⟨u,u1,u2⟩:=hr2.frame 0 _ rfl;have u3:u=v:=by simpa [Act.put] using u1.symm
  obtain⟨us,h1,h2⟩:=u2;have:us=#[]:=by
   cases hq:us.toList with|nil=>simpa using hq|cons _ _=>rw[hq]at h2;exact h2.elim
  subst this;subst u3;exact⟨by rw[he,h1],G2,_,hr2⟩
 ·rintro w' ⟨G2,a2,hr2⟩
  obtain⟨d0,f0,q0,y0⟩:=hr2.cellAt (i:=0) rfl (hBw hr2) rfl;obtain⟨d1,f1,q1,y1⟩:=hr2.cellAt (i:=1) rfl (hBw hr2) rfl;have q0:d0 = .int .u32 0:=q0;have q1:d1 = .int .i32 1:=q1;subst q0 q1;exact⟨f0,y0,f1,y1⟩
 ·rintro w' ⟨G2,a2,hr2⟩
  obtain⟨d3,f3,q3,_⟩:=hr2.cellAt (i:=3) rfl (hBw hr2) rfl;obtain⟨u3,rfl,g,n3,c3,o3,rfl⟩:=q3;refine⟨g,by simpa using f3,?_⟩
  have hr3:=(hr2.drewOk.setCellAt (i:=0) (x := .int .u32 1) (v := .int .u32 1) rfl (hBw hr2) rfl rfl).setCellAt (i:=0+1) (x := .int .i32 0) (v := .int .i32 0) rfl (hBw hr2) rfl rfl;have hmP:bp (G2.view [(0,66)]) [(0,.row .byte tab 281)] ((w'.drew.setCell ⟨B,0,none⟩ (.int .u32 1)).setCell ⟨B,0+1,none⟩ (.int .i32 0)):=
   hr3.fin.mem.view (names:=[(0,66)]) rfl (fun m m' n h1 h2=>by
    cases m with
    |zero=>cases m' with|zero=>rfl|succ m'=>cases h2
    | succ m=>cases h1)
  have hcP:=hP _ (G2.view [(0,66)]) [.pointer (some ⟨g,0,none⟩),.string ⟨s.toArray⟩] hmP ⟨⟨g,n3,c3,o3,oC⟩,rfl,trivial⟩
  refine hcP.mono ?_;intro e w4 hpost;obtain⟨G4,v,he,hr4⟩:=qc0 hr3 (t:=1) (names:=[(0,66)]) (hpv:=[(0,.row .byte tab 281)]) (hp:=[(0,.row .byte tab 281)]) rfl rfl (show 1<4 by decide) rfl rfl ⟨rfl,trivial⟩ hpost
  obtain⟨u,u1,u2⟩:=hr4.frame 1 _ rfl;have u3:u=v:=by
   have hs:=hr3.size;have hlt:1<a2.tmps.size:=by rw[hs];exact(show 1<4 by decide)
   simp only[Act.put]at u1;rw[Array.getElem?_setIfInBounds]at u1;simp[hlt]at u1;exact u1.symm
  subst u3;obtain⟨G5,k1,k2⟩:=qhj hr4.fin (ids:=[(0,0),(1,1)]) (fun n bx h=>by
   match n,h with
   |0,h=>rfl|1,h=>rfl| n+2,h=>cases h) (v := .str out) (p := wS) (hp:=[(0,.cells [.h (.int .u32),.h (.int .i32),.h (.int .u32),.iel 282 2 1,.u] 171),(1,.dead),(2,.row .byte 281)]) (y:=(out,(((1:Int),((0:Int),(x2,((),((),()))))),((),(tab',()))))) (by rfl)
  exact⟨u,he,G5,k1.only hid,k2 u u2⟩
 ·rintro e w4 ⟨v,rfl,G4,k1,k2⟩
  exact⟨v,G4,rfl,k1,k2⟩
def zzg:(zj2.e (qfw fu)).Sound wG:=fun d d' r hr=>
 ⟨call59,zqb fu d.2.1 d'.1.1 d'.1.2.1 d'.1.2.2.1 d'.2.1 r hr⟩
def zqc(s:Bs)(p0 p1 p2:Int)(tab:Bs)(r:Bs×Int×Int×Int×Bs)(hr:qfx fu s p0 p1 p2 tab=some r) :
  ce wG 59 [.ptr 0 0,.str s] [(0,.cells [.int .u32 p0,.int .i32 p1,.int .u32 p2,.iface 282 (.oel 1 1 0 0),.undef] 171),(1,.row .byte tab 281)] (.str r.1) [(0,.cells [.int .u32 r.2.1,.int .i32 r.2.2.1,.int .u32 r.2.2.2.1,.iface 282 (.oel 1 1 0 0),.undef] 171),(1,.row .byte r.2.2.2.2 281)]:=by
 unfold qfx at hr;cases hc : !decide (p0=0)<;>rw[hc]at hr<;>simp only[qT,qF,reduceCtorEq]at hr
 simp only[Bool.not_eq_true',decide_eq_false_iff_not]at hc;obtain⟨y,hy,hr⟩:=Option.bind_eq_some_iff.1 hr;obtain⟨out,tab'⟩:=y;simp only[qI]at hr;subst hr;have hP:ce wG 429 [.oel 0 1 0 0,.str s] [(0,.row .byte tab 281)] (.str out) [(0,.row .byte tab' 281)]:=
  (zcg fu ((),(s,())) (tab,()) (out,tab') hy).2
 intro w G vs hm hv
 let hp0:List (Nat×ag):=[(0,.cells [.int .u32 p0,.int .i32 p1,.int .u32 p2,.iface 282 (.oel 1 1 0 0),.undef] 171),(1,.row .byte tab 281)]
 show Calls _ _ _ _ (ja w G hp0 (.str out) [(0,.cells [.int .u32 p0,.int .i32 p1,.int .u32 p2,.iface 282 (.oel 1 1 0 0),.undef] 171),(1,.row .byte tab' 281)]);have hm:bp G hp0 w:=hm;have hv:ak [.ptr 0 0,.str s] G vs:=hv
 match vs,hv with
 |[v1,v2],hv=>
 obtain⟨⟨B,hGB,rfl⟩,rfl,_⟩:=hv;have hid:∀n b,af hp0 n=some b->ar [(0,0),(1,1)] n=some n/\dx (ar [(0,0),(1,1)]) b=b:=by
  intro n b h
  match n,h with
  |0,h=>cases h;exact⟨rfl,rfl⟩
  |1,h=>cases h;exact⟨rfl,rfl⟩
  |n+2,h=>cases h
 have hr0:=ai.start (N:=[(0,0),(1,1)]) hm hid (fun n h=>by
  match n,h with
  |0,h=>cases h
  |1,h=>cases h
  | n+2,h=>rfl) 4
 have hGB0:(G.view [(0,0),(1,1)]).box 0=some B:=hGB;obtain⟨c0,e0,r0,_⟩:=hr0.cellAt (i:=0) rfl hGB0 rfl;have r0:c0 = .int .u32 p0:=r0;subst r0;obtain⟨d3,f3,q3,_⟩:=hr0.cellAt (i:=3) rfl hGB0 rfl;obtain⟨u3,rfl,g,n3,c3,o3,rfl⟩:=q3;have hmP:bp ((G.view [(0,0),(1,1)]).view [(0,1)]) [(0,.row .byte tab 281)] w:=
  hr0.fin.mem.view (names:=[(0,1)]) rfl (fun m m' n h1 h2=>by
   cases m with
   |zero=>cases m' with|zero=>rfl|succ m'=>cases h2
   | succ m=>cases h1)
 have hcP:=hP w ((G.view [(0,0),(1,1)]).view [(0,1)]) [.pointer (some ⟨g,0,none⟩),.string ⟨s.toArray⟩] hmP ⟨⟨g,n3,c3,o3,oC⟩,rfl,trivial⟩
 refine(Go.Proofs.YtdnaaelkpgijeabGreatDoor.Once.replace_done B g ⟨s.toArray⟩ w (fun v w'=>∃G4,Fin w G hp0 G4 [(0,.cells [.int .u32 p0,.int .i32 p1,.int .u32 p2,.iface 282 (.oel 1 1 0 0),.undef] 171),(1,.row .byte tab' 281)] w'/\aj (.str out) G4 v) p0 hc e0 (by simpa using f3) ?_).mono ?_
 ·refine hcP.mono ?_;intro e w4 hpost;obtain⟨G4,v,he,hr4⟩:=qc0 hr0 (t:=1) (names:=[(0,1)]) (hpv:=[(0,.row .byte tab 281)]) (hp:=[(0,.row .byte tab 281)]) rfl rfl (show 1<4 by decide) rfl rfl ⟨rfl,trivial⟩ hpost
  obtain⟨u,u1,u2⟩:=hr4.frame 1 _ rfl;have u3:u=v:=by simpa [Act.put] using u1.symm
  subst u3;obtain⟨G5,k1,k2⟩:=qhj hr4.fin (ids:=[(0,0),(1,1)]) (fun n bx h=>by
   match n,h with
   |0,h=>rfl|1,h=>rfl| n+2,h=>cases h) (v := .str out) (p := wS) (hp:=[(0,.cells [.h (.int .u32),.h (.int .i32),.h (.int .u32),.iel 282 1 1,.u] 171),(1,.row .byte 281)]) (y:=(out,((p0,(p1,(p2,((),((),()))))),(tab',())))) (by rfl)
  exact⟨u,he,G5,k1.only hid,k2 u u2⟩
 ·rintro e w4 ⟨v,rfl,G4,k1,k2⟩
  exact⟨v,G4,rfl,k1,k2⟩
def zzh:(zj3.e (qfx fu)).Sound wG:=fun d d' r hr=>
 ⟨call59,zqc fu d.2.1 d'.1.1 d'.1.2.1 d'.1.2.2.1 d'.2.1 r hr⟩
def x46(fu:Nat):Fx wG ⟨.fn 102,[wS,.h .byte],[],_,RS.mk (wS) []⟩:=fx [] [lb 96 [(0,wS),(1,.h .byte)]]
def vd2:Nat->(x46 fu).L 0:=Fx.lq (qw6 fu) (zct fu) (fun r0=>[r0.s])
def zo5:=(x46 fu).fi (qw5 fu) [(vd2 fu fu).s]
def x47(fu:Nat):Fx wG ⟨.fn 105,[wS,.el 0 1],[(0,.row .bool 174)],_,RS.mk (wS) [(0,.row .bool 174)]⟩:=fx [q4a.p] [lb 96 [(0,wS),(1,.el 0 1)] [(0,.row .bool 174)]]
def vd3:Nat->(x47 fu).L 0:=Fx.lq (qw4 fu) (zcs fu) (fun r0=>[r0.s])
def zo7:=(x47 fu).fi (qw3 fu) [(vd3 fu fu).s]
def x48:Fx wG ⟨.fn 107,[wS,wS],[],_,RS.mk (wS) []⟩:=fx [⟨vj.e iz,y6 mv ml mu mj⟩,(zoz fu).p] [lb 96 [(0,wS),(1,wS)]]
def vd4:Nat->(x48 fu).L 0:=Fx.lq (qw8 fu) (zcu fu) (fun r0=>[r0.s])
def zo9:=(x48 fu).fi (qw7 fu) [(vd4 fu fu).s]
def x49:Fx wG ⟨.fn 58,[wS,wS],[],_,RS.mk (wS) []⟩:=fx [(zov fu).p,(zo5 fu).p,(x5s fu).p,(zox fu).p,(zo7 fu).p,(zo1 fu).p,(zo9 fu).p] [lb 60 [(0,wS),(1,wS)],lb 29 [(0,wS),(1,wS),(21,.h .bool)],lb 28 [(0,wS),(1,wS)],lb 13 [(0,wS),(1,wS),(12,.h .bool)]]
def vd8:(x49 fu).L 0:=Fx.jm (zcd fu)
def vd7:(x49 fu).L 1:=Fx.jm (qwn fu) [(vd8 fu).s]
def vd6:(x49 fu).L 2:=Fx.jm (zcc fu) [(vd7 fu).s]
def vd5:(x49 fu).L 3:=Fx.jm (qwm fu) [(vd6 fu).s]
def vd9:=(x49 fu).fi (qwf fu) [(vd5 fu).s]
def um:Fx wG ⟨.fn 26,[.h wB],[],_,RS.mk (.tup [.own 0,wH,.h (.prod wI wI)]) [(0,.row wP 42)]⟩:=fx [dc.p,vc9.p,qdn.p,q6a.p,⟨zj2.e (qfw fu),zzg fu⟩,(vd9 fu).p,c8.p,(vdo fu).p,⟨zj3.e (qfx fu),zzh fu⟩] [lb 8168 [(4,.ptr 32 0),(5,.own 33),(6,wH),(11,.ptr 34 0),(77,wH),(78,wH)] [(32,.dat (.prod wI wI) 36),(33,.row wP 42),(34,.cells [.h (.int .u32),.h (.int .i32),.h (.int .u32),.iel 282 35 1,.u] 171),(35,.row .byte 281)],lb 8168 [(4,.ptr 32 0),(5,.own 35),(6,wH),(11,.ptr 33 0),(77,wH),(78,.c (.int .i64 0))] [(32,.dat (.prod wI wI) 36),(33,.cells [.h (.int .u32),.h (.int .i32),.h (.int .u32),.c .nilIface,.own 34] 171),(34,.row .str 9),(35,.row wP 42)],lb 252 [(4,.ptr 32 0),(5,.own 33),(6,wH)] [(32,.dat (.prod wI wI) 36),(33,.row wP 42)],lb 15918 [(0,.h wB),(4,.ptr 32 0),(5,.own 33),(6,wH),(7,wS),(8,wH)] [(32,.dat (.prod wI wI) 36),(33,.row wP 42)],lb 15917 [(0,.h wB),(4,.ptr 32 0),(5,.own 33),(6,wH),(7,wS),(8,wH),(41,.h .bool)] [(32,.dat (.prod wI wI) 36),(33,.row wP 42)],lb 992 [(0,.h wB),(4,.ptr 32 0),(5,.own 33),(6,wH)] [(32,.dat (.prod wI wI) 36),(33,.row wP 42)]]
def vef:Nat->(um fu).L 0:=Fx.lq (qth fu) (q80 fu) (fun r5=>[r5.s])
def ved:Nat->(um fu).L 1:=Fx.lq (qtg fu) (q8z fu) (fun r3=>[(vef fu fu).s])
def zpa:(um fu).L 2:=Fx.jm (qkm fu) [(ved fu fu).s]
def vee(r0:(um fu).L 5):(um fu).L 3:=Fx.jm (q81 fu r0.f) [(zpa fu).s,r0.s]
def vec(r0:(um fu).L 5):(um fu).L 4:=Fx.jm (qtf fu r0.f) [r0.s,(vee fu r0).s]
def veb:Nat->(um fu).L 5:=Fx.lq (qte fu) (q8y fu) (fun r0=>[(zpa fu).s,(vec fu r0).s])
def zpb:=(um fu).fi (qtd fu) [(veb fu fu).s]
def x51(fu:Nat):Fx wG ⟨.fn 27,[.h wB],[],_,RS.mk (.own 0) [(0,.row .byte 5)]⟩:=fx [] [lb 14919 [(0,.h wB),(3,.own 32),(4,wH),(44,.h .bool)] [(32,.row .byte 5)],lb 3729 [(0,.h wB),(3,.own 32),(4,wH),(18,.h .bool)] [(32,.row .byte 5)],lb 464 [(0,.h wB),(3,.own 32),(4,wH)] [(32,.row .byte 5)]]
def vei(r0:(x51 fu).L 2):(x51 fu).L 0:=Fx.jm (quf fu r0.f) [r0.s]
def veh(r0:(x51 fu).L 2):(x51 fu).L 1:=Fx.jm (qkw fu r0.f) [r0.s,(vei fu r0).s]
def veg:Nat->(x51 fu).L 2:=Fx.lq (que fu) (zad fu) (fun r0=>[(veh fu r0).s])
def vej:=(x51 fu).fi (zac fu) [(veg fu fu).s]
def vek:EI wG ⟨.fn 8,[.h wB],[],_,RS.mk (.tup [.h (.prod wL wB),.h (.prod wI wI)]) []⟩:=(fx [(zpb fu).p,eg.p,(vej fu).p,(q5l fu).p,c8.p]).fi (q99 fu)
def x53(fu:Nat):Fx wG ⟨.fn 115,[wS],[],_,RS.mk (wS) []⟩:=fx [] [lb 232 [(3,.own 32),(8,.own 32),(9,wH),(10,wH)] [(32,.row .byte 5)]]
def vel:Nat->(x53 fu).L 0:=Fx.lq (sh fu) (qa9 fu) (fun r0=>[r0.s])
def zpe:=(x53 fu).fi (ur fu) [(vel fu fu).s]
def om:EI wG ⟨.fn 62,[wS,wS],[],_,RS.mk (.h .bool) []⟩:=(fx [(zpe fu).p]).fi (fm fu)
def x55:Fx wG ⟨.fn 353,[wS,wS],[],_,RS.mk (wS) []⟩:=fx [(zo5 fu).p,(x5s fu).p,(zo7 fu).p,(zo9 fu).p] [lb 60 [(0,wS),(1,wS)],lb 29 [(0,wS),(1,wS),(21,.h .bool)],lb 28 [(0,wS),(1,wS)],lb 13 [(0,wS),(1,wS),(12,.h .bool)]]
def vep:(x55 fu).L 0:=Fx.jm (zb9 fu)
def veo:(x55 fu).L 1:=Fx.jm (qwh fu) [(vep fu).s]
def ven:(x55 fu).L 2:=Fx.jm (zb8 fu) [(veo fu).s]
def vem:(x55 fu).L 3:=Fx.jm (qwg fu) [(ven fu).s]
def veq:=(x55 fu).fi (zb7 fu) [(vem fu).s]
def qjg:EI wG ⟨.fn 330,[.ptr 0 0],[(0,.cells [wS] 399)],_,RS.mk (.tup []) [(0,.cells [wS] 399)]⟩:=(fx [(veq fu).p]).fi (qbj fu)
def qjh:EI wG ⟨.fn 327,[.h .byte],[],_,RS.mk (.h .bool) []⟩:=(fx [x7s.p]).fi qbk
def x58:Fx wG ⟨.fn 326,[.ptr 0 0,.fn 327 []],[(0,.cells [wS] 399)],_,RS.mk (wS) [(0,.cells [wS] 399)]⟩:=fx [(qjg fu).p,qjh.p] [lb 482 [(0,.ptr 0 0),(1,.fn 327 []),(5,wH)] [(0,.cells [wS] 399)],lb 481 [(0,.ptr 0 0),(1,.fn 327 []),(5,wH),(25,.h .bool)] [(0,.cells [wS] 399)],lb 480 [(0,.ptr 0 0),(1,.fn 327 []),(5,wH)] [(0,.cells [wS] 399)]]
def vet(r0:(x58 fu).L 2):(x58 fu).L 0:=Fx.jm (q9z fu r0.f) [r0.s]
def ves(r0:(x58 fu).L 2):(x58 fu).L 1:=Fx.jm (qt8 fu r0.f) [(vet fu r0).s]
def ver:Nat->(x58 fu).L 2:=Fx.lq (qt7 fu) (q9y fu) (fun r0=>[(ves fu r0).s])
def veu:=(x58 fu).fi (qt6 fu) [(ver fu fu).s]
def q6j:EI wG ⟨.fn 328,[.ptr 0 0,.h .byte],[(0,.cells [wS] 399)],_,RS.mk (.h .bool) [(0,.cells [wS] 399)]⟩:=(fx [(qjg fu).p]).fi (qfn fu)
def vew:EI wG ⟨.fn 349,[.h .byte],[],_,RS.mk (.h .bool) []⟩:=(fx [qjh.p]).fi q9x
def x61:Fx wG ⟨.fn 326,[.ptr 0 0,.fn 349 []],[(0,.cells [wS] 399)],_,RS.mk (wS) [(0,.cells [wS] 399)]⟩:=fx [(qjg fu).p,vew.p] [lb 482 [(0,.ptr 0 0),(1,.fn 349 []),(5,wH)] [(0,.cells [wS] 399)],lb 481 [(0,.ptr 0 0),(1,.fn 349 []),(5,wH),(25,.h .bool)] [(0,.cells [wS] 399)],lb 480 [(0,.ptr 0 0),(1,.fn 349 []),(5,wH)] [(0,.cells [wS] 399)]]
def vez(r0:(x61 fu).L 2):(x61 fu).L 0:=Fx.jm (q92 fu r0.f) [r0.s]
def vey(r0:(x61 fu).L 2):(x61 fu).L 1:=Fx.jm (qua fu r0.f) [(vez fu r0).s]
def vex:Nat->(x61 fu).L 2:=Fx.lq (qt9 fu) (q91 fu) (fun r0=>[(vey fu r0).s])
def ve0:=(x61 fu).fi (q90 fu) [(vex fu fu).s]
def ve1:EI wG ⟨.fn 369,[.h .byte],[],_,RS.mk (.h .bool) []⟩:=(fx [qjh.p]).fi q97
def x63:Fx wG ⟨.fn 326,[.ptr 0 0,.fn 369 []],[(0,.cells [wS] 399)],_,RS.mk (wS) [(0,.cells [wS] 399)]⟩:=fx [(qjg fu).p,ve1.p] [lb 482 [(0,.ptr 0 0),(1,.fn 369 []),(5,wH)] [(0,.cells [wS] 399)],lb 481 [(0,.ptr 0 0),(1,.fn 369 []),(5,wH),(25,.h .bool)] [(0,.cells [wS] 399)],lb 480 [(0,.ptr 0 0),(1,.fn 369 []),(5,wH)] [(0,.cells [wS] 399)]]
def ve4(r0:(x63 fu).L 2):(x63 fu).L 0:=Fx.jm (q95 fu r0.f) [r0.s]
def ve3(r0:(x63 fu).L 2):(x63 fu).L 1:=Fx.jm (quc fu r0.f) [(ve4 fu r0).s]
def ve2:Nat->(x63 fu).L 2:=Fx.lq (qub fu) (q94 fu) (fun r0=>[(ve3 fu r0).s])
def ve5:=(x63 fu).fi (q93 fu) [(ve2 fu fu).s]
def x64:Fx wG ⟨.fn 350,[.ptr 0 0],[(0,.cells [wS] 399)],_,RS.mk (.tup [wS,.h .bool]) [(0,.cells [wS] 399)]⟩:=fx [(q6j fu).p,(ve5 fu).p] [lb 976 [(0,.ptr 0 0),(4,.own 32),(5,wH)] [(0,.cells [wS] 399),(32,.row .byte 5)]]
def ve6:Nat->(x64 fu).L 0:=Fx.lq (qud fu) (q98 fu) (fun r0=>[r0.s])
def ve7:=(x64 fu).fi (q96 fu) [(ve6 fu fu).s]
def q6l:EI wG ⟨.fn 230,[wS,wS],[],_,RS.mk (.h .bool) []⟩:=(fx).fi qkn
def ve8:EI wG ⟨.fn 370,[wS,wS],[],_,RS.mk (.tup [wS,.h .bool]) []⟩:=(fx [q6l.p]).fi q87
def ve9:EI wG ⟨.fn 351,[wS,wS],[],_,RS.mk (.tup [wS,.h .bool]) []⟩:=(fx [ve8.p]).fi zbu
def q2l:LC.glob 3=some ⟨.int .u64,Lib.pow10Tab⟩:=rfl
def q2m:(3,20)∈LC.sizes:=oE
def vfa:EI wG ⟨.fn 329,[.ptr 0 0],[(0,.cells [wS] 399)],_,RS.mk (.tup [.h (.prod .str (.prod wI (.prod .bool .str))),.h .bool]) [(0,.cells [wS] 399)]⟩:=(fx [(ve0 fu).p,(q6j fu).p,(ve7 fu).p,zot.p,ve9.p,⟨zi2.e qe6,zxu q2l q2m oE oE⟩]).fi (q9w fu)
def zpg:EI wG ⟨.fn 354,[.h (.prod .str (.prod wI (.prod .bool .str))),.ptr 0 0],[(0,.dat (.prod .str (.prod wI (.prod .bool .str))) 403)],_,RS.mk (.h .bool) [(0,.dat (.prod .str (.prod wI (.prod .bool .str))) 403)]⟩:=(fx [(om fu).p]).fi (qtx fu)
def x70:Fx wG ⟨.fn 372,[.h (.list (.prod .str (.prod wI (.prod .bool .str)))),.fn 354 [.ptr 0 0]],[(0,.dat (.prod .str (.prod wI (.prod .bool .str))) 403)],_,RS.mk (wH) [(0,.dat (.prod .str (.prod wI (.prod .bool .str))) 403)]⟩:=fx [(zpg fu).p] [lb 104 [(0,.h (.list (.prod .str (.prod wI (.prod .bool .str))))),(1,.fn 354 [.ptr 0 0]),(7,wH),(8,wH)] [(0,.dat (.prod .str (.prod wI (.prod .bool .str))) 403)]]
def vfc:Nat->(x70 fu).L 0:=Fx.lq (qvs fu) (zbo fu) (fun r0=>[r0.s])
def vfd:=(x70 fu).fi (zbn fu) [(vfc fu fu).s]
def vfe:EI wG ⟨.fn 355,[.h (.list (.prod .str (.prod wI (.prod .bool .str)))),.fn 354 [.ptr 0 0]],[(0,.dat (.prod .str (.prod wI (.prod .bool .str))) 403)],_,RS.mk (.h .bool) [(0,.dat (.prod .str (.prod wI (.prod .bool .str))) 403)]⟩:=(fx [(vfd fu).p]).fi (zbf fu)
def x73:Fx wG ⟨.fn 360,[.h .byte],[],_,RS.mk (.tup [.h .byte,.h .bool]) []⟩:=fx [] [lb 103 [(0,.h .byte),(13,.h .bool)],lb 25 [(0,.h .byte),(4,.h .bool)]]
def vfg:x73.L 0:=Fx.jm qrw
def vff:x73.L 1:=Fx.jm qrv [(vfg).s]
def vfh:=x73.fi qa8 [(vff).s]
def q6o:EI wG ⟨.fn 337,[wS],[],_,RS.mk (.tup [.h .byte,.h .bool]) []⟩:=(fx [vfh.p]).fi qba
def x75:Fx wG ⟨.fn 375,[.h (.prod .str (.prod wI (.prod .bool .str)))],[],_,RS.mk (wS) []⟩:=fx [(om fu).p,q6o.p] [lb 4048 [(3,wS),(4,.own 32),(5,wH)] [(32,.row .byte 5)],lb 62 [(3,wS)],lb 61 [(3,wS),(26,.h .bool)]]
def vfk:Nat->(x75 fu).L 0:=Fx.lq (qt3 fu) (q9t fu) (fun r2=>[r2.s])
def vfj:(x75 fu).L 1:=Fx.jm (qt2 fu) [(vfk fu fu).s]
def vfi:(x75 fu).L 2:=Fx.jm (qku fu) [(vfj fu).s]
def vfl:=(x75 fu).fi (q9s fu) [(vfi fu).s]
def x76:Fx wG ⟨.fn 356,[.own 0],[(0,.row (.prod .str (.prod wI (.prod .bool .str))) 403)],_,RS.mk (.tup [.h wP,.h .bool]) [(0,.dead)]⟩:=fx [⟨zk2.e qf3,z0j⟩,(vfl fu).p,⟨zlv.e qf6,z1j mv ml mu mj⟩] [lb 2024 [(2,.ptr 32 0),(4,.ptr 33 0),(28,.own 34),(29,wH),(30,wH)] [(0,.dead),(32,.dat wP 296),(33,.dat wP 296),(34,.row (.prod .str (.prod wI (.prod .bool .str))) 403)]] true
def vfm:Nat->(x76 fu).L 0:=Fx.lq (qtu fu) (q9h fu) (fun r0=>[r0.s])
def vfn:=(x76 fu).fi (q9g fu) [(vfm fu fu).s]
def x77:Fx wG ⟨.fn 331,[.h (.list (.prod .str (.prod wI (.prod .bool .str))))],[],_,RS.mk (.tup [.own 0,.h .bool]) [(0,.row wP 296)]⟩:=fx [(vfe fu).p,(zpg fu).p,(vfn fu).p] [lb 3827623 [(0,.h (.list (.prod .str (.prod wI (.prod .bool .str))))),(4,.own 34),(6,.ptr 32 0),(7,.fn 354 [.ptr 32 0]),(8,.own 33),(13,.h (.list (.prod .str (.prod wI (.prod .bool .str))))),(14,wH),(15,wH),(26,.h (.list (.prod .str (.prod wI (.prod .bool .str))))),(27,wH),(28,wH)] [(32,.dat (.prod .str (.prod wI (.prod .bool .str))) 403),(33,.row (.prod .str (.prod wI (.prod .bool .str))) 403),(34,.row wP 296)],lb 956904 [(0,.h (.list (.prod .str (.prod wI (.prod .bool .str))))),(4,.own 33),(6,.ptr 32 0),(7,.fn 354 [.ptr 32 0]),(8,.own 34),(13,.h (.list (.prod .str (.prod wI (.prod .bool .str))))),(14,wH),(15,wH),(26,.h (.list (.prod .str (.prod wI (.prod .bool .str))))),(27,wH),(28,wH)] [(32,.dat (.prod .str (.prod wI (.prod .bool .str))) 403),(33,.row wP 296),(34,.row (.prod .str (.prod wI (.prod .bool .str))) 403)],lb 232 [(0,.h (.list (.prod .str (.prod wI (.prod .bool .str))))),(4,.own 32),(13,.h (.list (.prod .str (.prod wI (.prod .bool .str))))),(14,wH),(15,wH)] [(32,.row wP 296)]]
def vfq(r0:(x77 fu).L 2)(r1:(x77 fu).L 1):(x77 fu).L 0:=Fx.jm (qt0 fu r0.f r1.f) [r1.s]
def vfp(r0:(x77 fu).L 2):Nat->(x77 fu).L 1:=Fx.lq (qtz fu r0.f) (q9o fu r0.f) (fun r1=>[(vfq fu r0 r1).s,r0.s])
def vfo:Nat->(x77 fu).L 2:=Fx.lq (qty fu) (q9n fu) (fun r0=>[r0.s,(vfp fu r0 fu).s])
def vfr:=(x77 fu).fi (q9m fu) [(vfo fu fu).s]
def x78:Fx wG ⟨.fn 292,[wS],[],_,.two (RS.mk (.tup [.agg [wS,wS,wN],.h .bool]) []) (RS.mk (.tup [.agg [wS,wS,.own 0],.h .bool]) [(0,.row wP 296)])⟩:=fx [(veu fu).p,(q6j fu).p,(vfa fu).p,(qjg fu).p,(vfr fu).p] [lb 16352 [(2,.ptr 32 0),(4,.ptr 33 0),(5,.ptr 34 0),(7,.own 35)] [(32,.cells [wS,wS,wN] 292),(33,.cells [wS] 399),(34,.cells [wS,wS,wN] 292),(35,.row (.prod .str (.prod wI (.prod .bool .str))) 403)],lb 510 [(2,.ptr 32 0),(4,.ptr 33 0),(5,.ptr 34 0)] [(32,.cells [wS,wS,wN] 292),(33,.cells [wS] 399),(34,.cells [wS,wS,wN] 292)],lb 509 [(2,.ptr 32 0),(4,.ptr 33 0),(5,.ptr 34 0),(33,.h .bool)] [(32,.cells [wS,wS,wN] 292),(33,.cells [wS] 399),(34,.cells [wS,wS,wN] 292)]]
def vfu:Nat->(x78 fu).L 0:=Fx.lq (qt1 fu) (q9q fu) (fun r2=>[r2.s])
def vft:(x78 fu).L 1:=Fx.jm (q9r fu) [(vfu fu fu).s]
def vfs:(x78 fu).L 2:=Fx.jm (qkt fu) [(vft fu).s]
def vfv:=(x78 fu).fi (q9p fu) [(vfs fu).s]
def x79(fu:Nat):Fx wG ⟨.fn 30,[wS,.fn 327 []],[],_,RS.mk (.h .bool) []⟩:=fx [qjh.p] [lb 104 [(0,wS),(1,.fn 327 []),(7,wH),(8,wH)]]
def vfw:Nat->(x79 fu).L 0:=Fx.lq (qrl fu) (q68 fu) (fun r0=>[r0.s])
def vfx:=(x79 fu).fi (q67 fu) [(vfw fu fu).s]
def zpl:EI wG ⟨.fn 293,[wS],[],_,RS.mk (.h .bool) []⟩:=(fx [(vfx fu).p]).fi (qfo fu)
def vfy:EI wG ⟨.fn 295,[.h wP,.ptr 0 0],[(0,.dat wP 296)],_,RS.mk (.h .bool) [(0,.dat wP 296)]⟩:=(fx [(om fu).p]).fi (q9d fu)
def x82:Fx wG ⟨.fn 250,[.h wL,.fn 295 [.ptr 0 0]],[(0,.dat wP 296)],_,RS.mk (wH) [(0,.dat wP 296)]⟩:=fx [(vfy fu).p] [lb 104 [(0,.h wL),(1,.fn 295 [.ptr 0 0]),(7,wH),(8,wH)] [(0,.dat wP 296)]]
def vfz:Nat->(x82 fu).L 0:=Fx.lq (qvn fu) (zbl fu) (fun r0=>[r0.s])
def vf0:=(x82 fu).fi (zbk fu) [(vfz fu fu).s]
def vf1:EI wG ⟨.fn 294,[.h wL,.fn 295 [.ptr 0 0]],[(0,.dat wP 296)],_,RS.mk (.h .bool) [(0,.dat wP 296)]⟩:=(fx [(vf0 fu).p]).fi (zbe fu)
def x84:Fx wG ⟨.fn 251,[.h (.prod .str (.prod .str wL))],[],_,RS.mk (.h (.prod wI wI)) []⟩:=fx [(zpl fu).p,dc.p,c8.p,(vf1 fu).p,⟨qda.e im,qiv mv ml mu mj⟩] [lb 31333 [(1,.ptr 32 0),(2,.ptr 33 0),(3,wH),(4,.ptr 34 0),(22,.h wL),(23,wH),(24,wH),(29,.h .bool)] [(32,.dat (.prod .str (.prod .str wL)) 292),(33,.dat (.prod wI wI) 36),(34,.dat wP 296)],lb 488 [(1,.ptr 32 0),(2,.ptr 33 0),(22,.h wL),(23,wH),(24,wH)] [(32,.dat (.prod .str (.prod .str wL)) 292),(33,.dat (.prod wI wI) 36)],lb 28 [(1,.ptr 32 0),(2,.ptr 33 0)] [(32,.dat (.prod .str (.prod .str wL)) 292),(33,.dat (.prod wI wI) 36)],lb 13 [(1,.ptr 32 0),(2,.ptr 33 0),(14,.h .bool)] [(32,.dat (.prod .str (.prod .str wL)) 292),(33,.dat (.prod wI wI) 36)]]
def vf5(r2:(x84 fu).L 1):(x84 fu).L 0:=Fx.jm (qtt fu r2.f) [r2.s]
def vf4:Nat->(x84 fu).L 1:=Fx.lq (qts fu) (q9e fu) (fun r2=>[(vf5 fu r2).s])
def vf3:(x84 fu).L 2:=Fx.jm (q9f fu) [(vf4 fu fu).s]
def vf2:(x84 fu).L 3:=Fx.jm (qtr fu) [(vf3 fu).s]
def q6s:=(x84 fu).fi (qfm fu) [(vf2 fu).s]
end
end
noncomputable section
open Go.Proofs
set_option linter.unusedVariables false
set_option maxRecDepth 100000
set_option maxHeartbeats 2000000
open Tryz
section
variable(fu:Nat)
def vf6:EI wG ⟨.fn 249,[wS],[],_,.two (RS.mk (.tup [.agg [wS,wS,wN],.agg [wH,wH]]) []) (RS.mk (.tup [.agg [wS,wS,.own 0],.agg [wH,wH]]) [(0,.row wP 296)])⟩:=(fx [dc.p,(vfv fu).p,(q6s fu).p,eg.p,c8.p]).fi (q9b fu)
def x86:Fx wG ⟨.fn 199,[.h wL],[],_,.two (RS.mk (.tup [.agg [wS,wS,wN],wH,.h .bool]) []) (RS.mk (.tup [.agg [wS,wS,.own 0],wH,.h .bool]) [(0,.row wP 296)])⟩:=fx [(om fu).p,(vf6 fu).p,eg.p] [lb 935 [(0,.h wL),(2,.ptr 32 0),(5,wH),(10,.h wL),(11,wH),(12,wH)] [(32,.cells [wS,wS,wN] 292)],lb 232 [(0,.h wL),(2,.ptr 32 0),(5,wH),(10,.h wL),(11,wH),(12,wH)] [(32,.cells [wS,wS,wN] 292)]]
def vf8(r0:(x86 fu).L 1):(x86 fu).L 0:=Fx.jm (quk fu r0.f) [r0.s]
def vf7:Nat->(x86 fu).L 1:=Fx.lq (quj fu) (zak fu) (fun r0=>[(vf8 fu r0).s])
def q6t:=(x86 fu).fi (qkx fu) [(vf7 fu fu).s]
def x87:Fx wG ⟨.fn 244,[.h (.prod .str (.prod .str wL)),wS],[],_,RS.mk (.tup [wS,.h .bool,.h (.prod wI wI)]) []⟩:=fx [(q6s fu).p,eg.p,(om fu).p,c8.p] [lb 232 [(1,wS),(6,.ptr 32 0),(16,.h wL),(17,wH),(18,wH)] [(32,.dat (.prod wI wI) 36)]]
def vf9:Nat->(x87 fu).L 0:=Fx.lq (qtp fu) (q9a fu) (fun r0=>[r0.s])
def zpo:=(x87 fu).fi (qto fu) [(vf9 fu fu).s]
def vga:EI wG ⟨.fn 245,[.h .byte],[],_,RS.mk (.h .bool) []⟩:=(fx).fi zap
def x89(fu:Nat):Fx wG ⟨.fn 30,[wS,.fn 245 []],[],_,RS.mk (.h .bool) []⟩:=fx [vga.p] [lb 104 [(0,wS),(1,.fn 245 []),(7,wH),(8,wH)]]
def vgb:Nat->(x89 fu).L 0:=Fx.lq (qrm fu) (q7a fu) (fun r0=>[r0.s])
def vgc:=(x89 fu).fi (q69 fu) [(vgb fu fu).s]
def zpq:EI wG ⟨.fn 246,[wS,wS],[],_,RS.mk (.h .bool) []⟩:=(fx [q6l.p]).fi qvy
def x91:Fx wG ⟨.fn 197,[.h wL],[],_,RS.mk (.tup [wS,.h .bool]) []⟩:=fx [(q6t fu).p,(om fu).p,(zpo fu).p,(vgc fu).p,zpq.p] [lb 30 [(4,.ptr 32 0)] [(32,.cells [wS,wS,.own 33] 292),(33,.row wP 296)],lb 29 [(4,.ptr 32 0),(24,.h .bool)] [(32,.cells [wS,wS,.own 33] 292),(33,.row wP 296)]]
def vgf:(x91 fu).L 0:=Fx.jm (zaq fu)
def vge:(x91 fu).L 1:=Fx.jm (qfp fu) [(vgf fu).s]
def vgg:=(x91 fu).fi (zao fu) [(vge fu).s]
def vgh:EI wG ⟨.fn 247,[.h wB],[],_,RS.mk (.fn 291 [.ptr 0 0]) [(0,.cells [.h wB] 44)]⟩:=(fx).fi za0
def vgi:EI wG ⟨.fn 248,[wS,wS],[],_,RS.mk (wH) []⟩:=(fx [(zo2 fu).p]).fi (zaz fu)
def vgj:EI wG ⟨.yld 0,[wH,wS],[(0,.loop .ready none 198 51 [(2,.ptr 1 0),(3,.ptr 2 0),(4,.ptr 3 0),(5,.ptr 4 0),(6,.ptr 5 0)] [12,13] 0 6),(1,.cells [.h wB] 44),(2,.cells [wS] 9),(3,.cells [.own 7] 232),(4,.cells [.own 8] 232),(5,.cells [wH] 3),(6,.dfr),(7,.row wB 44),(8,.row wB 44)],_,.two (RS.mk (.c (.bool true)) [(0,.loop .ready none 198 51 [(2,.ptr 1 0),(3,.ptr 2 0),(4,.ptr 3 0),(5,.ptr 4 0),(6,.ptr 5 0)] [12,13] 0 6),(1,.cells [.h wB] 44),(2,.cells [wS] 9),(3,.cells [.own 9] 232),(4,.cells [.own 10] 232),(5,.cells [wH] 3),(6,.dfr),(7,.dead),(8,.dead),(9,.row wB 44),(10,.row wB 44)]) (RS.mk (.c (.bool false)) [(0,.loop .done (some .ret) 198 51 [(2,.ptr 1 0),(3,.ptr 2 0),(4,.ptr 3 0),(5,.ptr 4 0),(6,.ptr 5 0)] [12,13] 0 6),(1,.cells [.h wB] 44),(2,.cells [wS] 9),(3,.cells [.own 9] 232),(4,.cells [.own 9] 232),(5,.cells [wH] 3),(6,.dfr),(7,.dead),(8,.dead),(9,.row wB 44)])⟩:=(fy 198 [(vgi fu).p] [] false [([0,1,0,1,1,1],0)] (fl rfl ez)).fo (qum fu) [] 0 [0,1,0,1,1,1]
def x95:Fx wG ⟨.fn 291,[.yld 0,.ptr 1 0],[(0,.loop .ready none 198 51 [(2,.ptr 2 0),(3,.ptr 3 0),(4,.ptr 4 0),(5,.ptr 5 0),(6,.ptr 6 0)] [12,13] 0 7),(1,.cells [.h wB] 44),(2,.cells [.h wB] 44),(3,.cells [wS] 9),(4,.cells [.own 8] 232),(5,.cells [.own 9] 232),(6,.cells [wH] 3),(7,.dfr),(8,.row wB 44),(9,.row wB 44)],_,.two (RS.mk (.tup []) [(0,.loop .done (some .ret) 198 51 [(2,.ptr 2 0),(3,.ptr 3 0),(4,.ptr 4 0),(5,.ptr 5 0),(6,.ptr 6 0)] [12,13] 0 7),(1,.cells [.h wB] 44),(2,.cells [.h wB] 44),(3,.cells [wS] 9),(4,.cells [.own 10] 232),(5,.cells [.own 10] 232),(6,.cells [wH] 3),(7,.dfr),(8,.dead),(9,.dead),(10,.row wB 44)]) (RS.mk (.tup []) [(0,.loop .ready none 198 51 [(2,.ptr 2 0),(3,.ptr 3 0),(4,.ptr 4 0),(5,.ptr 5 0),(6,.ptr 6 0)] [12,13] 0 7),(1,.cells [.h wB] 44),(2,.cells [.h wB] 44),(3,.cells [wS] 9),(4,.cells [.own 10] 232),(5,.cells [.own 11] 232),(6,.cells [wH] 3),(7,.dfr),(8,.dead),(9,.dead),(10,.row wB 44),(11,.row wB 44)])⟩:=fx [⟨qzt.e yd,zfc oE⟩,(vgj fu).p] [lb 48 [(0,.yld 0),(1,.ptr 1 0),(3,wH)] [(0,.loop .ready none 198 51 [(2,.ptr 2 0),(3,.ptr 3 0),(4,.ptr 4 0),(5,.ptr 5 0),(6,.ptr 6 0)] [12,13] 0 7),(1,.cells [.h wB] 44),(2,.cells [.h wB] 44),(3,.cells [wS] 9),(4,.cells [.own 32] 232),(5,.cells [.own 33] 232),(6,.cells [wH] 3),(7,.dfr),(8,.dead),(9,.dead),(32,.row wB 44),(33,.row wB 44)]]
def vgk:Nat->(x95 fu).L 0:=Fx.lq (qux fu) (za2 fu) (fun r0=>[r0.s])
def vgl:=(x95 fu).fi (za1 fu) [(vgk fu fu).s]
def vgm:EI wG ⟨.fn 198,[.h wB,wS],[],_,RS.mk (.own 0) [(0,.row wB 44)]⟩:=(fx [vgh.p,(vgl fu).p] [] false [([0,1,0,1,1,1],0)] (fl rfl ez)).fi (zas fu)
def q6x:EI wG ⟨.fn 157,[.h wL,.h wB,wH],[],_,RS.mk (.own 0) [(0,.row wB 44)]⟩:=(fx [(vgg fu).p,(vgm fu).p]).fi (qk0 fu)
def q6y:EI wG ⟨.fn 201,[.h wP],[],_,RS.mk (.h .bool) []⟩:=(fx [(om fu).p]).fi (qky fu)
def x99:Fx wG ⟨.fn 250,[.h wL,.fn 201 []],[],_,RS.mk (wH) []⟩:=fx [(q6y fu).p] [lb 104 [(0,.h wL),(1,.fn 201 []),(7,wH),(8,wH)]]
def vgn:Nat->(x99 fu).L 0:=Fx.lq (qvp fu) (zbm fu) (fun r0=>[r0.s])
def zpt:=(x99 fu).fi (qvo fu) [(vgn fu fu).s]
def zme:Fx wG ⟨.fn 200,[.h wL,.fn 201 []],[],_,RS.mk (.h wL) []⟩:=fx [(zpt fu).p,(q6y fu).p] [lb 976 [(0,.h wL),(1,.fn 201 []),(5,wH),(6,wH)]] true
def z2b:Nat->(zme fu).L 0:=Fx.lq (qvi fu) (zbh fu) (fun r0=>[r0.s])
def z2c:=(zme fu).fi (zbg fu) [(z2b fu fu).s]
def z2d:EI wG ⟨.fn 296,[.h .byte],[],_,RS.mk (.h .bool) []⟩:=(fx).fi q9j
def zmf(fu:Nat):Fx wG ⟨.fn 30,[wS,.fn 296 []],[],_,RS.mk (.h .bool) []⟩:=fx [z2d.p] [lb 104 [(0,wS),(1,.fn 296 []),(7,wH),(8,wH)]]
def z2e:Nat->(zmf fu).L 0:=Fx.lq (qrn fu) (q7c fu) (fun r0=>[r0.s])
def z2f:=(zmf fu).fi (q7b fu) [(z2e fu fu).s]
def zmg:EI wG ⟨.fn 318,[.h .byte],[],_,RS.mk (.h .byte) []⟩:=(fx).fi qe4
def qpo(fu:Nat):Fx wG ⟨.fn 297,[wS],[],_,RS.mk (.own 0) [(0,.row .str 9)]⟩:=fx [qjh.p,zmg.p] [lb 29902 [(0,wS),(3,.own 32),(5,wS),(9,wH),(10,wH)] [(32,.row .str 9)],lb 232 [(0,wS),(3,.own 32),(9,wH),(10,wH)] [(32,.row .str 9)]]
def z2h(r0:(qpo fu).L 1):(qpo fu).L 0:=Fx.jm (qt5 fu r0.f) [r0.s]
def z2g:Nat->(qpo fu).L 1:=Fx.lq (qt4 fu) (q9v fu) (fun r0=>[(z2h fu r0).s])
def z2i:=(qpo fu).fi (q9u fu) [(z2g fu fu).s]
def qpp:Fx wG ⟨.fn 252,[.h wP],[],_,RS.mk (wS) []⟩:=fx [(zpl fu).p,(z2f fu).p,q6a.p,⟨q2s.e si,zj4⟩,(z2i fu).p,⟨q1f.e sk,zhq q2l q2m⟩] [lb 1000 [(1,.ptr 32 0),(3,wS),(38,.own 33),(39,wH),(40,wH)] [(32,.dat wP 296),(33,.row .str 9)],lb 30 [(1,.ptr 32 0)] [(32,.dat wP 296)],lb 29 [(1,.ptr 32 0),(24,.h .bool)] [(32,.dat wP 296)]]
def z2l:Nat->(qpp fu).L 0:=Fx.lq (qtw fu) (q9k fu) (fun r2=>[r2.s])
def z2k:(qpp fu).L 1:=Fx.jm (q9l fu) [(z2l fu fu).s]
def z2j:(qpp fu).L 2:=Fx.jm (qtv fu) [(z2k fu).s]
def z2m:=(qpp fu).fi (q9i fu) [(z2j fu).s]
def zmh:Fx wG ⟨.fn 202,[.h (.prod .str (.prod .str wL))],[],_,RS.mk (.tup [wS,.h (.prod wI wI)]) []⟩:=fx [(q6s fu).p,eg.p,(z2m fu).p,dc.p,c8.p] [lb 488 [(3,.ptr 32 0),(5,wS),(20,.h wL),(21,wH),(22,wH)] [(32,.dat (.prod wI wI) 36)]]
def z2n:Nat->(zmh fu).L 0:=Fx.lq (qtq fu) (q9c fu) (fun r0=>[r0.s])
def zmi:=(zmh fu).fi (qks fu) [(z2n fu fu).s]
def zmj:Fx wG ⟨.fn 200,[.own 0,.fn 201 []],[(0,.row wP 296)],_,RS.mk (.own 1) [(0,.dead),(1,.row wP 296)]⟩:=fx [(zpt fu).p,(q6y fu).p] [lb 976 [(0,.own 32),(1,.fn 201 []),(5,wH),(6,wH)] [(0,.dead),(32,.row wP 296)]] true
def z2o:Nat->(zmj fu).L 0:=Fx.lq (qvj fu) (zbj fu) (fun r0=>[r0.s])
def z2p:=(zmj fu).fi (zbi fu) [(z2o fu fu).s]
def zmk:EI wG ⟨.fn 158,[.h wL],[],_,RS.mk (.tup [.own 0,.h .bool]) [(0,.row wP 42)]⟩:=(fx [(q6t fu).p,(z2c fu).p,(zmi fu).p,eg.p,⟨qm5.e mf,qz4⟩,(z2p fu).p]).fi (qul fu)
def xe:IF:=⟨.fn 159,[.ptr 0 0,.h wB,wH],[(0,.dat (.prod wI (.prod wI wI)) 182)],_,RS.mk (.tup [.h wT,.h .bool]) [(0,.dat (.prod wI (.prod wI wI)) 182)]⟩
def zml(s116:EI wG xe)(fu:Nat):Fx wG ⟨.fn 111,[.ptr 0 0,.own 1,.h wB,wH],[(0,.dat (.prod wI (.prod wI wI)) 182),(1,.row wP 42)],_,RS.mk (.tup [.h wT,.h .bool]) [(0,.dat (.prod wI (.prod wI wI)) 182),(1,.dead)]⟩:=fx [⟨qm5.e mf,qz4⟩,⟨qz5.e mf,zfw⟩,(q6x fu).p,(zmk fu).p,s116.p] [lb 16360 [(0,.ptr 0 0),(3,wH),(8,.ptr 32 0),(10,.ptr 33 0),(48,.own 34),(49,wH),(50,wH)] [(0,.dat (.prod wI (.prod wI wI)) 182),(1,.dead),(32,.cells [wN,wN,wN] 110),(33,.cells [.own 35,wN,.own 36] 110),(34,.row wB 44),(35,.row wP 42),(36,.row wT 110)]]
def z2q(s116:EI wG xe)(fu:Nat):Nat->(zml s116 fu).L 0:=Fx.lq (quz s116.f fu) (za6 s116.f fu) (fun r0=>[r0.s])
def z2r(s116:EI wG xe)(fu:Nat):=(zml s116 fu).fi (za5 s116.f fu) [(z2q s116 fu fu).s]
def z2s(s116:EI wG xe)(fu:Nat):Fx wG xe:=fx [(zpb fu).p,eg.p,dc.p,(z2r s116 fu).p]
def z2t(s116:EI wG xe)(fu:Nat):EI wG xe:=(z2s s116 fu).fi (qu0 s116.f fu)
def z2u:EI wG xe := .rc (qu1 fu) (fun r=>qu0 r fu) (fun _ _=>rfl) (fun _=>rfl) (fun s116=>z2t s116 fu) (fun _=>rfl) fu
def zmm:Fx wG ⟨.fn 111,[.ptr 0 0,.h wL,.h wB,wH],[(0,.dat (.prod wI (.prod wI wI)) 182)],_,RS.mk (.tup [.h wT,.h .bool]) [(0,.dat (.prod wI (.prod wI wI)) 182)]⟩:=fx [⟨qm5.e mf,qz4⟩,⟨qz5.e mf,zfw⟩,(q6x fu).p,(zmk fu).p,(z2u fu).p] [lb 16360 [(0,.ptr 0 0),(3,wH),(8,.ptr 32 0),(10,.ptr 33 0),(48,.own 34),(49,wH),(50,wH)] [(0,.dat (.prod wI (.prod wI wI)) 182),(32,.cells [wN,wN,wN] 110),(33,.cells [.own 35,wN,.own 36] 110),(34,.row wB 44),(35,.row wP 42),(36,.row wT 110)]]
def z2v:Nat->(zmm fu).L 0:=Fx.lq (quy fu) (za4 fu) (fun r0=>[r0.s])
def z2w:=(zmm fu).fi (za3 fu) [(z2v fu fu).s]
def zmn:EI wG ⟨.fn 114,[.h wT],[],_,RS.mk (.fn 161 [.ptr 0 0]) [(0,.dat wT 110)]⟩:=(fx).fi qkz
def z2x:EI wG ⟨.yld 0,[wH,.agg [.h wL,.h wB,.h (.list wT),wH]],[(0,.loop .ready none 112 36 [(2,.ptr 1 0),(3,.ptr 2 0)] [11,12] 1 3),(1,.dat (.prod wI wI) 36),(2,.cells [.h .bool] 4),(3,.dfr)],_,.two (RS.mk (.c (.bool false)) [(0,.loop .done (some .ret) 112 36 [(2,.ptr 1 0),(3,.ptr 2 0)] [11,12] 1 3),(1,.dat (.prod wI wI) 36),(2,.cells [.h .bool] 4),(3,.dfr)]) (RS.mk (.c (.bool true)) [(0,.loop .ready none 112 36 [(2,.ptr 1 0),(3,.ptr 2 0)] [11,12] 1 3),(1,.dat (.prod wI wI) 36),(2,.cells [.h .bool] 4),(3,.dfr)])⟩:=(fy 112 [dc.p] [] false [([0,1,0,1,1],1)] (fl rfl ez)).fo zam [] 0 [0,1,0,1,1]
def qdi:IF:=⟨.fn 162,[.h wT,wH,.ptr 0 0,.ptr 1 0,.ptr 2 0],[(0,.cells [.yld 3] 238),(1,.cells [wH] 3),(2,.cells [.fn 162 [.ptr 0 0,.ptr 1 0,.ptr 2 0]] 239),(3,.loop .ready none 112 36 [(2,.ptr 4 0),(3,.ptr 5 0)] [11,12] 1 6),(4,.dat (.prod wI wI) 36),(5,.cells [.h .bool] 4),(6,.dfr)],_,.two (RS.mk (.c (.bool false)) [(0,.cells [.yld 3] 238),(1,.cells [wH] 3),(2,.cells [.fn 162 [.ptr 0 0,.ptr 1 0,.ptr 2 0]] 239),(3,.loop .done (some .ret) 112 36 [(2,.ptr 4 0),(3,.ptr 5 0)] [11,12] 1 6),(4,.dat (.prod wI wI) 36),(5,.cells [.h .bool] 4),(6,.dfr)]) (RS.mk (.c (.bool true)) [(0,.cells [.yld 3] 238),(1,.cells [wH] 3),(2,.cells [.fn 162 [.ptr 0 0,.ptr 1 0,.ptr 2 0]] 239),(3,.loop .ready none 112 36 [(2,.ptr 4 0),(3,.ptr 5 0)] [11,12] 1 6),(4,.dat (.prod wI wI) 36),(5,.cells [.h .bool] 4),(6,.dfr)])⟩
def zmo(s121:EI wG qdi)(fu:Nat):Fx wG qdi:=fx [z2x.p,s121.p] [lb 488 [(1,wH),(4,.ptr 2 0),(20,.h (.list wT)),(21,wH),(22,wH)] [(0,.cells [.yld 3] 238),(1,.cells [wH] 3),(2,.cells [.fn 162 [.ptr 0 0,.ptr 1 0,.ptr 2 0]] 239),(3,.loop .ready none 112 36 [(2,.ptr 4 0),(3,.ptr 5 0)] [11,12] 1 6),(4,.dat (.prod wI wI) 36),(5,.cells [.h .bool] 4),(6,.dfr)]]
def z2z(s121:EI wG qdi)(fu:Nat):Nat->(zmo s121 fu).L 0:=Fx.lq (quq s121.f fu) (zau s121.f fu) (fun r0=>[r0.s])
def z2y(s121:EI wG qdi)(fu:Nat):EI wG qdi:=(zmo s121 fu).fi (qun s121.f fu) [(z2z s121 fu fu).s]
def z23:EI wG qdi := .rc (qup fu) (fun r=>qun r fu) (fun _ _=>rfl) (fun _=>rfl) (fun s121=>z2y s121 fu) (fun _=>rfl) fu
def z24:EI wG ⟨.fn 161,[.yld 0,.ptr 1 0],[(0,.loop .ready none 112 36 [(2,.ptr 2 0),(3,.ptr 3 0)] [11,12] 1 4),(1,.dat wT 110),(2,.dat (.prod wI wI) 36),(3,.cells [.h .bool] 4),(4,.dfr)],_,.two (RS.mk (.tup []) [(0,.loop .done (some .ret) 112 36 [(2,.ptr 2 0),(3,.ptr 3 0)] [11,12] 1 4),(1,.dat wT 110),(2,.dat (.prod wI wI) 36),(3,.cells [.h .bool] 4),(4,.dfr)]) (RS.mk (.tup []) [(0,.loop .ready none 112 36 [(2,.ptr 2 0),(3,.ptr 3 0)] [11,12] 1 4),(1,.dat wT 110),(2,.dat (.prod wI wI) 36),(3,.cells [.h .bool] 4),(4,.dfr)])⟩:=(fx [(z23 fu).p]).fi (zat fu)
def q4d:Fx wG ⟨.fn 203,[.h wT],[],_,RS.mk (wH) []⟩:=fx [(q6t fu).p,(om fu).p,(zpo fu).p,(zmi fu).p,eg.p] [lb 30 [(1,.ptr 32 0),(3,.ptr 33 0),(4,wH)] [(32,.dat wT 110),(33,.cells [wS,wS,.own 34] 292),(34,.row wP 296)],lb 29 [(1,.ptr 32 0),(3,.ptr 33 0),(4,wH),(31,.h .bool)] [(32,.dat wT 110),(33,.cells [wS,wS,.own 34] 292),(34,.row wP 296)]]
def z27:(q4d fu).L 0:=Fx.jm (za8 fu)
def z26:(q4d fu).L 1:=Fx.jm (yi fu) [(z27 fu).s]
def z29:=(q4d fu).fi (za7 fu) [(z26 fu).s]
def z3a:EI wG ⟨.fn 160,[.h (.prod wT wI)],[],_,RS.mk (wH) []⟩:=(fx [(znq fu).p,eg.p,(z29 fu).p,(zn0 fu).p,(q6x fu).p]).fi (zar fu)
def z3b:EI wG ⟨.yld 0,[wH,.agg [.h wL,.h wB,.h (.list wT),wH]],[(0,.loop .ready none 112 36 [(2,.ptr 1 0)] [26,27] 2 2),(1,.dat (.prod wI wI) 36),(2,.dfr)],_,.two (RS.mk (.c (.bool false)) [(0,.loop .done (some .ret) 112 36 [(2,.ptr 1 0)] [26,27] 2 2),(1,.dat (.prod wI wI) 36),(2,.dfr)]) (RS.mk (.c (.bool true)) [(0,.loop .ready none 112 36 [(2,.ptr 1 0)] [26,27] 2 2),(1,.dat (.prod wI wI) 36),(2,.dfr)])⟩:=(fy 112 [(z3a fu).p,dc.p] [] false [([0,1,0,1,1,1,1],2)] (fl rfl ez)).fo (zan fu) [] 0 [0,1,0,1,1,1,1]
def qdj:IF:=⟨.fn 162,[.h wT,wH,.ptr 0 0,.ptr 1 0,.ptr 2 0],[(0,.cells [.yld 3] 238),(1,.cells [wH] 3),(2,.cells [.fn 162 [.ptr 0 0,.ptr 1 0,.ptr 2 0]] 239),(3,.loop .ready none 112 36 [(2,.ptr 4 0)] [26,27] 2 5),(4,.dat (.prod wI wI) 36),(5,.dfr)],_,.two (RS.mk (.c (.bool false)) [(0,.cells [.yld 3] 238),(1,.cells [wH] 3),(2,.cells [.fn 162 [.ptr 0 0,.ptr 1 0,.ptr 2 0]] 239),(3,.loop .done (some .ret) 112 36 [(2,.ptr 4 0)] [26,27] 2 5),(4,.dat (.prod wI wI) 36),(5,.dfr)]) (RS.mk (.c (.bool true)) [(0,.cells [.yld 3] 238),(1,.cells [wH] 3),(2,.cells [.fn 162 [.ptr 0 0,.ptr 1 0,.ptr 2 0]] 239),(3,.loop .ready none 112 36 [(2,.ptr 4 0)] [26,27] 2 5),(4,.dat (.prod wI wI) 36),(5,.dfr)])⟩
def zmp(s124:EI wG qdj)(fu:Nat):Fx wG qdj:=fx [(z3b fu).p,s124.p] [lb 488 [(1,wH),(4,.ptr 2 0),(20,.h (.list wT)),(21,wH),(22,wH)] [(0,.cells [.yld 3] 238),(1,.cells [wH] 3),(2,.cells [.fn 162 [.ptr 0 0,.ptr 1 0,.ptr 2 0]] 239),(3,.loop .ready none 112 36 [(2,.ptr 4 0)] [26,27] 2 5),(4,.dat (.prod wI wI) 36),(5,.dfr)]]
def z3d(s124:EI wG qdj)(fu:Nat):Nat->(zmp s124 fu).L 0:=Fx.lq (qut s124.f fu) (zav s124.f fu) (fun r0=>[r0.s])
def z3c(s124:EI wG qdj)(fu:Nat):EI wG qdj:=(zmp s124 fu).fi (qur s124.f fu) [(z3d s124 fu fu).s]
def z3e:EI wG qdj := .rc (qus fu) (fun r=>qur r fu) (fun _ _=>rfl) (fun _=>rfl) (fun s124=>z3c s124 fu) (fun _=>rfl) fu
def z3k:EI wG ⟨.fn 161,[.yld 0,.ptr 1 0],[(0,.loop .ready none 112 36 [(2,.ptr 2 0)] [26,27] 2 3),(1,.dat wT 110),(2,.dat (.prod wI wI) 36),(3,.dfr)],_,.two (RS.mk (.tup []) [(0,.loop .done (some .ret) 112 36 [(2,.ptr 2 0)] [26,27] 2 3),(1,.dat wT 110),(2,.dat (.prod wI wI) 36),(3,.dfr)]) (RS.mk (.tup []) [(0,.loop .ready none 112 36 [(2,.ptr 2 0)] [26,27] 2 3),(1,.dat wT 110),(2,.dat (.prod wI wI) 36),(3,.dfr)])⟩:=(fx [(z3e fu).p]).fi (zax fu)
def z3l:EI wG ⟨.fn 112,[.h wT],[],_,RS.mk (.h (.prod wI wI)) []⟩:=(fx [zmn.p,(z24 fu).p,dc.p,(z3k fu).p,c8.p] [] false [([0,1,0,1,1],1),([0,1,0,1,1,1,1],2)] (fl rfl (fl rfl ez))).fi (zal fu)
def z3m:EI wG ⟨.fn 60,[.h (.prod wL wB)],[],_,RS.mk (.tup [.h wT,.h (.prod wI wI)]) []⟩:=(fx [(q5l fu).p,eg.p,(z2w fu).p,(z3l fu).p,dc.p,c8.p]).fi (zaj fu)
def z3n:EI wG ⟨.fn 61,[.h wT],[],_,RS.mk (.fn 113 [.ptr 0 0]) [(0,.dat wT 110)]⟩:=(fx).fi zag
def z3o:EI wG ⟨.fn 258,[wS,.h .byte],[],_,RS.mk (.agg [wS,.fn 299 [.ptr 0 0],.fn 301 []]) [(0,.cells [.h .byte] 5)]⟩:=(fx).fi qxg
def z3p:EI wG ⟨.fn 212,[wS],[],_,.two (RS.mk (.tup [.agg [wS,.fn 299 [.ptr 0 0],.fn 301 []],.h .bool]) [(0,.cells [.h .byte] 5)]) (.two (RS.mk (.tup [.agg [wS,.fn 259 [],.fn 260 []],.h .bool]) []) (.two (RS.mk (.tup [.agg [wS,.fn 261 [],.fn 262 []],.h .bool]) []) (RS.mk (.tup [.agg [wS,.c .nilFunc,.c .nilFunc],.h .bool]) [])))⟩:=(fx [z3o.p,(om fu).p]).fi (zcz fu)
def z3q:EI wG ⟨.fn 170,[.h wB,wS],[],_,.two (RS.mk (.tup [.agg [wS,.fn 299 [.ptr 0 0],.fn 301 []],.h (.prod wI wI)]) [(0,.cells [.h .byte] 5)]) (.two (RS.mk (.tup [.agg [wS,.fn 259 [],.fn 260 []],.h (.prod wI wI)]) []) (.two (RS.mk (.tup [.agg [wS,.fn 261 [],.fn 262 []],.h (.prod wI wI)]) []) (RS.mk (.tup [.agg [wS,.c .nilFunc,.c .nilFunc],.h (.prod wI wI)]) [])))⟩:=(fx [(z3p fu).p,dc.p,c8.p]).fi (zc0 fu)
def z3r:EI wG ⟨.fn 301,[.h wB],[],_,RS.mk (.tup [.own 0,.h (.prod wI wI)]) [(0,.row .byte 5)]⟩:=(fx [c8.p]).fi zcy
def zmq(fu:Nat):Fx wG ⟨.fn 260,[.h wB],[],_,RS.mk (.tup [.own 0,.h (.prod wI wI)]) [(0,.row .byte 5)]⟩:=fx [dc.p,c8.p,q5s.p] [lb 1000 [(3,.ptr 32 0),(4,.own 33),(5,wH),(6,wH),(14,.h wB),(15,wH),(16,wH)] [(32,.dat (.prod wI wI) 36),(33,.row .byte 5)]]
def z3s:Nat->(zmq fu).L 0:=Fx.lq (yc fu) (qj0 fu) (fun r0=>[r0.s])
def zmr:=(zmq fu).fi (qe2 fu) [(z3s fu fu).s]
def zms(fu:Nat):Fx wG ⟨.fn 333,[.h wB,.h .byte],[],_,RS.mk (.h wB) []⟩:=fx [] [lb 96 [(0,.h wB),(1,.h .byte)]]
def z3t:Nat->(zms fu).L 0:=Fx.lq (qsb fu) (q7y fu) (fun r0=>[r0.s])
def z3u:=(zms fu).fi (q7x fu) [(z3t fu fu).s]
def zmt(fu:Nat):Fx wG ⟨.fn 334,[wS],[],_,RS.mk (.tup [.arr .bool,.h .bool]) []⟩:=fx [] [lb 208 [(0,wS),(2,.el 32 1),(4,wH)] [(32,.row .bool 410)]]
def z3w:Nat->(zmt fu).L 0:=Fx.lq (qr7 fu) (q7q fu) (fun r0=>[r0.s])
def z3x:=(zmt fu).fi (q7p fu) [(z3w fu fu).s]
def z3y:EI wG ⟨.fn 357,[.el 0 1,.h .byte],[(0,.row .bool 410)],_,RS.mk (.h .bool) [(0,.row .bool 410)]⟩:=(fx).fi q7n
def zmu(fu:Nat):Fx wG ⟨.fn 335,[.h wB,.el 0 1],[(0,.row .bool 410)],_,RS.mk (.h wB) [(0,.row .bool 410)]⟩:=fx [z3y.p] [lb 96 [(0,.h wB),(1,.el 0 1)] [(0,.row .bool 410)]]
def z3z:Nat->(zmu fu).L 0:=Fx.lq (qsa fu) (q7w fu) (fun r0=>[r0.s])
def z30:=(zmu fu).fi (q7v fu) [(z3z fu fu).s]
def qai:Fx wG ⟨.fn 253,[.h wB],[],_,RS.mk (.tup [.h (.int .i32),wH]) []⟩:=fx [] [lb 524286 [(5,.h .byte),(10,.h .byte),(11,.h .byte),(12,.h .byte)],lb 524285 [(5,.h .byte),(10,.h .byte),(11,.h .byte),(12,.h .byte),(103,.h .bool)],lb 131068 [(0,.h wB),(5,.h .byte),(8,wH),(10,.h .byte),(11,.h .byte)],lb 65533 [(0,.h wB),(5,.h .byte),(8,wH),(10,.h .byte),(11,.h .byte),(79,.h .bool)],lb 16380 [(0,.h wB),(5,.h .byte),(8,wH),(10,.h .byte)],lb 8189 [(0,.h wB),(5,.h .byte),(8,wH),(10,.h .byte),(60,.h .bool)]]
def z38:qai.L 0:=Fx.jm zdc
def z36:qai.L 1:=Fx.jm qxw [(z38).s]
def z35:qai.L 2:=Fx.jm zdb [(z36).s]
def z34:qai.L 3:=Fx.jm qxv [(z35).s]
def z33:qai.L 4:=Fx.jm zda [(z34).s]
def z32:qai.L 5:=Fx.jm qxu [(z33).s]
def z4a:=qai.fi qxt [(z32).s]
def zmv(fu:Nat):Fx wG ⟨.fn 205,[.h wB],[],_,RS.mk (.tup [.h (.int .i32),wH]) []⟩:=fx [z4a.p] [lb 104 [(0,.h wB),(6,.h wB),(7,wH),(8,.c (.int .i64 0))]]
def z4b:Nat->(zmv fu).L 0:=Fx.lq (qxo fu) (zc6 fu) (fun r0=>[])
def zmw:=(zmv fu).fi (qxn fu) [(z4b fu fu).s]
def qps:Fx wG ⟨.fn 358,[.h wB],[],_,RS.mk (.tup [.h (.int .i32),wH]) []⟩:=fx [zoy.p,(zmw fu).p] [lb 2046 [(0,.h wB),(4,wH),(5,wH)],lb 2044 [(0,.h wB),(4,wH),(5,wH)],lb 16336 [(0,.h wB),(4,wH),(5,wH),(6,wH)]]
def z4e:(qps fu).L 0:=Fx.jm (qxm fu)
def z4d:(qps fu).L 1:=Fx.jm (qxl fu) [(z4e fu).s]
def z4c:Nat->(qps fu).L 2:=Fx.lq (qxk fu) (zc5 fu) (fun r0=>[(z4d fu).s,r0.s])
def z4f:=(qps fu).fi (zc2 fu) [(z4c fu fu).s]
def zmx(fu:Nat):Fx wG ⟨.fn 359,[wS,.h (.int .i32)],[],_,RS.mk (.h .bool) []⟩:=fx [] [lb 104 [(1,.h (.int .i32)),(8,.ptr 32 0)] [(32,.it)]]
def z4g:Nat->(zmx fu).L 0:=Fx.lq (qr6 fu) (q7o fu) (fun r0=>[r0.s])
def z4h:=(zmx fu).fi (qr5 fu) [(z4g fu fu).s]
def zmy:Fx wG ⟨.fn 336,[.h wB,wS],[],_,RS.mk (.h wB) []⟩:=fx [(z4f fu).p,(z4h fu).p] [lb 96 [(0,.h wB),(1,wS)]]
def z4i:Nat->(zmy fu).L 0:=Fx.lq (qsc fu) (q70 fu) (fun r0=>[r0.s])
def z4j:=(zmy fu).fi (q7z fu) [(z4i fu fu).s]
def qi1:Fx wG ⟨.fn 305,[.h wB,wS],[],_,RS.mk (.h wB) []⟩:=fx [(z3u fu).p,(z3x fu).p,(z30 fu).p,(z4j fu).p] [lb 60 [(0,.h wB),(1,wS)],lb 29 [(0,.h wB),(1,wS),(22,.h .bool)],lb 28 [(0,.h wB),(1,wS)],lb 13 [(0,.h wB),(1,wS),(13,.h .bool)]]
def z4n:(qi1 fu).L 0:=Fx.jm (q7m fu)
def z4m:(qi1 fu).L 1:=Fx.jm (qr4 fu) [(z4n fu).s]
def z4l:(qi1 fu).L 2:=Fx.jm (q7l fu) [(z4m fu).s]
def z4k:(qi1 fu).L 3:=Fx.jm (qr3 fu) [(z4l fu).s]
def z4o:=(qi1 fu).fi (q7k fu) [(z4k fu).s]
def zmz(fu:Nat):Fx wG ⟨.fn 306,[.h wB],[],_,RS.mk (.own 0) [(0,.row .byte 5)]⟩:=fx [q6o.p] [lb 464 [(0,.h wB),(3,.own 32),(4,wH)] [(32,.row .byte 5)]]
def z4p:Nat->(zmz fu).L 0:=Fx.lq (qu6 fu) (zbc fu) (fun r0=>[r0.s])
def z4q:=(zmz fu).fi (zbb fu) [(z4p fu fu).s]
def xf:Fx wG ⟨.fn 262,[.h wB],[],_,RS.mk (.tup [.own 0,.h (.prod wI wI)]) [(0,.row .byte 5)]⟩:=fx [dc.p,q5s.p,c8.p,zop.p,(z4o fu).p,zoi.p,(z4q fu).p] [lb 123646 [(0,.h wB),(3,.ptr 32 0),(4,.own 33),(5,wH),(6,.h wB),(7,.h wB)] [(32,.dat (.prod wI wI) 36),(33,.row .byte 5)],lb 15454 [(0,.h wB),(3,.ptr 32 0),(4,.own 33),(5,wH),(6,.h wB)] [(32,.dat (.prod wI wI) 36),(33,.row .byte 5)],lb 3862 [(0,.h wB),(3,.ptr 32 0),(4,.own 33),(5,wH)] [(32,.dat (.prod wI wI) 36),(33,.row .byte 5)],lb 480 [(0,.h wB),(3,.ptr 32 0),(4,.own 33)] [(32,.dat (.prod wI wI) 36),(33,.row .byte 5)]]
def z4v(r0:(xf fu).L 3):(xf fu).L 0:=Fx.jm (qu5 fu r0.f) [r0.s]
def z4u(r0:(xf fu).L 3):(xf fu).L 1:=Fx.jm (qu4 fu r0.f) [(z4v fu r0).s]
def z4t(r0:(xf fu).L 3):(xf fu).L 2:=Fx.jm (qu3 fu r0.f) [(z4u fu r0).s]
def z4s:Nat->(xf fu).L 3:=Fx.lq (qu2 fu) (zba fu) (fun r0=>[(z4t fu r0).s])
def z4w:=(xf fu).fi (za9 fu) [(z4s fu fu).s]
def z4x:EI wG ⟨.fn 119,[.h wB,wS],[],_,RS.mk (.tup [.own 0,.h (.prod wI wI)]) [(0,.row .byte 5)]⟩:=(fx [(z3q fu).p,eg.p,z3r.p,(zmr fu).p,(z4w fu).p]).fi (qxf fu)
def zm0:Fx wG ⟨.fn 65,[.h wT],[],_,RS.mk (.own 0) [(0,.row .byte 5)]⟩:=fx [(om fu).p,(z4x fu).p] [lb 104 [(1,.ptr 32 0),(10,.h wL),(11,wH),(12,wH)] [(32,.dat wT 110)]]
def z4y:Nat->(zm0 fu).L 0:=Fx.lq (qxx fu) (zde fu) (fun r0=>[r0.s])
def z4z:=(zm0 fu).fi (zdd fu) [(z4y fu fu).s]
def z40:EI wG ⟨.fn 163,[.h wB,.h wB,wH],[],_,RS.mk (.fn 204 [.ptr 0 0,.ptr 1 0,.ptr 2 0]) [(0,.cells [.h wB] 44),(1,.cells [.h wB] 44),(2,.cells [wH] 3)]⟩:=(fx).fi q7r
def z41:EI wG ⟨.fn 117,[.h wB,.h wB],[],_,RS.mk (.fn 204 [.ptr 0 0,.ptr 1 0,.ptr 2 0]) [(0,.cells [.h wB] 44),(1,.cells [.h wB] 44),(2,.cells [wH] 3)]⟩:=(fx [z40.p]).fi q7j
def z42:EI wG ⟨.fn 180,[wS,wS],[],_,RS.mk (wS) []⟩:=(fx [q6l.p]).fi q89
def zm1:EI wG ⟨.fn 131,[wS,wS],[],_,RS.mk (wS) []⟩:=(fx [z42.p]).fi qwl
def zm2(fu:Nat):Fx wG ⟨.fn 116,[wS],[],_,RS.mk (wS) []⟩:=fx [qdn.p,zm1.p] [lb 232 [(0,wS),(3,.own 32),(8,wH),(9,wH)] [(32,.row .byte 5)]]
def z43:Nat->(zm2 fu).L 0:=Fx.lq (qsj fu) (q76 fu) (fun r0=>[r0.s])
def zm3:=(zm2 fu).fi (qsi fu) [(z43 fu fu).s]
def z44:EI wG ⟨.yld 0,[.h wB],[(0,.loop .ready none 64 27 [(3,.ptr 1 0),(4,.ptr 2 0)] [11] 5 3),(1,.cells [.own 4] 44),(2,.cells [wH] 3),(3,.dfr),(4,.row .byte 5)],_,RS.mk (.c (.bool true)) [(0,.loop .ready none 64 27 [(3,.ptr 1 0),(4,.ptr 2 0)] [11] 5 3),(1,.cells [.own 5] 44),(2,.cells [wH] 3),(3,.dfr),(4,.dead),(5,.row .byte 5)]⟩:=(fy 64 [(zm3 fu).p,⟨zj0.e qf5,zzc⟩] [] false [([0,1,0,1,1,1],5)] (fl rfl ez)).fo (qka fu) [] 0 [0,1,0,1,1,1]
def q4l:Fx wG ⟨.fn 204,[.yld 0,.ptr 1 0,.ptr 2 0,.ptr 3 0],[(0,.loop .ready none 64 27 [(3,.ptr 4 0),(4,.ptr 5 0)] [11] 5 6),(1,.cells [.h wB] 44),(2,.cells [.h wB] 44),(3,.cells [wH] 3),(4,.cells [.own 7] 44),(5,.cells [wH] 3),(6,.dfr),(7,.row .byte 5)],_,RS.mk (.tup []) [(0,.loop .ready none 64 27 [(3,.ptr 4 0),(4,.ptr 5 0)] [11] 5 6),(1,.cells [.h wB] 44),(2,.cells [.h wB] 44),(3,.cells [wH] 3),(4,.cells [.own 8] 44),(5,.cells [wH] 3),(6,.dfr),(7,.dead),(8,.row .byte 5)]⟩:=fx [(zmw fu).p,(z44 fu).p,⟨qzt.e yd,zfc oE⟩] [lb 320 [(0,.yld 0),(2,.ptr 2 0)] [(0,.loop .ready none 64 27 [(3,.ptr 4 0),(4,.ptr 5 0)] [11] 5 6),(1,.cells [.h wB] 44),(2,.cells [.h wB] 44),(3,.cells [wH] 3),(4,.cells [.own 32] 44),(5,.cells [wH] 3),(6,.dfr),(7,.dead),(32,.row .byte 5)],lb 96 [(0,.yld 0),(1,.ptr 1 0),(2,.ptr 2 0),(3,.ptr 3 0)] [(0,.loop .ready none 64 27 [(3,.ptr 4 0),(4,.ptr 5 0)] [11] 5 6),(1,.cells [.h wB] 44),(2,.cells [.h wB] 44),(3,.cells [wH] 3),(4,.cells [.own 32] 44),(5,.cells [wH] 3),(6,.dfr),(7,.dead),(32,.row .byte 5)]]
def z47:Nat->(q4l fu).L 0:=Fx.lq (qr8 fu) (q7t fu) (fun r0=>[r0.s])
def z48:Nat->(q4l fu).L 1:=Fx.lq (qr9 fu) (q7u fu) (fun r1=>[r1.s])
def z49:=(q4l fu).fi (q7s fu) [(z47 fu fu).s,(z48 fu fu).s]
def z5a:EI wG ⟨.fn 64,[.h wB],[],_,RS.mk (.own 0) [(0,.row .byte 5)]⟩:=(fx [z41.p,(z49 fu).p] [] false [([0,1,0,1,1,1],5)] (fl rfl ez)).fi (q74 fu)
def z5b:EI wG ⟨.fn 63,[.h wP],[],_,RS.mk (wS) []⟩:=(fx [(zpe fu).p,(zm3 fu).p]).fi (q75 fu)
def qaj:Fx wG ⟨.yld 0,[wH,.agg [.h wL,.h wB,.h (.list wT)]],[(0,.loop .ready none 28 79 [(6,.ptr 1 0)] [24,25] 3 2),(1,.cells [.own 3] 44),(2,.dfr),(3,.row .byte 5)],_,RS.mk (.c (.bool true)) [(0,.loop .ready none 28 79 [(6,.ptr 1 0)] [24,25] 3 2),(1,.cells [.own 4] 44),(2,.dfr),(3,.dead),(4,.row .byte 5)]⟩:=fy 28 [(om fu).p,(z4z fu).p,(z5a fu).p,(z5b fu).p,⟨q1f.e sk,zhq q2l q2m⟩] [lb 256679 [(6,.ptr 1 0),(8,.ptr 32 0),(9,.own 33),(10,wN),(27,.h wL),(28,wH),(29,wH)] [(0,.loop .busy none 28 79 [(6,.ptr 1 0)] [24,25] 3 2),(1,.cells [.own 34] 44),(2,.dfr),(3,.dead),(32,.dat wT 110),(33,.row .byte 5),(34,.row .byte 5)],lb 2053427 [(6,.ptr 1 0),(8,.ptr 32 0),(9,.own 35),(10,wN),(12,.ptr 33 0),(27,.h wL),(28,wH),(29,wH),(42,.h .bool)] [(0,.loop .busy none 28 79 [(6,.ptr 1 0)] [24,25] 3 2),(1,.cells [.own 34] 44),(2,.dfr),(3,.dead),(32,.dat wT 110),(33,.dat wP 42),(34,.row .byte 5),(35,.row .byte 5)],lb 16046 [(6,.ptr 1 0),(8,.ptr 32 0),(9,.own 35),(10,.own 33)] [(0,.loop .busy none 28 79 [(6,.ptr 1 0)] [24,25] 3 2),(1,.cells [.own 34] 44),(2,.dfr),(3,.dead),(32,.dat wT 110),(33,.row .byte 5),(34,.row .byte 5),(35,.row .byte 5)],lb 64168 [(6,.ptr 1 0),(8,.ptr 32 0),(9,.own 34),(10,wN),(27,.h wL),(28,wH),(29,wH)] [(0,.loop .busy none 28 79 [(6,.ptr 1 0)] [24,25] 3 2),(1,.cells [.own 33] 44),(2,.dfr),(3,.dead),(32,.dat wT 110),(33,.row .byte 5),(34,.row .byte 5)]] false [([0,1,0,1,1,1,1],3)] (fl rfl ez)
def z5f(r0:(qaj fu).L 3):(qaj fu).L 0:=Fx.jm (qsh fu r0.f) [r0.s]
def z5d(r0:(qaj fu).L 3):(qaj fu).L 1:=Fx.jm (qsf fu r0.f) [(z5f fu r0).s]
def z5e:(qaj fu).L 2:=Fx.jm (qsg fu)
def z5c:Nat->(qaj fu).L 3:=Fx.lq (qse fu) (q72 fu) (fun r0=>[(z5d fu r0).s,(z5e fu).s])
def z5g:=(qaj fu).fo (q71 fu) [(z5c fu fu).s] 0 [0,1,0,1,1,1,1]
def z5h:EI wG ⟨.yld 0,[wH,.agg [.h wL,.h wB,.h (.list wT),wH]],[(0,.loop .ready none 113 15 [(2,.ptr 1 0)] [7,8] 4 2),(1,.cells [.yld 3] 186),(2,.dfr),(3,.loop .ready none 28 79 [(6,.ptr 4 0)] [24,25] 3 5),(4,.cells [.own 6] 44),(5,.dfr),(6,.row .byte 5)],_,RS.mk (.c (.bool true)) [(0,.loop .ready none 113 15 [(2,.ptr 1 0)] [7,8] 4 2),(1,.cells [.yld 3] 186),(2,.dfr),(3,.loop .ready none 28 79 [(6,.ptr 4 0)] [24,25] 3 5),(4,.cells [.own 7] 44),(5,.dfr),(6,.dead),(7,.row .byte 5)]⟩:=(fy 113 [(z5g fu).p] [] false [([0,1,1],4)] (fl rfl ez)).fo (zai fu) [] 0 [0,1,1]
def qdp:IF:=⟨.fn 162,[.h wT,wH,.ptr 0 0,.ptr 1 0,.ptr 2 0],[(0,.cells [.yld 3] 238),(1,.cells [wH] 3),(2,.cells [.fn 162 [.ptr 0 0,.ptr 1 0,.ptr 2 0]] 239),(3,.loop .ready none 113 15 [(2,.ptr 4 0)] [7,8] 4 5),(4,.cells [.yld 6] 186),(5,.dfr),(6,.loop .ready none 28 79 [(6,.ptr 7 0)] [24,25] 3 8),(7,.cells [.own 9] 44),(8,.dfr),(9,.row .byte 5)],_,RS.mk (.c (.bool true)) [(0,.cells [.yld 3] 238),(1,.cells [wH] 3),(2,.cells [.fn 162 [.ptr 0 0,.ptr 1 0,.ptr 2 0]] 239),(3,.loop .ready none 113 15 [(2,.ptr 4 0)] [7,8] 4 5),(4,.cells [.yld 6] 186),(5,.dfr),(6,.loop .ready none 28 79 [(6,.ptr 7 0)] [24,25] 3 8),(7,.cells [.own 10] 44),(8,.dfr),(9,.dead),(10,.row .byte 5)]⟩
def zm4(s131:EI wG qdp)(fu:Nat):Fx wG qdp:=fx [(z5h fu).p,s131.p] [lb 488 [(1,wH),(4,.ptr 2 0),(20,.h (.list wT)),(21,wH),(22,wH)] [(0,.cells [.yld 3] 238),(1,.cells [wH] 3),(2,.cells [.fn 162 [.ptr 0 0,.ptr 1 0,.ptr 2 0]] 239),(3,.loop .ready none 113 15 [(2,.ptr 4 0)] [7,8] 4 5),(4,.cells [.yld 6] 186),(5,.dfr),(6,.loop .ready none 28 79 [(6,.ptr 7 0)] [24,25] 3 8),(7,.cells [.own 32] 44),(8,.dfr),(9,.dead),(32,.row .byte 5)]]
def z5j(s131:EI wG qdp)(fu:Nat):Nat->(zm4 s131 fu).L 0:=Fx.lq (quw s131.f fu) (zaw s131.f fu) (fun r0=>[r0.s])
def z5i(s131:EI wG qdp)(fu:Nat):EI wG qdp:=(zm4 s131 fu).fi (quu s131.f fu) [(z5j s131 fu fu).s]
def z5k:EI wG qdp := .rc (quv fu) (fun r=>quu r fu) (fun _ _=>rfl) (fun _=>rfl) (fun s131=>z5i s131 fu) (fun _=>rfl) fu
def z5l:EI wG ⟨.fn 161,[.yld 0,.ptr 1 0],[(0,.loop .ready none 113 15 [(2,.ptr 2 0)] [7,8] 4 3),(1,.dat wT 110),(2,.cells [.yld 4] 186),(3,.dfr),(4,.loop .ready none 28 79 [(6,.ptr 5 0)] [24,25] 3 6),(5,.cells [.own 7] 44),(6,.dfr),(7,.row .byte 5)],_,RS.mk (.tup []) [(0,.loop .ready none 113 15 [(2,.ptr 2 0)] [7,8] 4 3),(1,.dat wT 110),(2,.cells [.yld 4] 186),(3,.dfr),(4,.loop .ready none 28 79 [(6,.ptr 5 0)] [24,25] 3 6),(5,.cells [.own 8] 44),(6,.dfr),(7,.dead),(8,.row .byte 5)]⟩:=(fx [(z5k fu).p]).fi (zay fu)
def z5m:EI wG ⟨.fn 113,[.yld 0,.ptr 1 0],[(0,.loop .ready none 28 79 [(6,.ptr 2 0)] [24,25] 3 3),(1,.dat wT 110),(2,.cells [.own 4] 44),(3,.dfr),(4,.row .byte 5)],_,RS.mk (.tup []) [(0,.loop .ready none 28 79 [(6,.ptr 2 0)] [24,25] 3 3),(1,.dat wT 110),(2,.cells [.own 5] 44),(3,.dfr),(4,.dead),(5,.row .byte 5)]⟩:=(fx [zmn.p,(z5l fu).p] [] false [([0,1,1],4)] (fl rfl ez)).fi (zah fu)
def z5n:EI wG ⟨.fn 28,[.h (.prod wL wB)],[],_,RS.mk (.tup [.own 0,.h (.prod wI wI)]) [(0,.row .byte 5)]⟩:=(fx [(z3m fu).p,eg.p,z3n.p,(z5m fu).p,c8.p] [] false [([0,1,0,1,1,1,1],3)] (fl rfl ez)).fi (qsd fu)
def z5o:EI wG ⟨.fn 9,[.h (.prod wL wB),.h (.prod wL wB)],[],_,RS.mk (.tup [.h .bool,.h (.prod wI wI)]) []⟩:=(fx [(z5n fu).p,eg.p,dc.p,zod.p,c8.p]).fi (q73 fu)
def z5p:EI wG ⟨.fn 4,[],[],_,RS.mk (.h .bool) []⟩:=(fx [(vaz fu).p,(vek fu).p,(z5o fu).p]).fi (qqs fu)
def z5r:EI wG ⟨.fn 31,[.h .byte],[],_,RS.mk (.h .bool) []⟩:=(fx).fi qbg
def zm5(fu:Nat):Fx wG ⟨.fn 30,[wS,.fn 31 []],[],_,RS.mk (.h .bool) []⟩:=fx [z5r.p] [lb 104 [(0,wS),(1,.fn 31 []),(7,wH),(8,wH)]]
def z5s:Nat->(zm5 fu).L 0:=Fx.lq (qj1 fu) (q7d fu) (fun r0=>[r0.s])
def z5t:=(zm5 fu).fi (qro fu) [(z5s fu fu).s]
def qdq:EI wG ⟨.fn 122,[wS,wS],[],_,RS.mk (wH) []⟩:=(fx [⟨q29.e qn,zkz oE⟩]).fi jr
def zm6:EI wG ⟨.fn 68,[wS,wS],[],_,RS.mk (.h .bool) []⟩:=(fx [qdq.p]).fi qlg
def z5u:EI wG ⟨.fn 32,[wS],[],_,RS.mk (wH) []⟩:=(fx [⟨qda.e im,qiv mv ml mu mj⟩,zm6.p]).fi yh
def qak:EI wG ⟨.thr 127 [],[.ptr 0 0],[(0,.dat (.prod .str wI) 207)],_,RS.mk (.tup [.u,.ifc 204 (.agg [wH])]) [(0,.dead)]⟩:=(fx).ft lg
def qpv(fu:Nat):Fx wG ⟨.thr 269 [],[.ptr 0 0],[(0,.dat (.prod .str wI) 207)],_,.two (RS.mk (.tup [.u,.ifc 204 (.agg [wH])]) [(0,.dead)]) (RS.mk (.tup []) [(0,.dat (.prod .str wI) 207)])⟩:=fx [qak.p] [lb 194 [(0,.ptr 0 0),(2,wH)] [(0,.dat (.prod .str wI) 207)],lb 192 [(0,.ptr 0 0),(2,wH)] [(0,.dat (.prod .str wI) 207)]]
def z5w(r0:(qpv fu).L 1):(qpv fu).L 0:=Fx.jm (qq5 fu r0.f) [r0.s]
def z5v:Nat->(qpv fu).L 1:=Fx.lq (xy fu) (qq4 fu) (fun r0=>[(z5w fu r0).s])
def z5x:=(qpv fu).ft (q64 fu) [(z5v fu fu).s]
def zm7:Fx wG ⟨.thr 221 [],[.ptr 0 0],[(0,.dat (.prod .str wI) 207)],_,.two (RS.mk (.tup [.u,.ifc 204 (.agg [wH])]) [(0,.dead)]) (RS.mk (.tup []) [(0,.dat (.prod .str wI) 207)])⟩:=fx [qdn.p,(z5x fu).p] [lb 16 [(0,.ptr 0 0)] [(0,.dat (.prod .str wI) 207)]]
def z5y:Nat->(zm7 fu).L 0:=Fx.lq (qa5 fu) (qrf fu) (fun r0=>[r0.s])
def z5z:=(zm7 fu).ft (qre fu) [(z5y fu fu).s]
def qdr(fu:Nat):Fx wG ⟨.thr 222 [],[.ptr 0 0],[(0,.dat (.prod .str wI) 207)],_,.two (RS.mk (.tup [.u,.ifc 204 (.agg [wH])]) [(0,.dead)]) (RS.mk (wS) [(0,.dat (.prod .str wI) 207)])⟩:=fx [qak.p] [lb 123357 [(0,.ptr 0 0),(3,.own 32)] [(0,.dat (.prod .str wI) 207),(32,.row .byte 5)],lb 962 [(0,.ptr 0 0),(3,.own 32)] [(0,.dat (.prod .str wI) 207),(32,.row .byte 5)],lb 960 [(0,.ptr 0 0),(3,.own 32)] [(0,.dat (.prod .str wI) 207),(32,.row .byte 5)]]
def z56(r0:(qdr fu).L 2):(qdr fu).L 0:=Fx.jm (qrd fu r0.f) [r0.s]
def z54(r0:(qdr fu).L 2):(qdr fu).L 1:=Fx.jm (qrc fu r0.f) [(z56 fu r0).s,r0.s]
def z52:Nat->(qdr fu).L 2:=Fx.lq (qa4 fu) (qrb fu) (fun r0=>[(z54 fu r0).s])
def z57:=(qdr fu).ft (qra fu) [(z52 fu fu).s]
def qpw:EI wG ⟨.fn 74,[.h .byte],[],_,RS.mk (.h .bool) []⟩:=(fx).fi qe5
def zm8:EI wG ⟨.fn 183,[.h .byte],[],_,RS.mk (.h .bool) []⟩:=(fx [qpw.p,x7s.p]).fi xx
def qds:Fx wG ⟨.thr 173 [],[.ptr 0 0],[(0,.dat (.prod .str wI) 207)],_,.two (RS.mk (.tup [.u,.ifc 204 (.agg [wH])]) [(0,.dead)]) (.two (RS.mk (.c .nilIface) [(0,.dat (.prod .str wI) 207)]) (.two (RS.mk (.ifc 316 (.agg [wS,.h .bool])) [(0,.dat (.prod .str wI) 207)]) (RS.mk (.ifc 211 (.h .byte)) [(0,.dat (.prod .str wI) 207)])))⟩:=fx [(z5z fu).p,(z57 fu).p,x7s.p,zm8.p,qak.p] [lb 8162 [(0,.ptr 0 0),(4,wH)] [(0,.dat (.prod .str wI) 207)],lb 8161 [(0,.ptr 0 0),(4,wH),(81,.h .bool)] [(0,.dat (.prod .str wI) 207)],lb 8160 [(0,.ptr 0 0),(4,wH)] [(0,.dat (.prod .str wI) 207)]]
def z6d(r0:(qds fu).L 2):(qds fu).L 0:=Fx.jm (qq9 fu r0.f) [r0.s]
def z6c(r0:(qds fu).L 2):(qds fu).L 1:=Fx.jm (qa3 fu r0.f) [(z6d fu r0).s]
def z6b:Nat->(qds fu).L 2:=Fx.lq (qa2 fu) (qq8 fu) (fun r0=>[(z6c fu r0).s])
def qpx:=(qds fu).ft (x6 fu) [(z6b fu fu).s]
def q4o:EI wG ⟨.thr 124 [],[.ptr 0 0],[(0,.dat (.prod .str wI) 207)],_,.two (RS.mk (.tup [.u,.ifc 204 (.agg [wH])]) [(0,.dead)]) (.two (RS.mk (.c .nilIface) [(0,.dat (.prod .str wI) 207)]) (.two (RS.mk (.ifc 316 (.agg [wS,.h .bool])) [(0,.dat (.prod .str wI) 207)]) (RS.mk (.ifc 211 (.h .byte)) [(0,.dat (.prod .str wI) 207)])))⟩:=(fx [(qpx fu).p]).ft (sc fu)
def zm9:Fx wG ⟨.thr 174 [],[.ptr 0 0],[(0,.dat (.prod .str wI) 207)],_,.two (RS.mk (.tup [.u,.ifc 204 (.agg [wH])]) [(0,.dead)]) (RS.mk (.own 1) [(0,.dat (.prod .str wI) 207),(1,.row (.prod .str .bool) 316)])⟩:=fx [(q4o fu).p,(qpx fu).p] [lb 112 [(0,.ptr 0 0),(3,.own 32)] [(0,.dat (.prod .str wI) 207),(32,.row (.prod .str .bool) 316)]]
def z6e:Nat->(zm9 fu).L 0:=Fx.lq (qez fu) (qrh fu) (fun r0=>[r0.s])
def zna:=(zm9 fu).ft (qey fu) [(z6e fu fu).s]
def qpy:EI wG ⟨.thr 126 [],[.ptr 0 0,.h .byte],[(0,.dat (.prod .str wI) 207)],_,.two (RS.mk (.tup [.u,.ifc 204 (.agg [wH])]) [(0,.dead)]) (RS.mk (.h .bool) [(0,.dat (.prod .str wI) 207)])⟩:=(fx [(q4o fu).p,(qpx fu).p]).ft (rz fu)
def z6f:EI wG ⟨.fn 309,[.h .byte],[],_,RS.mk (.h .bool) []⟩:=(fx).fi qax
def znb(fu:Nat):Fx wG ⟨.fn 30,[wS,.fn 309 []],[],_,RS.mk (.h .bool) []⟩:=fx [z6f.p] [lb 104 [(0,wS),(1,.fn 309 []),(7,wH),(8,wH)]]
def z6g:Nat->(znb fu).L 0:=Fx.lq (qj2 fu) (q7e fu) (fun r0=>[r0.s])
def z6h:=(znb fu).fi (qrp fu) [(z6g fu fu).s]
def znc:EI wG ⟨.fn 270,[wS],[],_,RS.mk (.h .bool) []⟩:=(fx [(z6h fu).p]).fi (qes fu)
def z6i:EI wG ⟨.fn 235,[wS,wS,wH],[],_,RS.mk (.fn 280 [.ptr 0 0,.ptr 1 0,.ptr 2 0]) [(0,.cells [wS] 9),(1,.cells [wS] 9),(2,.cells [wH] 3)]⟩:=(fx).fi qln
def q4q:EI wG ⟨.fn 182,[wS,wS],[],_,RS.mk (.fn 280 [.ptr 0 0,.ptr 1 0,.ptr 2 0]) [(0,.cells [wS] 9),(1,.cells [wS] 9),(2,.cells [wH] 3)]⟩:=(fx [z6i.p]).fi qbr
def znd(fu:Nat):Fx wG ⟨.fn 30,[wS,.fn 183 []],[],_,RS.mk (.h .bool) []⟩:=fx [zm8.p] [lb 104 [(0,wS),(1,.fn 183 []),(7,wH),(8,wH)]]
def z6j:Nat->(znd fu).L 0:=Fx.lq (qj4 fu) (q7f fu) (fun r0=>[r0.s])
def zne:=(znd fu).fi (qj3 fu) [(z6j fu fu).s]
def z6k:EI wG ⟨.yld 0,[wS],[(0,.loop .ready none 274 17 [(3,.ptr 1 0),(4,.ptr 2 0)] [8] 6 3),(1,.cells [.fn 183 []] 76),(2,.cells [.h .bool] 4),(3,.dfr)],_,.two (RS.mk (.c (.bool false)) [(0,.loop .done (some .ret) 274 17 [(3,.ptr 1 0),(4,.ptr 2 0)] [8] 6 3),(1,.cells [.fn 183 []] 76),(2,.cells [.h .bool] 4),(3,.dfr)]) (RS.mk (.c (.bool true)) [(0,.loop .ready none 274 17 [(3,.ptr 1 0),(4,.ptr 2 0)] [8] 6 3),(1,.cells [.fn 183 []] 76),(2,.cells [.h .bool] 4),(3,.dfr)])⟩:=(fy 274 [(zne fu).p] [] false [([0,1,0,1],6)] (fl rfl ez)).fo (qay fu) [] 0 [0,1,0,1]
end
end
end Go.Sym
