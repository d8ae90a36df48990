/- What the claim rests on, part 5: gathered texts. -/
import Derived.Shelf.LaysC
import Derived.Shelf.LaysM
import Derived.Shelf.SlGeneric
import Derived.Shelf.SlLaysF0
import Derived.Ground.NamesProg
import Derived.Test.YtdnaaelkpgijeaaGreatDoorProg
import Derived.Below
import Derived.Tactics
import Derived.Tactics2
import Derived.Laws.AppendOwn
import Derived.Shelf.Strconv.Itoa4
import Derived.Shelf.Bytes.SlIndexWhole
import Derived.Shelf.Strconv.AtoiAll
import Derived.Shelf.Strconv.ErrVarAll
import Derived.Shelf.SlicesE.Clone
import Derived.Shelf.SlSortCmp.NoneTotal
import Derived.Shelf.Strings.BuilderCap
import Derived.Shelf.Unicode.DecodeAny
import Derived.Laws.DeepStrings4
import Derived.Deep.LoopGhost
import Derived.Deep.DeepCutAuto
import Derived.Deep.DeepFit
import Derived.Deep.DeepMust
import Derived.Shelf.Unicode.ValidAny
import Derived.Shelf.Strings.Count
import Derived.Deep.OwnRows
import Derived.Laws.CopyRow
import Derived.Laws.IdiomStrings
import Derived.Laws.CopyOwn
import Derived.Lib.SlBytesConst
import Derived.Test.YtdnaaelkpgijeaaGreatDoorRows
import Derived.Defers
import Derived.Laws.Pointers
import Derived.Laws.LoneSync
import Derived.RegionTactic
import Derived.RegionCalls
import Derived.ChangeAlike
import Derived.Laws.NewBlocks
import Derived.Laws.ByValue
import Derived.Shelf.Strings.Repeat
import Derived.Shelf.Strings.Replace
import Derived.Shelf.Strings.BuilderK
import Derived.Shelf.Strings.OnBuilder
import Derived.Shelf.Strings.Search2
import Derived.Recover
import Derived.Test.YtdnaaelkpgijeaaGreatDoorSyQ4
set_option maxRecDepth 100000
set_option linter.defProp false
set_option linter.unusedSimpArgs false
set_option linter.unusedVariables false
namespace Go.Proofs
open Go.Sym(oC oE)
open Go.Shelf
def Tryz.lfn{α:Type}{a:Option α}{b c:α}(h:a=some b)(e:b=c:=by kernel_rfl):a=some c:=h.trans (congrArg some e)
def Tryz.uniR:Go.Shelf.Ren:=⟨fun|99=>128|105=>119|115=>38|129=>252|138=>263|143=>138|154=>222|155=>176|156=>16|165=>41|166=>42|167=>156|169=>43|170=>167|171=>74|172=>327|185=>204|187=>95|195=>295|196=>81|197=>137|205=>354|206=>172|212=>166|217=>139|218=>296|219=>180|224=>224|225=>223|240=>78|241=>79|243=>121|244=>333|245=>334|246=>169|247=>338|253=>246|254=>247|255=>145|259=>127|260=>179|263=>205|264=>206|266=>181|267=>225|270=>337|276=>125|277=>126|279=>339|280=>340|281=>341|282=>342|283=>208|284=>209|285=>210|286=>211|287=>352|291=>284|314=>264|316=>353|317=>251|318=>253|319=>254|320=>255|321=>360|322=>361|337=>292|338=>293|n=>n,fun|0=>0|2=>2|3=>3|4=>4|5=>5|9=>9|12=>12|20=>20|21=>21|31=>39|37=>23|46=>188|51=>140|53=>221|70=>82|72=>84|75=>87|76=>88|80=>90|85=>392|105=>192|109=>212|119=>184|127=>126|138=>186|139=>187|143=>415|145=>417|146=>268|148=>270|164=>180|167=>391|168=>394|171=>274|173=>277|175=>404|210=>407|212=>324|213=>325|232=>377|233=>378|n=>n,fun|1=>2|3=>0|4=>1|15=>6|16=>7|17=>3|18=>4|19=>5|n=>n⟩
abbrev Tryz.laysM171_ren:Go.Shelf.Ren:=Tryz.uniR
def Tryz.laysM171:Go.Proofs.LaysM.n171 Tryz.prog Tryz.laysM171_ren:={
 mixed:=oC
 f129:=Tryz.lfn Tryz.func252
 f171:=Tryz.lfn Tryz.func74
 f243:=Tryz.lfn Tryz.func121
 f246:=Tryz.lfn Tryz.func169
 f283:=Tryz.lfn Tryz.func208
 f284:=Tryz.lfn Tryz.func209
 f285:=Tryz.lfn Tryz.func210
 f286:=Tryz.lfn Tryz.func211
 f317:=Tryz.lfn Tryz.func251
 f318:=Tryz.lfn Tryz.func253
 f319:=Tryz.lfn Tryz.func254
 f320:=Tryz.lfn Tryz.func255
 f337:=Tryz.lfn Tryz.func292
 f338:=Tryz.lfn Tryz.func293
 t0:=Tryz.underlying0
 a0:=Tryz.isAgg0
 z0:=Tryz.sizeOf0
 v0:=Tryz.zeroValue0
 t2:=Tryz.underlying2
 a2:=Tryz.isAgg2
 z2:=Tryz.sizeOf2
 v2:=Tryz.zeroValue2
 t3:=Tryz.underlying3
 a3:=Tryz.isAgg3
 z3:=Tryz.sizeOf3
 v3:=Tryz.zeroValue3
 t4:=Tryz.underlying4
 a4:=Tryz.isAgg4
 z4:=Tryz.sizeOf4
 v4:=Tryz.zeroValue4
 t5:=Tryz.underlying5
 a5:=Tryz.isAgg5
 z5:=Tryz.sizeOf5
 v5:=Tryz.zeroValue5
 t9:=Tryz.underlying9
 a9:=Tryz.isAgg9
 z9:=Tryz.sizeOf9
 v9:=Tryz.zeroValue9
 t20:=Tryz.underlying20
 a20:=Tryz.isAgg20
 z20:=Tryz.sizeOf20
 v20:=Tryz.zeroValue20
 t37:=Tryz.underlying23
 a37:=Tryz.isAgg23
 z37:=Tryz.sizeOf23
 v37:=Tryz.zeroValue23
 t46:=Tryz.underlying188
 a46:=Tryz.isAgg188
 z46:=Tryz.sizeOf188
 v46:=Tryz.zeroValue188
 t51:=Tryz.underlying140
 a51:=Tryz.isAgg140
 z51:=Tryz.sizeOf140
 v51:=Tryz.zeroValue140
 t53:=Tryz.underlying221
 a53:=Tryz.isAgg221
 z53:=Tryz.sizeOf221
 v53:=Tryz.zeroValue221
 t171:=Tryz.underlying274
 a171:=Tryz.isAgg274
 z171:=Tryz.sizeOf274
 v171:=Tryz.zeroValue274
 t173:=Tryz.underlying277
 a173:=Tryz.isAgg277
 z173:=Tryz.sizeOf277
 v173:=Tryz.zeroValue277
 t212:=Tryz.underlying324
 a212:=Tryz.isAgg324
 z212:=Tryz.sizeOf324
 v212:=Tryz.zeroValue324
 t213:=Tryz.underlying325
 a213:=Tryz.isAgg325
 z213:=Tryz.sizeOf325
 t232:=Tryz.underlying377
 a232:=Tryz.isAgg377
 z232:=Tryz.sizeOf377
 v232:=Tryz.zeroValue377
 t233:=Tryz.underlying378
 a233:=Tryz.isAgg378
 z233:=Tryz.sizeOf378
 v233:=Tryz.zeroValue378
 g17:=oC
 g18:=oC
 g19:=oC
 i0:=oC
 i2:=oC
 i3:=oC
 i4:=oC
 i5:=oC
 i9:=oC
 i20:=oC
 i37:=oC
 i46:=oC
 i51:=oC
 i53:=oC
 i171:=oC
 i173:=oC
 i212:=oC
 i232:=oC
 i233:=oC
 m17:=oC
 m18:=oC
 m19:=by kernel_rfl }
abbrev Tryz.laysC172_ren:Go.Shelf.Ren:=Tryz.uniR
def Tryz.laysC172:Go.Proofs.LaysC.n172 Tryz.prog Tryz.laysC172_ren:={ Tryz.laysM171 with
 f172:=Tryz.lfn Tryz.func327
 f205:=Tryz.lfn Tryz.func354
 f244:=Tryz.lfn Tryz.func333
 f245:=Tryz.lfn Tryz.func334
 f247:=Tryz.lfn Tryz.func338
 f279:=Tryz.lfn Tryz.func339
 f280:=Tryz.lfn Tryz.func340
 f281:=Tryz.lfn Tryz.func341
 f282:=Tryz.lfn Tryz.func342
 f287:=Tryz.lfn Tryz.func352
 f316:=Tryz.lfn Tryz.func353
 f321:=Tryz.lfn Tryz.func360
 f322:=Tryz.lfn Tryz.func361
 t21:=Tryz.underlying21
 a21:=Tryz.isAgg21
 z21:=Tryz.sizeOf21
 v21:=Tryz.zeroValue21
 t75:=Tryz.underlying87
 a75:=Tryz.isAgg87
 z75:=Tryz.sizeOf87
 v75:=Tryz.zeroValue87
 t76:=Tryz.underlying88
 a76:=Tryz.isAgg88
 z76:=Tryz.sizeOf88
 v76:=Tryz.zeroValue88
 t85:=Tryz.underlying392
 a85:=Tryz.isAgg392
 z85:=Tryz.sizeOf392
 v85:=Tryz.zeroValue392
 t127:=Tryz.underlying126
 a127:=Tryz.isAgg126
 z127:=Tryz.sizeOf126
 v127:=Tryz.zeroValue126
 t143:=Tryz.underlying415
 a143:=Tryz.isAgg415
 z143:=Tryz.sizeOf415
 v143:=Tryz.zeroValue415
 t145:=Tryz.underlying417
 a145:=Tryz.isAgg417
 z145:=Tryz.sizeOf417
 v145:=Tryz.zeroValue417
 t167:=Tryz.underlying391
 a167:=Tryz.isAgg391
 z167:=Tryz.sizeOf391
 v167:=Tryz.zeroValue391
 t168:=Tryz.underlying394
 a168:=Tryz.isAgg394
 z168:=Tryz.sizeOf394
 v168:=Tryz.zeroValue394
 t175:=Tryz.underlying404
 a175:=Tryz.isAgg404
 z175:=Tryz.sizeOf404
 v175:=Tryz.zeroValue404
 t210:=Tryz.underlying407
 a210:=Tryz.isAgg407
 z210:=Tryz.sizeOf407
 v210:=Tryz.zeroValue407
 g15:=oC
 g16:=oC
 t80:=Tryz.underlying90
 a80:=Tryz.isAgg90
 z80:=Tryz.sizeOf90
 v80:=Tryz.zeroValue90
 i21:=oC
 i75:=oC
 i76:=oC
 i80:=oC
 i85:=oC
 i127:=oC
 i143:=oC
 i145:=oC
 i167:=oC
 i168:=oC
 i175:=oC
 i210:=oC
 m15:=oC
 m16:=oC
 c0:=oC
 c2:=oC
 c3:=oC
 c4:=oC
 c5:=oC
 c9:=oC
 c20:=oC
 c21:=oC
 c37:=oC
 c46:=oC
 c51:=oC
 c53:=oC
 c75:=oC
 c76:=oC
 c80:=oC
 c85:=oC
 c127:=oC
 c143:=oC
 c145:=oC
 c167:=oC
 c168:=oC
 c171:=oC
 c173:=oC
 c175:=oC
 c210:=oC
 c212:=oC
 c213:=oC
 c232:=oC
 c233:=by kernel_rfl }
abbrev Tryz.lays185_ren:Go.Shelf.Ren:=Tryz.uniR
def Tryz.lays185:Go.Proofs.Lays.n185 Tryz.prog Tryz.lays185_ren:={ Tryz.laysM171 with
 f115:=Tryz.lfn Tryz.func38
 f185:=Tryz.lfn Tryz.func204
 f187:=Tryz.lfn Tryz.func95
 f224:=Tryz.lfn Tryz.func224
 f253:=Tryz.lfn Tryz.func246
 f254:=Tryz.lfn Tryz.func247
 f255:=Tryz.lfn Tryz.func145
 f291:=Tryz.lfn Tryz.func284
 t146:=Tryz.underlying268
 a146:=Tryz.isAgg268
 z146:=Tryz.sizeOf268
 v146:=Tryz.zeroValue268
 g1:=by kernel_rfl }
abbrev Tryz.lays138_ren:Go.Shelf.Ren:=Tryz.uniR
def Tryz.lays138:Go.Proofs.Lays.n138 Tryz.prog Tryz.lays138_ren:={ Tryz.laysM171,Tryz.lays185 with
 f138:=Tryz.lfn Tryz.func263
 f143:=Tryz.lfn Tryz.func138
 f195:=Tryz.lfn Tryz.func295
 f217:=Tryz.lfn Tryz.func139
 f218:=Tryz.lfn Tryz.func296
 f219:=Tryz.lfn Tryz.func180
 f225:=Tryz.lfn Tryz.func223
 f266:=Tryz.lfn Tryz.func181
 f267:=Tryz.lfn Tryz.func225
 f314:=Tryz.lfn Tryz.func264 }
abbrev Tryz.lays165_ren:Go.Shelf.Ren:=Tryz.uniR
def Tryz.lays165:Go.Proofs.Lays.n165 Tryz.prog Tryz.lays165_ren:={ Tryz.laysM171 with
 f165:=Tryz.lfn Tryz.func41
 f240:=Tryz.lfn Tryz.func78
 f241:=Tryz.lfn Tryz.func79
 f276:=Tryz.lfn Tryz.func125
 f277:=Tryz.lfn Tryz.func126
 t70:=Tryz.underlying82
 a70:=Tryz.isAgg82
 z70:=Tryz.sizeOf82
 v70:=Tryz.zeroValue82
 t72:=Tryz.underlying84
 a72:=Tryz.isAgg84
 z72:=Tryz.sizeOf84
 v72:=Tryz.zeroValue84
 t164:=Tryz.underlying180
 a164:=Tryz.isAgg180
 z164:=Tryz.sizeOf180
 v164:=Tryz.zeroValue180 }
abbrev Tryz.lays169_ren:Go.Shelf.Ren:=Tryz.uniR
def Tryz.lays169:Go.Proofs.Lays.n169 Tryz.prog Tryz.lays169_ren:={ Tryz.laysM171,Tryz.lays165,Tryz.laysC172 with
 f169:=Tryz.lfn Tryz.func43 }
abbrev Tryz.lays196_ren:Go.Shelf.Ren:=Tryz.uniR
def Tryz.lays196:Go.Proofs.Lays.n196 Tryz.prog Tryz.lays196_ren:={ Tryz.laysM171 with
 f196:=Tryz.lfn Tryz.func81
 f259:=Tryz.lfn Tryz.func127
 t12:=Tryz.underlying12
 a12:=Tryz.isAgg12
 z12:=Tryz.sizeOf12
 v12:=Tryz.zeroValue12
 t119:=Tryz.underlying184
 a119:=Tryz.isAgg184
 z119:=Tryz.sizeOf184
 t138:=Tryz.underlying186
 a138:=Tryz.isAgg186
 z138:=Tryz.sizeOf186
 v138:=Tryz.zeroValue186
 t139:=Tryz.underlying187
 a139:=Tryz.isAgg187
 z139:=Tryz.sizeOf187
 v139:=Tryz.zeroValue187
 g3:=oC
 g4:=by kernel_rfl }
abbrev Tryz.lays197_ren:Go.Shelf.Ren:=Tryz.uniR
def Tryz.lays197:Go.Proofs.Lays.n197 Tryz.prog Tryz.lays197_ren:={ Tryz.laysM171,Tryz.laysC172,Tryz.lays196 with
 f197:=Tryz.lfn Tryz.func137
 f260:=Tryz.lfn Tryz.func179
 t105:=Tryz.underlying192
 a105:=Tryz.isAgg192
 z105:=Tryz.sizeOf192
 v105:=Tryz.zeroValue192 }
abbrev Tryz.lays105_ren:Go.Shelf.Ren:=Tryz.uniR
def Tryz.lays105:Go.Proofs.Lays.n105 Tryz.prog Tryz.lays105_ren:={ Tryz.laysM171,Tryz.lays165,Tryz.lays169,Tryz.laysC172,Tryz.lays185 with
 f99:=Tryz.lfn Tryz.func128
 f105:=Tryz.lfn Tryz.func119
 f166:=Tryz.lfn Tryz.func42
 f170:=Tryz.lfn Tryz.func167
 f206:=Tryz.lfn Tryz.func172
 f212:=Tryz.lfn Tryz.func166
 f263:=Tryz.lfn Tryz.func205
 f264:=Tryz.lfn Tryz.func206
 t109:=Tryz.underlying212
 a109:=Tryz.isAgg212
 z109:=Tryz.sizeOf212
 v109:=Tryz.zeroValue212
 t148:=Tryz.underlying270
 a148:=Tryz.isAgg270
 z148:=Tryz.sizeOf270
 v148:=Tryz.zeroValue270 }
abbrev Tryz.lays155_ren:Go.Shelf.Ren:=Tryz.uniR
def Tryz.lays155:Go.Proofs.Lays.n155 Tryz.prog Tryz.lays155_ren:={ Tryz.laysM171,Tryz.lays138,Tryz.lays165,Tryz.lays105,Tryz.lays169,Tryz.lays197,Tryz.lays185,Tryz.laysC172,Tryz.lays196 with
 f154:=Tryz.lfn Tryz.func222
 f155:=Tryz.lfn Tryz.func176 }
abbrev Tryz.lays156_ren:Go.Shelf.Ren:=Tryz.uniR
def Tryz.lays156:Go.Proofs.Lays.n156 Tryz.prog Tryz.lays156_ren:={ Tryz.laysM171,Tryz.lays165,Tryz.lays105,Tryz.lays169,Tryz.laysC172 with
 f156:=Tryz.lfn Tryz.func16
 t31:=Tryz.underlying39
 a31:=Tryz.isAgg39
 z31:=Tryz.sizeOf39
 v31:=Tryz.zeroValue39 }
abbrev Tryz.lays219_ren:Go.Shelf.Ren:=Tryz.uniR
def Tryz.lays219:Go.Proofs.Lays.n219 Tryz.prog Tryz.lays219_ren:={ Tryz.laysM171,Tryz.lays138,Tryz.lays185 with }
def Tryz.sortP_ren:Go.Shelf.Ren:=⟨fun|6=>329|15=>336|14=>335|28=>351|29=>252|20=>343|21=>344|22=>345|23=>346|24=>347|25=>348|26=>349|27=>350|46=>355|47=>356|48=>357|49=>358|50=>359|57=>362|n=>n,fun|22=>364|24=>366|25=>388|3=>3|39=>188|0=>0|53=>140|55=>221|4=>4|46=>399|45=>398|50=>354|5=>5|9=>9|66=>409|70=>413|76=>418|77=>419|n=>n,fun|n=>n⟩
def Tryz.sortP:Go.Proofs.SlLaysF0.n6 Tryz.prog Tryz.sortP_ren:={
 mixed:=oC
 f6:=⟨Tryz.f329.name,oE,Tryz.lfn Tryz.func329⟩
 f14:=⟨Tryz.f335.name,oE,Tryz.lfn Tryz.func335⟩
 f15:=Tryz.lfn Tryz.func336
 f20:=⟨Tryz.f343.name,oE,Tryz.lfn Tryz.func343⟩
 f21:=⟨Tryz.f344.name,oE,Tryz.lfn Tryz.func344⟩
 f22:=⟨Tryz.f345.name,oE,Tryz.lfn Tryz.func345⟩
 f23:=⟨Tryz.f346.name,oE,Tryz.lfn Tryz.func346⟩
 f24:=⟨Tryz.f347.name,oE,Tryz.lfn Tryz.func347⟩
 f25:=⟨Tryz.f348.name,oE,Tryz.lfn Tryz.func348⟩
 f26:=⟨Tryz.f349.name,oE,Tryz.lfn Tryz.func349⟩
 f27:=⟨Tryz.f350.name,oE,Tryz.lfn Tryz.func350⟩
 f28:=Tryz.lfn Tryz.func351
 f29:=Tryz.lfn Tryz.func252
 f46:=⟨Tryz.f355.name,oE,Tryz.lfn Tryz.func355⟩
 f47:=Tryz.lfn Tryz.func356
 f48:=Tryz.lfn Tryz.func357
 f49:=⟨Tryz.f358.name,oE,Tryz.lfn Tryz.func358⟩
 f50:=⟨Tryz.f359.name,oE,Tryz.lfn Tryz.func359⟩
 f57:=⟨Tryz.f362.name,oE,Tryz.lfn Tryz.func362⟩
 t0:=Tryz.underlying0
 a0:=Tryz.isAgg0
 z0:=Tryz.sizeOf0
 v0:=Tryz.zeroValue0
 t3:=Tryz.underlying3
 a3:=Tryz.isAgg3
 z3:=Tryz.sizeOf3
 v3:=Tryz.zeroValue3
 t4:=Tryz.underlying4
 a4:=Tryz.isAgg4
 z4:=Tryz.sizeOf4
 v4:=Tryz.zeroValue4
 t5:=Tryz.underlying5
 a5:=Tryz.isAgg5
 z5:=Tryz.sizeOf5
 v5:=Tryz.zeroValue5
 t9:=Tryz.underlying9
 a9:=Tryz.isAgg9
 z9:=Tryz.sizeOf9
 v9:=Tryz.zeroValue9
 t22:=Tryz.underlying364
 a22:=Tryz.isAgg364
 z22:=Tryz.sizeOf364
 v22:=Tryz.zeroValue364
 t25:=Tryz.underlying388
 a25:=Tryz.isAgg388
 z25:=Tryz.sizeOf388
 v25:=Tryz.zeroValue388
 t39:=Tryz.underlying188
 a39:=Tryz.isAgg188
 z39:=Tryz.sizeOf188
 v39:=Tryz.zeroValue188
 t45:=Tryz.underlying398
 a45:=Tryz.isAgg398
 z45:=Tryz.sizeOf398
 v45:=Tryz.zeroValue398
 t46:=Tryz.underlying399
 a46:=Tryz.isAgg399
 z46:=Tryz.sizeOf399
 v46:=Tryz.zeroValue399
 t50:=Tryz.underlying354
 a50:=Tryz.isAgg354
 z50:=Tryz.sizeOf354
 v50:=Tryz.zeroValue354
 t53:=Tryz.underlying140
 a53:=Tryz.isAgg140
 z53:=Tryz.sizeOf140
 v53:=Tryz.zeroValue140
 t55:=Tryz.underlying221
 a55:=Tryz.isAgg221
 z55:=Tryz.sizeOf221
 v55:=Tryz.zeroValue221
 t66:=Tryz.underlying409
 a66:=Tryz.isAgg409
 z66:=Tryz.sizeOf409
 v66:=Tryz.zeroValue409
 t70:=Tryz.underlying413
 a70:=Tryz.isAgg413
 z70:=Tryz.sizeOf413
 v70:=Tryz.zeroValue413
 t76:=Tryz.underlying418
 a76:=Tryz.isAgg418
 z76:=Tryz.sizeOf418
 v76:=Tryz.zeroValue418
 t77:=Tryz.underlying419
 a77:=Tryz.isAgg419
 z77:=Tryz.sizeOf419
 v77:=Tryz.zeroValue419 }
end Go.Proofs
namespace Go.Sym
open Go.RowKit
variable[LC]
def ce.data{P:Program}{f:FuncId}{xs:List AV}{r:AV}
  (h:∀(w:World)(G:Gh)(vs:List Value),bq G [] w->ak xs G vs->Calls P f vs.toArray w fun e w'=>∃v,e = .returned v/\aj r G v/\cd w w'):ce P f xs [] r []:=by
 intro w G vs hm hr;refine(h w G vs hm hr).mono ?_;rintro e w' ⟨v,rfl,hv,hs⟩
 refine⟨v,G,rfl,?_,hv⟩;exact(ut hm).extend (new:=[]) (Gh.le.refl G) hs (fun _ _ _ h => .inl h) (fun b o v hv=>by
  have hc:=hm.agree b o v hv;have hlt:=World.block_lt_of_cell? _ _ hc;rw[World.cell?_of_block (w:=w) (hs.block b hlt (fun h=>h))];exact hc) hm.one (fun n bx h=>by cases h) (fun n bx h=>by cases h) (fun n m bx bx' b h=>by cases h)
def cd.of_below{w w':World}(h:Below w.heap.size w w'):cd w w':=⟨h.os,h.tape,h.output,h.size,fun k hk _=>h.block k hk⟩
def cd.refl(w:World):cd w w:=⟨rfl,rfl,rfl,wF _,fun _ _ _=>rfl⟩
def ce.fresh{P:Program}{f:FuncId}{xs:List AV}{τ:Ty}{l:List τ.den}{E:TypeId}
  (h:∀(w:World)(G:Gh)(vs:List Value),bq G [] w->ak xs G vs->Calls P f vs.toArray w fun e w'=>∃ad c us,e = .returned (.slice ad l.length c)/\gc w' E τ.sz ad l.length c us/\ak (l.flatMap τ.enc) G.data us/\(∀b,da ad=some b->w.heap.size<=b)/\cd w w') :
  ce P f xs [] (.own 0) [(0,.row τ l E)]:=by
 intro w G vs hm hr;refine(h w G vs hm hr).mono ?_;rintro e w' ⟨ad,c,us,rfl,hrow,hus,hb,hs⟩
 let G':Gh:={ imm:=G.imm,box:=fun _=>none,own:=fun m=>bif Nat.beq m 0 then some (ad,l.length,c) else none }
 have hself:(G'.own 0)=some (ad,l.length,c):=rfl;have hag:∀b o v,G.imm b o=some v->w'.cell? ⟨b,o,none⟩=some v:=fun b o v hv=>by
  have hc:=hm.agree b o v hv;have hlt:=World.block_lt_of_cell? _ _ hc;rw[World.cell?_of_block (w:=w) (hs.block b hlt (fun h=>h))];exact hc
 have hlt:∀b o v,G.imm b o=some v->b<w.heap.size:=fun b o v hv=>World.block_lt_of_cell? _ _ (hm.agree b o v hv)
 have hlk:∀m b,af [(0,ag.row τ l E)] m=some b->m=0/\b = .row τ l E:=fun m b hh=>by
  simp[af]at hh;cases hb:Nat.beq 0 m
  ·rw[hb]at hh;cases hh
  ·rw[hb]at hh;simp at hh;exact⟨(qN hb).symm,hh.symm⟩
 have hat:G'.at 0 (.row τ l E)=da ad:=by
  simp[Gh.at,hself];cases ad<;>rfl
 refine⟨.slice ad l.length c,G',rfl,⟨⟨hag,hm.one,fun m b hh => ?_,fun m m' b b' c' h1 h2 _ _ => ?_,LC.mono (fun _ _ _ h=>h) (fun b o v h=>hs.block b (hlt b o v h) fun h=>h) hm.tab⟩,⟨hs.os,hs.tape,hs.output,hs.size,fun k hk _=>hs.block k hk fun h=>h⟩,fun _ _ _ h=>h,fun _ _ _ h => .inl h,fun m b c' h1 h2 => ?_,fun _ _ _ h=>(by cases h),fun _ _ _ h=>(by cases h)⟩,ad,l.length,c,hself,rfl⟩
 ·obtain⟨rfl,rfl⟩:=hlk m b hh;refine c7.row hself hrow (ak.data_le (fun _ _ _ h=>h) hus) fun b hb' o => ?_
  cases hq:G.imm b o with|none=>rfl|some v=>have:=hlt b o v hq;have:=hb b hb';omega
 ·obtain⟨rfl,_⟩:=hlk m b h1;obtain⟨rfl,_⟩:=hlk m' b' h2;rfl
 ·obtain⟨rfl,rfl⟩:=hlk m b h1;rw[hat]at h2;exact .inl (hb c' h2)
def zlm{P:Program}{G:Gh}{w:World}(hm:bq G [] w){τ:Ty}{l:List τ.den}{v:Value}(h:aj (.sl τ l) G v) :
  ∃news,(∀w,(Builtin.lenOf v).run P w = .ok l.length w)/\(∀w',(∀k,k<w.heap.size->w'.heap[k]? = w.heap[k]?)->(Builtin.firstCells τ.sz l.length v).run P w' = .ok news.toArray w')/\ak (l.flatMap τ.enc) G.data news/\∀u∈news,u.oneCell'=true:=by
 let s:St:={ n:=0,fr:=[],hp:=[],nx:=0,df:=[] }
 have hr:ai w G.data [] G.data s { tmps:=#[],defers:=[] } w:=
  ⟨⟨[],rfl,rfl⟩,rfl,fun i x h=>(by cases h),fun _ _ _=>⟨rfl,rfl⟩,ut ⟨hm.agree,hm.one,fun _ _ h=>(by cases h),fun _ _ _ _ _ h=>(by cases h),hm.tab⟩⟩
 rcases qkq hr (x := .sl τ l) (v:=v) (flat:=l.flatMap τ.enc) (n:=l.length) h rfl with⟨b,hb,_⟩|⟨ad,c,us,rfl,h1,h2,h3⟩
 ·cases hb
 ·refine⟨us,fun w=>by simp[Builtin.lenOf],fun w' hw' => ?_,h1,h2⟩
  have hul:us.length=l.length*τ.sz:=by rw[← h1.length,ng]
  cases ad with
  |none=>
   have:us=[]:=by
    rcases h3 with h3|⟨_,_,h3,_⟩
    ·exact h3
    ·cases h3
   subst this;simp[Builtin.firstCells]
  |some ad=>
   have h3':us=[]\/∃b o,some ad=some (⟨b,o,none⟩:Addr)/\∀j u,us[j]? = some u->w'.cell? ⟨b,o+j,none⟩=some u:=by
    rcases h3 with h3|⟨b,o,h4,h5⟩
    ·exact .inl h3
    ·refine .inr ⟨b,o,h4,fun j u hu => ?_⟩
     have hc:=h5 j u hu;rw[World.cell?_of_block (w:=w) (hw' _ (World.block_lt_of_cell? _ _ hc))];exact hc
   have:=qet (P:=P) (w:=w') (ad:=ad) h3';rw[hul]at this;simp[Builtin.firstCells,this]
def zmy{P:Program}{ops:Array Oper}{rest:List Oper}{o:Oper}{a:Act}{w:World}{Q:Exit->Act->World->Prop}(hgd:o.guard=none)(s x:Operand)(t:TypeId)
  (ho:o.op = .call { callee := .builtin .append,args:=#[s,x],argTypes:=#[t,t] }) {E:TypeId} {sz:Nat} (ht:P.underlying t=some (.slice E)) (hz:mr P E=true) (hsz:eg P E=some sz) (ht2:qbk P t=true)
  {ad:Option Addr} {n c:Nat} {us:List Value} (hs:a.eval s = .slice ad n c) (hrow:gc w E sz ad n c us) {v:Value} (hx:a.eval x=v) {m:Nat} {news:List Value}
  (ac:∀w,(Builtin.lenOf v).run P w = .ok m w) (hcells:∀w',w'.heap=w.heap->(Builtin.firstCells sz m v).run P w' = .ok news.toArray w') (hnl:news.length=m*sz) (hn1:∀v∈news,v.oneCell'=true) (hmax:n+m<=aq)
  (h:∀ad' c' w',gc w' E sz ad' (n+m) c' (us++news)->(da ad'=da ad\/∃g,da ad'=some g/\w.heap.size<=g)->bu (fun b=>da ad=some b) w w'->wpList P ops Q rest (a.put o.dst (.slice ad' (n+m) c')) w'):wpList P ops Q (o::rest) a w:=by
 obtain⟨i,z,hi,hz',z1,z2,z3,z4,zs⟩:=qll hz hsz;rw[← zs]at hrow hcells hnl h;refine wpList_plain hgd fun _ hK => ?_
 obtain⟨ad',c',w',r1,r2,r3,r4⟩:=zk5 (ty:=o.type) ht hi hz' z1 z2 z3 z4 ht2 hrow ac hcells hnl hn1 hmax;unfold Oper.wp execOp;simp only[ho,resolve,invoke,builtin,Sem.run_bind,Sem.run_pure,Result.andThen_ok,List.map_toArray,List.map_cons,List.map_nil,hs,hx,r1];exact hK _ _ (h ad' c' w' r2 r3 r4)
end Go.Sym
namespace Go.Sym
open Go.Proofs Go.RowKit Go.Sort
open Go.Proofs.Tryz
variable[LC]
def cd.below{w w':World}(h:cd w w'):Below w.heap.size w w':=⟨h.os,h.tape,h.output,h.size,fun k hk=>h.block k hk (fun h=>h)⟩
def bq.still{G:Gh}{w w':World}(hm:bq G [] w)(hs:cd w w'):bq G [] w':=
 have hlt:∀b o v,G.imm b o=some v->w'.heap[b]? = w.heap[b]? := fun b o v hv=>hs.block b (World.block_lt_of_cell? _ _ (hm.agree b o v hv)) (fun h=>h)
 ⟨fun b o v hv=>by rw[World.cell?_of_block (w:=w) (hlt b o v hv)];exact hm.agree b o v hv,hm.one,fun n bx h=>(by cases h),fun n m bx bx' b h=>(by cases h),LC.mono (fun _ _ _ h=>h) hlt hm.tab⟩
def z0l{G:Gh}{w:World}(hm:bq G [] w)(hg:LC.glob 3=some ⟨.int .u64,Lib.pow10Tab⟩)(hs:(3,20)∈LC.sizes):∃t fr,w.heap[3]? = some (.cells (Lib.pow10Tab.map fun z=>Value.int .u64 z).toArray t fr):=by
 obtain⟨_,cs,t,fr,hh,hz⟩:=hm.tab.2.2.2 _ hs;refine⟨t,fr,hh.trans ?_⟩;congr 2;apply Array.ext
 ·rw[hz];simp[Lib.pow10Tab]
 ·intro j h1 h2;have hj:j<Lib.pow10Tab.length:=by simpa using h2
  have h3:=hm.agree _ _ _ (hm.tab.1 _ _ _ hg j _ (List.getElem?_eq_getElem hj));rw[show j*(Ty.int .u64).sz=j from Nat.mul_one j]at h3
  simp only[World.cell?,hh]at h3;rw[Array.getElem?_eq_getElem h1]at h3;simp only[List.getElem_toArray,List.getElem_map];exact qJ h3
def zhw{G:Gh}{w:World}(hm:bq G [] w)(hg:LC.glob 3=some ⟨.int .u64,Lib.pow10Tab⟩)(hs:(3,20)∈LC.sizes)(n:Int)(h0 : -9223372036854775808<=n)(h1:n<=9223372036854775807) :
  Calls Tryz.prog 74 #[.int .i64 n] w fun e w'=>e = .returned (.string ⟨(Lib.itoa n).toArray⟩)/\cd w w':=
 (Any.strconv_Itoa Tryz.laysM171 n h0 h1 w (by
  unfold Lib.TabIs World.var?;obtain⟨t,fr,hh⟩:=z0l hm hg hs;rw[show Tryz.prog.globalNamed _=some 3 by kernel_rfl,qB,hh])).mono fun e w'⟨he,k,os,hw⟩=>⟨he,by
   subst hw;refine⟨rfl,rfl,rfl,by simp[grow],fun j hj _ => ?_⟩
   show(w.heap++os)[j]? = _;rw[Array.getElem?_append_left hj]⟩
def q20:IF:=⟨.fn 74,[.h (.int .i64)],[],_,RS.mk (.h .str) []⟩
def zhx(hg:LC.glob 3=some ⟨.int .u64,Lib.pow10Tab⟩)(hs:(3,20)∈LC.sizes):(q20.e ua).Sound Tryz.prog:=fun d d' r h=>by
 have h:ua d.1=some r:=h;unfold ua at h;cases hd:decide (-9223372036854775808<=(show Int from d.1)/\(show Int from d.1)<=9223372036854775807)<;>rw[hd]at h<;>simp only[qT,qF,reduceCtorEq]at h
 have h:=qJ h;subst h;have hd:=of_decide_eq_true hd;refine⟨call74,ce.data fun w G vs hm hr => ?_⟩
 match vs,hr with
 |[v],⟨h1,_⟩=>
  have h1:v = .int .i64 d.1:=h1;subst h1;exact(zhw hm hg hs _ hd.1 hd.2).mono fun e w'⟨he,hw⟩=>⟨_,he,rfl,hw⟩
def zxb{G:Gh}{w:World}(hm:bq G [] w)(hi:2∈LC.ints){a b:Bs}{u v:Value}(hu:aj (.sl .byte a) G u)(hv:aj (.sl .byte b) G v)(h2:2<=b.length)(hb:b.length<=maxLen)(ha:a.length<4294967281) :
  Calls Tryz.prog 204 #[u,v] w fun e w'=>e = .returned (.int .i64 (Lib.index a b))/\cd w w':=by
 obtain⟨p,c,rfl,hc,hp⟩:jp 1 (Ty.byte.At G.imm) a u:=hu;obtain⟨q,d,rfl,hd,hq⟩:jp 1 (Ty.byte.At G.imm) b v:=hv;by_cases hlt:a.length<b.length
 ·have h:=Any.bytes_Index_longer Tryz.lays185 p q a.length c b.length d w h2 hlt (by unfold maxLen at hb;omega)
  rw[Lib.index_past (i:=0) (by intro e;subst e;simp at h2) (fun j hj=>absurd hj (Nat.not_lt_zero _)) (by simpa using hlt)]
  exact h.mono fun e w'⟨he,hw⟩=>⟨he,by subst hw;exact cd.refl _⟩
 ·rcases hp with rfl|⟨g,o,rfl,hcells⟩
  ·exact absurd (show([]:Bs).length<b.length from by show 0<_;omega) hlt
  rcases hq with rfl|⟨g',o',rfl,hcells'⟩
  ·exact absurd h2 (by show ¬2<=0;omega)
  obtain⟨k,hk⟩:=hm.tab.2.1 _ hi;have hk:=hm.agree _ _ _ hk;have bb:∀l:Bs,Lib.bytesOf (l.map fun x=>(x.toNat:Int))=l:=fun l=>by
   unfold Lib.bytesOf;rw[List.map_map];have:((fun n:Int=>UInt8.ofNat n.toNat) ∘ fun x:UInt8=>(x.toNat:Int))=id:=by funext x;simp
   rw[this,List.map_id]
  have cl:∀(l:Bs)(g o:Nat),(∀(j:Nat)(x:UInt8),l[j]? = some x->Ty.byte.At G.imm x g (o+j*1))->∀i,i<l.length->w.cell? ((⟨g,o,none⟩:Addr).add i)=some (.int .u8 ((l.map fun x=>(x.toNat:Int)).getD i 0)):=fun l g o h i hi=>by
   have h1:G.imm g (o+i*1)=some (.int .u8 l[i].toNat):=h i _ (List.getElem?_eq_getElem hi);have h1:=hm.agree _ _ _ h1;rw[Nat.mul_one]at h1;rw[Lib.add_plain',h1];simp[List.getD_eq_getElem?_getD,hi]
  have rg:∀l:Bs,∀x∈l.map (fun x=>(x.toNat:Int)),0<=x/\x<256:=fun l x hx=>by
   obtain⟨c,_,rfl⟩:=List.mem_map.1 hx;have:=c.toNat_lt;omega
  have h:=Any.bytes_Index_at Tryz.lays185 ⟨g,o,none⟩ ⟨g',o',none⟩ a.length c b.length d (a.map fun x=>(x.toNat:Int)) (b.map fun x=>(x.toNat:Int)) k w oB oB (rg a) (rg b) (cl a g o hcells) (cl b g' o' hcells') hc ha (by unfold maxLen at hb;omega) hk
  rw[bb,bb]at h;exact h.mono fun e w'⟨he,n,hw⟩=>⟨he,by subst hw;exact⟨rfl,rfl,rfl,wF _,fun _ _ _=>rfl⟩⟩
def q0z:IF:=⟨.fn 204,[.h (.list .byte),.h (.list .byte)],[],_,RS.mk (.h (.int .i64)) []⟩
def zer(hi:2∈LC.ints):(q0z.e qab).Sound Tryz.prog:=fun d d' r h=>by
 obtain⟨a,b,_⟩:=d;have h:qab a b=some r:=h;unfold qab at h;cases hd:decide (2<=List.length (α:=UInt8) b/\List.length (α:=UInt8) a<4294967281/\List.length (α:=UInt8) b<=maxLen)<;>rw[hd]at h<;>simp only[qT,qF,reduceCtorEq]at h
 have h:=qJ h;subst h;have hd:=of_decide_eq_true hd;refine⟨call204,ce.data fun w G vs hm hr => ?_⟩
 match vs,hr with
 |[u,v],⟨h1,h2,_⟩=>
  exact(zxb hm hi h1 h2 hd.1 hd.2.2 hd.2.1).mono fun e w'⟨he,hw⟩=>⟨_,he,rfl,hw⟩
end Go.Sym
namespace Go.Sym
open Go.Proofs Go.RowKit Go.Sort
variable[LC]
def cd.trans{w w1 w2:World}(h:cd w w1)(k:cd w1 w2):cd w w2:=
 ⟨k.os.trans h.os,k.tape.trans h.tape,k.output.trans h.output,Nat.le_trans h.size k.size,fun j hj _=>(k.block j (Nat.lt_of_lt_of_le hj h.size) (fun h=>h)).trans (h.block j hj (fun h=>h))⟩
def zs6{l:Bs}{v:Int}(h:Lib.atoiAll l = .ok v) : -9223372036854775808<=v/\v<=9223372036854775807:=by
 unfold Lib.atoiAll at h;split at h
 ·cases h
 ·simp only at h;split at h
  ·cases h
  ·cases h
  ·split at h
   ·cases h
   ·split at h
    ·cases h
    ·rename_i h1 h2;injection h with h
     split at h<;>rename_i h3
     ·simp only[h3,not_true_eq_false,false_and,true_and]at h1 h2;omega
     ·simp only[h3,not_false_eq_true,true_and,false_and]at h1 h2;omega
def zy5{G:Gh}{w:World}(hm:bq G [] w)(hg:LC.glob 3=some ⟨.int .u64,Lib.pow10Tab⟩)(hs:(3,20)∈LC.sizes)(h1:6∈LC.ifs)(h2:7∈LC.ifs)(s:Bs)(most:Int)(hl:s.length<=281474976710656) :
  Calls Tryz.prog 317 #[.string ⟨s.toArray⟩,.int .i64 most] w fun e w'=>e = .returned (.tuple #[.int .i64 (qq4 s most).1,.bool (qq4 s most).2])/\cd w w':=by
 have hsz:(⟨s.toArray⟩:ByteArray).size=s.length:=iv s;have hd:(⟨s.toArray⟩:ByteArray).data.toList=s:=oB
 have bw:∀t:ByteArray,cd w (Lib.bytesWorld w 5 t):=fun t=>by
  refine⟨rfl,rfl,rfl,?_,fun j hj _ => ?_⟩
  ·simp[Lib.bytesWorld,World.freeze]
  ·show((w.heap.push _).modify w.heap.size _)[j]? = _;rw[Array.getElem?_modify,qW oA,Array.getElem?_push_lt oA]
   exact(Array.getElem?_eq_getElem hj).symm
 have bad:(Calls Tryz.prog 327 #[.string ⟨s.toArray⟩] w fun e w'=>(∃n t v,e = .returned (.tuple #[.int .i64 n,.iface t v]))/\cd w w') ->
   Calls Tryz.prog 317 #[.string ⟨s.toArray⟩,.int .i64 most] w fun e w'=>e = .returned (.tuple #[.int .i64 0,.bool false])/\cd w w':=fun cA=>by
  clear hg hs hm
  go_enter Tryz.func317,Tryz.ntmps317
  go_wp2_with (go_at_call 327;refine cA.mono ?_;rintro e wa ⟨⟨n,t,v,rfl⟩,sa⟩)
  all_goals (clear cA;go_ret2;exact⟨rfl,sa⟩)
 unfold qq4
 cases hA:Lib.atoiAll s with
 |ok v=>
  obtain⟨b1,b2⟩:=zs6 hA;have cA:Calls Tryz.prog 327 #[.string ⟨s.toArray⟩] w fun e w'=>e = .returned (.tuple #[.int .i64 v,.nilIface])/\cd w w':=
   (Any.strconv_Atoi_ok Tryz.laysC172 ⟨s.toArray⟩ oA v (by rw[hd];exact hA) w).mono fun e w'⟨he,hw⟩=>⟨he,by
    rcases hw with rfl|⟨t,rfl⟩
    ·exact cd.refl _
    ·exact bw t⟩
  have cI:∀w',cd w w'->Calls Tryz.prog 74 #[.int .i64 v] w' fun e w''=>e = .returned (.string ⟨(Lib.itoa v).toArray⟩)/\cd w' w'':=fun w' h=>zhw (hm.still h) hg hs v b1 b2
  have hse:(⟨(Lib.itoa v).toArray⟩:ByteArray)=⟨s.toArray⟩↔Lib.itoa v=s:=by
   constructor
   ·intro h;have:=congrArg (fun x:ByteArray=>x.data.toList) h;simpa using this
   ·intro h;rw[h]
  show Calls Tryz.prog 317 _ w fun e w'=>e = .returned (.tuple #[.int .i64 (if Lib.itoa v=s/\0<=v/\v<=most then(v,true) else(0,false)).1,.bool (if Lib.itoa v=s/\0<=v/\v<=most then(v,true) else(0,false)).2])/\cd w w'
  generalize Lib.itoa v=t at cI hse ⊢;obtain⟨r,hr⟩:∃r,r=(if t=s/\0<=v/\v<=most then(v,true) else(0,false)):=⟨_,rfl⟩
  rw[← hr];clear hA hg hs hm
  go_enter Tryz.func317,Tryz.ntmps317
  go_wp2_with (first|(go_at_call 327;refine cA.mono ?_;rintro e wa ⟨rfl,sa⟩)|(go_at_call 74;refine(cI _ (by assumption)).mono ?_;rintro e wb ⟨rfl,sb⟩))
  all_goals (clear cA cI;go_ret2)
  all_goals (by_cases q:t=s/\0<=v/\v<=most)
  all_goals first
   |(rw[qX q]at hr;subst hr;first|exact⟨rfl,sa.trans sb⟩|(exfalso;omega)|(exfalso;exact absurd q.1 (by assumption)))
   |(rw[qW q]at hr;subst hr;first|exact⟨rfl,sa.trans sb⟩|(exfalso;exact q ⟨by assumption,oA,oA⟩))
 |range=>
  obtain⟨te,pe,hv⟩:=hm.tab.2.2.1 _ h2;have cA:Calls Tryz.prog 327 #[.string ⟨s.toArray⟩] w fun e w'=>(∃n t v,e = .returned (.tuple #[.int .i64 n,.iface t v]))/\cd w w':=
   (Any.strconv_Atoi_range Tryz.laysC172 ⟨s.toArray⟩ oA (by rw[hd];exact hA) _ w (hm.agree _ _ _ hv) (.inr ⟨_,_,rfl⟩)).mono fun e w'⟨N,he,_,_,hw⟩=>⟨⟨_,_,_,he⟩,cd.of_below hw⟩
  exact bad cA
 |_=>
  obtain⟨te,pe,hv⟩:=hm.tab.2.2.1 _ h1;have cA:Calls Tryz.prog 327 #[.string ⟨s.toArray⟩] w fun e w'=>(∃n t v,e = .returned (.tuple #[.int .i64 n,.iface t v]))/\cd w w':=
   (Any.strconv_Atoi_syntax Tryz.laysC172 ⟨s.toArray⟩ oA (by rw[hd];exact hA) _ w (hm.agree _ _ _ hv) (.inr ⟨_,_,rfl⟩)).mono fun e w'⟨N,he,_,_,hw⟩=>⟨⟨_,_,_,he⟩,cd.of_below hw⟩
  exact bad cA
def zjd:IF:=⟨.fn 317,[.h .str,.h (.int .i64)],[],_,RS.mk (.tup [.h (.int .i64),.h .bool]) []⟩
def zy6(hg:LC.glob 3=some ⟨.int .u64,Lib.pow10Tab⟩)(hs:(3,20)∈LC.sizes)(h1:6∈LC.ifs)(h2:7∈LC.ifs):(zjd.e qgv).Sound Tryz.prog:=fun d d' r h=>by
 obtain⟨s,most,_⟩:=d;have h:qgv s most=some r:=h;unfold qgv at h;cases hd:decide (List.length (α:=UInt8) s<=281474976710656)<;>rw[hd]at h<;>simp only[qT,qF,reduceCtorEq]at h
 have h:=qJ h;subst h;refine⟨Tryz.call317,ce.data fun w G vs hm hr => ?_⟩
 match vs,hr with
 |[u,v],⟨e1,e2,_⟩=>
  have e1:u = .string ⟨List.toArray s⟩:=e1;have e2:v = .int .i64 most:=e2;subst e1 e2;exact(zy5 hm hg hs h1 h2 s most (of_decide_eq_true hd)).mono fun e w'⟨he,hw⟩=>⟨_,he,⟨_,rfl,rfl,rfl,trivial⟩,hw⟩
end Go.Sym
namespace Go.Sym
open Go.Proofs Go.RowKit
variable[LC]
def qqi(w:World)(o:Obj){k:Nat}(hk:k<w.heap.size):(w.alloc o).heap[k]? = w.heap[k]? := by
 show(w.heap.push _)[k]? = _;rw[Array.getElem?_push_lt hk];exact(Array.getElem?_eq_getElem hk).symm
def zkw(w:World)(E:TypeId)(sz:Nat):gc (w.alloc (.cells #[] E)) E sz (some ⟨w.heap.size,0,none⟩) 0 0 []:=
 ⟨oB,.inr ⟨w.heap.size,#[],(0,0),rfl,by show(w.heap.push _)[w.heap.size]? = _;simp,.inl rfl,wF _,by unfold maxLen;omega,oB,oB,oB⟩⟩
def zuo(l:List (.prod .str .str:Ty).den)(hd:l.length<=aq):ce Tryz.prog 157 [.sl (.prod .str .str) l] [] (.own 0) [(0,.row (.prod .str .str) l 30)]:=by
 refine ce.fresh fun w G vs hm hr => ?_
 match vs,hr with
 |[v],⟨h1,_⟩=>
  obtain⟨news,k1,k2,k3,k4⟩:=zlm (P:=Tryz.prog) hm h1;have hnl:news.length=l.length*(.prod .str .str:Ty).sz:=by rw[← k3.length];exact ng l
  obtain⟨p,c,rfl,hc,hp⟩:jp (.prod .str .str:Ty).sz ((.prod .str .str:Ty).At G.imm) l v:=h1
  cases p with
  |none=>
   have hl:l=[]:=by
    rcases hp with h|⟨_,_,h,_⟩
    ·exact h
    ·cases h
   subst hl;have e0:news=[]:=List.eq_nil_of_length_eq_zero (by rw[hnl];exact Nat.zero_mul _)
   subst e0;have hg:Calls Tryz.prog 157 #[.slice none 0 c] w fun e w'=>e = .returned (.slice none 0 0)/\w'=w:=by
    clear hp hr k1 k2 hm hnl hc hd k3 k4;have q22:∀(w:World)(a:Option Addr)(n c n' c':Nat),(binOp .eql 31 (.slice a n c) (.slice none n' c')).run Tryz.prog w = .ok (.bool a.isNone) w:=fun w a n c n' c'=>Lib.run_eql_slice_nil w _ _ a n c n' c' Tryz.underlying31
    have u22:∀w,Sem.run Tryz.prog (underlying 31) w = .ok (TypeDesc.slice 30) w:=run_underlying Tryz.underlying31
    go_enter Tryz.func157,Tryz.ntmps157
    go_wp2
    go_ret
    exact⟨rfl,rfl⟩
   exact hg.mono fun e w'⟨he,hw⟩=>⟨none,0,[],he,⟨rfl,.inl ⟨rfl,rfl,rfl⟩⟩,k3,fun b hb=>(by cases hb),by subst hw;exact cd.refl _⟩
  |some ad=>
   generalize hn:l.length=n at *;have hg:Calls Tryz.prog 157 #[.slice (some ad) n c] w fun e w'=>∃ad' c',e = .returned (.slice ad' n c')/\gc w' 30 (.prod .str .str:Ty).sz ad' n c' news/\(∀b,da ad'=some b->w.heap.size<=b)/\cd w w':=by
    clear hm k3 hr hp hn;have q22:∀(w:World)(a:Option Addr)(n c n' c':Nat),(binOp .eql 31 (.slice a n c) (.slice none n' c')).run Tryz.prog w = .ok (.bool a.isNone) w:=fun w a n c n' c'=>Lib.run_eql_slice_nil w _ _ a n c n' c' Tryz.underlying31
    have u22:∀w,Sem.run Tryz.prog (underlying 31) w = .ok (TypeDesc.slice 30) w:=run_underlying Tryz.underlying31
    go_enter Tryz.func157,Tryz.ntmps157
    go_wp2_with (at_builtin;refine zmy rfl _ _ 31 rfl (E:=30) (sz:=(.prod .str .str:Ty).sz) oC oC oC oC rfl (zkw w 30 _) rfl k1 ?qc hnl k4 oA ?_)
    case qc=>exact fun w' hw'=>k2 w' fun k hk=>by rw[hw'];exact qqi w _ hk
    intro ad' c' w1 hrow hblk hbel
    go_wp2
    go_ret
    refine⟨ad',c',rfl,by simpa using hrow,fun b hb => ?_,⟨hbel.os,hbel.tape,hbel.output,Nat.le_trans (by show w.heap.size<=(w.heap.push _).size;simp) hbel.size,fun k hk _ => ?_⟩⟩
    ·rcases hblk with h|⟨g,h,hg⟩
     ·rw[h]at hb;injection hb with hb;have hb:w.heap.size=b:=hb;omega
     ·rw[h]at hb;injection hb with hb
      have:w.heap.size<=(w.alloc (.cells #[] 30)).heap.size:=by show w.heap.size<=(w.heap.push _).size;simp
      omega
    ·rw[hbel.block k (by show k<(w.heap.push _).size;simp;omega) (fun e=>by injection e with e;have e:w.heap.size=k:=e;omega)]
     exact qqi w _ hk
   exact hg.mono fun e w'⟨ad',c',he,hrow,hb,hs⟩=>⟨ad',c',news,he,hrow,k3,hb,hs⟩
def qpl:IF:=⟨.fn 157,[.h (.list (.prod .str .str))],[],_,RS.mk (.own 0) [(0,.row (.prod .str .str) 30)]⟩
def q1c:(qpl.e (mu (α:=(.prod .str .str:Ty).den))).Sound Tryz.prog:=fun d d' r h=>by
 obtain⟨l,_⟩:=d;have h:(bif decide (List.length (α:=(.prod .str .str:Ty).den) l<=aq) then some (show List (.prod .str .str:Ty).den from l) else none)=some r:=h
 cases hd:decide (List.length (α:=(.prod .str .str:Ty).den) l<=aq)<;>rw[hd]at h<;>simp only[qT,qF,reduceCtorEq]at h
 have h:=qJ h;subst h;exact⟨Tryz.call157,zuo l (of_decide_eq_true hd)⟩
def zup(l:List (.byte:Ty).den)(hd:l.length<=aq):ce Tryz.prog 158 [.sl (.byte) l] [] (.own 0) [(0,.row (.byte) l 5)]:=by
 refine ce.fresh fun w G vs hm hr => ?_
 match vs,hr with
 |[v],⟨h1,_⟩=>
  obtain⟨news,k1,k2,k3,k4⟩:=zlm (P:=Tryz.prog) hm h1;have hnl:news.length=l.length*(.byte:Ty).sz:=by rw[← k3.length];exact ng l
  obtain⟨p,c,rfl,hc,hp⟩:jp (.byte:Ty).sz ((.byte:Ty).At G.imm) l v:=h1
  cases p with
  |none=>
   have hl:l=[]:=by
    rcases hp with h|⟨_,_,h,_⟩
    ·exact h
    ·cases h
   subst hl;have e0:news=[]:=List.eq_nil_of_length_eq_zero (by rw[hnl];exact Nat.zero_mul _)
   subst e0;have hg:Calls Tryz.prog 158 #[.slice none 0 c] w fun e w'=>e = .returned (.slice none 0 0)/\w'=w:=by
    clear hp hr k1 k2 hm hnl hc hd k3 k4;have q22:∀(w:World)(a:Option Addr)(n c n' c':Nat),(binOp .eql 23 (.slice a n c) (.slice none n' c')).run Tryz.prog w = .ok (.bool a.isNone) w:=fun w a n c n' c'=>Lib.run_eql_slice_nil w _ _ a n c n' c' Tryz.underlying23
    have u22:∀w,Sem.run Tryz.prog (underlying 23) w = .ok (TypeDesc.slice 5) w:=run_underlying Tryz.underlying23
    go_enter Tryz.func158,Tryz.ntmps158
    go_wp2
    go_ret
    exact⟨rfl,rfl⟩
   exact hg.mono fun e w'⟨he,hw⟩=>⟨none,0,[],he,⟨rfl,.inl ⟨rfl,rfl,rfl⟩⟩,k3,fun b hb=>(by cases hb),by subst hw;exact cd.refl _⟩
  |some ad=>
   generalize hn:l.length=n at *;have hg:Calls Tryz.prog 158 #[.slice (some ad) n c] w fun e w'=>∃ad' c',e = .returned (.slice ad' n c')/\gc w' 5 (.byte:Ty).sz ad' n c' news/\(∀b,da ad'=some b->w.heap.size<=b)/\cd w w':=by
    clear hm k3 hr hp hn;have q22:∀(w:World)(a:Option Addr)(n c n' c':Nat),(binOp .eql 23 (.slice a n c) (.slice none n' c')).run Tryz.prog w = .ok (.bool a.isNone) w:=fun w a n c n' c'=>Lib.run_eql_slice_nil w _ _ a n c n' c' Tryz.underlying23
    have u22:∀w,Sem.run Tryz.prog (underlying 23) w = .ok (TypeDesc.slice 5) w:=run_underlying Tryz.underlying23
    go_enter Tryz.func158,Tryz.ntmps158
    go_wp2_with (at_builtin;refine zmy rfl _ _ 23 rfl (E:=5) (sz:=(.byte:Ty).sz) oC oC oC oC rfl (zkw w 5 _) rfl k1 ?qc hnl k4 oA ?_)
    case qc=>exact fun w' hw'=>k2 w' fun k hk=>by rw[hw'];exact qqi w _ hk
    intro ad' c' w1 hrow hblk hbel
    go_wp2
    go_ret
    refine⟨ad',c',rfl,by simpa using hrow,fun b hb => ?_,⟨hbel.os,hbel.tape,hbel.output,Nat.le_trans (by show w.heap.size<=(w.heap.push _).size;simp) hbel.size,fun k hk _ => ?_⟩⟩
    ·rcases hblk with h|⟨g,h,hg⟩
     ·rw[h]at hb;injection hb with hb;have hb:w.heap.size=b:=hb;omega
     ·rw[h]at hb;injection hb with hb
      have:w.heap.size<=(w.alloc (.cells #[] 5)).heap.size:=by show w.heap.size<=(w.heap.push _).size;simp
      omega
    ·rw[hbel.block k (by show k<(w.heap.push _).size;simp;omega) (fun e=>by injection e with e;have e:w.heap.size=k:=e;omega)]
     exact qqi w _ hk
   exact hg.mono fun e w'⟨ad',c',he,hrow,hb,hs⟩=>⟨ad',c',news,he,hrow,k3,hb,hs⟩
def q1d:IF:=⟨.fn 158,[.h (.list (.byte))],[],_,RS.mk (.own 0) [(0,.row (.byte) 5)]⟩
def zfh:(q1d.e (mu (α:=(.byte:Ty).den))).Sound Tryz.prog:=fun d d' r h=>by
 obtain⟨l,_⟩:=d;have h:(bif decide (List.length (α:=(.byte:Ty).den) l<=aq) then some (show List (.byte:Ty).den from l) else none)=some r:=h
 cases hd:decide (List.length (α:=(.byte:Ty).den) l<=aq)<;>rw[hd]at h<;>simp only[qT,qF,reduceCtorEq]at h
 have h:=qJ h;subst h;exact⟨Tryz.call158,zup l (of_decide_eq_true hd)⟩
end Go.Sym
namespace Go.Sym
open Go.Proofs Go.RowKit Go.Sort
variable[LC]
def ce.inPlaceA{ys:List AV}{P:Program}{f:FuncId}{τ:Ty}{l l':List τ.den}{E:TypeId}(ac:l'.length=l.length)(h:∀(w:World)(G:Gh)(ad:Option Addr)(c:Nat)(us vs:List Value),gc w E τ.sz ad l.length c us->ak (l.flatMap τ.enc) G.data us->ak ys G vs ->
  Calls P f (Value.slice ad l.length c::vs).toArray w fun e w'=>e = .returned (.tuple #[])/\∃us',gc w' E τ.sz ad l.length c us'/\ak (l'.flatMap τ.enc) G.data us'/\bu (fun b=>da ad=some b) w w') :
  ce P f (.own 0::ys) [(0,.row τ l E)] (.tup []) [(0,.row τ l' E)]:=by
 intro w G vs hm hreps;have hl:af [(0,ag.row τ l E)] 0=some (.row τ l E):=rfl;obtain⟨ad,c,us,h1,h3,h4,h5⟩:=(hm.holds 0 _ hl).rowAt
 match vs,hreps with
 |v::vs,hreps=>
  obtain⟨⟨a',n',c',q1,rfl⟩,hys⟩:=hreps;rw[h1]at q1;simp at q1;obtain⟨rfl,rfl,rfl⟩:=q1;refine(h w G ad c us vs h3 h4 hys).mono ?_;rintro e w' ⟨rfl,us',r1,r2,r3⟩
  refine⟨_,G,rfl,?_,#[],rfl,trivial⟩;have hself:=ut hm;have hbox:c7 G w' 0 (.row τ l' E):=c7.row (by rw[ac];exact h1) (by rw[ac];exact r1) r2 (fun b hb=>h5 b hb)
  cases had:da ad with
  |none=>
   have hst:cd w w':=⟨r3.os,r3.tape,r3.output,r3.size,fun k hk _=>r3.block k hk (fun e=>by rw[had]at e;cases e)⟩
   have hf:=hself.extend (new:=[]) (Gh.le.refl G) hst (fun _ _ _ h => .inl h) (fun b o v hv=>by
    have hc:=hm.agree b o v hv;have hlt:=World.block_lt_of_cell? _ _ hc;rw[World.cell?_of_block (w:=w) (hst.block b hlt (fun h=>h))];exact hc) hm.one (fun n bx h=>by cases h) (fun n bx h=>by cases h) (fun n m bx bx' b h=>by cases h)
   have hlk:∀m b,af [(0,ag.row τ l' E)] m=some b->m=0/\b = .row τ l' E:=fun m b hh=>by
    simp[af]at hh;cases hb:Nat.beq 0 m
    ·rw[hb]at hh;cases hh
    ·rw[hb]at hh;simp at hh;exact⟨(qN hb).symm,hh.symm⟩
   have hat:G.at 0 (.row τ l' E)=none:=by
    simp[Gh.at,h1]
    cases ad with|none=>rfl|some a=>cases had
   refine⟨⟨hf.mem.agree,hf.mem.one,fun m b hh => ?_,fun m m' b b' c h1 h2 h3 _ => ?_,hf.mem.tab⟩,hf.bel,hf.imm_le,hf.imm_new,fun m b c h1 h2 => ?_,hf.keep,hf.keepOwn⟩
   ·obtain⟨rfl,rfl⟩:=hlk m b hh;exact hbox
   ·obtain⟨rfl,_⟩:=hlk m b h1;obtain⟨rfl,_⟩:=hlk m' b' h2;rfl
   ·obtain⟨rfl,rfl⟩:=hlk m b h1;rw[hat]at h2;cases h2
  |some B=>
   have hat:∀l:List τ.den,G.at 0 (.row τ l E)=some B:=fun l=>by
    simp[Gh.at,h1]
    cases ad with
    |none=>cases had
    |some a=>exact had
   have hf:=hself.update (bx' := .row τ l' E) hl (hat l) (hat l') ⟨r3.os,r3.tape,r3.output,r3.size,fun k hk hne=>r3.block k hk (fun e=>by rw[had]at e;injection e with e;exact hne e.symm)⟩ hbox (h5 B had)
   have hlk:∀m b,af [(0,ag.row τ l' E)] m=some b->af (sw [(0,ag.row τ l E)] 0 (.row τ l' E)) m=some b:=fun m b hh=>by
    simp[af]at hh;simp[sw,af];cases hb:Nat.beq 0 m
    ·rw[hb]at hh;cases hh
    ·rw[hb]at hh;exact hh
   exact⟨⟨hf.mem.agree,hf.mem.one,fun m b hh=>hf.mem.holds m b (hlk m b hh),fun m m' b b' c h1 h2 h3 h4=>hf.mem.apart m m' b b' c (hlk _ _ h1) (hlk _ _ h2) h3 h4,hf.mem.tab⟩,hf.bel,hf.imm_le,hf.imm_new,fun m b c h1 h2=>hf.base m b c (hlk _ _ h1) h2,hf.keep,hf.keepOwn⟩
 |[],hreps=>exact hreps.elim
def z0t(w:World)(n g:Nat)(d:Array Value)(os:Array Obj)(k:Nat)(hk:k<w.heap.size)(hne:k≠g):(grow (putRow id (Sort.ahead w n) g 0 d) os).heap[k]? = w.heap[k]? := by
 show((w.heap.modify g (onCells (putCells id 0 d)))++os)[k]? = _;rw[Array.getElem?_append_left (by simpa using hk),Array.getElem?_modify,qW oA]
def z0u(w:World)(n g:Nat)(d:Array Value)(os:Array Obj){cur:Array Value}{e:TypeId}{fr:Nat×Nat}(hh:w.heap[g]? = some (.cells cur e fr)) :
  (grow (putRow id (Sort.ahead w n) g 0 d) os).heap[g]? = some (.cells (putCells id 0 d cur) e fr):=by
 have hg:g<w.heap.size:=(Array.getElem?_eq_some_iff.1 hh).1;show((w.heap.modify g (onCells (putCells id 0 d)))++os)[g]? = _;rw[Array.getElem?_append_left (by simpa using hg),Array.getElem?_modify,qX rfl,hh]
 rfl
def z0w(zs:List Value)(cur:Array Value)(h:zs.length<=cur.size):(putCells id 0 zs.toArray cur).toList.take zs.length=zs:=by
 apply List.ext_getElem?;intro j;rw[List.getElem?_take];by_cases hj:j<zs.length
 ·rw[qX hj,Array.getElem?_toList];unfold putCells;rw[Array.getElem?_mapIdx,Array.getElem?_eq_getElem oA]
  simp[hj]
 ·rw[qW hj];exact(List.getElem?_eq_none oA).symm
def z0v(w:World)(n g:Nat)(d:Array Value)(os:Array Obj):w.heap.size<=(grow (putRow id (Sort.ahead w n) g 0 d) os).heap.size:=by
 show w.heap.size<=((w.heap.modify g (onCells (putCells id 0 d)))++os).size;simp
def z0s(zs:List Value)(cur:Array Value)(v:Value)(hv:v∈(putCells id 0 zs.toArray cur).toList):v∈cur.toList\/v∈zs:=by
 unfold putCells at hv;rw[Array.mem_toList_iff,Array.mem_mapIdx]at hv;obtain⟨j,hj,rfl⟩:=hv;split
 ·rename_i hj2;have hj3:j<zs.length:=by simpa using hj2
  refine .inr ?_;simp[hj3]
 ·exact .inl oB
end Go.Sym
namespace Go.Sym
open Go.Proofs Go.RowKit Go.Sort
variable[LC]
def zgp{α:Type}[Inhabited α](enc:α->List Value)(k:Nat)(hk:∀x,(enc x).length=k)(l:List α):flatK enc k l.toArray=(l.flatMap enc).toArray:=by
 have key:∀(l:List α)(t:Nat),t<l.length*k->(l.flatMap enc)[t]? = some ((enc l[t/k]!)[t%k]!):=by
  intro l
  induction l with
  |nil=>intro t ht;simp at ht|cons x l ih=>
   intro t ht;have k0:0<k:=by
    rcases Nat.eq_zero_or_pos k with h|h;· subst h;simp at ht
    ·exact h
   rw[List.flatMap_cons];by_cases h:t<k
   ·rw[List.getElem?_append_left (by rw[hk];exact h),Nat.div_eq_of_lt h,Nat.mod_eq_of_lt h,List.getElem?_eq_getElem (by rw[hk];exact h)]
    simp[hk,h]
   ·rw[List.getElem?_append_right (by rw[hk];omega),hk,ih (t-k) (by rw[qL,Nat.add_mul,Nat.one_mul]at ht;omega)]
    obtain⟨u,rfl⟩:∃u,t=u+k:=⟨t-k,oA⟩
    rw[Nat.add_sub_cancel,Nat.add_mod_right,Nat.add_div_right _ k0];simp
 have ac:(l.flatMap enc).length=l.length*k:=by
  clear key
  induction l with|nil=>simp|cons x l ih=>rw[List.flatMap_cons,qM,hk,ih,qL,Nat.add_mul,Nat.one_mul,Nat.add_comm]
 refine ext_get! (by simp[ac]) fun t ht => ?_
 have ht':t<l.length*k:=by simpa using ht
 rw[get_flatK enc k l.toArray t (by simpa using ht')]
 have:=key l t ht';simp only[List.getElem!_toArray];rw[List.getElem!_eq_getElem?_getD (l:=l.flatMap enc),this];rfl
def fb(x:Pq):List Value:=[.string ⟨x.1.1.toArray⟩,.int .i64 x.1.2.1,.bool x.1.2.2.1,.string ⟨x.1.2.2.2.toArray⟩]
def zl0:SWO (ltOf pz):=by
 have e:∀x y:Pq,ltOf pz x y=decide (x.1.2.1<y.1.2.1):=fun x y=>by
  have:=x.2;have:=y.2;unfold ltOf pz;have h:ae (x.1.2.1-y.1.2.1)=x.1.2.1-y.1.2.1:=by unfold ae;simp[IntKind.wrap,IntKind.bits,IntKind.signed];omega
  rw[h];by_cases q:x.1.2.1<y.1.2.1<;>simp[q]<;>omega
 exact⟨fun x=>by rw[e];simp,fun x y z h1 h2=>by rw[e]at *;simp at *;omega,fun x y z h1 h2=>by rw[e]at *;simp at *;omega⟩
set_option maxHeartbeats 1000000 in
def zur(x y:Pq)(W:World):Calls Tryz.prog 330 #[.agg (fb x).toArray,.agg (fb y).toArray] W fun e w'=>e = .returned (.int .i64 (pz x y))/\∃q os',w'=grow (W.drewN q) os':=by
 unfold fb pz;obtain⟨⟨a,n,s,v⟩,hx⟩:=x;obtain⟨⟨a',n',s',v'⟩,hy⟩:=y;simp only;have hw:ae (n-n')=wrap64 (n-n'):=by show IntKind.i64.wrap (n-n')=_;rw[IntKind.wrap_i64];unfold Go.RowKit.wrap64;rfl
 rw[hw];clear hx hy hw
 go_enter Tryz.func330,Tryz.ntmps330
 go_wp2
 go_ret
 exact⟨rfl,0,_,by rw[alloc_eq_grow,alloc_eq_grow,grow_grow];rfl⟩
abbrev τQ:Ty := .prod .str (.prod (.int .i64) (.prod .bool .str))
def zkm{G:Gh}:∀{l:List Pq}{us:List Value},ak (List.flatMap (β:=AV) τQ.enc (l.map (·.1))) G us->us=l.flatMap fb
 |[],[],_=>rfl|[],_::_,h=>h.elim|x::l,us,h=>by
  match us,h with
  |a::b::c::d::us,h=>
   have h1:a = .string ⟨x.1.1.toArray⟩:=h.1;have h2:b = .int .i64 x.1.2.1:=h.2.1;have h3:c = .bool x.1.2.2.1:=h.2.2.1;have h4:d = .string ⟨x.1.2.2.2.toArray⟩:=h.2.2.2.1;have h5:=zkm (l:=l) h.2.2.2.2;rw[h1,h2,h3,h4,h5];rfl
  |[],h=>exact h.elim|[_],h=>exact h.2.elim|[_,_],h=>exact h.2.2.elim|[_,_,_],h=>exact h.2.2.2.elim
def zkn{G:Gh}:∀(l:List Pq),ak (List.flatMap (β:=AV) τQ.enc (l.map (·.1))) G (l.flatMap fb)
 |[]=>trivial|_::l=>⟨rfl,rfl,rfl,rfl,zkn l⟩
def zmb:∀(l:List Pc)(q:List Pq),toQ l=some q->l=q.map (·.1)
 |[],_,h=>by cases h;rfl
 |x::l,q,h=>by
  unfold toQ at h;split at h
  ·split at h
   ·rename_i r hr;cases h;rw[zmb l r hr];rfl
   ·cases h
  ·cases h
def q43(l:List Pq):(lv l).length=l.length:=by
 have h:=(pdq_sorts (ltOf pz) zl0 l.toArray 0 l.length (Lib.bitLen l.length) true true (Nat.zero_le _) oB (Or.inl rfl)).1.1
 unfold lv;rw[Array.length_toList,h];simp
def qp0(x:Pq):(fb x).length=4:=rfl
def zgb(l:List Pq):(l.flatMap fb).length=l.length*4:=by
 induction l with|nil=>rfl|cons x l ih=>rw[List.flatMap_cons,qM,qp0,ih,qL];omega
def zwz{w:World}{g:Nat}{vs:Array Value}{fz:Nat×Nat}{E:TypeId}{l:List Pq}(h2:w.heap[g]? = some (.cells vs E fz))(h3:fz=(0,0)\/vs.size<=fz.1)(h4:l.length*4<=vs.size)(h7:vs.toList.take (l.length*4)=l.flatMap fb):HoldsK fb 4 w g 0 l.toArray:=by
 unfold HoldsK;rw[zgp fb 4 qp0];intro j hj;have hl:=zgb l;have hj':j<(l.flatMap fb).length:=by simpa using hj
 have hjv:j<vs.size:=oA
 refine⟨?_,?_⟩
 ·have hc:(vs.toList.take (l.length*4))[j]? = some ((l.flatMap fb)[j]):=by
   rw[h7,List.getElem?_eq_getElem hj']
  rw[List.getElem?_take,qX]at hc
  simp only[World.cell?,h2,wO];have hg:(l.flatMap fb).toArray[j]! = (l.flatMap fb)[j]:=by rw[getElem!_pos _ j hj];rfl
  rw[hg];simpa using hc
 ·simp only[World.frozen?,h2];rcases h3 with rfl|h3
  ·simp
  ·simp;omega
set_option maxHeartbeats 1000000 in
def z2v(q:List Pq)(ac:q.length<=aq):ce Tryz.prog 329 [.own 0,.fn (.func 330) [] []] [(0,.row τQ (q.map (·.1)) 366)] (.tup []) [(0,.row τQ ((lv q).map (·.1)) 366)]:=by
 unfold aq at ac
 refine ce.inPlaceA (by show((lv q).map (·.1)).length=(q.map (·.1)).length;rw[wC,wC,q43]) (fun w G ad c us fvs hrow hreps hfv => ?_)
 have hus:=zkm hreps;have hfv:fvs=[.func (.func 330) #[] #[]]:=by
  match fvs,hfv with
  |[v],⟨h,_⟩=>
   obtain⟨us1,us2,k1,k2,k3⟩:=h;have e1:us1=#[]:=Array.eq_empty_of_size_eq_zero k2.length.symm;have e2:us2=#[]:=Array.eq_empty_of_size_eq_zero k3.length.symm;subst e1;subst e2;rw[k1]
 subst hfv;have hml:(q.map (fun x=>x.1)).length=q.length:=wC ..
 obtain⟨hul,hrow⟩:=hrow
 have hnone:q=[]->Calls Tryz.prog 329 (Value.slice ad (q.map (fun x=>x.1)).length c::[.func (.func 330) #[] #[]]).toArray w fun e w'=>e = .returned (.tuple #[])/\∃us',gc w' 366 τQ.sz ad (q.map (fun x=>x.1)).length c us'/\ak (List.flatMap (β:=AV) τQ.enc ((lv q).map (·.1))) G.data us'/\bu (fun b=>da ad=some b) w w':=fun hq=>by
  subst hq;refine(AnyF.slices_SortFunc_none Tryz.sortP ad c (.func (.func 330) #[] #[]) w).mono ?_;rintro e w' ⟨rfl,rfl⟩
  refine⟨rfl,us,⟨hul,hrow⟩,?_,⟨rfl,rfl,rfl,wF _,fun _ _ _=>rfl⟩⟩
  rw[hus];have e:lv []=[]:=List.eq_nil_of_length_eq_zero (q43 []);rw[e];exact trivial
 by_cases hq:q=[]
 ·exact hnone hq
 rcases hrow with⟨rfl,h2,rfl⟩|⟨g,vs,fz,rfl,h2,h3,h4,h5,h6,h7,h8⟩
 ·exact absurd (List.eq_nil_of_length_eq_zero (by rw[← hml];exact h2)) hq
 ·have hlt:g<w.heap.size:=(Array.getElem?_eq_some_iff.1 h2).1;have hs4:τQ.sz=4:=rfl;rw[hs4]at h6 h7 hul;have h4':q.length<=c:=by rw[← hml];exact h4
  have hH:=zwz (l:=q) h2 h3 oA (by rw[← hus];have h7':=h7;rw[show(List.length (α:=τQ.den) (q.map fun x=>x.1))=q.length from hml]at h7';exact h7')
  have hcmp:CmpLays Tryz.prog 330 #[] fb 4 pz g 0 q.toArray.size w:=fun m os dk _ x y=>zur x y _
  have key:=AnyQ.slices_SortFunc_eq (P:=Tryz.prog) Tryz.sortP 4 Tryz.isAgg366 Tryz.sizeOf366 fb qp0 (by intro x v hv;simp only[fb,wE,List.not_mem_nil,or_false]at hv;rcases hv with rfl|rfl|rfl|rfl<;>rfl) pz zl0 330 #[] g 0 c q.toArray w Tryz.call330 hcmp hH hlt oD
  have hargs:#[Value.slice (some ⟨g,0,none⟩) (List.length (α:=τQ.den) (List.map (β:=τQ.den) (fun x:Pq=>x.1) q)) c,Value.func (.func 330) #[] #[]]=#[.slice (some ⟨g,0,none⟩) q.toArray.size c,.func (.func 330) #[] #[]]:=by
   rw[show List.length (α:=τQ.den) (List.map (β:=τQ.den) (fun x:Pq=>x.1) q)=q.toArray.size from hml.trans oB]
  refine Eq.mpr (congrArg (fun a=>Calls _ _ a _ _) hargs) (key.mono ?_)
  rintro e w' ⟨rfl,n,os,rfl⟩
  have hsl:=q43 q;have hw:sortWorldK fb 4 w g 0 n (pdq (ltOf pz) q.toArray 0 q.toArray.size (Lib.bitLen q.toArray.size) true true) os=grow (putRow id (Sort.ahead w n) g 0 ((lv q).flatMap fb).toArray) os:=by
   unfold sortWorldK putRowK;rw[show pdq (ltOf pz) q.toArray 0 q.toArray.size (Lib.bitLen q.toArray.size) true true=(lv q).toArray from by unfold lv;simp,zgp fb 4 qp0]
  rw[hw];have hzl:((lv q).flatMap fb).length=q.length*4:=by rw[zgb,hsl]
  refine⟨rfl,(lv q).flatMap fb,⟨?_,.inr ⟨g,putCells id 0 ((lv q).flatMap fb).toArray vs,fz,rfl,z0u w n g _ os h2,?_,h4,h5,?_,?_,?_⟩⟩,zkn _,⟨rfl,rfl,rfl,z0v w n g _ os,fun k hk hne=>z0t w n g _ os k hk (fun e=>hne (by subst e;rfl))⟩⟩
  ·rw[hzl];show q.length*4=(q.map (fun x=>x.1)).length*4;rw[hml]
  ·have:(putCells id 0 ((lv q).flatMap fb).toArray vs).size=vs.size:=by unfold putCells;rw[Array.size_mapIdx]
   rw[this];exact h3
  ·unfold putCells;rw[Array.size_mapIdx];exact h6
  ·rw[show List.length (α:=τQ.den) (q.map (fun x=>x.1))*τQ.sz=((lv q).flatMap fb).length from by rw[hzl];show(q.map (fun x=>x.1)).length*4=_;rw[hml]]
   exact z0w _ vs (by rw[hzl];omega)
  ·intro v hv;rcases z0s _ _ _ hv with h|h
   ·exact h8 v h
   ·obtain⟨x,_,hx⟩:=List.mem_flatMap.1 h;simp only[fb,wE,List.not_mem_nil,or_false]at hx;rcases hx with rfl|rfl|rfl|rfl<;>rfl
def zlo:IF:=⟨.fn 329,[.own 0,.fn 330 []],[(0,.row τQ 366)],_,RS.mk (.tup []) [(0,.row τQ 366)]⟩
def z2w:(zlo.e qhl).Sound Tryz.prog:=fun d d' r h=>by
 obtain⟨l,_⟩:=d';have h:qhl l=some r:=h;unfold qhl at h;cases hd:decide (List.length (α:=Pc) l<=aq)<;>rw[hd]at h<;>simp only[qT,qF,reduceCtorEq]at h
 cases hq:toQ l with
 |none=>rw[hq]at h;cases h
 |some q=>
  rw[hq]at h;have h:=qJ h;subst h;have hl:=zmb l q hq;subst hl;refine⟨Tryz.call329,z2v q ?_⟩;have:=of_decide_eq_true hd
  rwa [wC]at this
end Go.Sym
set_option linter.unusedVariables false
namespace Go.Proofs.ToValid
open Go.Shelf Go.RowKit Go.Lib Go.Sym
def bx:Builder.Extra Tryz.prog Tryz.uniR:={
 sizeBuilder:=oC
 liesBuilder:=oC
 t5:=Tryz.laysM171.t5
 a5:=Tryz.laysM171.a5
 z5:=Tryz.laysM171.z5
 v5:=Tryz.laysM171.v5
 infoByte:=oC
 cellsByte:=oC
 sizeByte:=oC
 neB5:=by decide }
def zxv:Lays.n166 Tryz.prog Tryz.uniR:={ Tryz.lays165,Tryz.lays169,Tryz.laysC172 with f166:=Tryz.func42.trans (congrArg some oC) }
def zxw:Lays.n167 Tryz.prog Tryz.uniR:={ Tryz.lays165,Tryz.lays169,Tryz.laysC172 with f167:=Tryz.func156.trans (congrArg some oC) }
def zfa(b:Nat)(p:Option Addr)(n cap:Nat)(w:World)(c1:w.cell? ⟨b,1,none⟩=some (.slice p n cap)) :
  Calls Tryz.prog 337 #[.pointer (some ⟨b,0,none⟩)] w fun e w'=>e = .returned (.int .i64 cap)/\w'=w:=by
 go_enter Tryz.func337,Tryz.ntmps337
 go_wp2
 go_ret
 exact⟨rfl,rfl⟩
def zwo(b n:Nat)(w:World)(hbk:w.heap[b]? = some (.cells #[.pointer none,.slice none 0 0] 84 (0,0)))(hBw:b<=w.heap.size)(hn:n<=281474976710656) :
  Calls Tryz.prog 41 #[.pointer (some ⟨b,0,none⟩),.int .i64 n] w fun e w'=>e = .returned (.tuple #[])/\(Lib.BuilderAt 84 5 b b (.pointer (some ⟨b,0,none⟩)) [] w'/\Below b w w')/\∃p cap,w'.cell? ⟨b,1,none⟩=some (.slice p 0 cap)/\n<=cap:=
 Any.Builder_Grow_fresh_cap Tryz.lays165 bx b b n w (wF _) hbk hBw hn
def q5z(b:Nat)(bs:List Value)(s:ByteArray)(w:World)(h:Lib.IsBuilderF 84 5 b b bs w)(ac:bs.length+s.size<=140737488355328)(hBw:b<=w.heap.size) :
  Calls Tryz.prog 42 #[.pointer (some ⟨b,0,none⟩),.string s] w fun e w'=>e = .returned (.tuple #[.int .i64 s.size,.nilIface])/\(Lib.BuilderAtF 84 5 b b (.pointer (some ⟨b,0,none⟩)) (bs++Lib.strCells s) w'/\Below b w w'/\Lib.OthersKept 5 (some b) w w')/\∀v0,w.cell? ⟨b,1,none⟩=some v0->∃v1,w'.cell? ⟨b,1,none⟩=some v1/\v0.capOf<=v1.capOf:=
 Any.Builder_WriteString_kc zxv bx b b bs s w h ac hBw
def z4n(b:Nat)(bs:List Value)(c:Int)(w:World)(h:Lib.IsBuilderF 84 5 b b bs w)(ac:bs.length+1<=140737488355328)(hBw:b<=w.heap.size) :
  Calls Tryz.prog 156 #[.pointer (some ⟨b,0,none⟩),.int .u8 c] w fun e w'=>e = .returned .nilIface/\(Lib.BuilderAtF 84 5 b b (.pointer (some ⟨b,0,none⟩)) (bs++[.int .u8 c]) w'/\Below b w w'/\Lib.OthersKept 5 (some b) w w'):=
 Any.Builder_WriteByte_k zxw bx b b bs c w h ac hBw
def z3h(b:Nat)(l:List UInt8)(w:World)(h:Lib.IsBuilderF 84 5 b b (Lib.byteCells l) w)(hBw:b<=w.heap.size) :
  Calls Tryz.prog 43 #[.pointer (some ⟨b,0,none⟩)] w fun e w'=>e = .returned (.string ⟨l.toArray⟩)/\(Lib.IsBuilderF 84 5 b b (Lib.byteCells l) w'/\Below b w w'):=
 Any.Builder_String_any_f Tryz.lays169 bx b b l w h hBw
def decC(s:ByteArray)(w:World)(hT:Lib.Utf8Tabs 0 1 w) :
  Calls Tryz.prog 137 #[.string s] w fun e w'=>e = .returned (.tuple #[.int .i32 (Lib.decodeGo s).1,.int .i64 (Lib.decodeGo s).2])/\Below w.heap.size w w':=
 Any.utf8_DecodeRuneInString Tryz.lays197 s w hT
def zf1(s:ByteArray)(pos:Nat)(h:pos<s.size):decodeGo (s.extract pos s.size)=Utf8.decode s pos:=by
 have hx:(s.extract pos s.size).data.toList=s.data.toList.drop pos:=by
  rw[extract_data,List.take_of_length_le (by rw[List.length_drop,← size_eq];omega)]
 have hsz:(s.extract pos s.size).size≠0:=by rw[size_eq,hx,List.length_drop,← size_eq];omega
 unfold decodeGo;rw[qW hsz,← decodeL_drop s pos,← hx];rfl
def zmz(n:Int)(h0:0<=n:=by omega)(h1:n<=4000000:=by omega):wrap64 n=n:=by unfold wrap64;omega
def z4y(p n:Nat)(h:p+n<=4000000):wrap64 ((p:Int)+(n:Int))=(p:Int)+(n:Int):=zmz _
def z4z(p:Nat)(h:p+1<=4000000):wrap64 ((p:Int)+1)=(p:Int)+1:=zmz _
def vI(p k:Nat):Value.int .i64 ((p:Int)+(k:Int)) = .int .i64 ((p+k:Nat):Int):=by rw[Int.natCast_add]
def qv(p:Nat):Value.int .i64 ((p:Int)+1) = .int .i64 ((p+1:Nat):Int):=by rw[Int.natCast_add];rfl
def q5r(rep:Bs)(n:Nat)(inv:Bool)(l:Bs)(hne:l≠[])(h:(Lib.decodeL l).1=65533/\(Lib.decodeL l).2=1):vu rep (n+1) inv l=(if inv then[] else rep)++vu rep n true (l.drop 1):=by
 cases l with|nil=>exact absurd rfl hne|cons c l=>rw[vu,qX h];rfl
def qr5(rep:Bs)(n:Nat)(inv:Bool)(l:Bs)(hne:l≠[])(h:¬((Lib.decodeL l).1=65533/\(Lib.decodeL l).2=1)):vu rep (n+1) inv l=l.take (Lib.decodeL l).2++vu rep n false (l.drop (Lib.decodeL l).2):=by
 cases l with|nil=>exact absurd rfl hne|cons c l=>rw[vu,qW h]
def y5(rep:Bs)(n:Nat)(inv:Bool):vu rep n inv []=[]:=by cases n<;>rfl
def qk0(rep:Bs):∀(n m:Nat)(inv:Bool)(l:Bs),l.length<=n->l.length<=m->vu rep n inv l=vu rep m inv l
 |0,m,inv,l,h1,_=>by
  have:l=[]:=by cases l with|nil=>rfl|cons c l=>simp at h1
  subst this;rw[y5,y5]
 |n+1,0,inv,l,_,h2=>by
  have:l=[]:=by cases l with|nil=>rfl|cons c l=>simp at h2
  subst this;rw[y5,y5]
 |n+1,m+1,inv,l,h1,h2=>by
  cases l with
  |nil=>rw[y5,y5]|cons c l=>
   have hw:=Lib.decodeL_width (c::l);simp only[qL]at h1 h2;by_cases h:(Lib.decodeL (c::l)).1=65533/\(Lib.decodeL (c::l)).2=1
   ·rw[q5r rep n inv _ oB h,q5r rep m inv _ oB h,qk0 rep n m true _ oD oD]
   ·rw[qr5 rep n inv _ oB h,qr5 rep m inv _ oB h,qk0 rep n m false _ (by simp only[List.length_drop,qL];omega) (by simp only[List.length_drop,qL];omega)]
def zva(s:ByteArray)(pos:Nat)(h:pos<s.size)(hc:(s.get! pos).toNat<128):Utf8.decode s pos=((s.get! pos).toNat,1):=by
 unfold Utf8.decode;simp only[Nat.add_zero,hc,if_true]
def zu9(s:ByteArray)(pos:Nat)(h:pos<s.size)(hc:¬(s.get! pos).toNat<128)(h1:(Utf8.decode s pos).2=1):(Utf8.decode s pos).1=65533:=by
 revert h1;unfold Utf8.decode;simp only[Nat.add_zero,hc,if_false]
 repeat' split
 all_goals first|(intro _;rfl)|(intro h1;exact absurd h1 oB)
def q01{T e:TypeId}{B b:Nat}{bs:List Value}{W W':World}(h:Lib.IsBuilderF T e B b bs W)(hb:Below W.heap.size W W'):Lib.IsBuilderF T e B b bs W':=by
 have k:∀p,Lib.BuilderAtF T e B b p bs W->Lib.BuilderAtF T e B b p bs W':=fun p h=>by
  have hlt:=h.lt;obtain⟨hB,v,hv,hown,hne⟩:=h;exact⟨hB,v,(hb.block b hlt).trans hv,hown.kept (row:=none) ⟨hb.os,hb.tape,hb.output,hb.size,fun k hk _=>hb.block k hk⟩ (Classical.em _),hne⟩
 exact h.elim (fun x => .inl (k _ x)) (fun x => .inr (k _ x))
set_option maxHeartbeats 4000000 in
set_option maxRecDepth 1000000 in
def tovalid(s rep:ByteArray)(w:World)(hs:s.size<=1000000)(hr:rep.size<=1000)(hT:Lib.Utf8Tabs 0 1 w) :
  Calls Tryz.prog 332 #[.string s,.string rep] w fun e w'=>e = .returned (.string ⟨(vu rep.data.toList s.size false s.data.toList).toArray⟩)/\Below w.heap.size w w':=by
 obtain⟨ANS,hANS⟩:∃ANS,vu rep.data.toList s.size false s.data.toList=ANS:=⟨_,rfl⟩;rw[hANS];have ac:s.data.toList.length=s.size:=(Lib.size_eq s).symm
 go_enter Tryz.func332,Tryz.ntmps332
 go_wp2
 go_loopg [0] s.size (fun gk s0 wx=>s0 = .string s/\∃pos:Nat,wx.heap[w.heap.size]? = some (.cells #[.pointer none,.slice none 0 0] 84 (0,0))/\wx.heap[w.heap.size+1]? = some (.stringIter s pos)/\Below w.heap.size w wx /\
  s.data.toList.take pos++vu rep.data.toList (s.size-pos) false (s.data.toList.drop pos)=ANS/\s.size<=pos+gk/\pos<=s.size)
 case atStart=>
  refine⟨rfl,0,?_,?_,((Below.refl _ w).alloc (wF _) _).alloc oB _,by simpa using hANS,oA,oA⟩
  ·have h1:=heap_alloc_new w (.cells #[.pointer none,.slice none 0 0] 84);exact(Below.heap_alloc _ _ _ oB).trans h1
  ·have:=World.iter_heap (w.alloc (.cells #[.pointer none,.slice none 0 0] 84)) s 0;simpa using this
 case round=>
  obtain⟨rfl,pos,hfr,hit,hbw,hsp,hfu,hps⟩:=hrel;by_cases hlt:pos<s.size
  ·obtain⟨g',rfl⟩:∃g',gk=g'+1:=⟨gk-1,oA⟩
   have hnx:∀ty,(Instr.next (.pointer (some ⟨w.heap.size+1,0,none⟩)) true ty).run Tryz.prog wr=_:=fun ty=>Lib.run_next_any_at wr (w.heap.size+1) s pos ty hit hlt
   have hne:s.data.toList.drop pos≠[]:=by
    intro h0;have:=congrArg List.length h0;rw[List.length_drop,ac]at this;simp at this;omega
   have hwd:=Lib.width_pos s pos;have hwn:pos+(Utf8.decode s pos).2<=s.size:=by
    have:=Lib.decodeL_le _ hne;rw[Lib.decodeL_drop,List.length_drop,ac]at this;omega
   have hgood:=qr5 rep.data.toList (s.size-pos-1) false _ hne;have hdg:=zf1 s pos hlt;rw[Lib.decodeL_drop]at hgood;obtain⟨R,hR⟩:∃R,(Utf8.decode s pos).1=R:=⟨_,rfl⟩;obtain⟨K,hK⟩:∃K,(Utf8.decode s pos).2=K:=⟨_,rfl⟩;rw[hR,hK]at hnx hgood;rw[hK]at hwd hwn;rw[List.drop_drop,show s.size-pos-1+1=s.size-pos by omega]at hgood
   have hit2:=Lib.iterAt_heap wr (w.heap.size+1) s pos (pos+K) hit;have hbw2:=Lib.below_iterAt hbw (k:=w.heap.size+1) oA s (pos+K)
   have hfr2:(wr.iterAt (w.heap.size+1) s (pos+K)).heap[w.heap.size]? = _:=(Lib.iterAt_other wr (w.heap.size+1) w.heap.size s (pos+K) oA).trans hfr
   obtain⟨W,hWd⟩:∃W,wr.iterAt (w.heap.size+1) s (pos+K)=W:=⟨_,rfl⟩;rw[hWd]at hnx hit2 hbw2 hfr2;clear hit hbw hfr hWd;have HS:Aside (¬(R=65533/\K=1)->s.data.toList.take (pos+K)++vu rep.data.toList (s.size-(pos+K)) false (s.data.toList.drop (pos+K))=ANS):=by
    intro h;rw[← hsp,hgood h,← qS,← List.take_add];congr 1;exact qk0 _ _ _ _ _ (by rw[List.length_drop,ac];omega) (by rw[List.length_drop,ac];omega)
   have HP:Aside (s.data.toList.take pos++vu rep.data.toList (s.size-pos) false (s.data.toList.drop pos)=ANS):=hsp;clear hgood hsp;have hszW:w.heap.size+1<W.heap.size:=(Array.getElem?_eq_some_iff.1 hit2).1;by_cases h5:R=65533
   ·have h5z:(R:Int)=65533:=oA
    have cD:=decC (s.extract pos s.size) W (Utf8Tabs_below hT hbw2);rw[hdg,hR,hK]at cD;by_cases hk:K=1
    ·
     have hkz:(K:Int)=1:=oA
     have hkb:((K:Int)==1)=true:=by simp[hkz]
     go_wp2_with (go_at_call 137;go_must (refine cD.mono ?_;rintro e W3 ⟨rfl,b3⟩))
     have hfr3:=(b3.block _ (show w.heap.size<W.heap.size by omega)).trans hfr2
     have hbw3:=hbw2.trans (b3.mono (show w.heap.size<=W.heap.size by omega))
     have hs0:=HP.out;clear cD hnx hit2 hfr2 hbw2 hdg HS hszW HP;have cG:=zwo w.heap.size (s.size+rep.size) W3 hfr3 hbw3.size oA
     go_fit cG
     rintro e W4 ⟨rfl,⟨h4,b4⟩,p4,cap4,hc4,hcap4⟩
     have hxs:(s.extract 0 pos).size=pos:=by rw[Lib.size_eq,Lib.extract_data,List.length_take,List.length_drop,ac];omega
     have hxd:(s.extract 0 pos).data.toList=s.data.toList.take pos:=by rw[Lib.extract_data];simp
     have cW:=q5z w.heap.size [] (s.extract 0 pos) W4 (Lib.IsBuilderF.of (Or.inr h4)) (by rw[hxs];simp;omega) (Nat.le_trans hbw3.size b4.size)
     go_wp2_with (go_at_call 42;go_must (refine cW.mono ?_;rintro e W5 ⟨rfl,⟨h5w,b5,-⟩,hcp⟩))
     have hb5:Below w.heap.size w W5:=(hbw3.trans b4).trans b5;have hcells:[]++Lib.strCells (s.extract 0 pos)=Lib.byteCells (s.data.toList.take pos):=by
      rw[List.nil_append,Lib.strCells_eq,hxd]
     rw[hcells]at h5w;obtain⟨p5,n5,cap5,hc5,hcap5⟩:∃p5 n5 cap5,W5.cell? ⟨w.heap.size,1,none⟩=some (.slice p5 n5 cap5)/\1<=cap5:=by
      obtain⟨v1,hv1,hle⟩:=hcp _ hc4;obtain⟨_,v6,hv6,hown6,_⟩:=h5w;have hv:W5.cell? ⟨w.heap.size,1,none⟩=some v6:=by rw[Lib.cell_of_heap hv6];rfl
      rw[hv1]at hv;have:=qJ hv;subst this;have hle:cap4<=v1.capOf:=hle;rcases hown6.2 with⟨rfl,h0⟩|⟨g6,cap6,_,_,rfl,_⟩
      ·have:cap4<=0:=hle;omega
      ·have:cap4<=cap6:=hle;exact⟨_,_,cap6,hv1,oA⟩
     clear hcp hc4;have hcapz:¬((cap5:Int)=0):=oA
     have hcapb:((cap5:Int)==0)=false:=by simp;omega
     have cC:=zfa w.heap.size p5 n5 cap5 W5 hc5;obtain⟨s2,hs2⟩:∃s2,s.extract pos s.size=s2:=⟨_,rfl⟩;have hl2:s2.data.toList=s.data.toList.drop pos:=by
      rw[← hs2,Lib.extract_data,List.take_of_length_le (by rw[List.length_drop,ac];omega)]
     have hz2:s2.size=s.size-pos:=by rw[Lib.size_eq,hl2,List.length_drop,ac]
     go_wp2_with (go_at_call 337;go_must (refine cC.mono ?_;rintro e W6 ⟨rfl,rfl⟩))
     have hrl:rep.data.toList.length=rep.size:=(Lib.size_eq rep).symm
     go_loopg [10,11] s2.size (fun gk s10 s11 wx=>∃(p2:Nat)(acc:List UInt8)(inv:Bool),s10 = .bool inv/\s11 = .int .i64 p2/\Lib.IsBuilderF 84 5 w.heap.size w.heap.size (Lib.byteCells acc) wx/\Below w.heap.size w wx /\
      acc++vu rep.data.toList (s2.size-p2) inv (s2.data.toList.drop p2)=ANS/\s2.size<=p2+gk/\p2<=s2.size/\acc.length<=pos+1001*p2)
     case atStart=>
      refine⟨0,s.data.toList.take pos,false,rfl,rfl,Or.inr h5w,hb5,?_,oA,oA,?_⟩
      ·rw[List.drop_zero,hl2,hz2];exact hs0
      ·rw[List.length_take,ac];omega
     case round=>
      obtain⟨p2,acc,inv,rfl,rfl,hI,hbw,hacc,hfu2,hp2,hal⟩:=hrel;have hbs:w.heap.size<=wr.heap.size:=hbw.size;by_cases hlt2:p2<s2.size
      ·obtain⟨g2,rfl⟩:∃g2,gk=g2+1:=⟨gk-1,oA⟩
       have hne2:s2.data.toList.drop p2≠[]:=by
        intro h0;have:=congrArg List.length h0;rw[List.length_drop,← Lib.size_eq,qZ]at this;omega
       have hwd2:=Lib.width_pos s2 p2;have hwn2:p2+(Utf8.decode s2 p2).2<=s2.size:=by
        have:=Lib.decodeL_le _ hne2;rw[Lib.decodeL_drop,List.length_drop,← Lib.size_eq]at this;omega
       have hgood:=qr5 rep.data.toList (s2.size-p2-1) inv _ hne2;have hbad:=q5r rep.data.toList (s2.size-p2-1) inv _ hne2;have hdg:=zf1 s2 p2 hlt2;have hlow:=zva s2 p2 hlt2;have hhigh:=zu9 s2 p2 hlt2;rw[Lib.decodeL_drop,List.drop_drop,show s2.size-p2-1+1=s2.size-p2 by omega]at hgood hbad
       have hl3:s2.data.toList.length=s2.size:=(Lib.size_eq s2).symm;obtain⟨c,hc⟩:∃c,s2[p2]'hlt2=c:=⟨_,rfl⟩;have hd2:p2<s2.data.size:=hlt2;have hcd:s2.data[p2]'hd2=c:=hc;have hcg:s2.get! p2=c:=by
        show s2.data[p2]! = c;rw[getElem!_pos s2.data p2 hd2];exact hcd
       rw[hcg]at hlow hhigh;obtain⟨R2,hR2⟩:∃R2,(Utf8.decode s2 p2).1=R2:=⟨_,rfl⟩;obtain⟨K2,hK2⟩:∃K2,(Utf8.decode s2 p2).2=K2:=⟨_,rfl⟩;rw[hK2]at hwd2 hwn2;have HG:Aside (¬(R2=65533/\K2=1)->(acc++(s2.data.toList.drop p2).take K2)++vu rep.data.toList (s2.size-(p2+K2)) false (s2.data.toList.drop (p2+K2))=ANS):=by
        intro h;rw[← hacc,hgood (by rw[hR2,hK2];exact h),hK2,qS]
        congr 2;exact qk0 _ _ _ _ _ (by rw[List.length_drop,hl3];omega) (by rw[List.length_drop,hl3];omega)
       have HB:Aside (R2=65533/\K2=1->(acc++(if inv then[] else rep.data.toList))++vu rep.data.toList (s2.size-(p2+1)) true (s2.data.toList.drop (p2+1))=ANS):=by
        intro h;rw[← hacc,hbad (by rw[hR2,hK2];exact h),qS]
        congr 2
       have hxl:(s2.extract p2 (p2+K2)).data.toList=(s2.data.toList.drop p2).take K2:=by
        rw[Lib.extract_data,Nat.add_sub_cancel_left]
       have hxz:(s2.extract p2 (p2+K2)).size=K2:=by rw[Lib.size_eq,hxl,List.length_take,List.length_drop,hl3];omega
       have hcl:acc.length<=1001000000:=oA
       have hbl:(Lib.byteCells acc).length=acc.length:=Lib.byteCells_length acc;clear hgood hbad hacc hs0;have H1:Aside (s2.data.toList.length=s2.size/\(s2.extract p2 (p2+K2)).data.toList=(s2.data.toList.drop p2).take K2/\(Lib.byteCells acc).length=acc.length/\rep.data.toList.length=rep.size):=⟨hl3,hxl,hbl,hrl⟩;have H2:Aside (c.toNat<128->R2=c.toNat/\K2=1):=fun h=>by
        have hd:=hlow h;rw[hd]at hR2 hK2;exact⟨hR2.symm,hK2.symm⟩
       have H3:Aside (¬c.toNat<128->K2=1->R2=65533):=fun h hk=>by
        have:=hhigh h (by rw[hK2];exact hk)
        rw[← hR2];exact this
       have H4:Aside ((List.drop p2 s2.data.toList).take 1=[c]):=by
        show _=_;have hlt':p2<s2.data.toList.length:=by rw[hl3];exact hlt2
        rw[List.drop_eq_getElem_cons hlt',List.take_succ_cons,List.take_zero,Array.getElem_toList,hcd]
       have cD:=decC (s2.extract p2 s2.size) wr (Utf8Tabs_below hT hbw);rw[hdg,hR2,hK2]at cD;have hsz2:s2.size<=s.size:=by rw[hz2];exact Nat.sub_le _ _
       have HW1:Aside (wrap64 ((p2:Int)+1)=(p2:Int)+1):=z4z _ (Nat.le_trans hlt2 (Nat.le_trans hsz2 (Nat.le_trans hs oE)))
       have HWK:Aside (wrap64 ((p2:Int)+(K2:Int))=(p2:Int)+(K2:Int)):=z4y _ _ (Nat.le_trans hwn2 (Nat.le_trans hsz2 (Nat.le_trans hs oE)))
       have HM:Aside (s2.size<=p2+1+g2/\s2.size<=p2+K2+g2/\acc.length+1<=pos+1001*(p2+1)/\acc.length+rep.size<=pos+1001*(p2+1)/\acc.length+K2<=pos+1001*(p2+K2)/\acc.length<=pos+1001*(p2+1)/\acc.length+1<=140737488355328/\acc.length+rep.size<=140737488355328/\acc.length+K2<=140737488355328):=by
        refine⟨?_,?_,?_,?_,?_,?_,?_,?_,?_⟩<;>omega
       clear hal hcl hfu2;clear hcd hcg hlow hhigh hdg hR2 hK2 hl3 hxl hbl hrl hs2 hl2 ac hne2 hz2 hxs hxd hcells hne hR hK;by_cases h128:c.toNat<128
       ·
        obtain⟨_,hk1⟩:=H2.out h128;subst hk1;have H5:Aside (acc++[c]++vu rep.data.toList (s2.size-(p2+1)) false (List.drop (p2+1) s2.data.toList)=ANS):=by
         have:=HG.out oA
         rw[H4.out]at this;exact this
        have cB:=z4n w.heap.size (Lib.byteCells acc) c.toNat wr hI (by rw[H1.out.2.2.1];exact HM.out.2.2.2.2.2.2.1) hbs
        clear HG HB H2 H3 H4 cD;have h128z:(c.toNat:Int)<128:=oA
        go_wp2_with (go_at_call 156;go_must (refine cB.mono ?_;rintro e W7 ⟨rfl,h7,b7,k7⟩))
        go_roundg g2
        case measure=>exact Nat.lt_succ_self _
        case rel=>
         refine⟨p2+1,acc++[c],false,rfl,by first|exact qv p2|exact(congrArg (Value.int .i64) HW1.out).trans (qv p2),Or.inr ?_,hbw.trans b7,H5.out,HM.out.1,hlt2,by rw[qM];exact HM.out.2.2.1⟩
         rw[Lib.byteCells_append];exact h7
       ·have h128z:¬((c.toNat:Int)<128):=oA
        by_cases hk:K2=1
        ·have hr2:=H3.out h128 hk;have H5:Aside ((acc++(if inv then[] else rep.data.toList))++vu rep.data.toList (s2.size-(p2+1)) true (List.drop (p2+1) s2.data.toList)=ANS):=HB.out ⟨hr2,hk⟩
         have hkz:(K2:Int)=1:=oA
         have hkb:((K2:Int)==1)=true:=by simp[hkz]
         clear HG HB H2 H3 H4
         cases inv with
         |true=>
          go_wp2_with (go_at_call 137;go_must (refine cD.mono ?_;rintro e W7 ⟨rfl,b7⟩))
          go_roundg g2
          case measure=>exact Nat.lt_succ_self _
          case rel=>
           refine⟨p2+1,acc,true,rfl,by first|exact qv p2|exact(congrArg (Value.int .i64) HW1.out).trans (qv p2),q01 hI b7,hbw.trans (b7.mono hbs),?_,HM.out.1,hlt2,HM.out.2.2.2.2.2.1⟩
           have h:(acc++[])++vu rep.data.toList (s2.size-(p2+1)) true (List.drop (p2+1) s2.data.toList)=ANS:=H5.out;rw[List.append_nil]at h;exact h
         |false=>
          go_wp2_with (go_at_call 137;go_must (refine cD.mono ?_;rintro e W7 ⟨rfl,b7⟩))
          have cW:=q5z w.heap.size (Lib.byteCells acc) rep W7 (q01 hI b7) (by rw[H1.out.2.2.1];exact HM.out.2.2.2.2.2.2.2.1) (Nat.le_trans hbs b7.size)
          go_wp2_with (go_at_call 42;go_must (refine cW.mono ?_;rintro e W8 ⟨rfl,⟨h8,b8,-⟩,-⟩))
          go_roundg g2
          case measure=>exact Nat.lt_succ_self _
          case rel=>
           refine⟨p2+1,acc++rep.data.toList,true,rfl,by first|exact qv p2|exact(congrArg (Value.int .i64) HW1.out).trans (qv p2),Or.inr ?_,(hbw.trans (b7.mono hbs)).trans b8,?_,HM.out.1,hlt2,by rw[qM,H1.out.2.2.2];exact HM.out.2.2.2.1⟩
           ·rw[Lib.byteCells_append,← Lib.strCells_eq];exact h8
           ·have h:(acc++rep.data.toList)++vu rep.data.toList (s2.size-(p2+1)) true (List.drop (p2+1) s2.data.toList)=ANS:=H5.out;exact h
        ·have hkz:¬((K2:Int)=1):=oA
         have hkb:((K2:Int)==1)=false:=by simp;omega
         have H5:=HG.out (fun h=>hk h.2)
         go_wp2_with (go_at_call 137;go_must (refine cD.mono ?_;rintro e W7 ⟨rfl,b7⟩))
         have cW:=q5z w.heap.size (Lib.byteCells acc) (s2.extract p2 (p2+K2)) W7 (q01 hI b7) (by rw[H1.out.2.2.1,hxz];exact HM.out.2.2.2.2.2.2.2.2) (Nat.le_trans hbs b7.size)
         go_wp2_with (go_at_call 42;go_must (refine cW.mono ?_;rintro e W8 ⟨rfl,⟨h8,b8,-⟩,-⟩))
         go_roundg g2
         case measure=>exact Nat.lt_succ_self _
         case rel=>
          refine⟨p2+K2,acc++(s2.data.toList.drop p2).take K2,false,rfl,by first|exact vI p2 K2|exact(congrArg (Value.int .i64) HWK.out).trans (vI p2 K2),Or.inr ?_,(hbw.trans (b7.mono hbs)).trans b8,H5,HM.out.2.1,hwn2,?_⟩
          ·rw[Lib.byteCells_append,← H1.out.2.1,← Lib.strCells_eq];exact h8
          ·rw[qM,← H1.out.2.1,← Lib.size_eq,hxz];exact HM.out.2.2.2.2.1
      ·
       obtain rfl:p2=s2.size:=oA
       have cS:=z3h w.heap.size acc wr hI hbs
       go_wp2_with (go_at_call 43;go_must (refine cS.mono ?_;rintro e W8 ⟨rfl,_,b8⟩))
       go_ret
       refine⟨?_,hbw.trans b8⟩;rw[Lib.size_eq,List.drop_length,y5,List.append_nil]at hacc;subst hacc;rfl
    ·have hkz:¬((K:Int)=1):=oA
     have hkb:((K:Int)==1)=false:=by simp;omega
     have hs3:=HS.out (fun h=>hk h.2)
     go_wp2_with (go_at_call 137;go_must (refine cD.mono ?_;rintro e W3 ⟨rfl,b3⟩))
     go_roundg g'
     case measure=>omega
     case rel=>exact⟨rfl,pos+K,(b3.block _ (by show _<W.heap.size;omega)).trans hfr2,(b3.block _ (by show _<W.heap.size;omega)).trans hit2,hbw2.trans (b3.mono (by show _<=W.heap.size;omega)),hs3,oA,hwn⟩
   ·have h5':¬((R:Int)=65533):=oA
    have hs3:=HS.out (fun h=>h5 h.1)
    go_wp2
    go_roundg g'
    case measure=>omega
    case rel=>exact⟨rfl,pos+K,hfr2,hit2,hbw2,hs3,oA,hwn⟩
  ·
   obtain rfl:pos=s.size:=oA
   have hnx:∀ty,(Instr.next (.pointer (some ⟨w.heap.size+1,0,none⟩)) true ty).run Tryz.prog wr=_:=fun ty=>Lib.run_next_end_at wr (w.heap.size+1) s s.size ty hit hlt
   have cC:=zfa w.heap.size none 0 0 wr (by rw[Lib.cell_of_heap hfr];rfl)
   go_wp2_with (go_at_call 337;go_must (refine cC.mono ?_;rintro e W' ⟨rfl,rfl⟩))
   go_ret
   refine⟨?_,hbw⟩;rw[← hsp,← ac,List.drop_length,List.take_length,y5,List.append_nil];rfl
end Go.Proofs.ToValid
namespace Go.Sym
open Go.Proofs Go.RowKit
open Go.Proofs.Tryz
variable[LC]
def xi(t:List UInt8):Bool:=(List.range 256).all fun c=>match t[c]? with|some x=>Nat.beq x.toNat (Lib.firstT c)|none=>false
def xj(t:List (UInt8×UInt8)):Bool:=(List.range 16).all fun c=>match t[c]? with|some x=>Nat.beq x.1.toNat (Lib.accLo c)&&Nat.beq x.2.toNat (Lib.accHi c)|none=>false
def q5m{G:Gh}{w:World}(hm:bq G [] w){t0:List UInt8}{t1:List (UInt8×UInt8)}(h0:LC.glob 0=some ⟨.byte,t0⟩)(h1:LC.glob 1=some ⟨.prod .byte .byte,t1⟩)(e0:xi t0=true)(e1:xj t1=true):Lib.Utf8Tabs 0 1 w:=by
 refine⟨fun c hc => ?_,fun i hi => ?_⟩
 ·have h:=List.all_eq_true.1 e0 c (List.mem_range.2 hc)
  cases hx:t0[c]? with
  |none=>rw[hx]at h;cases h
  |some x=>
   rw[hx]at h;have ha:G.imm 0 (c*1)=some (.int .u8 x.toNat):=hm.tab.1 _ _ _ h0 c x hx;rw[Nat.mul_one]at ha;rw[hm.agree _ _ _ ha,qN h]
 ·have h:=List.all_eq_true.1 e1 i (List.mem_range.2 hi)
  cases hx:t1[i]? with
  |none=>rw[hx]at h;cases h
  |some x=>
   rw[hx]at h;simp only[qA]at h;have ha:G.imm 1 (i*2)=some (.int .u8 x.1.toNat)/\G.imm 1 (i*2+1)=some (.int .u8 x.2.toNat):=hm.tab.1 _ _ _ h1 i x hx;rw[Nat.mul_comm]at ha;exact⟨by rw[hm.agree _ _ _ ha.1,qN h.1],by rw[hm.agree _ _ _ ha.2,qN h.2]⟩
def z3y{G:Gh}{w:World}(hm:bq G [] w){t0:List UInt8}{t1:List (UInt8×UInt8)}(h0:LC.glob 0=some ⟨.byte,t0⟩)(h1:LC.glob 1=some ⟨.prod .byte .byte,t1⟩)(e0:xi t0=true)(e1:xj t1=true)(s o:Bs)(d1:s.length<=1000000)(d2:o.length<=1000) :
  Calls Tryz.prog 332 #[.string ⟨s.toArray⟩,.string ⟨o.toArray⟩] w fun e w'=>e = .returned (.string ⟨(vu o s.length false s).toArray⟩)/\cd w w':=by
 refine(ToValid.tovalid ⟨s.toArray⟩ ⟨o.toArray⟩ w (by rw[iv];exact d1) (by rw[iv];exact d2) (q5m hm h0 h1 e0 e1)).mono ?_
 rintro e w' ⟨rfl,hw⟩
 exact⟨by rw[iv],cd.of_below hw⟩
def zmc:IF:=⟨.fn 332,[.h .str,.h .str],[],_,RS.mk (.h .str) []⟩
def z3z{t0:List UInt8}{t1:List (UInt8×UInt8)}(h0:LC.glob 0=some ⟨.byte,t0⟩)(h1:LC.glob 1=some ⟨.prod .byte .byte,t1⟩)(e0:xi t0=true)(e1:xj t1=true):(zmc.e qhs).Sound Tryz.prog:=fun d d' r h=>by
 obtain⟨s,o,_⟩:=d;have h:qhs s o=some r:=h;unfold qhs at h;cases hd:decide (List.length (α:=UInt8) s<=1000000/\List.length (α:=UInt8) o<=1000)<;>rw[hd]at h<;>simp only[qT,qF,reduceCtorEq]at h
 have h:=qJ h;subst h;obtain⟨d1,d2⟩:=of_decide_eq_true hd;refine⟨call332,ce.data fun w G vs hm hr => ?_⟩
 match vs,hr with
 |[u,v],⟨h1',h2',_⟩=>
  have h1':u = .string ⟨s.toArray⟩:=h1';have h2':v = .string ⟨o.toArray⟩:=h2';subst h1' h2';exact(z3y hm h0 h1 e0 e1 s o d1 d2).mono fun e w'⟨he,hw⟩=>⟨_,he,rfl,hw⟩
def z4h{G:Gh}{w:World}(hm:bq G [] w){t0:List UInt8}{t1:List (UInt8×UInt8)}(h0:LC.glob 0=some ⟨.byte,t0⟩)(h1:LC.glob 1=some ⟨.prod .byte .byte,t1⟩)(e0:xi t0=true)(e1:xj t1=true)(s:Bs)(d1:s.length<=9223372036854775807) :
  Calls Tryz.prog 81 #[.string ⟨s.toArray⟩] w fun e w'=>e = .returned (.bool (Lib.validD s))/\cd w w':=by
 refine(Any.utf8_ValidString Tryz.lays196 ⟨s.toArray⟩ w (by rw[iv];exact d1) (q5m hm h0 h1 e0 e1)).mono ?_
 rintro e w' ⟨rfl,hw⟩
 exact⟨rfl,cd.of_below hw⟩
def qkz:IF:=⟨.fn 81,[.h .str],[],_,RS.mk (.h .bool) []⟩
def qr4{t0:List UInt8}{t1:List (UInt8×UInt8)}(h0:LC.glob 0=some ⟨.byte,t0⟩)(h1:LC.glob 1=some ⟨.prod .byte .byte,t1⟩)(e0:xi t0=true)(e1:xj t1=true):(qkz.e ic).Sound Tryz.prog:=fun d d' r h=>by
 obtain⟨s,_⟩:=d;have h:ic s=some r:=h;unfold ic at h;cases hd:decide (List.length (α:=UInt8) s<=9223372036854775807)<;>rw[hd]at h<;>simp only[qT,qF,reduceCtorEq]at h
 have h:=qJ h;subst h;have d1:=of_decide_eq_true hd;refine⟨call81,ce.data fun w G vs hm hr => ?_⟩
 match vs,hr with
 |[u],⟨h1',_⟩=>
  have h1':u = .string ⟨s.toArray⟩:=h1';subst h1';exact(z4h hm h0 h1 e0 e1 s d1).mono fun e w'⟨he,hw⟩=>⟨_,he,rfl,hw⟩
end Go.Sym
namespace Go.Sym
open Go.RowKit
variable[LC]
section
variable{P:Program}{vif:World}{vh8:Gh}{vic:List (Nat×ag)}{G:Gh}{s:St}{a:Act}{w:World}
def ai.drewOk(hr:ai vif vh8 vic G s a w):ai vif vh8 vic G s a w.drew:=
 ⟨hr.defers,hr.size,hr.frame,hr.fresh,⟨⟨hr.fin.mem.agree,hr.fin.mem.one,hr.fin.mem.holds,hr.fin.mem.apart,LC.mono (fun _ _ _ h=>h) (fun _ _ _ _=>rfl) hr.fin.mem.tab⟩,⟨hr.fin.bel.os,hr.fin.bel.tape,hr.fin.bel.output,hr.fin.bel.size,hr.fin.bel.block⟩,hr.fin.imm_le,hr.fin.imm_new,hr.fin.base,hr.fin.keep,hr.fin.keepOwn⟩⟩
def ak.setAt{G:Gh}{x:AV}{v:Value}(hx:aj x G v):∀{xs:List AV}{vs:List Value}{i:Nat},ak xs G vs->ak (xs.set i x) G (vs.set i v)|[],[],_,_=>trivial|_::_,_::_,0,h=>⟨hx,h.2⟩|_::_,_::_,_+1,h=>⟨h.1,ak.setAt hx h.2⟩|[],_::_,_,h=>h.elim|_::_,[],_,h=>h.elim
def ai.setCellAt(hr:ai vif vh8 vic G s a w){n B i:Nat}{cs:List AV}{T:TypeId}{x:AV}{v:Value}(hn:af s.hp n=some (.cells cs T))(hB:G.box n=some B)(hx:aj x G v)(h1:v.oneCell'=true) :
  ai vif vh8 vic G { s with hp:=(n,.cells (cs.set i x) T)::s.hp } a (w.setCell ⟨B,i,none⟩ v):=by
 obtain⟨B',vs,k1,k2,k3,k4,k5⟩:=hr.fin.mem.holds n _ hn;rw[hB]at k1;cases k1;have hheap:(w.setCell ⟨B,i,none⟩ v).heap[B]? = some (.cells (vs.setIfInBounds i v) T (0,0)):=by
  simp[World.setCell,Array.getElem?_modify,k2]
 have hbel:bu (fun b=>b=B) w (w.setCell ⟨B,i,none⟩ v):=
  ⟨rfl,rfl,rfl,by simp[World.setCell],fun k _ hne=>by
   simp only[World.setCell,Array.getElem?_modify];rw[qW (fun e=>hne e.symm)]⟩
 have hat:∀cs',G.at n (.cells cs' T)=some B:=fun _=>hB
 refine⟨hr.defers,hr.size,hr.frame,fun m hm hl=>hr.fresh m hm (by
  simp only[af]at hl;cases hb:Nat.beq n m
  ·rw[hb]at hl;exact hl
  ·rw[hb]at hl;cases hl),hr.fin.update hn (hat cs) (hat _) hbel ⟨B,_,hB,hheap,?_,?_,k5⟩ k5⟩
 ·rw[Array.toList_setIfInBounds];exact ak.setAt hx k3
 ·intro u hu;rw[Array.toList_setIfInBounds]at hu;rcases List.mem_or_eq_of_mem_set hu with hu|hu
  ·exact k4 u hu
  ·rw[hu];exact h1
def ai.cellAt(hr:ai vif vh8 vic G s a w){n B i:Nat}{cs:List AV}{T:TypeId}{x:AV}(hn:af s.hp n=some (.cells cs T))(hB:G.box n=some B)(hx:cs[i]? = some x) :
  ∃v,w.cell? ⟨B,i,none⟩=some v/\aj x G v/\w.frozen? ⟨B,i,none⟩=false:=by
 obtain⟨B',vs,k1,k2,k3,k4,k5⟩:=hr.fin.mem.holds n _ hn;rw[hB]at k1;cases k1;obtain⟨v,v1,v2⟩:=jx k3 hx;refine⟨v,cell_of_heap k2 v1,v2,?_⟩;simp only[World.frozen?,k2];simp
def ai.start{G:Gh}{hp:List (Nat×ag)}{w:World}{N:NM}(hm:bq G hp w)(h:∀n b,af hp n=some b->aw N n=some n/\d7 (aw N) b=b)(hN:∀n,af hp n=none->ay N n=none)(k:Nat) :
  ai w (G.view N) hp (G.view N) { n:=k,fr:=[],hp:=hp,nx:=64,df:=[] } { tmps:=Array.replicate k undef,defers:=[] } w:=by
 refine⟨⟨[],rfl,rfl⟩,oB,fun i x hx=>(by cases hx),fun m _ hl => ?_,ut (hm.only h)⟩
 have:=hN m hl;simp[Gh.view,this]
end
end Go.Sym
set_option linter.unusedVariables false
namespace Go.Proofs.Repl
open Go.Shelf Go.RowKit Go.Lib Go.Sym
def rv(a b:UInt8)(ga gb ca cb:Nat)(c:UInt8):Value:=if c=a then .slice (some ⟨ga,0,none⟩) 2 ca else if c=b then .slice (some ⟨gb,0,none⟩) 2 cb else .slice none 0 0
structure lx(R:Nat)(a b a1 a2 b1 b2:UInt8)(w:World):Prop where
 ex:∃ga gb gt ca cb ct,(∀c:UInt8,w.cell? ⟨R,c.toNat,none⟩=some (rv a b ga gb ca cb c))/\w.cell? ⟨R,256,none⟩=some (.slice (some ⟨gt,0,none⟩) 2 ct) /\
  w.cell? ⟨gt,0,none⟩=some (.string ⟨#[b]⟩)/\w.cell? ⟨gt,1,none⟩=some (.string ⟨#[a]⟩) /\
  w.cell? ⟨ga,0,none⟩=some (.int .u8 a1.toNat)/\w.cell? ⟨ga,1,none⟩=some (.int .u8 a2.toNat)/\w.cell? ⟨gb,0,none⟩=some (.int .u8 b1.toNat)/\w.cell? ⟨gb,1,none⟩=some (.int .u8 b2.toNat)
def lx.below{R:Nat}{a b a1 a2 b1 b2:UInt8}{w w':World}(h:lx R a b a1 a2 b1 b2 w)(hb:Below w.heap.size w w'):lx R a b a1 a2 b1 b2 w':=by
 have k:∀{p:Addr}{v:Value},w.cell? p=some v->w'.cell? p=some v:=fun{p v} hc=>(hb.cell (World.block_lt_of_cell? _ _ hc)).trans hc
 obtain⟨ga,gb,gt,ca,cb,ct,h1,h2,h3,h4,h5,h6,h7,h8⟩:=h.ex;exact⟨ga,gb,gt,ca,cb,ct,fun c=>k (h1 c),k h2,k h3,k h4,k h5,k h6,k h7,k h8⟩
def zfp(s:ByteArray)(c:UInt8)(w:World) :
  Calls Tryz.prog 263 #[.string s,.string ⟨#[c]⟩] w fun e w'=>e = .returned (.int .i64 (Lib.countByte s.data.toList c))/\w'=w:=
 Any.strings_Count_one Tryz.lays138 s c w
def z14{w:World}{g:Nat}{t:TypeId}{N:Nat}{f:Nat->Value}{cur:Array Value}(hg:w.heap[g]? = some (.cells cur t (0,0)))(hz:cur.size=N)(hc:∀i,i<N->cur[i]? = some (f i)){j:Nat}(hj:j+2<=N)(v1 v2:Value) :
  (w.setRow g (cur.toList.take j++[v1,v2]++cur.toList.drop (j+2)).toArray).rowIs g t N (fun i=>if i=j then v1 else if i=j+1 then v2 else f i):=by
 have hl:cur.toList.length=N:=by simpa using hz
 refine⟨_,setRow_heap w g cur _ t _ hg,oD,fun i hi => ?_⟩
 simp only[List.getElem?_toArray];rw[qS];by_cases h1:i<j
 ·rw[List.getElem?_append_left oD,List.getElem?_take,qX h1,qW oA,qW oA,← hc i hi];simp
 ·rw[List.getElem?_append_right oD,show(cur.toList.take j).length=j by simp;omega]
  by_cases h2:i=j
  ·subst h2;simp
  ·by_cases h3:i=j+1
   ·subst h3;rw[qW h2,qX rfl,show j+1-j=1 by omega];rfl
   ·rw[qW h2,qW h3,List.getElem?_append_right oD,List.getElem?_drop,← hc i hi]
    simp;congr 1;omega
def qz6(b o n:Nat):(⟨b,o,none⟩:Addr).add n=⟨b,o+n,none⟩:=by unfold Addr.add;split<;>simp_all
def zfo{w:World}{G ga j M c:Nat}{f:Nat->Value}{x1 x2:UInt8}(hrow:w.rowIs G 5 M f)(hj:j+2<=M)(h0:w.cell? ⟨ga,0,none⟩=some (.int .u8 x1.toNat))(h1:w.cell? ⟨ga,1,none⟩=some (.int .u8 x2.toNat)) :
  ∃ROW,(Builtin.copy_ #[23,23] 3 #[.slice (some ⟨G,j,none⟩) (M-j) (M-j),.slice (some ⟨ga,0,none⟩) 2 c]).run Tryz.prog w = .ok (.int .i64 2) (w.setRow G ROW) /\
   (w.setRow G ROW).rowIs G 5 M (fun i=>if i=j then .int .u8 x1.toNat else if i=j+1 then .int .u8 x2.toNat else f i):=by
 obtain⟨cur,k1,k2,k3⟩:=hrow;refine⟨_,?_,z14 k1 k2 k3 hj _ _⟩;exact run_copy_row (P:=Tryz.prog) w 23 23 3 5 G j (M-j) (M-j) ⟨ga,0,none⟩ 2 c cur 5 [.int .u8 x1.toNat,.int .u8 x2.toNat] Tryz.underlying23 oC k1
  (by show 2=Nat.min 2 (M-j);exact(Nat.min_eq_left oA).symm)
  (fun i v hv=>by
   rw[qz6]
   match i,hv with
   |0,hv=>cases hv;exact h0
   |1,hv=>cases hv;exact h1
   | i+2,hv=>cases hv)
  (by show j+2<=cur.size;omega) (fun v hv=>by
   rcases List.mem_cons.1 hv with rfl|hv
   ·rfl
   ·rcases List.mem_cons.1 hv with rfl|hv
    ·rfl
    ·cases hv)
def bv(l:Bs)(j:Nat):Value := .int .u8 (l.getD j 0).toNat
def ze3(l m:Bs)(j:Nat)(h:j<l.length):bv (l++m) j=bv l j:=by unfold bv;rw[List.getD_eq_getElem?_getD,List.getD_eq_getElem?_getD,List.getElem?_append_left h]
def ze2(l m:Bs)(c:UInt8):bv (l++c::m) l.length = .int .u8 c.toNat:=by unfold bv;rw[List.getD_eq_getElem?_getD,List.getElem?_append_right (wF _),Nat.sub_self];rfl
def zt2(l m:Bs)(c d:UInt8):bv (l++c::d::m) (l.length+1) = .int .u8 d.toNat:=by unfold bv;rw[List.getD_eq_getElem?_getD,List.getElem?_append_right oA,show l.length+1-l.length=1 by omega];rfl
def qi2(l:Bs)(j:Nat)(h:l.length<=j:=by omega):bv l j = .int .u8 0:=by unfold bv;rw[List.getD_eq_getElem?_getD,List.getElem?_eq_none h];rfl
def ze4(l:Bs)(c d:UInt8)(i:Nat):(if i=l.length then Value.int .u8 c.toNat else if i=l.length+1 then .int .u8 d.toNat else bv l i)=bv (l++[c,d]) i:=by
 by_cases h:i<l.length
 ·rw[qW oA,qW oA,ze3 _ _ _ h]
 ·by_cases h1:i=l.length
  ·subst h1;rw[qX rfl,ze2]
  ·by_cases h2:i=l.length+1
   ·subst h2;rw[qW h1,qX rfl,zt2]
   ·rw[qW h1,qW h2,qi2 _ _,qi2 _ _ oD]
def zt3(l:Bs)(c:UInt8)(i:Nat):(if i=l.length then Value.int .u8 c.toNat else bv l i)=bv (l++[c]) i:=by
 by_cases h:i<l.length
 ·rw[qW oA,ze3 _ _ _ h]
 ·by_cases h1:i=l.length
  ·subst h1;rw[qX rfl,ze2]
  ·rw[qW h1,qi2 _ _,qi2 _ _ oD]
def vI2(p:Nat):Value.int .i64 ((p:Int)+2) = .int .i64 ((p+2:Nat):Int):=by rw[Int.natCast_add];rfl
def qv(p:Nat):Value.int .i64 ((p:Int)+1) = .int .i64 ((p+1:Nat):Int):=by rw[Int.natCast_add];rfl
def zm0(n:Nat)(h:n<=4000000:=by omega):wrap64 (n:Int)=(n:Int):=by unfold wrap64;omega
def zyv(p:Addr)(n c:Nat)(w:World):(binOp .neq 23 (.slice (some p) n c) (.slice none 0 0)).run Tryz.prog w = .ok (.bool true) w:=oC
def zyu(w:World):(binOp .neq 23 (.slice none 0 0) (.slice none 0 0)).run Tryz.prog w = .ok (.bool false) w:=oC
def zv4(p:Addr)(n c:Nat)(w:World):(binOp .eql 23 (.slice (some p) n c) (.slice none 0 0)).run Tryz.prog w = .ok (.bool false) w:=oC
def zv3(w:World):(binOp .eql 23 (.slice none 0 0) (.slice none 0 0)).run Tryz.prog w = .ok (.bool true) w:=oC
set_option maxHeartbeats 4000000 in
set_option maxRecDepth 1000000 in
def ztx(R:Nat)(a b a1 a2 b1 b2:UInt8)(s:ByteArray)(w:World)(hab:a≠b)(hs:s.size<=1000000)(hB:lx R a b a1 a2 b1 b2 w) :
  Calls Tryz.prog 388 #[.pointer (some ⟨R,0,none⟩),.string s] w fun e w'=>e = .returned (.string ⟨(fc a b [a1,a2] [b1,b2] s.data.toList).toArray⟩)/\Below w.heap.size w w':=by
 obtain⟨ga,gb,gt,ca,cb,ct,-,hT,ht0,ht1,-⟩:=hB.ex;obtain⟨L,hL⟩:∃L,s.data.toList=L:=⟨_,rfl⟩;have ac:L.length=s.size:=by rw[← hL];exact(Lib.size_eq s).symm
 rw[hL];have HB:Aside (lx R a b a1 a2 b1 b2 w):=hB;clear hB;have cBc:=fun w=>zfp s b w
 have cAc:=fun w=>zfp s a w
 rw[hL]at cBc cAc;obtain⟨Z,hZ⟩:∃Z,im a b L=Z:=⟨_,rfl⟩;have HZ:Aside (im a b L=Z):=hZ;have hZ2:Z<=2000000:=by
  rw[← hZ];unfold im;have h1:=List.count_le_length (a:=a) (l:=L);have h2:=List.count_le_length (a:=b) (l:=L);omega
 clear hZ;obtain⟨M,hM⟩:∃M,s.size+Z=M:=⟨_,rfl⟩;have HM:Aside (s.size+Z=M):=hM;have hMb:M<=3000000:=oA
 clear hM;have hn1:=zyv;have hn2:=zyu
 go_enter Tryz.func388,Tryz.ntmps388
 go_upto_if 26 with(fail)
 go_cut [5,6] (fun s5 s6 wx=>s5 = .int .i64 (M:Nat)/\s6 = .bool (decide (0<Z))/\Below w.heap.size w wx)
 case first=>
  obtain⟨X,hX⟩:∃X,L.count b=X:=⟨_,rfl⟩;obtain⟨Y,hY⟩:∃Y,L.count a=Y:=⟨_,rfl⟩;have HXY:Aside (Z=Y+X):=by show Z=Y+X;rw[← HZ.out];unfold im;rw[hX,hY]
  have hXl:X<=s.size:=by rw[← hX,← ac];exact List.count_le_length
  have hYl:Y<=s.size:=by rw[← hY,← ac];exact List.count_le_length
  have cBc:∀w,Calls Tryz.prog 263 #[.string s,.string ⟨#[b]⟩] w fun e w'=>e = .returned (.int .i64 (X:Nat))/\w'=w:=fun w=>by rw[← hX];exact cBc w
  have cAc:∀w,Calls Tryz.prog 263 #[.string s,.string ⟨#[a]⟩] w fun e w'=>e = .returned (.int .i64 (Y:Nat))/\w'=w:=fun w=>by rw[← hY];exact cAc w
  clear hX hY
  go_wp2
  ·rename_i h16;clear h16
   go_loopg [5,6,32] 2 (fun gk s5 s6 s32 wx=>Below w.heap.size w wx/\((s32 = .int .i64 0/\s5 = .int .i64 (s.size:Nat)/\s6 = .bool false/\gk=2)\/(s32 = .int .i64 1/\s5 = .int .i64 ((s.size+X:Nat):Int)/\s6 = .bool (decide (0<X))/\gk=1)\/(s32 = .int .i64 2/\s5 = .int .i64 ((s.size+(Y+X):Nat):Int)/\s6 = .bool (decide (0<Y+X))/\gk=0)))
   case atStart=>exact⟨Below.refl _ _,Or.inl ⟨rfl,rfl,rfl,rfl⟩⟩
   case round=>
    obtain⟨hbw,h⟩:=hrel;have ht0':wr.cell? ⟨gt,0,none⟩=some (.string ⟨#[b]⟩):=(hbw.cell (World.block_lt_of_cell? _ _ ht0)).trans ht0;have ht1':wr.cell? ⟨gt,1,none⟩=some (.string ⟨#[a]⟩):=(hbw.cell (World.block_lt_of_cell? _ _ ht1)).trans ht1;clear ht0 ht1;rcases h with⟨rfl,rfl,rfl,rfl⟩|⟨rfl,rfl,rfl,rfl⟩|⟨rfl,rfl,rfl,rfl⟩
    ·have cX:=cBc wr;by_cases h0:X=0
     ·subst h0
      go_wp2_with (go_at_call 263;go_must (refine cX.mono ?_;rintro e W1 ⟨rfl,rfl⟩))
      go_roundg 1
      case measure=>omega
      case rel=>exact⟨hbw,Or.inr (Or.inl ⟨rfl,rfl,rfl,rfl⟩)⟩
     ·have hz:¬((X:Int)=0):=oA
      obtain⟨ga',gb',gt',ca',cb',ct',hR,-⟩:=(HB.out.below hbw).ex;have hRb:wr.cell? ⟨R,b.toNat,none⟩=some (.slice (some ⟨gb',0,none⟩) 2 cb'):=by rw[hR b];unfold rv;rw[qW (fun h=>hab h.symm),qX rfl]
      clear hR;have g0:∀h,(⟨#[b]⟩:ByteArray)[0]'h=b:=fun _=>rfl
      have g1:(b.toNat:Int)<256:=by have:=b.toNat_lt;omega
      go_wp2_with (go_at_call 263;go_must (refine cX.mono ?_;rintro e W1 ⟨rfl,rfl⟩))
      go_region
      all_goals go_wp2
      go_roundg 1
      case measure=>omega
      case rel=>exact⟨hbw.drew,Or.inr (Or.inl ⟨rfl,congrArg _ oA,by rw[decide_eq_true (Nat.pos_of_ne_zero h0)],rfl⟩)⟩
    ·have cX:=cAc wr;by_cases h0:Y=0
     ·subst h0
      go_wp2_with (go_at_call 263;go_must (refine cX.mono ?_;rintro e W1 ⟨rfl,rfl⟩))
      go_roundg 0
      case measure=>omega
      case rel=>exact⟨hbw,Or.inr (Or.inr ⟨rfl,congrArg _ oA,by rw[wO],rfl⟩)⟩
     ·have hz:¬((Y:Int)=0):=oA
      obtain⟨ga',gb',gt',ca',cb',ct',hR,-⟩:=(HB.out.below hbw).ex;have hRb:wr.cell? ⟨R,a.toNat,none⟩=some (.slice (some ⟨ga',0,none⟩) 2 ca'):=by rw[hR a];unfold rv;rw[qX rfl]
      clear hR;have g0:∀h,(⟨#[a]⟩:ByteArray)[0]'h=a:=fun _=>rfl
      have g1:(a.toNat:Int)<256:=by have:=a.toNat_lt;omega
      go_wp2_with (go_at_call 263;go_must (refine cX.mono ?_;rintro e W1 ⟨rfl,rfl⟩))
      go_region
      all_goals go_wp2
      go_roundg 0
      case measure=>omega
      case rel=>exact⟨hbw.drew,Or.inr (Or.inr ⟨rfl,congrArg _ oA,by rw[decide_eq_true (show 0<Y+X by omega)],rfl⟩)⟩
    ·go_wp2
     go_meet
     case rel=>exact⟨by rw[← HM.out,HXY.out],by rw[HXY.out],hbw⟩
  ·rename_i h16;clear h16
   go_loopg [5,6,10] s.size (fun gk s5 s6 s10 wx=>wx=w/\∃k C:Nat,s10 = .int .i64 k/\s5 = .int .i64 ((s.size+C:Nat):Int)/\s6 = .bool (decide (0<C))/\k<=s.size/\s.size<=k+gk/\Aside (im a b (L.take k)=C)/\C<=2000000)
   case atStart=>exact⟨rfl,0,0,rfl,rfl,rfl,Nat.zero_le _,oA,rfl,oA⟩
   case round=>
    obtain⟨rfl,k,C,rfl,rfl,rfl,hk,hgk,HC,hC⟩:=hrel;by_cases hk2:k<s.size
    ·obtain⟨g,rfl⟩:∃g,gk=g+1:=⟨gk-1,oA⟩
     obtain⟨c,hc⟩:∃c,s[k]'hk2=c:=⟨_,rfl⟩;have hstep:Aside (im a b (L.take (k+1))=C+(if c=a then 1 else if c=b then 1 else 0)):=by
      have h1:k<L.length:=by rw[ac];exact hk2
      have h2:L[k]'h1=c:=by subst hL;exact hc
      show _=_;rw[zl5 L k h1,q1g,HC.out,q1h hab,h2]
     have hC3:Aside (im a b (L.take (k+1))<=2000000):=by
      show _<=_;unfold im;have h1:=List.count_le_length (a:=a) (l:=L.take (k+1));have h2:=List.count_le_length (a:=b) (l:=L.take (k+1));rw[List.length_take]at h1 h2;omega
     obtain⟨ga',gb',gt',ca',cb',ct',hR,-⟩:=HB.out.ex;have hRc:=hR c;unfold rv at hRc;clear hR;have g1:(c.toNat:Int)<256:=by have:=c.toNat_lt;omega
     by_cases h1:c=a
     ·rw[qX h1]at hRc;rw[qX h1]at hstep;clear h1
      go_wp2
      go_roundg g
      case measure=>omega
      case rel=>exact⟨rfl,k+1,C+1,congrArg _ oA,congrArg _ oA,by rw[decide_eq_true (Nat.succ_pos C)],oA,oA,hstep,by have:=hC3.out;rw[hstep.out]at this;exact this⟩
     ·rw[qW h1]at hRc;rw[qW h1]at hstep;by_cases h2:c=b
      ·rw[qX h2]at hRc;rw[qX h2]at hstep;clear h1 h2
       go_wp2
       go_roundg g
       case measure=>omega
       case rel=>exact⟨rfl,k+1,C+1,congrArg _ oA,congrArg _ oA,by rw[decide_eq_true (Nat.succ_pos C)],oA,oA,hstep,by have:=hC3.out;rw[hstep.out]at this;exact this⟩
      ·rw[qW h2]at hRc;rw[qW h2]at hstep;clear h1 h2
       go_wp2
       go_roundg g
       case measure=>omega
       case rel=>exact⟨rfl,k+1,C,congrArg _ oA,congrArg _ oA,rfl,oA,oA,hstep,hC⟩
    ·obtain rfl:k=s.size:=oA
     have HC2:C=Z:=by rw[← HC.out,← ac,List.take_length,HZ.out]
     subst HC2
     go_wp2
     go_meet
     case rel=>exact⟨by rw[HM.out],rfl,Below.refl _ _⟩
 case rest=>
  obtain⟨rfl,hs6,hbw⟩:=hcut;cases h0:decide (0<Z)<;>rw[h0]at hs6<;>subst hs6
  ·have hz0:=of_decide_eq_false h0;have hid:=zgf hab [a1,a2] [b1,b2] L (by rw[HZ.out];omega)
   clear h0 hz0;have HI:Aside (fc a b [a1,a2] [b1,b2] L=L):=hid;clear hid
   go_wp2
   go_ret
   exact⟨by rw[HI.out,← hL];rfl,hbw⟩
  ·clear h0;have hmk:∀w:World,(Instr.makeSlice 23 (.int .i64 (M:Int)) (.int .i64 (M:Int))).run Tryz.prog w = .ok (.slice (some ⟨w.heap.size,0,none⟩) M M) (w.alloc (.cells (madeCells #[.int .u8 0] M) 5)):=fun w=>
    run_make_row' (P:=Tryz.prog) 23 5 (.int .u8 0) 1 Tryz.underlying23 oC rfl .i64 .i64 M oA oA w
   go_wp2
   obtain⟨G,hG⟩:∃G,wc.heap.size=G:=⟨_,rfl⟩;have hrow0:=World.rowIs_made wc (.int .u8 0) M 5;have hGle:w.heap.size<=G:=by rw[← hG];exact hbw.size
   have hbw1:=hbw.alloc hbw.size (Obj.cells (madeCells #[.int .u8 0] M) 5);rw[hG]at hrow0 ⊢;have hLM:Aside (∀k,(fc a b [a1,a2] [b1,b2] (L.take k)).length<=M):=fun k=>by
    have h1:fc a b [a1,a2] [b1,b2] L=fc a b [a1,a2] [b1,b2] (L.take k)++fc a b [a1,a2] [b1,b2] (L.drop k):=by rw[← qp5,List.take_append_drop]
    have h2:=congrArg List.length h1;rw[qjd hab,ac,HZ.out,HM.out,qM]at h2;omega
   go_loopg [13,14] s.size (fun gk s13 s14 wx=>∃k j:Nat,s13 = .int .i64 j/\s14 = .int .i64 k/\k<=s.size/\s.size<=k+gk/\j<=M/\Aside ((fc a b [a1,a2] [b1,b2] (L.take k)).length=j)/\Aside (wx.rowIs G 5 M (bv (fc a b [a1,a2] [b1,b2] (L.take k))))/\Below w.heap.size w wx)
   case atStart=>exact⟨0,0,rfl,rfl,Nat.zero_le _,oA,Nat.zero_le _,rfl,hrow0.congr (fun i _=>(qi2 [] i (Nat.zero_le _)).symm),hbw1⟩
   case round=>
    obtain⟨k,j,rfl,rfl,hk,hgk,hjM,HJ,hrow,hbx⟩:=hrel;clear hrow0 hbw1;by_cases hk2:k<s.size
    ·obtain⟨g,rfl⟩:∃g,gk=g+1:=⟨gk-1,oA⟩
     have HG:Aside (s.size<=k+1+g):=by show _<=_;omega
     clear hgk hk;obtain⟨c,hc⟩:∃c,s[k]'hk2=c:=⟨_,rfl⟩;have hk1:k<L.length:=by rw[ac];exact hk2
     have hLk:L[k]'hk1=c:=by subst hL;exact hc
     have hstep:Aside (fc a b [a1,a2] [b1,b2] (L.take (k+1))=fc a b [a1,a2] [b1,b2] (L.take k)++mf a b [a1,a2] [b1,b2] c):=by
      show _=_;rw[zl5 L k hk1,qp5,hLk];show _++(mf a b [a1,a2] [b1,b2] c++[])=_;rw[List.append_nil]
     have hfit:Aside (j+(mf a b [a1,a2] [b1,b2] c).length<=M):=by
      have:=hLM.out (k+1);rw[hstep.out,qM,HJ.out]at this;exact this
     clear hLk hk1;obtain⟨ga',gb',gt',ca',cb',ct',hR,hT',ht0',ht1',ha0,ha1,hb0,hb1⟩:=(HB.out.below hbx).ex;have hRc:=hR c;unfold rv at hRc;clear hR hT' ht0' ht1';have g1:(c.toNat:Int)<256:=by have:=c.toNat_lt;omega
     unfold mf at hstep hfit;by_cases h1:c=a
     ·rw[qX h1]at hRc hstep hfit;have hf2:j+2<=M:=hfit.out;clear h1;have hMj:¬M=j:=oA
      obtain⟨ROW,hcp,hnew⟩:=zfo (w:=wr.drew) (c:=ca') hrow.out.drew hf2 (by rw[World.cell?_drew];exact ha0) (by rw[World.cell?_drew];exact ha1)
      have HN:Aside (_):=hnew;have HW:Aside (wrap64 ((j:Int)+2)=(j:Int)+2):=by have:=zm0 (j+2);rw[Int.natCast_add]at this;exact this
      clear hnew
      go_wp2
      go_region
      all_goals go_wp2
      go_roundg g
      case measure=>exact Nat.lt_succ_self _
      case rel=>exact⟨k+1,j+2,by first|exact vI2 j|exact(congrArg (Value.int .i64) HW.out).trans (vI2 j),qv k,hk2,HG.out,hf2,by show _=_;rw[hstep.out,qM,HJ.out];rfl,World.rowIs.congr HN.out (fun i _=>by rw[hstep.out,← ze4,HJ.out]),below_setRow hbx.drew hGle _⟩
     ·rw[qW h1]at hRc hstep hfit;by_cases h2:c=b
      ·rw[qX h2]at hRc hstep hfit;have hf2:j+2<=M:=hfit.out;clear h1 h2;have hMj:¬M=j:=oA
       obtain⟨ROW,hcp,hnew⟩:=zfo (w:=wr.drew) (c:=cb') hrow.out.drew hf2 (by rw[World.cell?_drew];exact hb0) (by rw[World.cell?_drew];exact hb1)
       have HN:Aside (_):=hnew;have HW:Aside (wrap64 ((j:Int)+2)=(j:Int)+2):=by have:=zm0 (j+2);rw[Int.natCast_add]at this;exact this
       clear hnew
       go_wp2
       go_region
       all_goals go_wp2
       go_roundg g
       case measure=>exact Nat.lt_succ_self _
       case rel=>exact⟨k+1,j+2,by first|exact vI2 j|exact(congrArg (Value.int .i64) HW.out).trans (vI2 j),qv k,hk2,HG.out,hf2,by show _=_;rw[hstep.out,qM,HJ.out];rfl,World.rowIs.congr HN.out (fun i _=>by rw[hstep.out,← ze4,HJ.out]),below_setRow hbx.drew hGle _⟩
      ·rw[qW h2]at hRc hstep hfit;have hf1:j+1<=M:=hfit.out;clear h1 h2;have hcell:wr.cell? ⟨G,j,none⟩=some (bv (fc a b [a1,a2] [b1,b2] (L.take k)) j):=hrow.out.cell oA
       have hfroz:wr.frozen? ⟨G,j,none⟩=false:=hrow.out.frozen j
       go_wp2
       go_roundg g
       case measure=>exact Nat.lt_succ_self _
       case rel=>exact⟨k+1,j+1,qv j,qv k,hk2,HG.out,hf1,by show _=_;rw[hstep.out,qM,HJ.out];rfl,World.rowIs.congr (World.rowIs.set hrow.out j _) (fun i _=>by rw[hstep.out,← zt3,HJ.out]),hbx.setCell hGle _⟩
    ·obtain rfl:k=s.size:=oA
     have HT:Aside (L.take s.size=L):=by show _=_;rw[← ac,List.take_length]
     have HE:Aside (∃l,l=fc a b [a1,a2] [b1,b2] L/\l.length=M):=⟨_,rfl,by rw[qjd hab,ac,HZ.out,HM.out]⟩
     obtain⟨E,hE,hEl⟩:=HE.out;have hcv:(convert 23 9 (.slice (some ⟨G,0,none⟩) M M)).run Tryz.prog wr = .ok (.string ⟨E.toArray⟩) wr:=by
      have h:=run_convert_bytes_back (P:=Tryz.prog) wr 23 9 5 ⟨G,0,none⟩ M E Tryz.underlying23 Tryz.underlying5 Tryz.underlying9 (fun i hi=>by
       rw[qz6,wO,hrow.out.cell oA,HT.out,← hE]
       unfold bv;rw[List.getD_eq_getElem?_getD,List.getElem?_eq_getElem hi];rfl)
      rw[hEl]at h;exact h
     have HEq:Aside (E=fc a b [a1,a2] [b1,b2] L):=hE;clear hE hEl
     go_wp2
     go_ret
     exact⟨by rw[← HEq.out];rfl,hbx⟩
end Go.Proofs.Repl
set_option linter.unusedVariables false
namespace Go.Proofs.Repl
open Go.Shelf Go.RowKit Go.Lib Go.Sym
def zxc:(Tryz.prog.info? 9).map (fun i=>(i.zero,i.size,i.bytes))=some (some (Value.string ⟨#[]⟩),1,16):=oC
def mk2(w:World):(Instr.makeSlice 39 (.int .i64 0) (.int .i64 2)).run Tryz.prog w = .ok (.slice (some ⟨w.heap.size,0,none⟩) 0 2) (w.alloc (.cells #[.string ⟨#[]⟩,.string ⟨#[]⟩] 9)):=by
 obtain⟨i,hi,hzz⟩:=Option.map_eq_some_iff.1 zxc;simp only[qP]at hzz;obtain⟨hz,hs,hb⟩:=hzz;have h:=run_make (P:=Tryz.prog) w 39 9 i (.string ⟨#[]⟩) Tryz.underlying39 hi hz .i64 .i64 0 2 oE oE (by rw[hb];decide) oE
 rw[hs,show madeCells (Value.string ⟨#[]⟩).cells (Int.toNat 2*1)=#[.string ⟨#[]⟩,.string ⟨#[]⟩] from oC]at h
 exact h
def zr(V:Value)(j:Nat):Value:=if j=256 then V else .slice none 0 0
def z1(b:UInt8)(g c:Nat)(V:Value)(j:Nat):Value:=if j=b.toNat then .slice (some ⟨g,0,none⟩) 2 c else zr V j
def vh7:Tryz.zeroCells247.toList.length=257:=oC
def vh4:Tryz.zeroCells247.toList.all (fun v=>v.oneCell')=true:=oC
def mh:Option Value->Bool|some (.slice none n c)=>Nat.beq n 0&&Nat.beq c 0|_=>false
def zxi{v:Option Value}(h:mh v=true):v=some (.slice none 0 0):=by
 unfold mh at h;split at h
 ·simp only[qA]at h;rw[qN h.1,qN h.2]
 ·cases h
def vh5:(List.range 257).all (fun j=>mh Tryz.zeroCells247.toList[j]?)=true:=oC
def z26(w:World)(T:Nat):∃ROW,(storeCells ⟨w.heap.size,0,none⟩ (Tryz.zeroCells247.toList.set 256 (.slice (some ⟨T,0,none⟩) 0 2))).run Tryz.prog (w.alloc (.cells Tryz.zeroCells247 247)) = .ok () ((w.alloc (.cells Tryz.zeroCells247 247)).setRow w.heap.size ROW) /\
  ((w.alloc (.cells Tryz.zeroCells247 247)).setRow w.heap.size ROW).rowIs w.heap.size 247 257 (zr (.slice (some ⟨T,0,none⟩) 0 2)):=by
 have hnew:(w.alloc (.cells Tryz.zeroCells247 247)).heap[w.heap.size]? = some (.cells Tryz.zeroCells247 247):=heap_alloc_new w _;have hz:=vh7;have h:=run_storeCells_at Tryz.prog w.heap.size 0 247 (Tryz.zeroCells247.toList.set 256 (.slice (some ⟨T,0,none⟩) 0 2)) 0 _ _ hnew (by rw[List.length_set,hz,← Array.length_toList,hz];decide) (fun v hv=>by
  rcases List.mem_or_eq_of_mem_set hv with hv|rfl
  ·exact List.all_eq_true.1 vh4 v hv
  ·rfl)
 refine⟨_,h,?_⟩;refine⟨_,setRow_heap _ _ _ _ _ _ hnew,?_,fun i hi => ?_⟩
 ·simp only[List.size_toArray,qM,List.length_set,List.length_take,List.length_drop,hz];decide
 ·rw[List.getElem?_toArray,List.length_set,hz,List.drop_eq_nil_of_le (by rw[hz];decide),List.append_nil]
  show([]++_)[i]? = _;rw[List.nil_append,List.getElem?_set];unfold zr;by_cases h2:256=i
  ·subst h2;rw[qX rfl,qX rfl,hz];rfl
  ·rw[qW h2,qW (fun e=>h2 e.symm)]
   exact zxi (List.all_eq_true.1 vh5 i (List.mem_range.2 hi))
def qd3(w:World)(x y:UInt8):Obj := .cells (bytesRow ⟨#[x,y]⟩ (grownCap w 2 0 5)) 5 ((bytesRow ⟨#[x,y]⟩ (grownCap w 2 0 5)).size,(bytesRow ⟨#[x,y]⟩ (grownCap w 2 0 5)).size+1)
def qd1(w:World):Nat:=grownCap w 2 0 5
def cv2(w:World)(x y:UInt8):(convert 9 23 (.string ⟨#[x,y]⟩)).run Tryz.prog w = .ok (.slice (some ⟨w.heap.size,0,none⟩) 2 (qd1 w)) (w.drew.alloc (qd3 w x y)):=
 run_bytes_of_string (P:=Tryz.prog) w 9 23 5 ⟨#[x,y]⟩ Tryz.underlying9 Tryz.underlying23 Tryz.underlying5
def ztz(w W:World)(x y:UInt8):(W.alloc (qd3 w x y)).cell? ⟨W.heap.size,0,none⟩=some (.int .u8 x.toNat)/\(W.alloc (qd3 w x y)).cell? ⟨W.heap.size,1,none⟩=some (.int .u8 y.toNat):=by
 unfold qd3;rw[World.cell?_alloc_mark,World.cell?_alloc_mark];exact⟨bytesRow_at ⟨#[x,y]⟩ _ 0 (by show 0<2;decide),bytesRow_at ⟨#[x,y]⟩ _ 1 (by show 1<2;decide)⟩
def cv1(w:World)(x:UInt8):(convert 23 9 (.slice (some ⟨w.heap.size,0,none⟩) 1 1)).run Tryz.prog (w.alloc (.cells #[.int .u8 x.toNat] 5)) = .ok (.string ⟨#[x]⟩) (w.alloc (.cells #[.int .u8 x.toNat] 5)):=
 run_convert_bytes_back (P:=Tryz.prog) _ 23 9 5 ⟨w.heap.size,0,none⟩ 1 [x] Tryz.underlying23 Tryz.underlying5 Tryz.underlying9 (fun i hi=>by
  have:i=0:=by simpa using hi
  subst this;rw[qz6];show World.cell? _ ⟨w.heap.size,0,none⟩=_;unfold World.cell?;rw[show(w.alloc (.cells #[.int .u8 (x.toNat:Int)] 5)).heap[w.heap.size]? = _ from heap_alloc_new w _]
  rfl)
def w4(wr:World)(T k n:Nat)(c:UInt8):World:=(((wr.alloc (.cells #[.int .u8 c.toNat] 5)).alloc (.cells #[.string ⟨#[c]⟩] 9)).setCell ⟨T,k,none⟩ (.string ⟨#[c]⟩)).setCell ⟨T+1,256,none⟩ (.slice (some ⟨T,0,none⟩) n 2)
def w5(wr:World)(T k n:Nat)(c x y:UInt8):World:=(((w4 wr T k n c).alloc (qd3 (w4 wr T k n c) x y)).setCell ⟨T+1,c.toNat,none⟩ (.slice (some ⟨wr.heap.size+1+1,0,none⟩) 2 (qd1 (w4 wr T k n c)))).drew
def zlu(wr:World)(T k n:Nat)(c x y:UInt8)(hT:T+2<=wr.heap.size){f h:Nat->Value}(hR:wr.rowIs (T+1) 247 257 f)(hTr:wr.rowIs T 9 2 h) :
  (w5 wr T k n c x y).rowIs (T+1) 247 257 (fun j=>if j=c.toNat then .slice (some ⟨wr.heap.size+1+1,0,none⟩) 2 (qd1 (w4 wr T k n c)) else if j=256 then .slice (some ⟨T,0,none⟩) n 2 else f j)/\(w5 wr T k n c x y).rowIs T 9 2 (fun i=>if i=k then .string ⟨#[c]⟩ else h i) /\
   (w5 wr T k n c x y).cell? ⟨wr.heap.size+1+1,0,none⟩=some (.int .u8 x.toNat)/\(w5 wr T k n c x y).cell? ⟨wr.heap.size+1+1,1,none⟩=some (.int .u8 y.toNat)/\(∀p:Addr,T+2<=p.block->p.block<wr.heap.size->(w5 wr T k n c x y).cell? p=wr.cell? p)/\Below T wr (w5 wr T k n c x y)/\T+2<=(w5 wr T k n c x y).heap.size:=by
 unfold w5;generalize hWb:qd3 (w4 wr T k n c) x y=B;generalize (Value.slice (some ⟨wr.heap.size+1+1,0,none⟩) 2 (qd1 (w4 wr T k n c)))=V3;have hbc0:=fun W=>ztz (w4 wr T k n c) W x y
 rw[hWb]at hbc0;unfold w4;clear hWb;generalize (Obj.cells #[.int .u8 c.toNat] 5)=o1;generalize (Obj.cells #[.string ⟨#[c]⟩] 9)=o2;generalize (Value.string ⟨#[c]⟩)=S;generalize (Value.slice (some ⟨T,0,none⟩) n 2)=V2;have hsz:((((wr.alloc o1).alloc o2).setCell ⟨T,k,none⟩ S).setCell ⟨T+1,256,none⟩ V2).heap.size=wr.heap.size+1+1:=by simp[World.setCell]
 have hbc:=hbc0 ((((wr.alloc o1).alloc o2).setCell ⟨T,k,none⟩ S).setCell ⟨T+1,256,none⟩ V2);rw[hsz]at hbc;refine⟨?_,?_,?_,?_,fun p h1 h2 => ?_,?_,?_⟩
 ·exact(((((hR.alloc o1).alloc o2).setOther (a:=⟨T,k,none⟩) oB S).set 256 V2).alloc _).set _ V3
 ·exact(((((hTr.alloc o1).alloc o2).set k S).setOther (a:=⟨T+1,256,none⟩) oB V2).alloc _).setOther (a:=⟨T+1,c.toNat,none⟩) oB V3
 ·rw[World.cell?_drew,World.cell?_setCell_other _ _ _ _ (by intro h;have:=congrArg Addr.block h;simp at this;omega)];exact hbc.1
 ·rw[World.cell?_drew,World.cell?_setCell_other _ _ _ _ (by intro h;have:=congrArg Addr.block h;simp at this;omega)];exact hbc.2
 ·refine World.cell?_of_block (w:=wr) ?_;show(World.setCell _ _ _).heap[p.block]? = _;rw[Below.heap_setCell _ _ _ _ oD,Below.heap_alloc _ _ _ (by rw[hsz];omega),Below.heap_setCell _ _ _ _ oD,Below.heap_setCell _ _ _ _ oD,Below.heap_alloc _ _ _ oD,Below.heap_alloc _ _ _ h2]
 ·have hsz2:wr.heap.size+1+1=((((wr.alloc o1).alloc o2).setCell ⟨T,k,none⟩ S).setCell ⟨T+1,256,none⟩ V2).heap.size:=hsz.symm;exact(((((((Below.refl T wr).alloc oA o1).alloc oD o2).setCell (p:=⟨T,k,none⟩) (wF _) S).setCell (p:=⟨T+1,256,none⟩) (Nat.le_succ _) V2).alloc oA _).setCell (p:=⟨T+1,c.toNat,none⟩) (Nat.le_succ _) V3).drew
 ·show _<=(World.setCell _ _ _).heap.size;simp[World.setCell];omega
set_option maxHeartbeats 4000000 in
set_option maxRecDepth 1000000 in
def ztq(q ro cap:Nat)(a b a1 a2 b1 b2:UInt8)(w:World)(hab:a≠b)
  (hc:w.cell? ⟨q,4,none⟩=some (.slice (some ⟨ro,0,none⟩) 4 cap)) (h0:w.cell? ⟨ro,0,none⟩=some (.string ⟨#[a]⟩)) (h1:w.cell? ⟨ro,1,none⟩=some (.string ⟨#[a1,a2]⟩)) (h2:w.cell? ⟨ro,2,none⟩=some (.string ⟨#[b]⟩)) (h3:w.cell? ⟨ro,3,none⟩=some (.string ⟨#[b1,b2]⟩)) :
  Calls Tryz.prog 153 #[.pointer (some ⟨q,0,none⟩)] w fun e w'=>∃R,e = .returned (.iface 248 (.pointer (some ⟨R,0,none⟩)))/\lx R a b a1 a2 b1 b2 w'/\Below w.heap.size w w':=by
 go_enter Tryz.func153,Tryz.ntmps153
 go_wp2
 go_loopg [4,5] 2 (fun gk s4 s5 wx=>wx=w/\((s5 = .int .i64 0/\s4 = .bool true/\gk=2)\/(s5 = .int .i64 2/\s4 = .bool false/\gk=1)\/(s5 = .int .i64 4/\s4 = .bool false/\gk=0)))
 case atStart=>exact⟨rfl,Or.inl ⟨rfl,rfl,rfl⟩⟩
 case round=>
  obtain⟨rfl,⟨rfl,rfl,rfl⟩|⟨rfl,rfl,rfl⟩|⟨rfl,rfl,rfl⟩⟩:=hrel
  ·go_wp2
   go_roundg 1
   case measure=>exact Nat.lt_succ_self _
   case rel=>exact⟨rfl,Or.inr (Or.inl ⟨rfl,rfl,rfl⟩)⟩
  ·go_wp2
   go_roundg 0
   case measure=>exact Nat.lt_succ_self _
   case rel=>exact⟨rfl,Or.inr (Or.inr ⟨rfl,rfl,rfl⟩)⟩
  ·have hmk:=mk2;obtain⟨W1,hW1⟩:∃W1,wr.alloc (.cells #[.string ⟨#[]⟩,.string ⟨#[]⟩] 9)=W1:=⟨_,rfl⟩;have hz1:W1.heap.size=wr.heap.size+1:=by rw[← hW1];simp
   have hT1:W1.rowIs wr.heap.size 9 2 (fun _ => .string ⟨#[]⟩):=by rw[← hW1];exact World.rowIs_alloc wr _ _ _ (fun i hi=>by match i,hi with|0,_=>rfl|1,_=>rfl)
   have hb1:Below wr.heap.size wr W1:=by rw[← hW1];exact(Below.refl _ _).alloc (wF _) _
   obtain⟨ROW,hst,hrow⟩:=z26 W1 wr.heap.size;rw[hz1]at hst hrow;have hT2:=(hT1.alloc (.cells Tryz.zeroCells247 247)).of_block (setRow_other (W1.alloc (.cells Tryz.zeroCells247 247)) (wr.heap.size+1) wr.heap.size ROW oA)
   have hb2:=below_setRow (hb1.alloc hb1.size (.cells Tryz.zeroCells247 247)) (Nat.le_succ wr.heap.size) ROW;obtain⟨W2,hW2⟩:∃W2,(W1.alloc (.cells Tryz.zeroCells247 247)).setRow (wr.heap.size+1) ROW=W2:=⟨_,rfl⟩;rw[hW2]at hst hrow hT2 hb2;have HB2:Aside (W2.rowIs (wr.heap.size+1) 247 257 (zr (.slice (some ⟨wr.heap.size,0,none⟩) 0 2))/\W2.rowIs wr.heap.size 9 2 (fun _ => .string ⟨#[]⟩)/\Below wr.heap.size wr W2):=⟨hrow,hT2,hb2⟩
   clear hrow hT2 hb2 hT1 hb1 hW2
   go_wp2
   obtain⟨T,hT⟩:∃T,wr.heap.size=T:=⟨_,rfl⟩;rw[hT]at HB2 ⊢;have hS:Aside (wr.heap.size=T):=hT;clear hst hmk hz1 hW1 hT
   go_loopg [12] 2 (fun gk s12 wx=>Below T wr wx/\T+2<=wx.heap.size/\(
    (s12 = .int .i64 2/\gk=2/\Aside (wx.rowIs (T+1) 247 257 (zr (.slice (some ⟨T,0,none⟩) 0 2))/\wx.rowIs T 9 2 (fun _ => .string ⟨#[]⟩))) \/
    (s12 = .int .i64 0/\gk=1/\∃gb cb,T+2<=gb/\gb<wx.heap.size/\Aside (wx.rowIs (T+1) 247 257 (fun j=>if j=b.toNat then .slice (some ⟨gb,0,none⟩) 2 cb else if j=256 then .slice (some ⟨T,0,none⟩) 1 2 else .slice none 0 0)/\wx.rowIs T 9 2 (fun i=>if i=0 then .string ⟨#[b]⟩ else .string ⟨#[]⟩)/\wx.cell? ⟨gb,0,none⟩=some (.int .u8 b1.toNat)/\wx.cell? ⟨gb,1,none⟩=some (.int .u8 b2.toNat))) \/
    (s12 = .int .i64 (-2)/\gk=0/\Aside (lx (T+1) a b a1 a2 b1 b2 wx))))
   case atStart=>exact⟨HB2.out.2.2,by have:=HB2.out.1.lt;omega,Or.inl ⟨rfl,rfl,HB2.out.1,HB2.out.2.1⟩⟩
   case round=>
    obtain⟨hbx,hsz,h⟩:=hrel;have k0:=(hbx.cell (p:=⟨ro,0,none⟩) (by rw[← hS.out];exact World.block_lt_of_cell? _ _ h0)).trans h0
    have k1:=(hbx.cell (p:=⟨ro,1,none⟩) (by rw[← hS.out];exact World.block_lt_of_cell? _ _ h1)).trans h1
    have k2:=(hbx.cell (p:=⟨ro,2,none⟩) (by rw[← hS.out];exact World.block_lt_of_cell? _ _ h2)).trans h2
    have k3:=(hbx.cell (p:=⟨ro,3,none⟩) (by rw[← hS.out];exact World.block_lt_of_cell? _ _ h3)).trans h3
    clear h0 h1 h2 h3 hc HB2;have e1:=zv4;have e2:=zv3;have e3:=cv1;have e4:=cv2;rcases h with⟨rfl,rfl,hr⟩|⟨rfl,rfl,gb,cb,hgb,hgs,hr⟩|⟨rfl,rfl,hr⟩
    ·have g0:∀h,(⟨#[b]⟩:ByteArray)[0]'h=b:=fun _=>rfl
     have g1:(b.toNat:Int)<256:=by have:=b.toNat_lt;omega
     have g2:b.toNat<256:=b.toNat_lt;have hRb:wr.cell? ⟨T+1,b.toNat,none⟩=some (.slice none 0 0):=by
      rw[hr.out.1.cell oA];unfold zr;rw[qW (by have:=b.toNat_lt;omega)]
     have hR2:wr.cell? ⟨T+1,256,none⟩=some (.slice (some ⟨T,0,none⟩) 0 2):=by rw[hr.out.1.cell oE];rfl
     have hT0:∀o1 o2,((wr.alloc o1).alloc o2).cell? ⟨T,0,none⟩=some (.string ⟨#[]⟩):=fun o1 o2=>((hr.out.2.alloc o1).alloc o2).cell oE
     have hTf:∀o1 o2,((wr.alloc o1).alloc o2).frozen? ⟨T,0,none⟩=false:=fun o1 o2=>((hr.out.2.alloc o1).alloc o2).frozen _
     have hR3:∀o1 o2,((wr.alloc o1).alloc o2).cell? ⟨T+1,256,none⟩=some (.slice (some ⟨T,0,none⟩) 0 2):=fun o1 o2=>by rw[((hr.out.1.alloc o1).alloc o2).cell oE];rfl
     have hRf:∀o1 o2,((wr.alloc o1).alloc o2).frozen? ⟨T+1,256,none⟩=false:=fun o1 o2=>((hr.out.1.alloc o1).alloc o2).frozen _
     have hR4:∀o1 o2 v1 v2 o3,(((((wr.alloc o1).alloc o2).setCell ⟨T,0,none⟩ v1).setCell ⟨T+1,256,none⟩ v2).alloc o3).cell? ⟨T+1,b.toNat,none⟩=some (.slice none 0 0):=fun o1 o2 v1 v2 o3=>by
      rw[((((((hr.out.1.alloc o1).alloc o2).setOther (a:=⟨T,0,none⟩) oB v1).set 256 v2)).alloc o3).cell oA]
      rw[qW oA];unfold zr;rw[qW (by have:=b.toNat_lt;omega)]
     have hRg:∀o1 o2 v1 v2 o3,(((((wr.alloc o1).alloc o2).setCell ⟨T,0,none⟩ v1).setCell ⟨T+1,256,none⟩ v2).alloc o3).frozen? ⟨T+1,b.toNat,none⟩=false:=fun o1 o2 v1 v2 o3=>
      ((((((hr.out.1.alloc o1).alloc o2).setOther (a:=⟨T,0,none⟩) oB v1).set 256 v2)).alloc o3).frozen _
     clear g2
     go_wp2
     go_roundg 1
     case measure=>exact Nat.lt_succ_self _
     case rel=>
      have HS:=zlu wr T 0 1 b b1 b2 hsz hr.out.1 hr.out.2;obtain⟨q1,q2,q3,q4,q5,q6,q7⟩:=HS;have q8:=World.block_lt_of_cell? _ _ q3;refine⟨hbx.trans q6,q7,Or.inr (Or.inl ⟨rfl,rfl,wr.heap.size+1+1,qd1 (w4 wr T 0 1 b),oA,q8,(?_:_/\_/\_/\_)⟩)⟩
      refine⟨q1.congr (fun j _ => ?_),q2,q3,q4⟩
      ·show(if _ then _ else if _ then _ else zr _ j)=_
       unfold zr;by_cases h1:j=b.toNat
       ·rw[qX h1,qX h1]
       ·by_cases h2:j=256
        ·rw[qW h1,qX h2,qW h1,qX h2]
        ·rw[qW h1,qW h2,qW h2,qW h1,qW h2]
    ·have g0:∀h,(⟨#[a]⟩:ByteArray)[0]'h=a:=fun _=>rfl
     have g1:(a.toNat:Int)<256:=by have:=a.toNat_lt;omega
     have g2:a.toNat<256:=a.toNat_lt;have hne:¬a.toNat=b.toNat:=fun h=>hab (UInt8.toNat_inj.1 h)
     have HNE:Aside (¬a.toNat=b.toNat):=hne;have hRb:wr.cell? ⟨T+1,a.toNat,none⟩=some (.slice none 0 0):=by
      rw[hr.out.1.cell oA];rw[qW oA,qW oA]
     have hR2:wr.cell? ⟨T+1,256,none⟩=some (.slice (some ⟨T,0,none⟩) 1 2):=by rw[hr.out.1.cell oE];rw[qW (by have:=b.toNat_lt;omega),qX rfl]
     have hT0:∀o1 o2,((wr.alloc o1).alloc o2).cell? ⟨T,1,none⟩=some (.string ⟨#[]⟩):=fun o1 o2=>((hr.out.2.1.alloc o1).alloc o2).cell oE
     have hTf:∀o1 o2,((wr.alloc o1).alloc o2).frozen? ⟨T,1,none⟩=false:=fun o1 o2=>((hr.out.2.1.alloc o1).alloc o2).frozen _
     have hR3:∀o1 o2,((wr.alloc o1).alloc o2).cell? ⟨T+1,256,none⟩=some (.slice (some ⟨T,0,none⟩) 1 2):=fun o1 o2=>by rw[((hr.out.1.alloc o1).alloc o2).cell oE];rw[qW (by have:=b.toNat_lt;omega),qX rfl]
     have hRf:∀o1 o2,((wr.alloc o1).alloc o2).frozen? ⟨T+1,256,none⟩=false:=fun o1 o2=>((hr.out.1.alloc o1).alloc o2).frozen _
     have hR4:∀o1 o2 v1 v2 o3,(((((wr.alloc o1).alloc o2).setCell ⟨T,1,none⟩ v1).setCell ⟨T+1,256,none⟩ v2).alloc o3).cell? ⟨T+1,a.toNat,none⟩=some (.slice none 0 0):=fun o1 o2 v1 v2 o3=>by
      rw[((((((hr.out.1.alloc o1).alloc o2).setOther (a:=⟨T,1,none⟩) oB v1).set 256 v2)).alloc o3).cell oA]
      rw[qW oA];rw[qW oA,qW oA]
     have hRg:∀o1 o2 v1 v2 o3,(((((wr.alloc o1).alloc o2).setCell ⟨T,1,none⟩ v1).setCell ⟨T+1,256,none⟩ v2).alloc o3).frozen? ⟨T+1,a.toNat,none⟩=false:=fun o1 o2 v1 v2 o3=>
      ((((((hr.out.1.alloc o1).alloc o2).setOther (a:=⟨T,1,none⟩) oB v1).set 256 v2)).alloc o3).frozen _
     clear g2 hne
     go_wp2
     go_roundg 0
     case measure=>exact Nat.lt_succ_self _
     case rel=>
      have HS:=zlu wr T 1 2 a a1 a2 hsz hr.out.1 hr.out.2.1;obtain⟨q1,q2,q3,q4,q5,q6,q7⟩:=HS;have hgbR:=(q5 ⟨gb,0,none⟩ hgb hgs).trans hr.out.2.2.1;have hgbS:=(q5 ⟨gb,1,none⟩ hgb hgs).trans hr.out.2.2.2;have hB:lx (T+1) a b a1 a2 b1 b2 (w5 wr T 1 2 a a1 a2):=by
       refine⟨wr.heap.size+1+1,gb,T,qd1 (w4 wr T 1 2 a),cb,2,fun d => ?_,?_,?_,?_,q3,q4,hgbR,hgbS⟩
       ·rw[q1.cell (by have:=d.toNat_lt;omega)]
        unfold rv;by_cases h1:d=a
        ·rw[qX (congrArg _ h1),qX h1]
        ·rw[qW (fun h=>h1 (UInt8.toNat_inj.1 h)),qW h1,qW (by have:=d.toNat_lt;omega)]
         by_cases h2:d=b
         ·rw[qX (congrArg _ h2),qX h2]
         ·rw[qW (fun h=>h2 (UInt8.toNat_inj.1 h)),qW h2,qW (by have:=d.toNat_lt;omega)]
       ·rw[q1.cell oE,qW (by have:=a.toNat_lt;omega),qX rfl]
       ·rw[q2.cell oE];rfl
       ·rw[q2.cell oE];rfl
      exact⟨hbx.trans q6,q7,Or.inr (Or.inr ⟨rfl,rfl,hB⟩)⟩
    ·go_wp2
     go_ret
     exact⟨T+1,rfl,hr.out,by rw[hS.out];exact hbx⟩
end Go.Proofs.Repl
namespace Go.Proofs.YtdnaaelkpgijeaaGreatDoor.Once
open Go.Sym(oC)
def disable(w:World):(callFunc 266 #[]).run Tryz.prog w = .ok (.value (.tuple #[])) w:=run_call_mark0 Tryz.func266 oC oC oC .disable oC w
def enable(w:World):(callFunc 268 #[]).run Tryz.prog w = .ok (.value (.tuple #[])) w:=run_call_mark0 Tryz.func268 oC oC oC .enable oC w
def acquire(a:Addr)(w:World):(callFunc 269 #[.pointer (some a)]).run Tryz.prog w = .ok (.value (.tuple #[])) w:=run_call_marked Tryz.func269 oC oC oC .acquire oC a w
def releaseMerge(a:Addr)(w:World):(callFunc 271 #[.pointer (some a)]).run Tryz.prog w = .ok (.value (.tuple #[])) w:=run_call_marked Tryz.func271 oC oC oC .releaseMerge oC a w
set_option maxHeartbeats 1600000 in
def z3c(a:Addr)(x:Value)(u:FrameMode)(w:World)(hc:w.cell? a=some x)(hz:w.frozen? a=false) :
  CallsD Tryz.prog 189 #[.pointer (some a),.bool true] u w fun e u' w'=>u'=u/\(e = .returned (.tuple #[])/\w'=w.drew.setCell a (.int .u32 1)):=by
 have hc':w.drew.cell? a=some x:=by go_simp
 have hz':w.drew.frozen? a=false:=by go_simp
 have hst:=run_call_store (P:=Tryz.prog) Tryz.func230 oC oC oC oC (k := .u32) (y:=1) hc' hz'
 go_enter_d Tryz.func189,Tryz.ntmps189
 go_wp2
 go_region_calls
 all_goals (go_end0;exact⟨rfl,rfl⟩)
set_option maxHeartbeats 1600000 in
def z4e(a:Addr)(u:FrameMode)(w:World)(hc:w.cell? a=some (.int .i32 1))(hz:w.frozen? a=false) :
  CallsD Tryz.prog 188 #[.pointer (some a)] u w fun e u' w'=>u'=u/\(e = .returned (.tuple #[])/\w'=w.setCell a (.int .i32 0)):=by
 have hd:=disable;have he:=enable;have hr:=releaseMerge;have hadd:=run_call_add (P:=Tryz.prog) Tryz.func272 oC oC oC .i32 oC (y := -1) (s:=0) hc hz (by simp[go_sem];rfl)
 have hcv:=run_convert_to_unsafe (P:=Tryz.prog) (src:=332) (dst:=180) Tryz.underlying332 Tryz.underlying180 oC hc
 go_enter_d Tryz.func188,Tryz.ntmps188
 go_wp2
 go_end0
 go_wp2
 go_end0
 exact⟨rfl,rfl⟩
set_option maxHeartbeats 1600000 in
def zyd(a:Addr)(w:World)(hc:w.cell? a=some (.int .i32 0))(hz:w.frozen? a=false) :
  Calls Tryz.prog 187 #[.pointer (some a)] w fun e w'=>e = .returned (.tuple #[])/\w'=w.setCell a (.int .i32 1):=by
 have hd:=disable;have he:=enable;have ha:=acquire;have hcas:=run_call_cas_hit (P:=Tryz.prog) Tryz.func267 oC oC oC .i32 oC (y:=1) hc hz
 have hc':(w.setCell a (.int .i32 1)).cell? a=some (.int .i32 1):=World.cell?_setCell_same w a _ hc;have hcv:=run_convert_to_unsafe (P:=Tryz.prog) (src:=332) (dst:=180) Tryz.underlying332 Tryz.underlying180 oC hc'
 go_enter Tryz.func187,Tryz.ntmps187
 go_wp2
 first|go_end0|(simp only[Exit.inBlock,Exit.then];refine bodyPost_ret (results_none rfl _ _ _) rfl ?_)|refine bodyPost_ret (results_none rfl _ _ _) rfl ?_
 go_wp2
 go_end0
 exact⟨rfl,rfl⟩
end Go.Proofs.YtdnaaelkpgijeaaGreatDoor.Once
namespace Go.Proofs.YtdnaaelkpgijeaaGreatDoor.Once
open Go.Sym(oB oC)
set_option maxHeartbeats 1600000 in
def z2u(b:Nat)(w:World)(R:World->Prop)
  (h0:w.cell? ⟨b,0,none⟩=some (.int .u32 0)) (h1:w.cell? ⟨b,0+1,none⟩=some (.int .i32 0)) (f0:w.frozen? ⟨b,0,none⟩=false) (f1:w.frozen? ⟨b,0+1,none⟩=false)
  (hf:Calls Tryz.prog 107 #[.pointer (some ⟨b,0,none⟩)] (w.setCell ⟨b,0+1,none⟩ (.int .i32 1)) fun e w'=>e = .returned (.tuple #[])/\R w')
  (hR:∀w',R w'->w'.cell? ⟨b,0,none⟩=some (.int .u32 0)/\w'.frozen? ⟨b,0,none⟩=false/\w'.cell? ⟨b,0+1,none⟩=some (.int .i32 1)/\w'.frozen? ⟨b,0+1,none⟩=false) :
  Calls Tryz.prog 152 #[.pointer (some ⟨b,0,none⟩),.func (.func 107) #[.pointer (some ⟨b,0,none⟩)] #[]] w fun e w'=>e = .returned (.tuple #[])/\∃w1,R w1/\w'=(w1.drew.setCell ⟨b,0,none⟩ (.int .u32 1)).setCell ⟨b,0+1,none⟩ (.int .i32 0):=by
 have hl:=run_call_load (P:=Tryz.prog) Tryz.func186 oC oC oC .u32 oC (w:=w.setCell ⟨b,0+1,none⟩ (.int .i32 1)) (a:=⟨b,0,none⟩) (x:=0) ((World.cell?_setCell_other _ ⟨b,0+1,none⟩ ⟨b,0,none⟩ _ oB).trans h0)
 have hnot:∀(x:Bool)(w:World),(Op.unary .not (.bool x)).run Tryz.prog w = .ok (.bool (!x)) w:=fun _ _=>rfl
 go_enter_defers Tryz.func152,Tryz.ntmps152
 go_wp2_with (first|(go_at_call 187;refine(zyd ⟨b,0+1,none⟩ _ (by go_simp) (by go_simp)).mono ?_;rintro e w' ⟨rfl,rfl⟩)|(go_at_call 151;go_in)|(go_at_call 107;refine hf.mono ?_;rintro e w' ⟨rfl,hw⟩))
 obtain⟨r0,rf0,r1,rf1⟩:=hR w' hw
 first|go_end0|skip
 first|go_wp2|skip
 refine leaves_cons (f:=189) (args:=#[.pointer (some ⟨b,0,none⟩),.bool true]) oB (by simp[go_sem]) ?_
 refine(z3c ⟨b,0,none⟩ (.int .u32 0) .returning _ r0 rf0).mono ?_;rintro e u' w'' ⟨rfl,rfl,rfl⟩
 refine leaves_cons (f:=188) (args:=#[.pointer (some ⟨b,0+1,none⟩)]) (by simp[settle]) (by simp[go_sem]) ?_
 have r1':(w'.drew.setCell ⟨b,0,none⟩ (.int .u32 1)).cell? ⟨b,0+1,none⟩=some (.int .i32 1):=by
  refine(World.cell?_setCell_other _ ⟨b,0,none⟩ ⟨b,0+1,none⟩ _ oB).trans ?_
  rw[World.cell?_drew];exact r1
 refine(z4e ⟨b,0+1,none⟩ _ _ r1' (by simp[rf1])).mono ?_
 rintro e u' w'' ⟨rfl,rfl,rfl⟩
 simp[Leaves,settle,results,Tryz.results152];exact⟨w',hw,rfl⟩
set_option maxHeartbeats 1600000 in
def zf4(b:Nat)(w:World)(R:World->Prop)
  (h0:w.cell? ⟨b,0,none⟩=some (.int .u32 0)) (h1:w.cell? ⟨b,0+1,none⟩=some (.int .i32 0)) (f0:w.frozen? ⟨b,0,none⟩=false) (f1:w.frozen? ⟨b,0+1,none⟩=false)
  (hf:Calls Tryz.prog 107 #[.pointer (some ⟨b,0,none⟩)] (w.setCell ⟨b,0+1,none⟩ (.int .i32 1)) fun e w'=>e = .returned (.tuple #[])/\R w')
  (hR:∀w',R w'->w'.cell? ⟨b,0,none⟩=some (.int .u32 0)/\w'.frozen? ⟨b,0,none⟩=false/\w'.cell? ⟨b,0+1,none⟩=some (.int .i32 1)/\w'.frozen? ⟨b,0+1,none⟩=false) :
  Calls Tryz.prog 106 #[.pointer (some ⟨b,0,none⟩),.func (.func 107) #[.pointer (some ⟨b,0,none⟩)] #[]] w fun e w'=>e = .returned (.tuple #[])/\∃w1,R w1/\w'=(w1.drew.setCell ⟨b,0,none⟩ (.int .u32 1)).setCell ⟨b,0+1,none⟩ (.int .i32 0):=by
 have hl:=run_call_load (P:=Tryz.prog) Tryz.func186 oC oC oC .u32 oC h0
 have hnot:∀(x:Bool)(w:World),(Op.unary .not (.bool x)).run Tryz.prog w = .ok (.bool (!x)) w:=fun _ _=>rfl
 go_enter Tryz.func106,Tryz.ntmps106
 go_wp2_with (first|(go_at_call 151;go_in)|(go_at_call 152;refine(z2u b w R h0 h1 f0 f1 hf hR).mono ?_;rintro e w' ⟨rfl,w1,hw1,rfl⟩))
 go_end0
 exact⟨rfl,w1,hw1,rfl⟩
set_option maxHeartbeats 1600000 in
def zvi(a:Addr)(d:Int)(hd:¬d=0)(fv:Value)(w:World)(h0:w.cell? a=some (.int .u32 d)) :
  Calls Tryz.prog 106 #[.pointer (some a),fv] w fun e w'=>e = .returned (.tuple #[])/\w'=w:=by
 have hl:=run_call_load (P:=Tryz.prog) Tryz.func186 oC oC oC .u32 oC h0
 have hnot:∀(x:Bool)(w:World),(Op.unary .not (.bool x)).run Tryz.prog w = .ok (.bool (!x)) w:=fun _ _=>rfl
 have hd':(d != 0)=true:=by simp[hd]
 go_enter Tryz.func106,Tryz.ntmps106
 go_wp2
 go_end0
 exact⟨rfl,rfl⟩
end Go.Proofs.YtdnaaelkpgijeaaGreatDoor.Once
namespace Go.Proofs.YtdnaaelkpgijeaaGreatDoor.Once
open Go.Sym(oB)
set_option maxHeartbeats 1600000 in
def replace_first(b:Nat)(s:ByteArray)(w:World)(R:World->Prop)(Q:Value->World->Prop)
  (h0:w.cell? ⟨b,0,none⟩=some (.int .u32 0)) (h1:w.cell? ⟨b,0+1,none⟩=some (.int .i32 0)) (f0:w.frozen? ⟨b,0,none⟩=false) (f1:w.frozen? ⟨b,0+1,none⟩=false)
  (hf:Calls Tryz.prog 107 #[.pointer (some ⟨b,0,none⟩)] (w.setCell ⟨b,0+1,none⟩ (.int .i32 1)) fun e w'=>e = .returned (.tuple #[])/\R w')
  (hR:∀w',R w'->w'.cell? ⟨b,0,none⟩=some (.int .u32 0)/\w'.frozen? ⟨b,0,none⟩=false/\w'.cell? ⟨b,0+1,none⟩=some (.int .i32 1)/\w'.frozen? ⟨b,0+1,none⟩=false)
  (hg:∀w',R w'->∃g,w'.cell? ⟨b,3,none⟩=some (.iface 244 (.pointer (some ⟨g,0,none⟩))) /\
   Calls Tryz.prog 386 #[.pointer (some ⟨g,0,none⟩),.string s] ((w'.drew.setCell ⟨b,0,none⟩ (.int .u32 1)).setCell ⟨b,0+1,none⟩ (.int .i32 0)) fun e w''=>∃v,e = .returned v/\Q v w'') :
  Calls Tryz.prog 61 #[.pointer (some ⟨b,0,none⟩),.string s] w fun e w'=>∃v,e = .returned v/\Q v w':=by
 have hme : ∀ (g : Nat) (w : World), (method 545 244 (.pointer (some ⟨g, 0, none⟩)) "Replace").run Tryz.prog w = .ok (386, .pointer (some ⟨g, 0, none⟩)) w := fun _ _ => by kernel_rfl
 go_enter Tryz.func61,Tryz.ntmps61
 go_wp2_with (first|(go_at_call 106;refine(zf4 b w R h0 h1 f0 f1 hf hR).mono ?_;rintro e w' ⟨rfl,w1,hw1,rfl⟩;obtain⟨g,hg1,hg2⟩:=hg w1 hw1;have hc3:((w1.drew.setCell ⟨b,0,none⟩ (.int .u32 1)).setCell ⟨b,0+1,none⟩ (.int .i32 0)).cell? ⟨b,3,none⟩=some (.iface 244 (.pointer (some ⟨g,0,none⟩))):=((World.cell?_setCell_other _ ⟨b,0+1,none⟩ ⟨b,3,none⟩ _ oB).trans ((World.cell?_setCell_other _ ⟨b,0,none⟩ ⟨b,3,none⟩ _ oB).trans (by rw[World.cell?_drew];exact hg1))))|(go_at_call 386;refine hg2.mono ?_;rintro e w' ⟨v,rfl,hq⟩))
 go_ret
 exact⟨_,rfl,hq⟩
set_option maxHeartbeats 1600000 in
def replace_done(b g:Nat)(s:ByteArray)(w:World)(Q:Value->World->Prop)(d:Int)(hd:¬d=0)
  (h0:w.cell? ⟨b,0,none⟩=some (.int .u32 d)) (hc3:w.cell? ⟨b,3,none⟩=some (.iface 244 (.pointer (some ⟨g,0,none⟩))))
  (hg2:Calls Tryz.prog 386 #[.pointer (some ⟨g,0,none⟩),.string s] w fun e w''=>∃v,e = .returned v/\Q v w'') :
  Calls Tryz.prog 61 #[.pointer (some ⟨b,0,none⟩),.string s] w fun e w'=>∃v,e = .returned v/\Q v w':=by
 have hme : ∀ (g : Nat) (w : World), (method 545 244 (.pointer (some ⟨g, 0, none⟩)) "Replace").run Tryz.prog w = .ok (386, .pointer (some ⟨g, 0, none⟩)) w := fun _ _ => by kernel_rfl
 go_enter Tryz.func61,Tryz.ntmps61
 go_wp2_with (first|(go_at_call 106;refine(zvi ⟨b,0,none⟩ d hd _ w h0).mono ?_;rintro e w' ⟨rfl,rfl⟩)|(go_at_call 386;refine hg2.mono ?_;rintro e w' ⟨v,rfl,hq⟩))
 go_ret
 exact⟨_,rfl,hq⟩
set_option maxHeartbeats 1600000 in
def replaceS_first(b:Nat)(s:ByteArray)(w:World)(R:World->Prop)(Q:Value->World->Prop)
  (h0:w.cell? ⟨b,0,none⟩=some (.int .u32 0)) (h1:w.cell? ⟨b,0+1,none⟩=some (.int .i32 0)) (f0:w.frozen? ⟨b,0,none⟩=false) (f1:w.frozen? ⟨b,0+1,none⟩=false)
  (hf:Calls Tryz.prog 107 #[.pointer (some ⟨b,0,none⟩)] (w.setCell ⟨b,0+1,none⟩ (.int .i32 1)) fun e w'=>e = .returned (.tuple #[])/\R w')
  (hR:∀w',R w'->w'.cell? ⟨b,0,none⟩=some (.int .u32 0)/\w'.frozen? ⟨b,0,none⟩=false/\w'.cell? ⟨b,0+1,none⟩=some (.int .i32 1)/\w'.frozen? ⟨b,0+1,none⟩=false)
  (hg:∀w',R w'->∃g,w'.cell? ⟨b,3,none⟩=some (.iface 248 (.pointer (some ⟨g,0,none⟩))) /\
   Calls Tryz.prog 388 #[.pointer (some ⟨g,0,none⟩),.string s] ((w'.drew.setCell ⟨b,0,none⟩ (.int .u32 1)).setCell ⟨b,0+1,none⟩ (.int .i32 0)) fun e w''=>∃v,e = .returned v/\Q v w'') :
  Calls Tryz.prog 61 #[.pointer (some ⟨b,0,none⟩),.string s] w fun e w'=>∃v,e = .returned v/\Q v w':=by
 have hme : ∀ (g : Nat) (w : World), (method 545 248 (.pointer (some ⟨g, 0, none⟩)) "Replace").run Tryz.prog w = .ok (388, .pointer (some ⟨g, 0, none⟩)) w := fun _ _ => by kernel_rfl
 go_enter Tryz.func61,Tryz.ntmps61
 go_wp2_with (first|(go_at_call 106;refine(zf4 b w R h0 h1 f0 f1 hf hR).mono ?_;rintro e w' ⟨rfl,w1,hw1,rfl⟩;obtain⟨g,hg1,hg2⟩:=hg w1 hw1;have hc3:((w1.drew.setCell ⟨b,0,none⟩ (.int .u32 1)).setCell ⟨b,0+1,none⟩ (.int .i32 0)).cell? ⟨b,3,none⟩=some (.iface 248 (.pointer (some ⟨g,0,none⟩))):=((World.cell?_setCell_other _ ⟨b,0+1,none⟩ ⟨b,3,none⟩ _ oB).trans ((World.cell?_setCell_other _ ⟨b,0,none⟩ ⟨b,3,none⟩ _ oB).trans (by rw[World.cell?_drew];exact hg1))))|(go_at_call 388;refine hg2.mono ?_;rintro e w' ⟨v,rfl,hq⟩))
 go_ret
 exact⟨_,rfl,hq⟩
end Go.Proofs.YtdnaaelkpgijeaaGreatDoor.Once
namespace Go.Sym
open Go.RowKit
variable[LC]
def bq.blocks_none{G:Gh}{hp:List (Nat×ag)}{w:World}(hm:bq G hp w){b:Nat}(h:od G hp b)(o:Nat):G.imm b o=none:=by
 obtain⟨n,bx,hl,ha⟩:=h;have hb:=hm.holds n bx hl
 cases bx with
 |cells cs T=>obtain⟨B,vs,h1,_,_,_,h5⟩:=hb;simp only[Gh.at,h1,qI]at ha;subst ha;exact h5 o
 |row τ l E=>
  obtain⟨a,c,h1,h2⟩:=hb;rcases h2 with⟨rfl,_⟩|⟨g,vs,fz,rfl,_,_,_,_,_,_,_,h9⟩
  ·simp only[Gh.at,h1]at ha;cases ha
  ·simp only[Gh.at,h1,qI]at ha;subst ha;exact h9 o
 |loop st pe f m fr ps tag D=>obtain⟨B,tmps,DB,h1,_,_,_,_,h5⟩:=hb;simp only[Gh.at,h1,qI]at ha;subst ha;exact h5 o
 |dfr=>obtain⟨B,h1,_,h5⟩:=hb;simp only[Gh.at,h1,qI]at ha;subst ha;exact h5 o
 |it s p=>obtain⟨B,h1,_,h5⟩:=hb;simp only[Gh.at,h1,qI]at ha;subst ha;exact h5 o
 |dead=>cases ha
def ce.gone{P:Program}{f:FuncId}{xs:List AV}{hp:List (Nat×ag)}{r:AV}
  (h:∀(w:World)(G:Gh)(vs:List Value),bq G hp w->ak xs G vs->Calls P f vs.toArray w fun e w'=>∃v,e = .returned v/\aj r G v/\bu (od G hp) w w'):ce P f xs hp r []:=by
 intro w G vs hm hr;refine(h w G vs hm hr).mono ?_;rintro e w' ⟨v,rfl,hv,hs⟩
 have hblk:∀b o v,G.imm b o=some v->w'.heap[b]? = w.heap[b]? := fun b o v hv=>hs.block b (World.block_lt_of_cell? _ _ (hm.agree b o v hv)) fun hb=>by
  rw[hm.blocks_none hb o]at hv;cases hv
 refine⟨v,G,rfl,⟨⟨fun b o v hv=>by rw[World.cell?_of_block (w:=w) (hblk b o v hv)];exact hm.agree b o v hv,hm.one,fun n bx h=>(by cases h),fun n m bx bx' b h=>(by cases h),LC.mono (fun _ _ _ h=>h) hblk hm.tab⟩,hs,fun _ _ _ h=>h,fun _ _ _ h => .inl h,fun n bx b h=>(by cases h),fun _ _ _ _ h=>h,fun _ _ _ _ h=>h⟩,hv⟩
end Go.Sym
set_option linter.unusedVariables false
namespace Go.Proofs.Repl
open Go.Shelf Go.RowKit Go.Lib Go.Sym
def lx.setCell{R q n:Nat}{u:Int}{a b a1 a2 b1 b2:UInt8}{w:World}(h:lx R a b a1 a2 b1 b2 w)(hq:w.cell? ⟨q,0,none⟩=some (.int .u32 u))(v:Value):lx R a b a1 a2 b1 b2 (w.setCell ⟨q,n,none⟩ v):=by
 obtain⟨ga,gb,gt,ca,cb,ct,h1,h2,h3,h4,h5,h6,h7,h8⟩:=h.ex;have kR:¬R=q:=fun e=>by
  have:=h1 0;subst e;rw[show(0:UInt8).toNat=0 from rfl,hq]at this
  unfold rv at this;split at this
  ·cases this
  ·split at this<;>cases this
 have kt:¬gt=q:=fun e=>by subst e;rw[hq]at h3;cases h3
 have ka:¬ga=q:=fun e=>by subst e;rw[hq]at h5;cases h5
 have kb:¬gb=q:=fun e=>by subst e;rw[hq]at h7;cases h7
 have k:∀{p:Nat}{o:Nat}{x:Value},¬p=q->w.cell? ⟨p,o,none⟩=some x->(w.setCell ⟨q,n,none⟩ v).cell? ⟨p,o,none⟩=some x:=fun{p o x} hp hx=>by
  rw[World.cell?_of_block (w:=w) (Below.heap_setCell w ⟨q,n,none⟩ v p hp)];exact hx
 exact⟨ga,gb,gt,ca,cb,ct,fun c=>k kR (h1 c),k kR h2,k kt h3,k kt h4,k ka h5,k ka h6,k kb h7,k kb h8⟩
structure Once(q:Nat)(w w':World):Prop where
 bel:bu (fun k=>k=q) w w'
 c0:w'.cell? ⟨q,0,none⟩=some (.int .u32 0)
 c1:w'.cell? ⟨q,0+1,none⟩=some (.int .i32 1)
 f0:w'.frozen? ⟨q,0,none⟩=false
 f1:w'.frozen? ⟨q,0+1,none⟩=false
def ztj(S:Nat->Prop)(w:World):bu S w w.drew:=⟨rfl,rfl,rfl,wF _,fun _ _ _=>rfl⟩
def q0u{S:Nat->Prop}{w w':World}(h:Below w.heap.size w w'):bu S w w':=⟨h.os,h.tape,h.output,h.size,fun k hk _=>h.block k hk⟩
def qiw{q:Nat}{w w':World}(h:bu (fun k=>k=q) w w')(n:Nat)(v:Value):bu (fun k=>k=q) w (w'.setCell ⟨q,n,none⟩ v):=
 ⟨h.os,h.tape,h.output,by simp[World.setCell];exact h.size,fun k hk hn=>(Below.heap_setCell w' ⟨q,n,none⟩ v k hn).trans (h.block k hk hn)⟩
def q0v{S:Nat->Prop}{a b c:World}(h:bu S a b)(k:bu S b c):bu S a c:=
 ⟨k.os.trans h.os,k.tape.trans h.tape,k.output.trans h.output,Nat.le_trans h.size k.size,fun i hi hn=>(k.block i (Nat.lt_of_lt_of_le hi h.size) hn).trans (h.block i hi hn)⟩
set_option maxHeartbeats 1600000 in
def ztu(q ro cap:Nat)(v3:Value)(a b a1 a2 b1 b2:UInt8)(w:World)(hab:a≠b)
  (c0:w.cell? ⟨q,0,none⟩=some (.int .u32 0)) (c1:w.cell? ⟨q,0+1,none⟩=some (.int .i32 1)) (hf:∀j,w.frozen? ⟨q,j,none⟩=false) (c3:w.cell? ⟨q,3,none⟩=some v3)
  (hc:w.cell? ⟨q,4,none⟩=some (.slice (some ⟨ro,0,none⟩) 4 cap)) (h0:w.cell? ⟨ro,0,none⟩=some (.string ⟨#[a]⟩)) (h1:w.cell? ⟨ro,1,none⟩=some (.string ⟨#[a1,a2]⟩)) (h2:w.cell? ⟨ro,2,none⟩=some (.string ⟨#[b]⟩)) (h3:w.cell? ⟨ro,3,none⟩=some (.string ⟨#[b1,b2]⟩)) :
  Calls Tryz.prog 107 #[.pointer (some ⟨q,0,none⟩)] w fun e w'=>e = .returned (.tuple #[])/\Once q w w'/\∃R,w'.cell? ⟨q,3,none⟩=some (.iface 248 (.pointer (some ⟨R,0,none⟩)))/\lx R a b a1 a2 b1 b2 w':=by
 have hqlt:q<w.heap.size:=World.block_lt_of_cell? _ _ c0;have hB:=ztq q ro cap a b a1 a2 b1 b2 w hab hc h0 h1 h2 h3
 go_enter Tryz.func107,Tryz.ntmps107
 go_wp2_with (go_at_call 153;go_must (refine hB.mono ?_;rintro e W ⟨R,rfl,hBu,hbe⟩;have k0:∀{j:Nat}{v:Value},w.cell? ⟨q,j,none⟩=some v->W.cell? ⟨q,j,none⟩=some v:=(fun hj=>(hbe.cell (World.block_lt_of_cell? _ _ hj)).trans hj);have kf:∀j,W.frozen? ⟨q,j,none⟩=false:=(fun j=>(hbe.frozen (p:=⟨q,j,none⟩) hqlt).trans (hf j));have d0:=k0 c0;have d1:=k0 c1;have d3:=k0 c3;have d4:=k0 hc;clear hB hf k0))
 have d0':(W.setCell ⟨q,3,none⟩ (.iface 248 (.pointer (some ⟨R,0,none⟩)))).cell? ⟨q,0,none⟩=some (.int .u32 0):=by rw[World.cell?_setCell_other _ _ _ _ oB];exact d0
 have d1':(W.setCell ⟨q,3,none⟩ (.iface 248 (.pointer (some ⟨R,0,none⟩)))).cell? ⟨q,0+1,none⟩=some (.int .i32 1):=by rw[World.cell?_setCell_other _ _ _ _ oB];exact d1
 have d3':=World.cell?_setCell_same W ⟨q,3,none⟩ (.iface 248 (.pointer (some ⟨R,0,none⟩))) d3
 go_end0
 refine⟨rfl,⟨qiw (qiw (q0u hbe) 3 _) 4 _,?_,?_,?_,?_⟩,R,?_,(hBu.setCell d0 _).setCell d0' _⟩
 ·rw[World.cell?_setCell_other _ _ _ _ oB];exact d0'
 ·rw[World.cell?_setCell_other _ _ _ _ oB];exact d1'
 ·simp[kf]
 ·simp[kf]
 ·rw[World.cell?_setCell_other _ _ _ _ oB];exact d3'
def replS(q ro cap:Nat)(v3:Value)(a b a1 a2 b1 b2:UInt8)(s:ByteArray)(w:World)(hab:a≠b)(hs:s.size<=1000000)
  (c0:w.cell? ⟨q,0,none⟩=some (.int .u32 0)) (c1:w.cell? ⟨q,0+1,none⟩=some (.int .i32 0)) (hf:∀j,w.frozen? ⟨q,j,none⟩=false) (c3:w.cell? ⟨q,3,none⟩=some v3)
  (hc:w.cell? ⟨q,4,none⟩=some (.slice (some ⟨ro,0,none⟩) 4 cap)) (h0:w.cell? ⟨ro,0,none⟩=some (.string ⟨#[a]⟩)) (h1:w.cell? ⟨ro,1,none⟩=some (.string ⟨#[a1,a2]⟩)) (h2:w.cell? ⟨ro,2,none⟩=some (.string ⟨#[b]⟩)) (h3:w.cell? ⟨ro,3,none⟩=some (.string ⟨#[b1,b2]⟩)) :
  Calls Tryz.prog 61 #[.pointer (some ⟨q,0,none⟩),.string s] w fun e w'=>∃v,e = .returned v/\v = .string ⟨(fc a b [a1,a2] [b1,b2] s.data.toList).toArray⟩/\bu (fun k=>k=q) w w':=by
 have hne:¬ro=q:=fun e=>by subst e;rw[c0]at h0;cases h0
 have k:∀{p:Addr}{x:Value},p≠⟨q,0+1,none⟩->w.cell? p=some x->(w.setCell ⟨q,0+1,none⟩ (.int .i32 1)).cell? p=some x:=fun{p x} hp hx=>by
  rw[World.cell?_setCell_other _ _ _ _ (fun e=>hp e.symm)];exact hx
 have kb:bu (fun k=>k=q) w (w.setCell ⟨q,0+1,none⟩ (.int .i32 1)):=qiw (q0u (Below.refl _ _)) _ _
 refine Go.Proofs.YtdnaaelkpgijeaaGreatDoor.Once.replaceS_first q s w (fun w'=>Once q (w.setCell ⟨q,0+1,none⟩ (.int .i32 1)) w'/\∃R,w'.cell? ⟨q,3,none⟩=some (.iface 248 (.pointer (some ⟨R,0,none⟩)))/\lx R a b a1 a2 b1 b2 w') (fun v w'=>v = .string ⟨(fc a b [a1,a2] [b1,b2] s.data.toList).toArray⟩/\bu (fun k=>k=q) w w') c0 c1 (hf _) (hf _) ?_ ?_ ?_
 ·exact ztu q ro cap v3 a b a1 a2 b1 b2 _ hab (k oB c0) (World.cell?_setCell_same w _ _ c1) (fun j=>by simp[hf]) (k oB c3) (k oB hc) (k (by intro h;exact hne (congrArg Addr.block h)) h0) (k (by intro h;exact hne (congrArg Addr.block h)) h1) (k (by intro h;exact hne (congrArg Addr.block h)) h2) (k (by intro h;exact hne (congrArg Addr.block h)) h3)
 ·rintro w' ⟨ho,_⟩
  exact⟨ho.c0,ho.f0,ho.c1,ho.f1⟩
 ·rintro w' ⟨ho,R,hR,hBu⟩
  refine⟨R,hR,?_⟩;have e0:w'.drew.cell? ⟨q,0,none⟩=some (.int .u32 0):=by rw[World.cell?_drew];exact ho.c0
  have e1:=World.cell?_setCell_same w'.drew ⟨q,0,none⟩ (.int .u32 1) e0;have hB2:lx R a b a1 a2 b1 b2 ((w'.drew.setCell ⟨q,0,none⟩ (.int .u32 1)).setCell ⟨q,0+1,none⟩ (.int .i32 0)):=
   ((hBu.below (Below.refl _ w').drew).setCell e0 _).setCell e1 _
  have hBel:bu (fun k=>k=q) w ((w'.drew.setCell ⟨q,0,none⟩ (.int .u32 1)).setCell ⟨q,0+1,none⟩ (.int .i32 0)):=
   qiw (qiw (q0v (q0v kb ho.bel) (ztj _ _)) 0 _) (0+1) _
  refine(ztx R a b a1 a2 b1 b2 s _ hab hs hB2).mono ?_;rintro e w2 ⟨rfl,hb2⟩
  exact⟨_,rfl,rfl,q0v hBel (q0u hb2)⟩
end Go.Proofs.Repl
namespace Go.Sym
open Go.Proofs Go.RowKit
variable[LC]
def z1p(a b a1 a2 b1 b2:UInt8)(s:Bs)(p2:Int)(hab:a≠b)(hs:s.length<=1000000) :
  ce Tryz.prog 61 [.ptr 0 0,.str s] [(0,.cells [.int .u32 0,.int .i32 0,.int .u32 p2,.val .nilIface,.own 1] 152),(1,.row .str [[a],[a1,a2],[b],[b1,b2]] 9)] (.str (fc a b [a1,a2] [b1,b2] s)) []:=by
 refine ce.gone fun w G vs hm hr => ?_
 match vs,hr with
 |[v1,v2],hr=>
 obtain⟨⟨q,hG,rfl⟩,r2,_⟩:=hr;have r2:v2 = .string ⟨s.toArray⟩:=r2;subst r2;obtain⟨B,cs,g1,g2,g3,g4,g5⟩:=hm.holds 0 _ rfl;rw[show G.box 0=some q from hG]at g1
 cases g1
 obtain⟨ad,c,us,o1,o2,o3,o4⟩:=(hm.holds 1 (.row .str [[a],[a1,a2],[b],[b1,b2]] 9) rfl).rowAt;obtain⟨u0,c0,x0⟩:=jx g3 (i:=0) rfl;obtain⟨u1,c1,x1⟩:=jx g3 (i:=1) rfl;obtain⟨u3,c3,x3⟩:=jx g3 (i:=3) rfl;obtain⟨u4,c4,x4⟩:=jx g3 (i:=4) rfl;have x0:u0 = .int .u32 0:=x0;have x1:u1 = .int .i32 0:=x1;obtain⟨ad',n',c',x5,x4⟩:=x4;rw[o1]at x5;cases x5
 subst x0 x1 x4;have k:∀{i:Nat}{v:Value},cs.toList[i]? = some v->w.cell? ⟨q,i,none⟩=some v:=fun{i v} h=>cell_of_heap g2 h
 obtain⟨ho1,ho2⟩:=o2;rcases ho2 with⟨_,h0,_⟩|⟨g,vr,fz,rfl,e1,_,e3,e4,e5,e6,_⟩
 ·cases h0
 ·have hus:us=[.string ⟨#[a]⟩,.string ⟨#[a1,a2]⟩,.string ⟨#[b]⟩,.string ⟨#[b1,b2]⟩]:=by
   match us,o3 with
   |[y0,y1,y2,y3],⟨z0,z1,z2,z3,_⟩=>
    have z0:y0 = .string ⟨#[a]⟩:=z0;have z1:y1 = .string ⟨#[a1,a2]⟩:=z1;have z2:y2 = .string ⟨#[b]⟩:=z2;have z3:y3 = .string ⟨#[b1,b2]⟩:=z3;rw[z0,z1,z2,z3]
  have kr:∀{i:Nat}{v:Value},us[i]? = some v->w.cell? ⟨g,i,none⟩=some v:=fun{i v} h=>by
   rw[← e6,List.getElem?_take]at h;split at h
   ·exact cell_of_heap e1 h
   ·cases h
  subst hus;refine(Go.Proofs.Repl.replS q g c u3 a b a1 a2 b1 b2 ⟨s.toArray⟩ w hab (by rw[iv];exact hs) (k c0) (k c1) (fun j=>by simp[World.frozen?,g2]) (k c3) (k c4) (kr (i:=0) rfl) (kr (i:=1) rfl) (kr (i:=2) rfl) (kr (i:=3) rfl)).mono ?_
  rintro e w' ⟨v,rfl,rfl,hb⟩
  refine⟨_,rfl,rfl,⟨hb.os,hb.tape,hb.output,hb.size,fun k hk hn=>hb.block k hk (fun e=>hn ?_)⟩⟩
  subst e;exact⟨0,_,rfl,hG⟩
def q4m:IF:=⟨.fn 61,[.ptr 0 0,.h .str],[(0,.cells [.h (.int .u32),.h (.int .i32),.h (.int .u32),.c .nilIface,.own 1] 152),(1,.row .str 9)],_,RS.mk (.h .str) []⟩
def zkh:(q4m.e t8).Sound Tryz.prog:=fun d d' r h=>by
 obtain⟨_,s,_⟩:=d;obtain⟨⟨p0,p1,p2,_,_,_⟩,on,_⟩:=d';have h:t8 s p0 p1 p2 on=some r:=h;obtain⟨a,a1,a2,b,b1,b2,rfl,rfl,rfl,hab,hs,rfl⟩:=z1s h;exact⟨Tryz.call61,z1p a b a1 a2 b1 b2 s p2 hab hs⟩
end Go.Sym
namespace Go.Sym
open Go.Proofs Go.RowKit
open Go.Proofs.Tryz
variable[LC]
def zem:Builder.Extra Tryz.prog Tryz.lays105_ren:={
 sizeBuilder:=oC
 liesBuilder:=oC
 t5:=Tryz.lays105.t5
 a5:=Tryz.lays105.a5
 z5:=Tryz.lays105.z5
 v5:=Tryz.lays105.v5
 infoByte:=oC
 cellsByte:=oC
 sizeByte:=oC
 neB5:=by decide }
def z1j{w:World}(s:Bs)(n:Int)(d1:0<=n)(d2:n<=9223372036854775807)(d3:s.length*n.toNat<=140737488355328) :
  Calls Tryz.prog 119 #[.string ⟨s.toArray⟩,.int .i64 n] w fun e w'=>e = .returned (.string ⟨(Lib.repeatL s n.toNat).toArray⟩)/\cd w w':=by
 have hn:n=((n.toNat:Nat):Int):=oA
 have key:=Any.strings_Repeat Tryz.lays105 zem ⟨s.toArray⟩ n.toNat w oA (by rw[iv];exact d3)
 rw[← hn]at key;exact key.mono fun e w'⟨he,hw⟩=>⟨he,cd.of_below hw⟩
def zkd:IF:=⟨.fn 119,[.h .str,.h (.int .i64)],[],_,RS.mk (.h .str) []⟩
def z1k:(zkd.e qhr).Sound Tryz.prog:=fun d d' r h=>by
 obtain⟨s,n,_⟩:=d;have h:qhr s n=some r:=h;unfold qhr at h;cases hd:decide (0<=(show Int from n)/\(show Int from n)<=9223372036854775807/\List.length (α:=UInt8) s*(show Int from n).toNat<=140737488355328)<;>rw[hd]at h<;>simp only[qT,qF,reduceCtorEq]at h
 have h:=qJ h;subst h;obtain⟨d1,d2,d3⟩:=of_decide_eq_true hd;refine⟨call119,ce.data fun w G vs hm hr => ?_⟩
 match vs,hr with
 |[u,v],⟨h1,h2,_⟩=>
  have h1:u = .string ⟨s.toArray⟩:=h1;have h2:v = .int .i64 n:=h2;subst h1 h2;exact(z1j s n d1 d2 d3).mono fun e w'⟨he,hw⟩=>⟨_,he,rfl,hw⟩
def zto:Builder.Extra Tryz.prog Tryz.lays155_ren:={
 sizeBuilder:=oC
 liesBuilder:=oC
 t5:=Tryz.lays155.t5
 a5:=Tryz.lays155.a5
 z5:=Tryz.lays155.z5
 v5:=Tryz.lays155.v5
 infoByte:=oC
 cellsByte:=oC
 sizeByte:=oC
 neB5:=by decide }
def z1n{G:Gh}{w:World}(hm:bq G [] w)(hi:2∈LC.ints)(s o n:Bs)(d1:1<=o.length)(d2:s.length<4294967281)(d3:s.length+s.length*n.length<=140737488355328) :
  Calls Tryz.prog 176 #[.string ⟨s.toArray⟩,.string ⟨o.toArray⟩,.string ⟨n.toArray⟩] w fun e w'=>e = .returned (.string ⟨(Lib.replaceAll s o n).toArray⟩)/\cd w w':=by
 obtain⟨k,hk⟩:=hm.tab.2.1 _ hi;have hk:=hm.agree _ _ _ hk;have hc:Lib.countB ⟨s.toArray⟩ ⟨o.toArray⟩<=s.length:=by
  have:=Lib.countB_mul_le (⟨o.toArray⟩:ByteArray) (by rw[iv];exact d1) _ (⟨s.toArray⟩:ByteArray) (wF _)
  rw[iv,iv]at this;exact Nat.le_trans (Nat.le_mul_of_pos_right _ d1) this
 exact(Any.strings_ReplaceAll Tryz.lays155 zto ⟨s.toArray⟩ ⟨o.toArray⟩ ⟨n.toArray⟩ k w (by rw[iv];exact d2) hk (by rw[iv];exact d1) (by
  rw[iv,iv];exact Nat.le_trans (Nat.add_le_add_left (Nat.mul_le_mul_right _ hc) _) d3)).mono fun e w'⟨he,hw⟩=>⟨he,cd.of_below hw⟩
def zke:IF:=⟨.fn 176,[.h .str,.h .str,.h .str],[],_,RS.mk (.h .str) []⟩
def z1o(hi:2∈LC.ints):(zke.e qdi).Sound Tryz.prog:=fun d d' r h=>by
 obtain⟨s,o,n,_⟩:=d;have h:qdi s o n=some r:=h;unfold qdi at h;cases hd:decide (1<=List.length (α:=UInt8) o/\List.length (α:=UInt8) s<4294967281/\List.length (α:=UInt8) s+List.length (α:=UInt8) s*List.length (α:=UInt8) n<=140737488355328)<;>rw[hd]at h<;>simp only[qT,qF,reduceCtorEq]at h
 have h:=qJ h;subst h;obtain⟨d1,d2,d3⟩:=of_decide_eq_true hd;refine⟨call176,ce.data fun w G vs hm hr => ?_⟩
 match vs,hr with
 |[u,v,x],⟨h1,h2,h3,_⟩=>
  have h1:u = .string ⟨s.toArray⟩:=h1;have h2:v = .string ⟨o.toArray⟩:=h2;have h3:x = .string ⟨n.toArray⟩:=h3;subst h1 h2 h3;exact(z1n hm hi s o n d1 d2 d3).mono fun e w'⟨he,hw⟩=>⟨_,he,rfl,hw⟩
end Go.Sym
namespace Go.Sym
open Go.Proofs Go.RowKit Go.Shelf
def bu.refl(S:Nat->Prop)(w:World):bu S w w:=⟨rfl,rfl,rfl,wF _,fun _ _ _=>rfl⟩
def bu.drew(S:Nat->Prop)(w:World):bu S w w.drew:=⟨rfl,rfl,rfl,wF _,fun _ _ _=>rfl⟩
def bu.freeze{S:Nat->Prop}(w:World)(p:Addr)(n:Nat)(h:S p.block):bu S w (w.drew.freeze p n):=by
 unfold World.freeze;split
 ·exact bu.drew S w
 ·exact⟨rfl,rfl,rfl,oB,fun k hk hS=>by
   simp[Array.getElem?_modify];rw[qW (fun e=>hS (by rw[← e];exact h))];rfl⟩
def bu.drew_alloc(S:Nat->Prop)(w:World)(o:Obj):bu S w (w.drew.alloc o):=⟨rfl,rfl,rfl,oB,fun k hk _=>Below.heap_alloc w.drew _ k hk⟩
def ze8{G:Gh}:∀{l:List UInt8}{us:List Value},ak (l.flatMap Ty.byte.enc) G us->us=Lib.byteCells l
 |[],[],_=>rfl|c::l,u::us,⟨h1,h2⟩=>by
  have h1:u = .int .u8 c.toNat:=h1;rw[h1,ze8 (l:=l) h2];rfl
 |[],_::_,h=>h.elim|_::_,[],h=>h.elim
section
variable{P:Program}{ρ:Ren}
set_option maxHeartbeats 2000000 in
def z3d(L:Lays.n169 P ρ)(X:Builder.Extra P ρ)(b:Nat)(p:Value)(l:List UInt8)(g cap:Nat)(w:World)(hbk:w.heap[b]? = some (.cells #[p,.slice (some ⟨g,0,none⟩) l.length cap] (ρ.t 72) (0,0)))
  (cur:Array Value) (fz:Nat×Nat) (hg:w.heap[g]? = some (.cells cur (ρ.t 5) fz)) (hnc:l.length<=cap) (hcm:cap<=maxLen) (hcs:cur.size=cap*1) (htake:cur.toList.take (l.length*1)=Lib.byteCells l) (h0:l≠[]) :
  Calls P (ρ.f 169) #[.pointer (some ⟨b,0,none⟩)] w fun e w'=>e = .returned (.string ⟨l.toArray⟩)/\bu (fun k=>k=g) w w':=by
 have lj:l.length≠0:=by simpa using h0
 have c1:w.drew.cell? ⟨b,1,none⟩=some (.slice (some ⟨g,0,none⟩) l.length cap):=by
  have:w.drew.heap[b]? = some (.cells #[p,.slice (some ⟨g,0,none⟩) l.length cap] (ρ.t 72) (0,0)):=hbk;rw[Lib.cell_of_heap this];rfl
 have hSD:(Builtin.unsafeSliceData_ #[(ρ.t 37)] (ρ.t 127) #[.slice (some ⟨g,0,none⟩) l.length cap]).run P w.drew = .ok (.pointer (some ⟨g,0,none⟩)) w.drew:=
  Lib.run_unsafeSliceData_row _ _ _ _ _ _ oA
 have hUS:(Builtin.unsafeString_ #[(ρ.t 127),(ρ.t 3)] (ρ.t 9) #[.pointer (some ⟨g,0,none⟩),.int .i64 l.length]).run P w.drew = .ok (.string ⟨l.toArray⟩) (w.drew.freeze ⟨g,0,none⟩ l.length):=by
  refine Lib.run_unsafeString_row w.drew (ρ.t 127) (ρ.t 3) (ρ.t 9) (ρ.t 5) L.t127 X.cellsByte g cur.size (by have hg':w.drew.heap[g]? = some (.cells cur (ρ.t 5) fz):=hg;simp[World.shape?,hg']) l h0 oA (by unfold maxLen at hcm;omega) ?_
  intro j x hx;have hj:(cur.toList.take (l.length*1))[j]? = some (.int .u8 x.toNat):=by rw[htake];simp[Lib.byteCells,hx]
  have hj2:cur[j]? = some (.int .u8 x.toNat):=by
   rw[List.getElem?_take]at hj;split at hj
   ·simpa using hj
   ·cases hj
  have hg':w.drew.heap[g]? = some (.cells cur (ρ.t 5) fz):=hg;by_cases hj0:j=0
  ·subst hj0;simp[World.cell?,Addr.add,hg',hj2]
  ·simp[World.cell?,Addr.add,hj0,hg',hj2]
 have mixed:=L.mixed;have t72:=L.t72;have a72:=L.a72;have z72:=L.z72;have v72:=L.v72;have u72:=run_underlying L.t72;have t70:=L.t70;have a70:=L.a70;have z70:=L.z70;have v70:=L.v70;have u70:=run_underlying L.t70;have t37:=L.t37;have a37:=L.a37;have z37:=L.z37;have v37:=L.v37;have u37:=run_underlying L.t37;have t127:=L.t127;have a127:=L.a127;have z127:=L.z127;have v127:=L.v127;have u127:=run_underlying L.t127;have t3:=L.t3;have a3:=L.a3;have z3:=L.z3;have v3:=L.v3;have u3:=run_underlying L.t3;have t9:=L.t9;have a9:=L.a9;have z9:=L.z9;have v9:=L.v9;have u9:=run_underlying L.t9;have t5:=X.t5;have a5:=X.a5;have z5:=X.z5;have v5:=X.v5;have u5:=run_underlying X.t5;clear hcs htake hnc hcm hg
 go_enter L.f169,Body.n169_ntmps ρ
 go_wp2
 go_region_o
 all_goals (go_wp2;go_ret;exact⟨rfl,bu.freeze w ⟨g,0,none⟩ _ rfl⟩)
set_option maxHeartbeats 2000000 in
def z3e(L:Lays.n169 P ρ)(X:Builder.Extra P ρ)(b:Nat)(p:Value)(w:World)(hbk:w.heap[b]? = some (.cells #[p,.slice none 0 0] (ρ.t 72) (0,0))) :
  Calls P (ρ.f 169) #[.pointer (some ⟨b,0,none⟩)] w fun e w'=>e = .returned (.string ⟨#[]⟩)/\bu (fun _=>False) w w':=by
 have hUS:=Any.unsafeString_none L X;have c1:w.drew.cell? ⟨b,1,none⟩=some (.slice none 0 0):=by
  have:w.drew.heap[b]? = some (.cells #[p,.slice none 0 0] (ρ.t 72) (0,0)):=hbk;rw[Lib.cell_of_heap this];rfl
 have hSD:(Builtin.unsafeSliceData_ #[(ρ.t 37)] (ρ.t 127) #[.slice none 0 0]).run P w.drew = .ok (.pointer none) w.drew:=rfl;have mixed:=L.mixed;have t72:=L.t72;have a72:=L.a72;have z72:=L.z72;have v72:=L.v72;have u72:=run_underlying L.t72;have t70:=L.t70;have a70:=L.a70;have z70:=L.z70;have v70:=L.v70;have u70:=run_underlying L.t70;have t37:=L.t37;have a37:=L.a37;have z37:=L.z37;have v37:=L.v37;have u37:=run_underlying L.t37;have t127:=L.t127;have a127:=L.a127;have z127:=L.z127;have v127:=L.v127;have u127:=run_underlying L.t127;have t3:=L.t3;have a3:=L.a3;have z3:=L.z3;have v3:=L.v3;have u3:=run_underlying L.t3;have t9:=L.t9;have a9:=L.a9;have z9:=L.z9;have v9:=L.v9;have u9:=run_underlying L.t9;have t5:=X.t5;have a5:=X.a5;have z5:=X.z5;have v5:=X.v5;have u5:=run_underlying X.t5
 go_enter L.f169,Body.n169_ntmps ρ
 go_wp2
 go_region_o
 all_goals (go_wp2;go_ret;exact⟨rfl,bu.drew _ w⟩)
set_option maxHeartbeats 2000000 in
def z3f(L:Lays.n169 P ρ)(X:Builder.Extra P ρ)(b g:Nat)(p:Value)(cur:Array Value)(w:World)(hbk:w.heap[b]? = some (.cells #[p,.slice (some ⟨g,0,none⟩) 0 0] (ρ.t 72) (0,0)))(fz:Nat×Nat)(hg:w.heap[g]? = some (.cells cur (ρ.t 5) fz)) :
  Calls P (ρ.f 169) #[.pointer (some ⟨b,0,none⟩)] w fun e w'=>e = .returned (.string ⟨#[]⟩)/\bu (fun _=>False) w w':=by
 have hUS:=Any.unsafeString_none L X;have hlt:b<w.heap.size:=by
  rcases Nat.lt_or_ge b w.heap.size with h'|h'
  ·exact h'
  ·simp[Array.getElem?_eq_none h']at hbk
 have c1:w.drew.cell? ⟨b,1,none⟩=some (.slice (some ⟨g,0,none⟩) 0 0):=by
  have:w.drew.heap[b]? = some (.cells #[p,.slice (some ⟨g,0,none⟩) 0 0] (ρ.t 72) (0,0)):=hbk;rw[Lib.cell_of_heap this];rfl
 have hSD:(Builtin.unsafeSliceData_ #[(ρ.t 37)] (ρ.t 127) #[.slice (some ⟨g,0,none⟩) 0 0]).run P w.drew = .ok (.pointer (some ⟨w.drew.heap.size,0,none⟩)) (w.drew.alloc (.view ⟨g,0,none⟩ (ρ.t 5))):=
  Lib.run_unsafeSliceData_zero w.drew _ _ (ρ.t 5) L.t127 ⟨g,0,none⟩ 0 ((ρ.t 5),cur.size) (by have hg':w.drew.heap[g]? = some (.cells cur (ρ.t 5) fz):=hg;simp[World.shape?,hg'])
 have c2:(w.drew.alloc (.view ⟨g,0,none⟩ (ρ.t 5))).cell? ⟨b,1,none⟩=some (.slice (some ⟨g,0,none⟩) 0 0):=by
  have:(w.drew.alloc (.view ⟨g,0,none⟩ (ρ.t 5))).heap[b]? = _:=(Lib.alloc_old w.drew _ b hlt).trans hbk;rw[Lib.cell_of_heap this];rfl
 have c3:(w.alloc (.view ⟨g,0,none⟩ (ρ.t 5))).drew.cell? ⟨b,1,none⟩=some (.slice (some ⟨g,0,none⟩) 0 0):=c2;have c0:w.cell? ⟨b,1,none⟩=some (.slice (some ⟨g,0,none⟩) 0 0):=c1;have mixed:=L.mixed;have t72:=L.t72;have a72:=L.a72;have z72:=L.z72;have v72:=L.v72;have u72:=run_underlying L.t72;have t70:=L.t70;have a70:=L.a70;have z70:=L.z70;have v70:=L.v70;have u70:=run_underlying L.t70;have t37:=L.t37;have a37:=L.a37;have z37:=L.z37;have v37:=L.v37;have u37:=run_underlying L.t37;have t127:=L.t127;have a127:=L.a127;have z127:=L.z127;have v127:=L.v127;have u127:=run_underlying L.t127;have t3:=L.t3;have a3:=L.a3;have z3:=L.z3;have v3:=L.v3;have u3:=run_underlying L.t3;have t9:=L.t9;have a9:=L.a9;have z9:=L.z9;have v9:=L.v9;have u9:=run_underlying L.t9;have t5:=X.t5;have a5:=X.a5;have z5:=X.z5;have v5:=X.v5;have u5:=run_underlying X.t5
 go_enter L.f169,Body.n169_ntmps ρ
 go_wp2
 go_region_o
 all_goals (go_wp2;go_ret;exact⟨rfl,bu.drew_alloc _ w _⟩)
set_option maxHeartbeats 2000000 in
def z3g(L:Lays.n169 P ρ)(X:Builder.Extra P ρ)(b g cap:Nat)(p:Value)(w:World)(hc0:cap≠0)(hbk:w.heap[b]? = some (.cells #[p,.slice (some ⟨g,0,none⟩) 0 cap] (ρ.t 72) (0,0))) :
  Calls P (ρ.f 169) #[.pointer (some ⟨b,0,none⟩)] w fun e w'=>e = .returned (.string ⟨#[]⟩)/\bu (fun _=>False) w w':=by
 have hUS:=Any.unsafeString_none L X;have c1:w.drew.cell? ⟨b,1,none⟩=some (.slice (some ⟨g,0,none⟩) 0 cap):=by
  have:w.drew.heap[b]? = some (.cells #[p,.slice (some ⟨g,0,none⟩) 0 cap] (ρ.t 72) (0,0)):=hbk;rw[Lib.cell_of_heap this];rfl
 have hSD:(Builtin.unsafeSliceData_ #[(ρ.t 37)] (ρ.t 127) #[.slice (some ⟨g,0,none⟩) 0 cap]).run P w.drew = .ok (.pointer (some ⟨g,0,none⟩)) w.drew:=
  Lib.run_unsafeSliceData_row _ _ _ _ _ _ hc0
 clear hc0;have mixed:=L.mixed;have t72:=L.t72;have a72:=L.a72;have z72:=L.z72;have v72:=L.v72;have u72:=run_underlying L.t72;have t70:=L.t70;have a70:=L.a70;have z70:=L.z70;have v70:=L.v70;have u70:=run_underlying L.t70;have t37:=L.t37;have a37:=L.a37;have z37:=L.z37;have v37:=L.v37;have u37:=run_underlying L.t37;have t127:=L.t127;have a127:=L.a127;have z127:=L.z127;have v127:=L.v127;have u127:=run_underlying L.t127;have t3:=L.t3;have a3:=L.a3;have z3:=L.z3;have v3:=L.v3;have u3:=run_underlying L.t3;have t9:=L.t9;have a9:=L.a9;have z9:=L.z9;have v9:=L.v9;have u9:=run_underlying L.t9;have t5:=X.t5;have a5:=X.a5;have z5:=X.z5;have v5:=X.v5;have u5:=run_underlying X.t5
 go_enter L.f169,Body.n169_ntmps ρ
 go_wp2
 go_region_o
 all_goals (go_wp2;go_ret;exact⟨rfl,bu.drew _ w⟩)
end
open Go.Proofs.Tryz
variable[LC]
def ztk{q:Nat}(w:World)(n:Nat)(v:Value):bu (fun k=>k=q) w (w.setCell ⟨q,n,none⟩ v):=
 ⟨rfl,rfl,rfl,by simp[World.setCell],fun k hk hS=>by simp only[World.setCell,Array.getElem?_modify];rw[qW (fun e=>hS e.symm)]⟩
def bu.mono{S S':Nat->Prop}{w w':World}(h:bu S w w')(hS:∀k,S k->S' k):bu S' w w':=⟨h.os,h.tape,h.output,h.size,fun k hk hn=>h.block k hk fun q=>hn (hS k q)⟩
def Fin.same{vif w:World}{vh8 G:Gh}{vic hp hp':List (Nat×ag)}(hf:Fin vif vh8 vic G hp' w)(h:∀n,af hp n=af hp' n):Fin vif vh8 vic G hp w:=
 ⟨⟨hf.mem.agree,hf.mem.one,fun n bx hl=>hf.mem.holds n bx (by rw[← h];exact hl),fun n m bx bx' b h1 h2=>hf.mem.apart n m bx bx' b (by rw[← h];exact h1) (by rw[← h];exact h2),hf.mem.tab⟩,
  hf.bel,hf.imm_le,hf.imm_new,fun n bx b hl=>hf.base n bx b (by rw[← h];exact hl),hf.keep,hf.keepOwn⟩
abbrev bxB:List (Nat×be):=[(0,.cells [.pn 0,.own 1] 84),(1,.row .byte 5)]
def qpo:IF:=⟨.fn 78,[.ptr 0 0],bxB,_,RS.mk (.tup []) bxB⟩
def q03:IF:=⟨.fn 43,[.ptr 0 0],bxB,_,RS.mk (.h .str) []⟩
abbrev bxh(l:Bs):List (Nat×ag):=[(0,.cells [.pn 0,.own 1] 84),(1,.row .byte l 5)]
def ze5{G:Gh}{w:World}{l:Bs}{vs:List Value}(hm:bq G (bxh l) w)(hr:ak [AV.ptr 0 0] G vs) :
  ∃B p ad c,vs=[.pointer (some ⟨B,0,none⟩)]/\G.box 0=some B/\G.own 1=some (ad,l.length,c)/\(p = .pointer none\/p = .pointer (some ⟨B,0,none⟩)) /\
   w.heap[B]? = some (.cells #[p,.slice ad l.length c] 84 (0,0))/\(∀o,G.imm B o=none):=by
 match vs,hr with
 |[v],⟨⟨B,h1,h2⟩,_⟩=>
  obtain⟨B',arr,k1,k2,k3,_,k5⟩:=hm.holds 0 _ rfl;rw[h1]at k1;injection k1 with k1;subst k1
  match arr,k2,k3 with
  |⟨[]⟩,_,h=>exact h.elim|⟨[_]⟩,_,h=>exact h.2.elim|⟨_::_::_::_⟩,_,h=>exact h.2.2.elim|⟨[p,x]⟩,k2,⟨⟨B2,q1,q2⟩,⟨a,n,c,q3,q4⟩,_⟩=>
   rw[h1]at q1;injection q1 with q1;subst q1
   obtain⟨a',c',r1,_⟩:=hm.holds 1 _ rfl;rw[r1]at q3;simp only[qI,qP]at q3;obtain⟨rfl,rfl,rfl⟩:=q3;subst q4 h2;exact⟨B,p,a',c',rfl,h1,r1,q2,k2,k5⟩
def q1k:(qpo.e pc).Sound Tryz.prog:=fun d d' r h=>by
 obtain⟨d0,l,_⟩:=d';have h:pc l=some r:=h;have h:=qJ h;subst h;refine⟨call78,?_⟩;show ce _ _ [.ptr 0 0] (bxh l) (.tup []) (bxh l);intro w G vs hm hr;obtain⟨B,p,ad,c,rfl,h1,h2,h3,h4,h5⟩:=ze5 hm hr;rcases h3 with rfl|rfl
 ·refine(Any.Builder_copyCheck_fresh { Tryz.lays165 with } ToValid.bx.toX72 B w (by rw[Lib.cell_of_heap h4];rfl) (by have q:w.shape? B=some (84,2):=by{ simp[World.shape?,h4] };exact q) (Lib.frozen_of_heap h4 0)).mono ?_
  rintro e w' ⟨rfl,rfl⟩
  refine⟨_,G,rfl,?_,#[],rfl,trivial⟩;refine((ut hm).update (n:=0) (bx := .cells [.pn 0,.own 1] 84) (bx' := .cells [.pn 0,.own 1] 84) (B:=B) rfl h1 h1 (ztk w 0 _) ?_ h5).same (fun n => ?_)
  ·exact⟨B,#[.pointer (some ⟨B,0,none⟩),.slice ad l.length c],h1,by simp[World.setCell,Array.getElem?_modify,h4];rfl,⟨⟨B,h1,.inr rfl⟩,⟨ad,l.length,c,h2,rfl⟩,trivial⟩,by intro v hv;simp at hv;rcases hv with rfl|rfl<;>rfl,h5⟩
  ·cases n<;>rfl
 ·refine(Any.Builder_copyCheck_used { Tryz.lays165 with } ToValid.bx.toX72 B w (by rw[Lib.cell_of_heap h4];rfl)).mono ?_
  rintro e w' ⟨rfl,rfl⟩
  exact⟨_,G,rfl,ut hm,#[],rfl,trivial⟩
def zez:(q03.e z7).Sound Tryz.prog:=fun d d' r h=>by
 obtain⟨d0,l,_⟩:=d';have h:z7 l=some r:=h;have h:=qJ h;subst h;refine⟨call43,ce.gone fun w G vs hm hr => ?_⟩
 have hm:bq G (bxh l) w:=hm;obtain⟨B,p,ad,c,rfl,h1,h2,h3,h4,h5⟩:=ze5 hm hr;obtain⟨a',c',k1,k2⟩:=hm.holds 1 _ rfl;rw[h2]at k1;simp only[qI,qP]at k1;obtain⟨rfl,-,rfl⟩:=k1;rcases k2 with⟨rfl,rfl,rfl⟩|⟨g,cs,fz,rfl,hg,_,hnc,hcm,hcs,hrep,_,_⟩
 ·refine(z3e Tryz.lays169 ToValid.bx B p w h4).mono ?_;rintro e w' ⟨rfl,hb⟩
  exact⟨_,rfl,rfl,hb.mono fun _ q=>q.elim⟩
 ·by_cases h0:l=[]
  ·subst h0;by_cases hc0:c=0
   ·subst hc0;refine(z3f Tryz.lays169 ToValid.bx B g p cs w h4 fz hg).mono ?_;rintro e w' ⟨rfl,hb⟩
    exact⟨_,rfl,rfl,hb.mono fun _ q=>q.elim⟩
   ·refine(z3g Tryz.lays169 ToValid.bx B g c p w hc0 h4).mono ?_;rintro e w' ⟨rfl,hb⟩
    exact⟨_,rfl,rfl,hb.mono fun _ q=>q.elim⟩
  ·refine(z3d Tryz.lays169 ToValid.bx B p l g c w h4 cs fz hg hnc hcm hcs (ze8 hrep) h0).mono ?_;rintro e w' ⟨rfl,hb⟩
   refine⟨_,rfl,rfl,hb.mono fun k q => ?_⟩
   subst q;exact⟨1,.row .byte l 5,rfl,by simp only[Gh.at,h2]⟩
end Go.Sym
namespace Go.Sym
open Go.Proofs Go.RowKit Go.Sort
open Go.Proofs.Tryz
variable[LC]
end Go.Sym
namespace Go.Sym
open Go.Proofs Go.RowKit
open Go.Proofs.Tryz
variable[LC]
def zen:Builder.Extra Tryz.prog Tryz.lays156_ren:=zem
def zxs{G:Gh}{w:World}(hm:bq G [] w){l:List Bs}{u:Value}(sep:Bs)(hu:aj (.sl .str l) G u)(d1:l.length<=140737488355328)(d2:(Lib.join l sep).length<=140737488355328) :
  Calls Tryz.prog 16 #[u,.string ⟨sep.toArray⟩] w fun e w'=>e = .returned (.string ⟨(Lib.join l sep).toArray⟩)/\cd w w':=by
 obtain⟨p,c,rfl,hc,hp⟩:jp 1 (Ty.str.At G.imm) l u:=hu;by_cases hl:l=[]
 ·subst hl;exact(Any.strings_Join_none Tryz.lays156 zen p c ⟨sep.toArray⟩ w).mono fun e w'⟨he,hw⟩=>⟨he,hw▸cd.refl _⟩
 ·rcases hp with h|⟨g,o,rfl,hcells⟩
  ·exact absurd h hl
  have e:(l.map fun s:Bs=>(⟨s.toArray⟩:ByteArray)).map (·.data.toList)=l:=by
   rw[List.map_map];exact(List.map_congr_left fun s _=>rfl).trans (List.map_id l)
  have hcl:∀(j:Nat) x,(l.map fun s:Bs=>(⟨s.toArray⟩:ByteArray))[j]? = some x->w.cell? ⟨g,o+j,none⟩=some (.string x):=fun j x hx=>by
   rw[List.getElem?_map]at hx;obtain⟨s,hs,rfl⟩:=Option.map_eq_some_iff.1 hx;have h1:G.imm g (o+j*1)=some (.string ⟨s.toArray⟩):=hcells j s hs;rw[Nat.mul_one]at h1;exact hm.agree _ _ _ h1
  have hlt:g<w.heap.size:=by
   obtain⟨x,t,rfl⟩:=List.exists_cons_of_ne_nil hl;exact World.block_lt_of_cell? _ _ (hcl 0 ⟨x.toArray⟩ rfl)
  have key:=Any.strings_Join Tryz.lays156 zen g o c (l.map fun s:Bs=>(⟨s.toArray⟩:ByteArray)) ⟨sep.toArray⟩ w hcl hlt (by rw[wC];exact d1) (by rw[wC];exact hc) (by rw[e];exact d2)
  rw[e,wC]at key;exact key.mono fun e w'⟨he,hw⟩=>⟨he,cd.of_below hw⟩
def qjz:IF:=⟨.fn 16,[.h (.list .str),.h .str],[],_,RS.mk (.h .str) []⟩
def qqr:(qjz.e f9).Sound Tryz.prog:=fun d d' r h=>by
 obtain⟨l,s,_⟩:=d;have h:f9 l s=some r:=h;unfold f9 at h;cases hd:decide (List.length (α:=Bs) l<=140737488355328/\List.length (Lib.join l s)<=140737488355328)<;>rw[hd]at h<;>simp only[qT,qF,reduceCtorEq]at h
 have h:=qJ h;subst h;obtain⟨d1,d2⟩:=of_decide_eq_true hd;refine⟨call16,ce.data fun w G vs hm hr => ?_⟩
 match vs,hr with
 |[u,v],⟨h1,h2,_⟩=>
  have h2:v = .string ⟨s.toArray⟩:=h2;subst h2;exact(zxs hm s h1 d1 d2).mono fun e w'⟨he,hw⟩=>⟨_,he,rfl,hw⟩
def szl(a:Bs)(h:a.length<4294967281):(⟨a.toArray⟩:ByteArray).size<4294967281:=by rw[iv];exact h
def q42:IF:=⟨.fn 180,[.h .str,.h .str],[],_,RS.mk (.h (.int .i64)) []⟩
def zll(hi:2∈LC.ints):(q42.e nz).Sound Tryz.prog:=fun d d' r h=>by
 obtain⟨a,b,_⟩:=d;have h:nz a b=some r:=h;unfold nz at h;cases hd:decide (List.length (α:=UInt8) a<4294967281)<;>rw[hd]at h<;>simp only[qT,qF,reduceCtorEq]at h
 have h:=qJ h;subst h;have hd:=of_decide_eq_true hd;refine⟨call180,ce.data fun w G vs hm hr => ?_⟩
 match vs,hr with
 |[u,v],⟨h1,h2,_⟩=>
  have h1:u = .string ⟨a.toArray⟩:=h1;have h2:v = .string ⟨b.toArray⟩:=h2;subst h1 h2;obtain⟨k,hk⟩:=hm.tab.2.1 _ hi;have hk:=hm.agree _ _ _ hk;exact(Any.stringslite_Index Tryz.lays219 ⟨a.toArray⟩ ⟨b.toArray⟩ k w (szl a hd) hk).mono fun e w'⟨he,hw⟩=>⟨_,he,rfl,hw▸cd.refl _⟩
def zvd(s:Bs):Lib.decodeGo ⟨s.toArray⟩=qa6 s:=by
 unfold Lib.decodeGo qa6
 cases s with|nil=>rfl|cons c s=>rw[qW (by simp[ByteArray.size]),qW oB,← Lib.decodeL_drop];rfl
def zve{G:Gh}{w:World}(hm:bq G [] w){t0:List UInt8}{t1:List (UInt8×UInt8)}(h0:LC.glob 0=some ⟨.byte,t0⟩)(h1:LC.glob 1=some ⟨.prod .byte .byte,t1⟩)(e0:xi t0=true)(e1:xj t1=true)(s:Bs) :
  Calls Tryz.prog 137 #[.string ⟨s.toArray⟩] w fun e w'=>e = .returned (.tuple #[.int .i32 (qa6 s).1,.int .i64 (qa6 s).2])/\cd w w':=by
 have k:=ToValid.decC ⟨s.toArray⟩ w (q5m hm h0 h1 e0 e1);rw[zvd]at k;exact k.mono fun e w'⟨he,hw⟩=>⟨he,cd.of_below hw⟩
def xl:IF:=⟨.fn 137,[.h .str],[],_,RS.mk (.tup [.h (.int .i32),.h (.int .i64)]) []⟩
def qa7{t0:List UInt8}{t1:List (UInt8×UInt8)}(h0:LC.glob 0=some ⟨.byte,t0⟩)(h1:LC.glob 1=some ⟨.prod .byte .byte,t1⟩)(e0:xi t0=true)(e1:xj t1=true):(xl.e il).Sound Tryz.prog:=fun d d' r h=>by
 obtain⟨s,_⟩:=d;have h:il s=some r:=h;unfold il at h;have h:=qJ h;subst h;refine⟨call137,ce.data fun w G vs hm hr => ?_⟩
 match vs,hr with
 |[u],⟨h1',_⟩=>
  have h1':u = .string ⟨s.toArray⟩:=h1';subst h1';exact(zve hm h0 h1 e0 e1 s).mono fun e w'⟨he,hw⟩=>⟨_,he,⟨_,rfl,rfl,rfl,trivial⟩,hw⟩
end Go.Sym
namespace Go.Sym
open Go.RowKit
def c7.cv{L L':LC}(h:LC.Same L L'){G:Gh}{w:World}{n:Nat}{bx:ag}(k:@c7 L G w n bx):@c7 L' G w n bx:=by
 cases bx with
 |loop st pe f m fr ps tag D=>
  obtain⟨B,tmps,DB,h1,h2,⟨asn,bo,h3,h4⟩,h5⟩:=k;exact⟨B,tmps,DB,h1,h2,⟨asn,bo,by rw[h.lc];exact h3,h4⟩,h5⟩
 |_=>exact k
def LC.tab_cv{L L':LC}(h:LC.Same L L'){m:Nat->Nat->Option Value}{w:World}(k:@LC.tab L m w):@LC.tab L' m w:=by
 unfold LC.tab at k ⊢;rw[h.glob,h.ints,h.ifs,h.sizes];exact k
def bq.cv{L L':LC}(h:LC.Same L L'){G:Gh}{hp:List (Nat×ag)}{w:World}(k:@bq L G hp w):@bq L' G hp w:=
 @bq.mk L' _ _ _ (@bq.agree L _ _ _ k) (@bq.one L _ _ _ k) (fun n bx hb=>c7.cv h (@bq.holds L _ _ _ k n bx hb)) (@bq.apart L _ _ _ k) (LC.tab_cv h (@bq.tab L _ _ _ k))
def Fin.cv{L L':LC}(h:LC.Same L L'){vif:World}{vh8:Gh}{vic:List (Nat×ag)}{G:Gh}{hp:List (Nat×ag)}{w:World}(k:@Fin L vif vh8 vic G hp w):@Fin L' vif vh8 vic G hp w:=
 @Fin.mk L' _ _ _ _ _ _ (bq.cv h (@Fin.mem L _ _ _ _ _ _ k)) (@Fin.bel L _ _ _ _ _ _ k) (@Fin.imm_le L _ _ _ _ _ _ k) (@Fin.imm_new L _ _ _ _ _ _ k) (@Fin.base L _ _ _ _ _ _ k) (@Fin.keep L _ _ _ _ _ _ k) (@Fin.keepOwn L _ _ _ _ _ _ k)
def LC.Same.symm{L L':LC}(h:LC.Same L L'):LC.Same L' L:=⟨h.lc.symm,h.glob.symm,h.ints.symm,h.ifs.symm,h.sizes.symm⟩
def jo.cv{L L':LC}(h:LC.Same L L'){vif:World}{vh8:Gh}{vic:List (Nat×ag)}{r:AV}{hp:List (Nat×ag)}{e:Ending}{w:World}(k:@jo L vif vh8 vic r hp e w):@jo L' vif vh8 vic r hp e w:=by
 obtain⟨v,G,h1,h2,h3⟩:=k;exact⟨v,G,h1,Fin.cv h h2,h3⟩
def ce.cv{L L':LC}(h:LC.Same L L'){P:Program}{f:FuncId}{xs:List AV}{hp:List (Nat×ag)}{r:AV}{hp':List (Nat×ag)}(k:@ce L P f xs hp r hp'):@ce L' P f xs hp r hp':=
 fun w G vs hm hr=>(k w G vs (bq.cv h.symm hm) hr).mono fun _ _ q=>jo.cv h q
def ck.Sound.cv{L L':LC}(h:LC.Same L L'){P:Program}{e:ck}(k:@ck.Sound L P e):@ck.Sound L' P e:=by
 intro d d' r hr;have:=k d d' r hr
 cases hk:e.key with
 |fn f=>rw[hk]at this;exact⟨this.1,ce.cv h this.2⟩|yld m=>
  rw[hk]at this;intro w G vs B hm hrs hB;obtain⟨lp,h1,h2⟩:=this w G vs B (bq.cv h.symm hm) hrs hB;exact⟨lp,h1,fun c cs=>by
   obtain⟨h3,v,w',h4,h5⟩:=h2 c cs;exact⟨h3,v,w',jo.cv h h4,h5⟩⟩
 |ext f=>rw[hk]at this;exact fun w G vs hm hrs=>this w G vs (bq.cv h.symm hm) hrs
 |thr f ks=>
  rw[hk]at this;refine⟨this.1,?_⟩;have h2:=this.2
  cases hm:ll (e.out.res r).1 with
  |none=>rw[hm]at h2;exact ce.cv h h2|some x=>
   rw[hm]at h2;exact fun w G vs hmm hrs=>(h2 w G vs (bq.cv h.symm hmm) hrs).mono fun _ _⟨q1,G',q2⟩=>⟨q1,G',Fin.cv h q2⟩
def EP.cv{L L':LC}{P:Program}(x:@EP L P)(h:LC.Same L L':=by exact⟨rfl,rfl,rfl,rfl,rfl⟩):@EP L' P:=@EP.mk L' P (@EP.e L P x) (ck.Sound.cv h (@EP.h L P x))
def z29{P:Program}{b:Frame}{a:Act}{k:List Item}{cs:List Frame}{w:World}{ops:Array Oper}{i:Nat}{rest:List Nat}{o:Oper}{c:Call}{dd:Deferred}(ho:ops[i]? = some o)(hg:o.guard=none)(hop:o.op = .defer c)(hdst:o.dst=none)(hro:b.roundOf=none)(hres:(resolve a.eval c o.type).run P w = .ok dd w) :
  step P (lone (b.atR a (.inRegion ops (i::rest)::k)) cs w) = .next (lone (b.atR { a with defers:=dd::a.defers } (.inRegion ops rest::k)) cs w):=by
 have hw:Region.wanted o (yielded ops a.tmps)=true:=by simp[Region.wanted,hg]
 have hg':=stepGR_op (P:=P) (b:=b) (a:=a) (k:=k) (cs:=cs) (w:=w) (rest:=rest) ho hw;rw[hro,Oper.semAt_none]at hg';have hr':(execOp a.eval o).run P w = .ok (.defer dd) w:=by
  obtain⟨dst,op,ty,pos,after,guard⟩:=o;simp only at hop;subst hop;simp[execOp,hres]
 have hfin:({ b.atR a (.inRegion ops (i::rest)::k) with defers:=dd::a.defers }:Frame).finish undef=b.atR { a with defers:=dd::a.defers } (.inRegion ops rest::k):=by
  have:=Frame.finish_atR b { a with defers:=dd::a.defers } ops i rest k undef
  rw[ho]at this;simp only[qB,hdst]at this;exact this
 refine step_lone_go ?_;rw[hg'];simp only[stepG.apply,Sem.runT_eq,hr',GStep.bare_after];exact congrArg (fun fr=>GStep.go { frame:=fr,callers:=cs,status := .running,dying:=none } w) hfin
section
variable[LC]
def Fin.wild{vif:World}{vh8:Gh}{vic:List (Nat×ag)}{G:Gh}{hp:List (Nat×ag)}{w w':World}(hf:Fin vif vh8 vic G hp w){S:Nat->Prop}(hw:bu S w w')(hS:∀b,S b->(∀o,G.imm b o=none)/\(vif.heap.size<=b\/od vh8 vic b)):Fin vif vh8 vic G [] w':=by
 have hlt:∀b o v,G.imm b o=some v->w'.heap[b]? = w.heap[b]? := fun b o v h=>by
  refine hw.block b (World.block_lt_of_cell? _ _ (hf.mem.agree b o v h)) fun hs => ?_
  rw[(hS b hs).1 o]at h;cases h
 refine⟨⟨fun b o v h => ?_,hf.mem.one,fun n bx h=>(by cases h),fun n m bx bx' b h=>(by cases h),LC.mono (fun _ _ _ h=>h) hlt hf.mem.tab⟩,⟨hw.os.trans hf.bel.os,hw.tape.trans hf.bel.tape,hw.output.trans hf.bel.output,Nat.le_trans hf.bel.size hw.size,fun k hk hb => ?_⟩,hf.imm_le,hf.imm_new,fun n bx b h=>(by cases h),hf.keep,hf.keepOwn⟩
 ·rw[World.cell?_of_block (w:=w) (hlt b o v h)];exact hf.mem.agree b o v h
 ·rw[hw.block k (Nat.lt_of_lt_of_le hk hf.bel.size) fun hs => ?_]
  ·exact hf.bel.block k hk hb
  ·rcases (hS k hs).2 with h|h
   ·omega
   ·exact hb h
def ai.fresh_start{G:Gh}{hp:List (Nat×ag)}{w:World}{names:List (Nat×Nat)}(hm:bq (G.view names) hp w)(hN:∀m,64<=m->ay names m=none){n:Nat}{fr:List (Nat×AV)}{tmps:Array Value}(hsz:tmps.size=n)(hfr:∀i x,af fr i=some x->∃v,tmps[i]? = some v/\aj x (G.view names) v) :
  ai w (G.view names) hp (G.view names) { n:=n,fr:=fr,hp:=hp,nx:=64,df:=[] } { tmps:=tmps,defers:=[] } w:=
 ⟨⟨[],rfl,rfl⟩,hsz,hfr,fun m hm' _=>by simp[Gh.view,hN m hm'],ut hm⟩
end
def zkj{x:AV}{G:Gh}{vs:Array Value}(h:ak [x] G vs.toList):∃u,vs=#[u]/\aj x G u:=by
 obtain⟨l⟩:=vs
 match l,h with|[u],h=>exact⟨u,rfl,h.1⟩|[],h=>exact h.elim|_::_::_,h=>exact h.2.elim
def z1t{x y:AV}{G:Gh}{vs:Array Value}(h:ak [x,y] G vs.toList):∃u v,vs=#[u,v]:=by
 obtain⟨l⟩:=vs
 match l,h with|[u,v],h=>exact⟨u,v,rfl⟩|[],h=>exact h.elim|[_],h=>exact h.2.elim|_::_::_::_,h=>exact h.2.2.elim
def q0w{w:World}{a:Addr}{v:Value}:bu (fun b=>b=a.block) w (w.setCell a v):=
 ⟨rfl,rfl,rfl,by simp[World.setCell],fun k _ hne=>by
  simp only[World.setCell,Array.getElem?_modify];rw[qW (fun e=>hne e.symm)]⟩
def zel{w:World}{o:Obj}:bu (fun _=>False) w (w.alloc o):=
 ⟨rfl,rfl,rfl,by rw[World.size_alloc];omega,fun k hk _=>by
  show(w.heap.push o)[k]? = _;rw[Array.getElem?_push,qW oA]⟩
def bu.wide{S T:Nat->Prop}{w w':World}(h:bu S w w')(k:∀b,S b->T b):bu T w w':=⟨h.os,h.tape,h.output,h.size,fun b hb hT=>h.block b hb (fun hs=>hT (k b hs))⟩
def bu.tr{S:Nat->Prop}{w w1 w2:World}(h:bu S w w1)(k:bu S w1 w2):bu S w w2:=⟨k.os.trans h.os,k.tape.trans h.tape,k.output.trans h.output,Nat.le_trans h.size k.size,fun b hb hS=>(k.block b (Nat.lt_of_lt_of_le hb h.size) hS).trans (h.block b hb hS)⟩
end Go.Sym
namespace Go.Sym
noncomputable section
open Go.Proofs
set_option linter.unusedVariables false
set_option maxRecDepth 100000
set_option maxHeartbeats 2000000
open Tryz
abbrev wT : Ty := .tree (.prod (.list (.prod .str .str)) (.list .byte))
abbrev wL : Ty := .list (.prod .str .str)
abbrev wP : Ty := .prod .str .str
abbrev wH : Pt := .h (.int .i64)
abbrev wI : Ty := .int .i64
abbrev wB : Ty := .list .byte
abbrev wN : Pt := .c .nilS
abbrev wS : Pt := .h .str
abbrev wG : Program := Tryz.prog
section
variable(fu:Nat)
def q2m:Nat->Option ((τ:Ty)×List τ.den)|0=>some ⟨.byte,qrv⟩|1=>some ⟨.prod .byte .byte,qrw⟩|3=>some ⟨.int .u64,z3p⟩|_=>none
abbrev qn(f:Nat)(p:List Nat):Option (Code×Code):=some (uv 0 (sub (uu (ow wG f)) p),uv 1 (sub (uu (ow wG f)) p))
def zx0:Nat->Option (Code×Code)|0=>qn 196 [0,1,0,1,1,1]|1=>qn 114 [0,1,0,1,1]|2=>qn 114 [0,1,0,1,1,1,1]|3=>qn 37 [0,1,0,1,1,1,1]|4=>qn 115 [0,1,1]|5=>qn 72 [0,1,0,1,1,1]|6=>qn 124 [0,1,0,1]|7=>qn 45 [0,1,0,1,1,1,1,1,1,1]|8=>qn 132 [0,1,0,1,1]|9=>qn 175 [0,1,0,1,1,1,1]|10=>qn 18 [0,1,0,1,1]|_=>none
instance[HB]:LC:=⟨zx0,q2m,[2],[6,7],[(0,256),(1,32),(3,20)],HB.b⟩
def qzv:wG.follows .mixedOrders=true:=oC
def etys:List (Nat×Ty):=[(3,.int .i64),(5,.byte),(9,.str),(21,.int .i32),(23,.list .byte),(30,.prod .str .str),(52,.prod .str (.prod .bool (.list (.prod .str wP)))),(54,.prod .str wP),(115,.tree (.prod wL wB)),(162,.prod .str .bool),(261,.prod .str .str),(366,.prod .str (.prod wI (.prod .bool .str)))]
abbrev fx{i:IF}(calls:List (EP wG):=[])(ls:List LB:=[])(sub:Bool:=false)(tags:List (List Nat×Nat):=[])(ht:∀p t,nj p tags=some t->∀g ps x y,Sym.sub (uu (ow wG (qa8 i.key))) p = .rangeFunc g ps x y->LC.lc t=some (x,y):=by exact fh)(hf:wG.funcs[qa8 i.key]? = some (ow wG (qa8 i.key)):=by kernel_rfl):Fx wG i:=Fx.at etys qzv (qa8 i.key) calls ls sub tags ht hf
abbrev fy{i:IF}(f:FuncId)(calls:List (EP wG):=[])(ls:List LB:=[])(sub:Bool:=false)(tags:List (List Nat×Nat):=[])(ht:∀p t,nj p tags=some t->∀g ps x y,Sym.sub (uu (ow wG f)) p = .rangeFunc g ps x y->LC.lc t=some (x,y):=by exact fh)(hf:wG.funcs[f]? = some (ow wG f):=by kernel_rfl):Fx wG i:=Fx.at etys qzv f calls ls sub tags ht hf
def zql:(quj 145 ww).Sound wG:=zqk func145 oC oC oC oC
def zqj:(qui 181 ww).Sound wG:=zqi func181 oC oC oC oC
def zqh:(quh 296 qmn).Sound wG:=zqg func296 oC oC oC oC
def ew:EI wG ⟨.fn 19,[wH,wH],[],_,RS.mk (.h (.prod wI wI)) []⟩:=(fx).fi bg
def x1s:EI wG ⟨.fn 140,[.h .byte],[],_,RS.mk (.h .bool) []⟩:=(fx).fi qmx
def x2(fu:Nat):Fx wG ⟨.fn 47,[wS,.fn 140 []],[],_,RS.mk (.h .bool) []⟩:=fx [x1s.p] [lb 104 [(0,wS),(1,.fn 140 []),(7,wH),(8,wH)]]
def veh:Nat->(x2 fu).L 0:=Fx.lq (qgt fu) (qt5 fu) (fun r0=>[r0.s])
def x2s:=(x2 fu).fi (qt4 fu) [(veh fu fu).s]
def x3s:EI wG ⟨.fn 90,[wS],[],_,RS.mk (.h .bool) []⟩:=(fx [(x2s fu).p]).fi (qmw fu)
def x4s:EI wG ⟨.fn 265,[wH],[],_,RS.mk (.h .bool) []⟩:=(fx).fi qya
def x5(fu:Nat):Fx wG ⟨.fn 101,[wS],[],_,RS.mk (.tup [.arr .bool,.h .bool]) []⟩:=fx [] [lb 208 [(0,wS),(2,.el 32 1),(4,wH)] [(32,.row .bool 155)]]
def vf3:Nat->(x5 fu).L 0:=Fx.lq (qx9 fu) (zci fu) (fun r0=>[r0.s])
def x5s:=(x5 fu).fi (qdk fu) [(vf3 fu fu).s]
def x6s:EI wG ⟨.fn 139,[wS,.h .byte],[],_,RS.mk (wH) []⟩:=(fx [⟨qui 181 ww,zqj⟩]).fi q9u
def x7s:EI wG ⟨.fn 88,[wS,.h .byte],[],_,RS.mk (wH) []⟩:=(fx [x6s.p]).fi n7
def x8s:EI wG ⟨.fn 227,[.h (.int .i32)],[],_,RS.mk (.h .bool) []⟩:=(fx).fi qn5
def x9(fu:Nat):Fx wG ⟨.fn 184,[wS,.h (.int .i32)],[],_,RS.mk (wH) []⟩:=fx [x7s.p,x8s.p] [lb 3528 [(175,.ptr 32 0)] [(32,.it)],lb 117301840 [(0,wS),(7,wS),(8,wH),(9,wH),(12,wH)],lb 7331364 [(0,wS),(7,wS),(8,wH),(9,wH)],lb 458208 [(0,wS),(7,wS),(8,wH),(9,wH)],lb 13 [(0,wS),(1,.h (.int .i32)),(160,.h .bool)]]
def vhx:Nat->(x9 fu).L 0:=Fx.lq (qhq fu) (qxn fu) (fun r1=>[r1.s])
def vh0(r2:(x9 fu).L 3):Nat->(x9 fu).L 1:=Fx.lq (qxq fu r2.f) (zb5 fu r2.f) (fun r4=>[r4.s])
def vhz(r2:(x9 fu).L 3):(x9 fu).L 2:=Fx.jm (qxp fu r2.f) [(vh0 fu r2 fu).s]
def vhy:Nat->(x9 fu).L 3:=Fx.lq (qns fu) (qxo fu) (fun r2=>[(vhz fu r2).s])
def vhw:(x9 fu).L 4:=Fx.jm (qhp fu) [(vhx fu fu).s,(vhy fu fu).s]
def x9s:=(x9 fu).fi (w6 fu) [(vhw fu).s]
def q55:EI wG ⟨.fn 148,[.el 0 1,.h .byte],[(0,.row .bool 155)],_,RS.mk (.h .bool) [(0,.row .bool 155)]⟩:=(fx).fi qdj
def x11:Fx wG ⟨.fn 226,[wS,wS],[],_,RS.mk (wH) []⟩:=fx [x4s.p,(x5s fu).p,(x9s fu).p,q55.p] [lb 470 [(0,wS),(5,.h (.int .i32))],lb 62864 [(0,wS),(6,.el 32 1),(8,wH)] [(32,.row .bool 155)],lb 1000 [(1,wS),(45,.ptr 32 0)] [(32,.it)],lb 124 [(0,wS),(1,wS)]]
def z57:(x11 fu).L 0:=Fx.jm (qxm fu)
def z58:Nat->(x11 fu).L 1:=Fx.lq (qhn fu) (qxk fu) (fun r1=>[r1.s])
def z6a:Nat->(x11 fu).L 2:=Fx.lq (qho fu) (qxl fu) (fun r3=>[r3.s])
def z59:(x11 fu).L 3:=Fx.jm (qnr fu) [(z6a fu fu).s]
def z6b:=(x11 fu).fi (qnq fu) [(z57 fu).s,(z58 fu fu).s,(z59 fu).s]
def z6n:EI wG ⟨.fn 182,[wS,wS],[],_,RS.mk (.h .bool) []⟩:=(fx [(z6b fu).p]).fi (qno fu)
def z7h:EI wG ⟨.fn 141,[wS],[],_,RS.mk (.h .bool) []⟩:=(fx [(z6n fu).p]).fi (qvh fu)
def qfb:EI wG ⟨.fn 57,[.h .byte],[],_,RS.mk (.h .bool) []⟩:=(fx).fi ny
def z8j:EI wG ⟨.fn 91,[wS],[],_,RS.mk (.h .bool) []⟩:=(fx [(z7h fu).p,qfb.p]).fi (qm0 fu)
def x16(fu:Nat):Fx wG ⟨.fn 92,[wS,wH],[],_,RS.mk (wH) []⟩:=fx [qfb.p] [lb 3729 [(0,wS),(5,wH),(6,wH),(26,.h .bool)],lb 464 [(0,wS),(5,wH),(6,wH)]]
def z8t(r0:(x16 fu).L 1):(x16 fu).L 0:=Fx.jm (qmz fu r0.f) [r0.s]
def z8s:Nat->(x16 fu).L 1:=Fx.lq (qg5 fu) (qvi fu) (fun r0=>[(z8t fu r0).s])
def z8u:=(x16 fu).fi (qmy fu) [(z8s fu fu).s]
def eu:EI wG ⟨.fn 20,[],[],_,RS.mk (.h (.prod wI wI)) []⟩:=(fx).fi cg
def x18:Fx wG ⟨.fn 52,[wS,wS],[],_,RS.mk (.tup [.own 0,.h (.prod wI wI)]) [(0,.row .str 9)]⟩:=fx [(x3s fu).p,ew.p,(z8j fu).p,(z8u fu).p,eu.p] [lb 4072 [(5,.ptr 32 0),(8,.own 33),(55,.own 33),(56,wH),(57,wH)] [(32,.dat (.prod wI wI) 26),(33,.row .str 9)],lb 126 [(5,.ptr 32 0),(6,wS),(8,.own 33)] [(32,.dat (.prod wI wI) 26),(33,.row .str 9)],lb 992 [(5,.ptr 32 0),(6,wS),(7,wH),(8,.own 33)] [(32,.dat (.prod wI wI) 26),(33,.row .str 9)]]
def z9r:Nat->(x18 fu).L 0:=Fx.lq (qg4 fu) (qvg fu) (fun r2=>[r2.s])
def z9q:(x18 fu).L 1:=Fx.jm (qg3 fu) [(z9r fu fu).s]
def z9p:Nat->(x18 fu).L 2:=Fx.lq (qg2 fu) (qvf fu) (fun r0=>[(z9q fu).s,r0.s])
def q6q:=(x18 fu).fi (qc3 fu) [(z9p fu fu).s]
def gl:EI wG ⟨.fn 14,[.h (.prod wI wI)],[],_,RS.mk (.h .bool) []⟩:=(fx).fi dp
def x20:Fx wG ⟨.fn 50,[.h wL],[],_,RS.mk (.h (.prod wI wI)) []⟩:=fx [ew.p,(q6q fu).p,gl.p,eu.p] [lb 232 [(2,.ptr 32 0),(11,.h wL),(12,wH),(13,wH)] [(32,.dat (.prod wI wI) 26)]]
def vas:Nat->(x20 fu).L 0:=Fx.lq (qhd fu) (qvt fu) (fun r0=>[r0.s])
def q6x:=(x20 fu).fi (qc8 fu) [(vas fu fu).s]
def x21:Fx wG ⟨.fn 22,[.h (.prod wL wB)],[],_,RS.mk (.own 0) [(0,.row .byte 5)]⟩:=fx [(q6q fu).p] [lb 119608 [(1,.ptr 32 0),(3,.own 34),(11,.h wL),(12,wH),(13,wH),(25,.own 33),(26,wH),(27,wH)] [(32,.dat (.prod wL wB) 33),(33,.row .str 9),(34,.row .byte 5)],lb 232 [(1,.ptr 32 0),(3,.own 33),(11,.h wL),(12,wH),(13,wH)] [(32,.dat (.prod wL wB) 33),(33,.row .byte 5)]]
def va8(r0:(x21 fu).L 1):Nat->(x21 fu).L 0:=Fx.lq (qde fu r0.f) (qwo fu r0.f) (fun r1=>[r1.s,r0.s])
def va7:Nat->(x21 fu).L 1:=Fx.lq (qah fu) (qwn fu) (fun r0=>[(va8 fu r0 fu).s])
def zoe:=(x21 fu).fi (qni fu) [(va7 fu fu).s]
def x22(fu:Nat):Fx wG ⟨.fn 89,[.h wB],[],_,RS.mk (wH) []⟩:=fx [] [lb 14924 [(0,.h wB),(3,wH),(4,wH),(5,.h .byte)],lb 7461 [(0,.h wB),(3,wH),(4,wH),(5,.h .byte),(32,.h .bool)],lb 464 [(0,.h wB),(3,wH),(4,wH)]]
def vbq(r0:(x22 fu).L 2):(x22 fu).L 0:=Fx.jm (qud fu r0.f) [r0.s]
def vbp(r0:(x22 fu).L 2):(x22 fu).L 1:=Fx.jm (qcz fu r0.f) [r0.s,(vbq fu r0).s]
def vbo:Nat->(x22 fu).L 2:=Fx.lq (qaa fu) (quc fu) (fun r0=>[(vbp fu r0).s])
def zoj:=(x22 fu).fi (qmm fu) [(vbo fu fu).s]
def vci:EI wG ⟨.fn 51,[.h wB],[],_,RS.mk (.h (.prod wI wI)) []⟩:=(fx [(zoj fu).p,ew.p,eu.p]).fi (qng fu)
def q7f:EI wG ⟨.fn 21,[.h (.prod wL wB)],[],_,RS.mk (.h (.prod wI wI)) []⟩:=(fx [(q6x fu).p,gl.p,(zoe fu).p,ew.p,(vci fu).p]).fi (qdc fu)
def zow:EI wG ⟨.fn 6,[.h (.prod wL wB)],[],_,RS.mk (.tup [.own 0,.h (.prod wI wI)]) [(0,.row .byte 5)]⟩:=(fx [(q7f fu).p,gl.p,(zoe fu).p,eu.p]).fi (qhj fu)
def q7s:EI wG ⟨.fn 95,[.h wB,.h .byte],[],_,RS.mk (wH) []⟩:=(fx [⟨quj 145 ww,zql⟩]).fi qac
def zo3:EI wG ⟨.fn 38,[.h wB,.h wB],[],_,RS.mk (.h .bool) []⟩:=(fx).fi qmo
def zo4:EI wG ⟨.fn 146,[.h wB,.h wB],[],_,RS.mk (.h .bool) []⟩:=(fx [zo3.p]).fi qmp
def zo5:EI wG ⟨.fn 96,[.h wB,.h wB],[],_,RS.mk (.h wB) []⟩:=(fx [zo4.p]).fi qc2
def vej:EI wG ⟨.fn 56,[.h wB],[],_,RS.mk (.tup [wS,wH]) []⟩:=(fx [q7s.p,zo5.p]).fi qna
def q7x:EI wG ⟨.fn 59,[.own 0],[(0,.row .str 9)],_,RS.mk (.ptr 1 0) [(0,.dead),(1,.cells [.h (.int .u32),.h (.int .i32),.h (.int .u32),.c .nilIface,.own 2] 152),(2,.row .str 9)]⟩:=(fx [] [] true).fi qdh
def vek:EI wG ⟨.fn 147,[wS,wS],[],_,RS.mk (.tup [wS,wS,.h .bool]) []⟩:=(fx [⟨q42.e nz,zll oE⟩]).fi qnb
def zo6:EI wG ⟨.fn 97,[wS,wS],[],_,RS.mk (.tup [wS,wS,.h .bool]) []⟩:=(fx [vek.p]).fi qal
def x34(fu:Nat):Fx wG ⟨.fn 100,[wS,.h .byte],[],_,RS.mk (wS) []⟩:=fx [] [lb 96 [(0,wS),(1,.h .byte)]]
def vel:Nat->(x34 fu).L 0:=Fx.lq (qyn fu) (zcq fu) (fun r0=>[r0.s])
def zo8:=(x34 fu).fi (qym fu) [(vel fu fu).s]
def x35(fu:Nat):Fx wG ⟨.fn 103,[wS,.el 0 1],[(0,.row .bool 155)],_,RS.mk (wS) [(0,.row .bool 155)]⟩:=fx [q55.p] [lb 96 [(0,wS),(1,.el 0 1)] [(0,.row .bool 155)]]
def vem:Nat->(x35 fu).L 0:=Fx.lq (qh3 fu) (qyl fu) (fun r0=>[r0.s])
def zpa:=(x35 fu).fi (qh2 fu) [(vem fu fu).s]
def zpb:EI wG ⟨.fn 185,[.h .byte],[],_,RS.mk (.h .bool) []⟩:=(fx).fi qy2
def ou:LC.glob 0=some ⟨.byte,qrv⟩:=rfl
def oc:LC.glob 1=some ⟨.prod .byte .byte,qrw⟩:=rfl
def ot:xi qrv=true:=oC
def ob:xj qrw=true:=oC
def x37(fu:Nat):Fx wG ⟨.fn 150,[wS],[],_,RS.mk (.tup [.h (.int .i32),wH]) []⟩:=fx [zpb.p,⟨xl.e il,qa7 ou oc ot ob⟩] [lb 2046 [(0,wS),(4,wH),(5,wH)],lb 2044 [(0,wS),(4,wH),(5,wH)],lb 16336 [(0,wS),(4,wH),(5,wH),(6,wH)]]
def vep:(x37 fu).L 0:=Fx.jm (qyu fu)
def veo:(x37 fu).L 1:=Fx.jm (qyt fu) [(vep fu).s]
def ven:Nat->(x37 fu).L 2:=Fx.lq (qys fu) (zcx fu) (fun r0=>[(veo fu).s,r0.s])
def veq:=(x37 fu).fi (zcw fu) [(ven fu fu).s]
def zpc:EI wG ⟨.fn 149,[wS,.h (.int .i32)],[],_,RS.mk (.h .bool) []⟩:=(fx [(x9s fu).p]).fi (qnp fu)
def x39:Fx wG ⟨.fn 105,[wS,wS],[],_,RS.mk (wS) []⟩:=fx [(veq fu).p,(zpc fu).p] [lb 96 [(0,wS),(1,wS)]]
def ver:Nat->(x39 fu).L 0:=Fx.lq (qyp fu) (zcr fu) (fun r0=>[r0.s])
def zpe:=(x39 fu).fi (qyo fu) [(ver fu fu).s]
def x40:Fx wG ⟨.fn 98,[wS,wS],[],_,RS.mk (wS) []⟩:=fx [(zo8 fu).p,(x5s fu).p,(zpa fu).p,(zpe fu).p] [lb 60 [(0,wS),(1,wS)],lb 29 [(0,wS),(1,wS),(21,.h .bool)],lb 28 [(0,wS),(1,wS)],lb 13 [(0,wS),(1,wS),(12,.h .bool)]]
def vew:(x40 fu).L 0:=Fx.jm (qx0 fu)
def vev:(x40 fu).L 1:=Fx.jm (qnw fu) [(vew fu).s]
def veu:(x40 fu).L 2:=Fx.jm (qxz fu) [(vev fu).s]
def vet:(x40 fu).L 3:=Fx.jm (qnv fu) [(veu fu).s]
def zpf:=(x40 fu).fi (qhu fu) [(vet fu).s]
def zpg:EI wG ⟨.fn 62,[wS],[],_,RS.mk (.h .bool) []⟩:=(fx [(q6q fu).p,gl.p]).fi (qhe fu)
def vex:EI wG ⟨.fn 58,[wS],[],_,RS.mk (.tup [.h wP,.h .bool]) []⟩:=(fx [zo6.p,(zpf fu).p,(zpg fu).p]).fi (qm9 fu)
def wg(fu:Nat):Fx wG ⟨.fn 153,[.ptr 0 0],[(0,.cells [.h (.int .u32),.h (.int .i32),.h (.int .u32),.c .nilIface,.own 1] 152),(1,.row .str 9)],_,RS.mk (.iel 244 2 1) [(0,.cells [.h (.int .u32),.h (.int .i32),.h (.int .u32),.c .nilIface,.own 3] 152),(1,.dead),(2,.row .byte 243),(3,.row .str 9)]⟩:=fx [] [lb 2003 [(3,.own 32),(4,.h .bool),(5,wH)] [(0,.cells [.h (.int .u32),.h (.int .i32),.h (.int .u32),.c .nilIface,.own 32] 152),(1,.dead),(32,.row .str 9)],lb 129744 [(3,.own 32),(6,.el 33 1),(8,wH)] [(0,.cells [.h (.int .u32),.h (.int .i32),.h (.int .u32),.c .nilIface,.own 32] 152),(1,.dead),(32,.row .str 9),(33,.row .byte 243)],lb 32424 [(3,.own 32),(6,.el 33 1),(61,wH)] [(0,.cells [.h (.int .u32),.h (.int .i32),.h (.int .u32),.c .nilIface,.own 32] 152),(1,.dead),(32,.row .str 9),(33,.row .byte 243)],lb 16336 [(3,.own 32),(11,.ptr 33 0),(12,wH)] [(0,.cells [.h (.int .u32),.h (.int .i32),.h (.int .u32),.c .nilIface,.own 32] 152),(1,.dead),(32,.row .str 9),(33,.cells [wN,wN,wN,wN,wN,wN,wN,wN,wN,wN,wN,wN,wN,wN,wN,wN,wN,wN,wN,wN,wN,wN,wN,wN,wN,wN,wN,wN,wN,wN,wN,wN,wN,wN,wN,wN,wN,wN,wN,wN,wN,wN,wN,wN,wN,wN,wN,wN,wN,wN,wN,wN,wN,wN,wN,wN,wN,wN,wN,wN,wN,wN,wN,wN,wN,wN,wN,wN,wN,wN,wN,wN,wN,wN,wN,wN,wN,wN,wN,wN,wN,wN,wN,wN,wN,wN,wN,wN,wN,wN,wN,wN,wN,wN,wN,wN,wN,wN,wN,wN,wN,wN,wN,wN,wN,wN,wN,wN,wN,wN,wN,wN,wN,wN,wN,wN,wN,wN,wN,wN,wN,wN,wN,wN,wN,wN,wN,wN,wN,wN,wN,wN,wN,wN,wN,wN,wN,wN,wN,wN,wN,wN,wN,wN,wN,wN,wN,wN,wN,wN,wN,wN,wN,wN,wN,wN,wN,wN,wN,wN,wN,wN,wN,wN,wN,wN,wN,wN,wN,wN,wN,wN,wN,wN,wN,wN,wN,wN,wN,wN,wN,wN,wN,wN,wN,wN,wN,wN,wN,wN,wN,wN,wN,wN,wN,wN,wN,wN,wN,wN,wN,wN,wN,wN,wN,wN,wN,wN,wN,wN,wN,wN,wN,wN,wN,wN,wN,wN,wN,wN,wN,wN,wN,wN,wN,wN,wN,wN,wN,wN,wN,wN,wN,wN,wN,wN,wN,wN,wN,wN,wN,wN,wN,wN,wN,wN,wN,wN,wN,wN,wN,wN,wN,wN,wN,wN,.own 34] 247),(34,.row .str 9)],lb 2000 [(3,.own 32),(4,.h .bool),(5,wH)] [(0,.cells [.h (.int .u32),.h (.int .i32),.h (.int .u32),.c .nilIface,.own 32] 152),(1,.dead),(32,.row .str 9)],lb 30 [(3,.own 32)] [(0,.cells [.h (.int .u32),.h (.int .i32),.h (.int .u32),.c .nilIface,.own 32] 152),(1,.dead),(32,.row .str 9)],lb 29 [(3,.own 32),(28,.h .bool)] [(0,.cells [.h (.int .u32),.h (.int .i32),.h (.int .u32),.c .nilIface,.own 32] 152),(1,.dead),(32,.row .str 9)]]
def ve1(r2:(wg fu).L 4):(wg fu).L 0:=Fx.jm (qxt fu r2.f) [r2.s]
def ve4:Nat->(wg fu).L 1:=Fx.lq (qxw fu) (zca fu) (fun r6=>[r6.s])
def ve2:Nat->(wg fu).L 2:=Fx.lq (qxu fu) (zb8 fu) (fun r4=>[r4.s,(ve4 fu fu).s])
def ve3:Nat->(wg fu).L 3:=Fx.lq (qxv fu) (zb9 fu) (fun r5=>[])
def ve0:Nat->(wg fu).L 4:=Fx.lq (qxs fu) (zb7 fu) (fun r2=>[(ve1 fu r2).s,(ve2 fu fu).s,(ve3 fu fu).s])
def vez:(wg fu).L 5:=Fx.jm (zcb fu) [(ve0 fu fu).s]
def vey:(wg fu).L 6:=Fx.jm (qxr fu) [(vez fu).s]
def ve5:=(wg fu).fi (zb6 fu) [(vey fu).s]
def q7z:IF:=⟨.fn 107,[.ptr 0 0],[(0,.cells [.h (.int .u32),.h (.int .i32),.h (.int .u32),.c .nilIface,.own 1] 152),(1,.row .str 9)],_,RS.mk (.tup []) [(0,.cells [.h (.int .u32),.h (.int .i32),.h (.int .u32),.iel 244 2 1,.own 3] 152),(1,.dead),(2,.row .byte 243),(3,.row .str 9)]⟩
def x44:Fx wG q7z:=fx [(ve5 fu).p]
def ve7:EI wG q7z:=(x44 fu).fi (qnt fu)
def zqs:(q7z.e (qnt fu)).Sound wG:=(ve7 fu).h
def q70:IF:=⟨.fn 386,[.el 0 1,wS],[(0,.row .byte 243)],_,RS.mk (wS) [(0,.row .byte 243)]⟩
def x45(fu:Nat):Fx wG q70:=fx [] [lb 14925 [(0,.el 0 1),(1,wS),(5,.own 32),(6,wH),(7,.h .byte)] [(0,.row .byte 243),(32,.row .byte 5)],lb 464 [(0,.el 0 1),(1,wS),(5,.own 32),(6,wH)] [(0,.row .byte 243),(32,.row .byte 5)],lb 464 [(0,.el 0 1),(1,wS),(5,wN),(6,wH)] [(0,.row .byte 243)]]
def zph(r2:(x45 fu).L 1):(x45 fu).L 0:=Fx.jm (qhx fu r2.f) [r2.s]
def ve9:Nat->(x45 fu).L 1:=Fx.lq (qhy fu) (qx4 fu) (fun r2=>[(zph fu r2).s,r2.s])
def ve8:Nat->(x45 fu).L 2:=Fx.lq (qhw fu) (qx3 fu) (fun r0=>[r0.s,(zph fu (ve9 fu fu)).s])
def vfa:EI wG q70:=(x45 fu).fi (qhv fu) [(ve8 fu fu).s]
def zcf:(q70.e (qhv fu)).Sound wG:=(vfa fu).h
def zkf:IF:=⟨.fn 61,[.ptr 0 0,wS],[(0,.cells [.h (.int .u32),.h (.int .i32),.h (.int .u32),.c .nilIface,.own 1] 152),(1,.row .str 9)],_,RS.mk (wS) [(0,.cells [.h (.int .u32),.h (.int .i32),.h (.int .u32),.iel 244 2 1,.u] 152),(1,.dead),(2,.row .byte 243)]⟩
def zkg:IF:=⟨.fn 61,[.ptr 0 0,wS],[(0,.cells [.h (.int .u32),.h (.int .i32),.h (.int .u32),.iel 244 1 1,.u] 152),(1,.row .byte 243)],_,RS.mk (wS) [(0,.cells [.h (.int .u32),.h (.int .i32),.h (.int .u32),.iel 244 1 1,.u] 152),(1,.row .byte 243)]⟩
def zqq(s:Bs)(p0 p1 p2:Int)(on:List Bs)(r:Bs×Int×Int×Int×Bs)(hr:qaj fu s p0 p1 p2 on=some r) :
  ce wG 61 [.ptr 0 0,.str s] [(0,.cells [.int .u32 p0,.int .i32 p1,.int .u32 p2,.val .nilIface,.own 1] 152),(1,.row .str on 9)] (.str r.1) [(0,.cells [.int .u32 r.2.1,.int .i32 r.2.2.1,.int .u32 r.2.2.2.1,.iface 244 (.oel 2 1 0 0),.undef] 152),(1,.dead),(2,.row .byte r.2.2.2.2 243)]:=by
 unfold qaj at hr;cases hc:decide (p0=0)&&decide (p1=0)<;>rw[hc]at hr<;>simp only[qT,qF,reduceCtorEq]at hr
 simp only[qA,decide_eq_true_eq]at hc;obtain⟨rfl,rfl⟩:=hc;obtain⟨x,hx,hr⟩:=Option.bind_eq_some_iff.1 hr;obtain⟨x0,x1,x2,tab,on'⟩:=x;simp only at hr;cases hc2:decide (x0=0)&&decide (x1=1)<;>rw[hc2]at hr<;>simp only[qT,qF,reduceCtorEq]at hr
 simp only[qA,decide_eq_true_eq]at hc2;obtain⟨rfl,rfl⟩:=hc2;obtain⟨y,hy,hr⟩:=Option.bind_eq_some_iff.1 hr;obtain⟨out,tab'⟩:=y;simp only[qI]at hr;subst hr;have hB:ce wG 107 [.ptr 0 0] [(0,.cells [.int .u32 0,.int .i32 1,.int .u32 p2,.val .nilIface,.own 1] 152),(1,.row .str on 9)] (.tup []) [(0,.cells [.int .u32 0,.int .i32 1,.int .u32 x2,.iface 244 (.oel 2 1 0 0),.own 3] 152),(1,.dead),(2,.row .byte tab 243),(3,.row .str on' 9)]:=
  (zqs fu ((),()) (((0:Int),((1:Int),(p2,((),((),()))))),(on,())) ((0:Int),(1:Int),x2,tab,on') hx).2
 have hP:ce wG 386 [.oel 0 1 0 0,.str s] [(0,.row .byte tab 243)] (.str out) [(0,.row .byte tab' 243)]:=
  (zcf fu ((),(s,())) (tab,()) (out,tab') hy).2
 intro w G vs hm hv;show Calls _ _ _ _ (jo w G [(0,.cells [.int .u32 0,.int .i32 0,.int .u32 p2,.val .nilIface,.own 1] 152),(1,.row .str on 9)] (.str out) [(0,.cells [.int .u32 1,.int .i32 0,.int .u32 x2,.iface 244 (.oel 2 1 0 0),.undef] 152),(1,.dead),(2,.row .byte tab' 243)]);have hm:bq G [(0,.cells [.int .u32 0,.int .i32 0,.int .u32 p2,.val .nilIface,.own 1] 152),(1,.row .str on 9)] w:=hm;have hv:ak [.ptr 0 0,.str s] G vs:=hv
 match vs,hv with
 |[v1,v2],hv=>
 obtain⟨⟨B,hGB,rfl⟩,rfl,_⟩:=hv;have hid:∀n b,af ([(0,.cells [.int .u32 0,.int .i32 0,.int .u32 p2,.val .nilIface,.own 1] 152),(1,.row .str on 9)]:List (Nat×ag)) n=some b->aw [(0,0),(1,1)] n=some n/\d7 (aw [(0,0),(1,1)]) b=b:=by
  intro n b h
  match n,h with
  |0,h=>cases h;exact⟨rfl,rfl⟩
  |1,h=>cases h;exact⟨rfl,rfl⟩
  |n+2,h=>cases h
 have hr0:=ai.start (N:=[(0,0),(1,1)]) hm hid (fun n h=>by
  match n,h with
  |0,h=>cases h
  |1,h=>cases h
  | n+2,h=>rfl) 4
 have hGB0:(G.view [(0,0),(1,1)]).box 0=some B:=hGB;obtain⟨c0,e0,r0,z0⟩:=hr0.cellAt (i:=0) rfl hGB0 rfl;obtain⟨c1,e1,r1,z1⟩:=hr0.cellAt (i:=1) rfl hGB0 rfl;have r0:c0 = .int .u32 0:=r0;have r1:c1 = .int .i32 0:=r1;subst r0 r1;have hr1:=hr0.setCellAt (i:=1) (x := .int .i32 1) (v := .int .i32 1) rfl hGB0 rfl rfl
 -- the building
 have hmB:bq ((G.view [(0,0),(1,1)]).view [(0,0),(1,1)]) [(0,.cells [.int .u32 0,.int .i32 1,.int .u32 p2,.val .nilIface,.own 1] 152),(1,.row .str on 9)] (w.setCell ⟨B,1,none⟩ (.int .i32 1)):=
  hr1.fin.mem.view (names:=[(0,0),(1,1)]) rfl (fun m m' n h1 h2=>by
   match m,m',h1,h2 with
   |0,0,_,_=>rfl|1,1,_,_=>rfl|0,1,h1,h2=>cases h1;cases h2
   |1,0,h1,h2=>cases h1;cases h2
   |0,m'+2,_,h2=>cases h2
   |1,m'+2,_,h2=>cases h2
   | m+2,_,h1,_=>cases h1)
 have hcB:=hB (w.setCell ⟨B,1,none⟩ (.int .i32 1)) ((G.view [(0,0),(1,1)]).view [(0,0),(1,1)]) [.pointer (some ⟨B,0,none⟩)] hmB ⟨⟨B,hGB,rfl⟩,trivial⟩
 let s2:St:={ n:=4,fr:=[(0,.tup [])],hp:=[(0,.cells [.int .u32 0,.int .i32 1,.int .u32 x2,.iface 244 (.oel 66 1 0 0),.own 67] 152),(1,.dead),(66,.row .byte tab 243),(67,.row .str on' 9),(0,.dead),(1,.dead),(0,.cells [.int .u32 0,.int .i32 1,.int .u32 p2,.val .nilIface,.own 1] 152),(0,.cells [.int .u32 0,.int .i32 0,.int .u32 p2,.val .nilIface,.own 1] 152),(1,.row .str on 9)],nx:=64,df:=[] }
 let hp0:List (Nat×ag):=[(0,.cells [.int .u32 0,.int .i32 0,.int .u32 p2,.val .nilIface,.own 1] 152),(1,.row .str on 9)]
 let R:World->Prop:=fun w'=>∃G2 a2,ai w (G.view [(0,0),(1,1)]) hp0 G2 s2 a2 w'
 have hBw:∀{w':World}{G2:Gh}{a2:Act},ai w (G.view [(0,0),(1,1)]) hp0 G2 s2 a2 w'->G2.box 0=some B:=fun h=>h.fin.keep 0 _ B rfl hGB0
 refine(Go.Proofs.YtdnaaelkpgijeaaGreatDoor.Once.replace_first B ⟨s.toArray⟩ w R (fun v w'=>∃G4,Fin w G hp0 G4 [(0,.cells [.int .u32 1,.int .i32 0,.int .u32 x2,.iface 244 (.oel 2 1 0 0),.undef] 152),(1,.dead),(2,.row .byte tab' 243)] w'/\aj (.str out) G4 v) e0 e1 z0 z1 ?_ ?_ ?_).mono ?_
 ·refine hcB.mono ?_;intro e w' hpost;obtain⟨G2,v,he,hr2⟩:=qeo hr1 (t:=0) (names:=[(0,0),(1,1)]) (hpv:=[(0,.cells [.int .u32 0,.int .i32 1,.int .u32 p2,.val .nilIface,.own 1] 152),(1,.row .str on 9)]) (hp:=[(0,.cells [.int .u32 0,.int .i32 1,.int .u32 p2,.val .nilIface,.own 1] 152),(1,.row .str on 9)]) rfl rfl (show 0<4 by decide) rfl rfl (by repeat (first|trivial|refine⟨rfl,?_⟩)) hpost
  obtain⟨u,u1,u2⟩:=hr2.frame 0 _ rfl;have u3:u=v:=by simpa [Act.put] using u1.symm
  obtain⟨us,h1,h2⟩:=u2;have:us=#[]:=by
   cases hq:us.toList with|nil=>simpa using hq|cons _ _=>rw[hq]at h2;exact h2.elim
  subst this;subst u3;exact⟨by rw[he,h1],G2,_,hr2⟩
 ·rintro w' ⟨G2,a2,hr2⟩
  obtain⟨d0,f0,q0,y0⟩:=hr2.cellAt (i:=0) rfl (hBw hr2) rfl;obtain⟨d1,f1,q1,y1⟩:=hr2.cellAt (i:=1) rfl (hBw hr2) rfl;have q0:d0 = .int .u32 0:=q0;have q1:d1 = .int .i32 1:=q1;subst q0 q1;exact⟨f0,y0,f1,y1⟩
 ·rintro w' ⟨G2,a2,hr2⟩
  obtain⟨d3,f3,q3,_⟩:=hr2.cellAt (i:=3) rfl (hBw hr2) rfl;obtain⟨u3,rfl,g,n3,c3,o3,rfl⟩:=q3;refine⟨g,by simpa using f3,?_⟩
  have hr3:=(hr2.drewOk.setCellAt (i:=0) (x := .int .u32 1) (v := .int .u32 1) rfl (hBw hr2) rfl rfl).setCellAt (i:=0+1) (x := .int .i32 0) (v := .int .i32 0) rfl (hBw hr2) rfl rfl;have hmP:bq (G2.view [(0,66)]) [(0,.row .byte tab 243)] ((w'.drew.setCell ⟨B,0,none⟩ (.int .u32 1)).setCell ⟨B,0+1,none⟩ (.int .i32 0)):=
   hr3.fin.mem.view (names:=[(0,66)]) rfl (fun m m' n h1 h2=>by
    cases m with
    |zero=>cases m' with|zero=>rfl|succ m'=>cases h2
    | succ m=>cases h1)
  have hcP:=hP _ (G2.view [(0,66)]) [.pointer (some ⟨g,0,none⟩),.string ⟨s.toArray⟩] hmP ⟨⟨g,n3,c3,o3,oB⟩,rfl,trivial⟩
  refine hcP.mono ?_;intro e w4 hpost;obtain⟨G4,v,he,hr4⟩:=qeo hr3 (t:=1) (names:=[(0,66)]) (hpv:=[(0,.row .byte tab 243)]) (hp:=[(0,.row .byte tab 243)]) rfl rfl (show 1<4 by decide) rfl rfl ⟨rfl,trivial⟩ hpost
  obtain⟨u,u1,u2⟩:=hr4.frame 1 _ rfl;have u3:u=v:=by
   have hs:=hr3.size;have hlt:1<a2.tmps.size:=by rw[hs];exact(show 1<4 by decide)
   simp only[Act.put]at u1;rw[Array.getElem?_setIfInBounds]at u1;simp[hlt]at u1;exact u1.symm
  subst u3;obtain⟨G5,k1,k2⟩:=qjg hr4.fin (ids:=[(0,0),(1,1)]) (fun n bx h=>by
   match n,h with
   |0,h=>rfl|1,h=>rfl| n+2,h=>cases h) (v := .str out) (p := wS) (hp:=[(0,.cells [.h (.int .u32),.h (.int .i32),.h (.int .u32),.iel 244 2 1,.u] 152),(1,.dead),(2,.row .byte 243)]) (y:=(out,(((1:Int),((0:Int),(x2,((),((),()))))),((),(tab',()))))) (by rfl)
  exact⟨u,he,G5,k1.only hid,k2 u u2⟩
 ·rintro e w4 ⟨v,rfl,G4,k1,k2⟩
  exact⟨v,G4,rfl,k1,k2⟩
def z1q:(zkf.e (qaj fu)).Sound wG:=fun d d' r hr=>
 ⟨call61,zqq fu d.2.1 d'.1.1 d'.1.2.1 d'.1.2.2.1 d'.2.1 r hr⟩
def zqr(s:Bs)(p0 p1 p2:Int)(tab:Bs)(r:Bs×Int×Int×Int×Bs)(hr:qak fu s p0 p1 p2 tab=some r) :
  ce wG 61 [.ptr 0 0,.str s] [(0,.cells [.int .u32 p0,.int .i32 p1,.int .u32 p2,.iface 244 (.oel 1 1 0 0),.undef] 152),(1,.row .byte tab 243)] (.str r.1) [(0,.cells [.int .u32 r.2.1,.int .i32 r.2.2.1,.int .u32 r.2.2.2.1,.iface 244 (.oel 1 1 0 0),.undef] 152),(1,.row .byte r.2.2.2.2 243)]:=by
 unfold qak at hr;cases hc : !decide (p0=0)<;>rw[hc]at hr<;>simp only[qT,qF,reduceCtorEq]at hr
 simp only[Bool.not_eq_true',decide_eq_false_iff_not]at hc;obtain⟨y,hy,hr⟩:=Option.bind_eq_some_iff.1 hr;obtain⟨out,tab'⟩:=y;simp only[qI]at hr;subst hr;have hP:ce wG 386 [.oel 0 1 0 0,.str s] [(0,.row .byte tab 243)] (.str out) [(0,.row .byte tab' 243)]:=
  (zcf fu ((),(s,())) (tab,()) (out,tab') hy).2
 intro w G vs hm hv
 let hp0:List (Nat×ag):=[(0,.cells [.int .u32 p0,.int .i32 p1,.int .u32 p2,.iface 244 (.oel 1 1 0 0),.undef] 152),(1,.row .byte tab 243)]
 show Calls _ _ _ _ (jo w G hp0 (.str out) [(0,.cells [.int .u32 p0,.int .i32 p1,.int .u32 p2,.iface 244 (.oel 1 1 0 0),.undef] 152),(1,.row .byte tab' 243)]);have hm:bq G hp0 w:=hm;have hv:ak [.ptr 0 0,.str s] G vs:=hv
 match vs,hv with
 |[v1,v2],hv=>
 obtain⟨⟨B,hGB,rfl⟩,rfl,_⟩:=hv;have hid:∀n b,af hp0 n=some b->aw [(0,0),(1,1)] n=some n/\d7 (aw [(0,0),(1,1)]) b=b:=by
  intro n b h
  match n,h with
  |0,h=>cases h;exact⟨rfl,rfl⟩
  |1,h=>cases h;exact⟨rfl,rfl⟩
  |n+2,h=>cases h
 have hr0:=ai.start (N:=[(0,0),(1,1)]) hm hid (fun n h=>by
  match n,h with
  |0,h=>cases h
  |1,h=>cases h
  | n+2,h=>rfl) 4
 have hGB0:(G.view [(0,0),(1,1)]).box 0=some B:=hGB;obtain⟨c0,e0,r0,_⟩:=hr0.cellAt (i:=0) rfl hGB0 rfl;have r0:c0 = .int .u32 p0:=r0;subst r0;obtain⟨d3,f3,q3,_⟩:=hr0.cellAt (i:=3) rfl hGB0 rfl;obtain⟨u3,rfl,g,n3,c3,o3,rfl⟩:=q3;have hmP:bq ((G.view [(0,0),(1,1)]).view [(0,1)]) [(0,.row .byte tab 243)] w:=
  hr0.fin.mem.view (names:=[(0,1)]) rfl (fun m m' n h1 h2=>by
   cases m with
   |zero=>cases m' with|zero=>rfl|succ m'=>cases h2
   | succ m=>cases h1)
 have hcP:=hP w ((G.view [(0,0),(1,1)]).view [(0,1)]) [.pointer (some ⟨g,0,none⟩),.string ⟨s.toArray⟩] hmP ⟨⟨g,n3,c3,o3,oB⟩,rfl,trivial⟩
 refine(Go.Proofs.YtdnaaelkpgijeaaGreatDoor.Once.replace_done B g ⟨s.toArray⟩ w (fun v w'=>∃G4,Fin w G hp0 G4 [(0,.cells [.int .u32 p0,.int .i32 p1,.int .u32 p2,.iface 244 (.oel 1 1 0 0),.undef] 152),(1,.row .byte tab' 243)] w'/\aj (.str out) G4 v) p0 hc e0 (by simpa using f3) ?_).mono ?_
 ·refine hcP.mono ?_;intro e w4 hpost;obtain⟨G4,v,he,hr4⟩:=qeo hr0 (t:=1) (names:=[(0,1)]) (hpv:=[(0,.row .byte tab 243)]) (hp:=[(0,.row .byte tab 243)]) rfl rfl (show 1<4 by decide) rfl rfl ⟨rfl,trivial⟩ hpost
  obtain⟨u,u1,u2⟩:=hr4.frame 1 _ rfl;have u3:u=v:=by simpa [Act.put] using u1.symm
  subst u3;obtain⟨G5,k1,k2⟩:=qjg hr4.fin (ids:=[(0,0),(1,1)]) (fun n bx h=>by
   match n,h with
   |0,h=>rfl|1,h=>rfl| n+2,h=>cases h) (v := .str out) (p := wS) (hp:=[(0,.cells [.h (.int .u32),.h (.int .i32),.h (.int .u32),.iel 244 1 1,.u] 152),(1,.row .byte 243)]) (y:=(out,((p0,(p1,(p2,((),((),()))))),(tab',())))) (by rfl)
  exact⟨u,he,G5,k1.only hid,k2 u u2⟩
 ·rintro e w4 ⟨v,rfl,G4,k1,k2⟩
  exact⟨v,G4,rfl,k1,k2⟩
def z1r:(zkg.e (qak fu)).Sound wG:=fun d d' r hr=>
 ⟨call61,zqr fu d.2.1 d'.1.1 d'.1.2.1 d'.1.2.2.1 d'.2.1 r hr⟩
def x46(fu:Nat):Fx wG ⟨.fn 99,[wS,.h .byte],[],_,RS.mk (wS) []⟩:=fx [] [lb 96 [(0,wS),(1,.h .byte)]]
def vfb:Nat->(x46 fu).L 0:=Fx.lq (qyi fu) (zco fu) (fun r0=>[r0.s])
def zpj:=(x46 fu).fi (qyh fu) [(vfb fu fu).s]
def x47(fu:Nat):Fx wG ⟨.fn 102,[wS,.el 0 1],[(0,.row .bool 155)],_,RS.mk (wS) [(0,.row .bool 155)]⟩:=fx [q55.p] [lb 96 [(0,wS),(1,.el 0 1)] [(0,.row .bool 155)]]
def vfc:Nat->(x47 fu).L 0:=Fx.lq (qh1 fu) (qyg fu) (fun r0=>[r0.s])
def zpl:=(x47 fu).fi (qn3 fu) [(vfc fu fu).s]
def x48:Fx wG ⟨.fn 104,[wS,wS],[],_,RS.mk (wS) []⟩:=fx [⟨xl.e il,qa7 ou oc ot ob⟩,(zpc fu).p] [lb 96 [(0,wS),(1,wS)]]
def vfd:Nat->(x48 fu).L 0:=Fx.lq (qyk fu) (zcp fu) (fun r0=>[r0.s])
def zpn:=(x48 fu).fi (qyj fu) [(vfd fu fu).s]
def x49:Fx wG ⟨.fn 60,[wS,wS],[],_,RS.mk (wS) []⟩:=fx [(zo8 fu).p,(zpj fu).p,(x5s fu).p,(zpa fu).p,(zpl fu).p,(zpe fu).p,(zpn fu).p] [lb 60 [(0,wS),(1,wS)],lb 29 [(0,wS),(1,wS),(21,.h .bool)],lb 28 [(0,wS),(1,wS)],lb 13 [(0,wS),(1,wS),(12,.h .bool)]]
def vfh:(x49 fu).L 0:=Fx.jm (qx2 fu)
def vfg:(x49 fu).L 1:=Fx.jm (qny fu) [(vfh fu).s]
def vff:(x49 fu).L 2:=Fx.jm (qx1 fu) [(vfg fu).s]
def vfe:(x49 fu).L 3:=Fx.jm (qnx fu) [(vff fu).s]
def vfi:=(x49 fu).fi (qht fu) [(vfe fu).s]
def wh:Fx wG ⟨.fn 27,[.h wB],[],_,RS.mk (.tup [.own 0,wH,.h (.prod wI wI)]) [(0,.row wP 30)]⟩:=fx [ew.p,vej.p,qfb.p,q7x.p,⟨zkf.e (qaj fu),z1q fu⟩,(vfi fu).p,eu.p,(vex fu).p,⟨zkg.e (qak fu),z1r fu⟩] [lb 8168 [(4,.ptr 32 0),(5,.own 33),(6,wH),(11,.ptr 34 0),(77,wH),(78,wH)] [(32,.dat (.prod wI wI) 26),(33,.row wP 30),(34,.cells [.h (.int .u32),.h (.int .i32),.h (.int .u32),.iel 244 35 1,.u] 152),(35,.row .byte 243)],lb 8168 [(4,.ptr 32 0),(5,.own 35),(6,wH),(11,.ptr 33 0),(77,wH),(78,.c (.int .i64 0))] [(32,.dat (.prod wI wI) 26),(33,.cells [.h (.int .u32),.h (.int .i32),.h (.int .u32),.c .nilIface,.own 34] 152),(34,.row .str 9),(35,.row wP 30)],lb 252 [(4,.ptr 32 0),(5,.own 33),(6,wH)] [(32,.dat (.prod wI wI) 26),(33,.row wP 30)],lb 15918 [(0,.h wB),(4,.ptr 32 0),(5,.own 33),(6,wH),(7,wS),(8,wH)] [(32,.dat (.prod wI wI) 26),(33,.row wP 30)],lb 15917 [(0,.h wB),(4,.ptr 32 0),(5,.own 33),(6,wH),(7,wS),(8,wH),(41,.h .bool)] [(32,.dat (.prod wI wI) 26),(33,.row wP 30)],lb 992 [(0,.h wB),(4,.ptr 32 0),(5,.own 33),(6,wH)] [(32,.dat (.prod wI wI) 26),(33,.row wP 30)]]
def vfo:Nat->(wh fu).L 0:=Fx.lq (qhc fu) (qvs fu) (fun r5=>[r5.s])
def vfm:Nat->(wh fu).L 1:=Fx.lq (wz fu) (qhb fu) (fun r3=>[(vfo fu fu).s])
def zpo:(wh fu).L 2:=Fx.jm (qc7 fu) [(vfm fu fu).s]
def vfn(r0:(wh fu).L 5):(wh fu).L 3:=Fx.jm (qm8 fu r0.f) [(zpo fu).s,r0.s]
def vfl(r0:(wh fu).L 5):(wh fu).L 4:=Fx.jm (qae fu r0.f) [r0.s,(vfn fu r0).s]
def vfk:Nat->(wh fu).L 5:=Fx.lq (qad fu) (qvr fu) (fun r0=>[(zpo fu).s,(vfl fu r0).s])
def zpp:=(wh fu).fi (qha fu) [(vfk fu fu).s]
def x51(fu:Nat):Fx wG ⟨.fn 28,[.h wB],[],_,RS.mk (.own 0) [(0,.row .byte 5)]⟩:=fx [] [lb 14919 [(0,.h wB),(3,.own 32),(4,wH),(44,.h .bool)] [(32,.row .byte 5)],lb 3729 [(0,.h wB),(3,.own 32),(4,wH),(18,.h .bool)] [(32,.row .byte 5)],lb 464 [(0,.h wB),(3,.own 32),(4,wH)] [(32,.row .byte 5)]]
def vfr(r0:(x51 fu).L 2):(x51 fu).L 0:=Fx.jm (qnh fu r0.f) [r0.s]
def vfq(r0:(x51 fu).L 2):(x51 fu).L 1:=Fx.jm (qdd fu r0.f) [r0.s,(vfr fu r0).s]
def vfp:Nat->(x51 fu).L 2:=Fx.lq (qag fu) (qwm fu) (fun r0=>[(vfq fu r0).s])
def vfs:=(x51 fu).fi (qwl fu) [(vfp fu fu).s]
def zpr:EI wG ⟨.fn 8,[.h wB],[],_,RS.mk (.tup [.h (.prod wL wB),.h (.prod wI wI)]) []⟩:=(fx [(zpp fu).p,gl.p,(vfs fu).p,(q7f fu).p,eu.p]).fi (qhi fu)
def x53(fu:Nat):Fx wG ⟨.fn 63,[wS],[],_,RS.mk (wS) []⟩:=fx [] [lb 232 [(3,.own 32),(8,.own 32),(9,wH),(10,wH)] [(32,.row .byte 5)]]
def vft:Nat->(x53 fu).L 0:=Fx.lq (tz fu) (qc1 fu) (fun r0=>[r0.s])
def zpt:=(x53 fu).fi (wu fu) [(vft fu fu).s]
def nr:EI wG ⟨.fn 30,[wS,wS],[],_,RS.mk (.h .bool) []⟩:=(fx [(zpt fu).p]).fi (e7 fu)
def x55:Fx wG ⟨.fn 318,[wS,wS],[],_,RS.mk (wS) []⟩:=fx [(zpj fu).p,(x5s fu).p,(zpl fu).p,(zpn fu).p] [lb 60 [(0,wS),(1,wS)],lb 29 [(0,wS),(1,wS),(21,.h .bool)],lb 28 [(0,wS),(1,wS)],lb 13 [(0,wS),(1,wS),(12,.h .bool)]]
def vfx:(x55 fu).L 0:=Fx.jm (zce fu)
def vfw:(x55 fu).L 1:=Fx.jm (qxy fu) [(vfx fu).s]
def vfv:(x55 fu).L 2:=Fx.jm (zcd fu) [(vfw fu).s]
def vfu:(x55 fu).L 3:=Fx.jm (qxx fu) [(vfv fu).s]
def vfy:=(x55 fu).fi (zcc fu) [(vfu fu).s]
def qli:EI wG ⟨.fn 308,[.ptr 0 0],[(0,.cells [wS] 362)],_,RS.mk (.tup []) [(0,.cells [wS] 362)]⟩:=(fx [(vfy fu).p]).fi (qda fu)
def qlj:EI wG ⟨.fn 305,[.h .byte],[],_,RS.mk (.h .bool) []⟩:=(fx [x7s.p]).fi qdb
def x58:Fx wG ⟨.fn 304,[.ptr 0 0,.fn 305 []],[(0,.cells [wS] 362)],_,RS.mk (wS) [(0,.cells [wS] 362)]⟩:=fx [(qli fu).p,qlj.p] [lb 482 [(0,.ptr 0 0),(1,.fn 305 []),(5,wH)] [(0,.cells [wS] 362)],lb 481 [(0,.ptr 0 0),(1,.fn 305 []),(5,wH),(25,.h .bool)] [(0,.cells [wS] 362)],lb 480 [(0,.ptr 0 0),(1,.fn 305 []),(5,wH)] [(0,.cells [wS] 362)]]
def vf1(r0:(x58 fu).L 2):(x58 fu).L 0:=Fx.jm (zak fu r0.f) [r0.s]
def vf0(r0:(x58 fu).L 2):(x58 fu).L 1:=Fx.jm (qwf fu r0.f) [(vf1 fu r0).s]
def vfz:Nat->(x58 fu).L 2:=Fx.lq (qwe fu) (zaj fu) (fun r0=>[(vf0 fu r0).s])
def vf2:=(x58 fu).fi (qwd fu) [(vfz fu fu).s]
def q76:EI wG ⟨.fn 306,[.ptr 0 0,.h .byte],[(0,.cells [wS] 362)],_,RS.mk (.h .bool) [(0,.cells [wS] 362)]⟩:=(fx [(qli fu).p]).fi (qhg fu)
def vf4:EI wG ⟨.fn 314,[.h .byte],[],_,RS.mk (.h .bool) []⟩:=(fx [qlj.p]).fi zai
def x61:Fx wG ⟨.fn 304,[.ptr 0 0,.fn 314 []],[(0,.cells [wS] 362)],_,RS.mk (wS) [(0,.cells [wS] 362)]⟩:=fx [(qli fu).p,vf4.p] [lb 482 [(0,.ptr 0 0),(1,.fn 314 []),(5,wH)] [(0,.cells [wS] 362)],lb 481 [(0,.ptr 0 0),(1,.fn 314 []),(5,wH),(25,.h .bool)] [(0,.cells [wS] 362)],lb 480 [(0,.ptr 0 0),(1,.fn 314 []),(5,wH)] [(0,.cells [wS] 362)]]
def vf7(r0:(x61 fu).L 2):(x61 fu).L 0:=Fx.jm (zan fu r0.f) [r0.s]
def vf6(r0:(x61 fu).L 2):(x61 fu).L 1:=Fx.jm (qwh fu r0.f) [(vf7 fu r0).s]
def vf5:Nat->(x61 fu).L 2:=Fx.lq (qwg fu) (zam fu) (fun r0=>[(vf6 fu r0).s])
def vf8:=(x61 fu).fi (zal fu) [(vf5 fu fu).s]
def vf9:EI wG ⟨.fn 325,[.h .byte],[],_,RS.mk (.h .bool) []⟩:=(fx [qlj.p]).fi zas
def x63:Fx wG ⟨.fn 304,[.ptr 0 0,.fn 325 []],[(0,.cells [wS] 362)],_,RS.mk (wS) [(0,.cells [wS] 362)]⟩:=fx [(qli fu).p,vf9.p] [lb 482 [(0,.ptr 0 0),(1,.fn 325 []),(5,wH)] [(0,.cells [wS] 362)],lb 481 [(0,.ptr 0 0),(1,.fn 325 []),(5,wH),(25,.h .bool)] [(0,.cells [wS] 362)],lb 480 [(0,.ptr 0 0),(1,.fn 325 []),(5,wH)] [(0,.cells [wS] 362)]]
def vgc(r0:(x63 fu).L 2):(x63 fu).L 0:=Fx.jm (zaq fu r0.f) [r0.s]
def vgb(r0:(x63 fu).L 2):(x63 fu).L 1:=Fx.jm (qwj fu r0.f) [(vgc fu r0).s]
def vga:Nat->(x63 fu).L 2:=Fx.lq (qwi fu) (zap fu) (fun r0=>[(vgb fu r0).s])
def vgd:=(x63 fu).fi (zao fu) [(vga fu fu).s]
def x64:Fx wG ⟨.fn 315,[.ptr 0 0],[(0,.cells [wS] 362)],_,RS.mk (.tup [wS,.h .bool]) [(0,.cells [wS] 362)]⟩:=fx [(q76 fu).p,(vgd fu).p] [lb 976 [(0,.ptr 0 0),(4,.own 32),(5,wH)] [(0,.cells [wS] 362),(32,.row .byte 5)]]
def vge:Nat->(x64 fu).L 0:=Fx.lq (qwk fu) (zat fu) (fun r0=>[r0.s])
def vgf:=(x64 fu).fi (zar fu) [(vge fu fu).s]
def q78:EI wG ⟨.fn 80,[wS,wS],[],_,RS.mk (.h .bool) []⟩:=(fx).fi qaf
def vgg:EI wG ⟨.fn 326,[wS,wS],[],_,RS.mk (.tup [wS,.h .bool]) []⟩:=(fx [q78.p]).fi q9t
def vgh:EI wG ⟨.fn 316,[wS,wS],[],_,RS.mk (.tup [wS,.h .bool]) []⟩:=(fx [vgg.p]).fi zb4
def q4f:LC.glob 3=some ⟨.int .u64,Lib.pow10Tab⟩:=rfl
def q4g:(3,20)∈LC.sizes:=oE
def vgi:EI wG ⟨.fn 307,[.ptr 0 0],[(0,.cells [wS] 362)],_,RS.mk (.tup [.h (.prod .str (.prod wI (.prod .bool .str))),.h .bool]) [(0,.cells [wS] 362)]⟩:=(fx [(vf8 fu).p,(q76 fu).p,(vgf fu).p,zo6.p,vgh.p,⟨zjd.e qgv,zy6 q4f q4g oE oE⟩]).fi (zah fu)
def zpv:EI wG ⟨.fn 319,[.h (.prod .str (.prod wI (.prod .bool .str))),.ptr 0 0],[(0,.dat (.prod .str (.prod wI (.prod .bool .str))) 366)],_,RS.mk (.h .bool) [(0,.dat (.prod .str (.prod wI (.prod .bool .str))) 366)]⟩:=(fx [(nr fu).p]).fi (qv4 fu)
def x70:Fx wG ⟨.fn 328,[.h (.list (.prod .str (.prod wI (.prod .bool .str)))),.fn 319 [.ptr 0 0]],[(0,.dat (.prod .str (.prod wI (.prod .bool .str))) 366)],_,RS.mk (wH) [(0,.dat (.prod .str (.prod wI (.prod .bool .str))) 366)]⟩:=fx [(zpv fu).p] [lb 104 [(0,.h (.list (.prod .str (.prod wI (.prod .bool .str))))),(1,.fn 319 [.ptr 0 0]),(7,wH),(8,wH)] [(0,.dat (.prod .str (.prod wI (.prod .bool .str))) 366)]]
def vgk:Nat->(x70 fu).L 0:=Fx.lq (qxh fu) (zb1 fu) (fun r0=>[r0.s])
def vgl:=(x70 fu).fi (zb0 fu) [(vgk fu fu).s]
def vgm:EI wG ⟨.fn 320,[.h (.list (.prod .str (.prod wI (.prod .bool .str)))),.fn 319 [.ptr 0 0]],[(0,.dat (.prod .str (.prod wI (.prod .bool .str))) 366)],_,RS.mk (.h .bool) [(0,.dat (.prod .str (.prod wI (.prod .bool .str))) 366)]⟩:=(fx [(vgl fu).p]).fi (zbs fu)
def x73:Fx wG ⟨.fn 276,[.h .byte],[],_,RS.mk (.tup [.h .byte,.h .bool]) []⟩:=fx [] [lb 103 [(0,.h .byte),(13,.h .bool)],lb 25 [(0,.h .byte),(4,.h .bool)]]
def vgo:x73.L 0:=Fx.jm qug
def vgn:x73.L 1:=Fx.jm quf [(vgo).s]
def vgp:=x73.fi que [(vgn).s]
def q8b:EI wG ⟨.fn 236,[wS],[],_,RS.mk (.tup [.h .byte,.h .bool]) []⟩:=(fx [vgp.p]).fi t6
def x75:Fx wG ⟨.fn 331,[.h (.prod .str (.prod wI (.prod .bool .str)))],[],_,RS.mk (wS) []⟩:=fx [(nr fu).p,q8b.p] [lb 4048 [(3,wS),(4,.own 32),(5,wH)] [(32,.row .byte 5)],lb 62 [(3,wS)],lb 61 [(3,wS),(26,.h .bool)]]
def vgs:Nat->(x75 fu).L 0:=Fx.lq (qwa fu) (zae fu) (fun r2=>[r2.s])
def vgr:(x75 fu).L 1:=Fx.jm (qv9 fu) [(vgs fu fu).s]
def vgq:(x75 fu).L 2:=Fx.jm (qnf fu) [(vgr fu).s]
def vgt:=(x75 fu).fi (zad fu) [(vgq fu).s]
def x76:Fx wG ⟨.fn 321,[.own 0],[(0,.row (.prod .str (.prod wI (.prod .bool .str))) 366)],_,RS.mk (.tup [.h wP,.h .bool]) [(0,.dead)]⟩:=fx [⟨zlo.e qhl,z2w⟩,(vgt fu).p,⟨zmc.e qhs,z3z ou oc ot ob⟩] [lb 2024 [(2,.ptr 32 0),(4,.ptr 33 0),(28,.own 34),(29,wH),(30,wH)] [(0,.dead),(32,.dat wP 261),(33,.dat wP 261),(34,.row (.prod .str (.prod wI (.prod .bool .str))) 366)]] true
def vgu:Nat->(x76 fu).L 0:=Fx.lq (qv1 fu) (q92 fu) (fun r0=>[r0.s])
def vgv:=(x76 fu).fi (q91 fu) [(vgu fu fu).s]
def x77:Fx wG ⟨.fn 309,[.h (.list (.prod .str (.prod wI (.prod .bool .str))))],[],_,RS.mk (.tup [.own 0,.h .bool]) [(0,.row wP 261)]⟩:=fx [(vgm fu).p,(zpv fu).p,(vgv fu).p] [lb 3827623 [(0,.h (.list (.prod .str (.prod wI (.prod .bool .str))))),(4,.own 34),(6,.ptr 32 0),(7,.fn 319 [.ptr 32 0]),(8,.own 33),(13,.h (.list (.prod .str (.prod wI (.prod .bool .str))))),(14,wH),(15,wH),(26,.h (.list (.prod .str (.prod wI (.prod .bool .str))))),(27,wH),(28,wH)] [(32,.dat (.prod .str (.prod wI (.prod .bool .str))) 366),(33,.row (.prod .str (.prod wI (.prod .bool .str))) 366),(34,.row wP 261)],lb 956904 [(0,.h (.list (.prod .str (.prod wI (.prod .bool .str))))),(4,.own 33),(6,.ptr 32 0),(7,.fn 319 [.ptr 32 0]),(8,.own 34),(13,.h (.list (.prod .str (.prod wI (.prod .bool .str))))),(14,wH),(15,wH),(26,.h (.list (.prod .str (.prod wI (.prod .bool .str))))),(27,wH),(28,wH)] [(32,.dat (.prod .str (.prod wI (.prod .bool .str))) 366),(33,.row wP 261),(34,.row (.prod .str (.prod wI (.prod .bool .str))) 366)],lb 232 [(0,.h (.list (.prod .str (.prod wI (.prod .bool .str))))),(4,.own 32),(13,.h (.list (.prod .str (.prod wI (.prod .bool .str))))),(14,wH),(15,wH)] [(32,.row wP 261)]]
def vgy(r0:(x77 fu).L 2)(r1:(x77 fu).L 1):(x77 fu).L 0:=Fx.jm (qv7 fu r0.f r1.f) [r1.s]
def vgx(r0:(x77 fu).L 2):Nat->(x77 fu).L 1:=Fx.lq (qv6 fu r0.f) (q99 fu r0.f) (fun r1=>[(vgy fu r0 r1).s,r0.s])
def vgw:Nat->(x77 fu).L 2:=Fx.lq (qv5 fu) (q98 fu) (fun r0=>[r0.s,(vgx fu r0 fu).s])
def vgz:=(x77 fu).fi (q97 fu) [(vgw fu fu).s]
def x78:Fx wG ⟨.fn 278,[wS],[],_,.two (RS.mk (.tup [.agg [wS,wS,wN],.h .bool]) []) (RS.mk (.tup [.agg [wS,wS,.own 0],.h .bool]) [(0,.row wP 261)])⟩:=fx [(vf2 fu).p,(q76 fu).p,(vgi fu).p,(qli fu).p,(vgz fu).p] [lb 16352 [(2,.ptr 32 0),(4,.ptr 33 0),(5,.ptr 34 0),(7,.own 35)] [(32,.cells [wS,wS,wN] 257),(33,.cells [wS] 362),(34,.cells [wS,wS,wN] 257),(35,.row (.prod .str (.prod wI (.prod .bool .str))) 366)],lb 510 [(2,.ptr 32 0),(4,.ptr 33 0),(5,.ptr 34 0)] [(32,.cells [wS,wS,wN] 257),(33,.cells [wS] 362),(34,.cells [wS,wS,wN] 257)],lb 509 [(2,.ptr 32 0),(4,.ptr 33 0),(5,.ptr 34 0),(33,.h .bool)] [(32,.cells [wS,wS,wN] 257),(33,.cells [wS] 362),(34,.cells [wS,wS,wN] 257)]]
def vg2:Nat->(x78 fu).L 0:=Fx.lq (qv8 fu) (zab fu) (fun r2=>[r2.s])
def vg1:(x78 fu).L 1:=Fx.jm (zac fu) [(vg2 fu fu).s]
def vg0:(x78 fu).L 2:=Fx.jm (qne fu) [(vg1 fu).s]
def vg3:=(x78 fu).fi (zaa fu) [(vg0 fu).s]
def x79(fu:Nat):Fx wG ⟨.fn 47,[wS,.fn 305 []],[],_,RS.mk (.h .bool) []⟩:=fx [qlj.p] [lb 104 [(0,wS),(1,.fn 305 []),(7,wH),(8,wH)]]
def vg4:Nat->(x79 fu).L 0:=Fx.lq (qt6 fu) (q8u fu) (fun r0=>[r0.s])
def vg5:=(x79 fu).fi (q8t fu) [(vg4 fu fu).s]
def zp1:EI wG ⟨.fn 279,[wS],[],_,RS.mk (.h .bool) []⟩:=(fx [(vg5 fu).p]).fi (qhh fu)
def vg6:EI wG ⟨.fn 281,[.h wP,.ptr 0 0],[(0,.dat wP 261)],_,RS.mk (.h .bool) [(0,.dat wP 261)]⟩:=(fx [(nr fu).p]).fi (q9y fu)
def x82:Fx wG ⟨.fn 242,[.h wL,.fn 281 [.ptr 0 0]],[(0,.dat wP 261)],_,RS.mk (wH) [(0,.dat wP 261)]⟩:=fx [(vg6 fu).p] [lb 104 [(0,.h wL),(1,.fn 281 [.ptr 0 0]),(7,wH),(8,wH)] [(0,.dat wP 261)]]
def vg7:Nat->(x82 fu).L 0:=Fx.lq (qxe fu) (zby fu) (fun r0=>[r0.s])
def vg8:=(x82 fu).fi (zbx fu) [(vg7 fu fu).s]
def vg9:EI wG ⟨.fn 280,[.h wL,.fn 281 [.ptr 0 0]],[(0,.dat wP 261)],_,RS.mk (.h .bool) [(0,.dat wP 261)]⟩:=(fx [(vg8 fu).p]).fi (zbr fu)
def x84:Fx wG ⟨.fn 243,[.h (.prod .str (.prod .str wL))],[],_,RS.mk (.h (.prod wI wI)) []⟩:=fx [(zp1 fu).p,ew.p,eu.p,(vg9 fu).p,⟨qkz.e ic,qr4 ou oc ot ob⟩] [lb 31333 [(1,.ptr 32 0),(2,.ptr 33 0),(3,wH),(4,.ptr 34 0),(22,.h wL),(23,wH),(24,wH),(29,.h .bool)] [(32,.dat (.prod .str (.prod .str wL)) 257),(33,.dat (.prod wI wI) 26),(34,.dat wP 261)],lb 488 [(1,.ptr 32 0),(2,.ptr 33 0),(22,.h wL),(23,wH),(24,wH)] [(32,.dat (.prod .str (.prod .str wL)) 257),(33,.dat (.prod wI wI) 26)],lb 28 [(1,.ptr 32 0),(2,.ptr 33 0)] [(32,.dat (.prod .str (.prod .str wL)) 257),(33,.dat (.prod wI wI) 26)],lb 13 [(1,.ptr 32 0),(2,.ptr 33 0),(14,.h .bool)] [(32,.dat (.prod .str (.prod .str wL)) 257),(33,.dat (.prod wI wI) 26)]]
def vhd(r2:(x84 fu).L 1):(x84 fu).L 0:=Fx.jm (qv0 fu r2.f) [r2.s]
def vhc:Nat->(x84 fu).L 1:=Fx.lq (qvz fu) (q9z fu) (fun r2=>[(vhd fu r2).s])
def vhb:(x84 fu).L 2:=Fx.jm (q90 fu) [(vhc fu fu).s]
def vha:(x84 fu).L 3:=Fx.jm (qvy fu) [(vhb fu).s]
def q8f:=(x84 fu).fi (qhf fu) [(vha fu).s]
end
end
noncomputable section
open Go.Proofs
set_option linter.unusedVariables false
set_option maxRecDepth 100000
set_option maxHeartbeats 2000000
open Tryz
section
variable(fu:Nat)
def vhe:EI wG ⟨.fn 241,[wS],[],_,.two (RS.mk (.tup [.agg [wS,wS,wN],.agg [wH,wH]]) []) (RS.mk (.tup [.agg [wS,wS,.own 0],.agg [wH,wH]]) [(0,.row wP 261)])⟩:=(fx [ew.p,(vg3 fu).p,(q8f fu).p,gl.p,eu.p]).fi (q9w fu)
def x86:Fx wG ⟨.fn 197,[.h wL],[],_,.two (RS.mk (.tup [.agg [wS,wS,wN],wH,.h .bool]) []) (RS.mk (.tup [.agg [wS,wS,.own 0],wH,.h .bool]) [(0,.row wP 261)])⟩:=fx [(nr fu).p,(vhe fu).p,gl.p] [lb 935 [(0,.h wL),(2,.ptr 32 0),(5,wH),(10,.h wL),(11,wH),(12,wH)] [(32,.cells [wS,wS,wN] 257)],lb 232 [(0,.h wL),(2,.ptr 32 0),(5,wH),(10,.h wL),(11,wH),(12,wH)] [(32,.cells [wS,wS,wN] 257)]]
def vhg(r0:(x86 fu).L 1):(x86 fu).L 0:=Fx.jm (qwq fu r0.f) [r0.s]
def vhf:Nat->(x86 fu).L 1:=Fx.lq (qwp fu) (zay fu) (fun r0=>[(vhg fu r0).s])
def q8g:=(x86 fu).fi (qnj fu) [(vhf fu fu).s]
def x87:Fx wG ⟨.fn 237,[.h (.prod .str (.prod .str wL)),wS],[],_,RS.mk (.tup [wS,.h .bool,.h (.prod wI wI)]) []⟩:=fx [(q8f fu).p,gl.p,(nr fu).p,eu.p] [lb 232 [(1,wS),(6,.ptr 32 0),(16,.h wL),(17,wH),(18,wH)] [(32,.dat (.prod wI wI) 26)]]
def vhh:Nat->(x87 fu).L 0:=Fx.lq (qvw fu) (q9v fu) (fun r0=>[r0.s])
def zp4:=(x87 fu).fi (qvv fu) [(vhh fu fu).s]
def vhi:EI wG ⟨.fn 238,[.h .byte],[],_,RS.mk (.h .bool) []⟩:=(fx).fi za3
def x89(fu:Nat):Fx wG ⟨.fn 47,[wS,.fn 238 []],[],_,RS.mk (.h .bool) []⟩:=fx [vhi.p] [lb 104 [(0,wS),(1,.fn 238 []),(7,wH),(8,wH)]]
def vhj:Nat->(x89 fu).L 0:=Fx.lq (qt7 fu) (q8w fu) (fun r0=>[r0.s])
def vhk:=(x89 fu).fi (q8v fu) [(vhj fu fu).s]
def zp6:EI wG ⟨.fn 129,[wS,wS],[],_,RS.mk (.h .bool) []⟩:=(fx [q78.p]).fi qhm
def x91:Fx wG ⟨.fn 195,[.h wL],[],_,RS.mk (.tup [wS,.h .bool]) []⟩:=fx [(q8g fu).p,(nr fu).p,(zp4 fu).p,(vhk fu).p,zp6.p] [lb 30 [(4,.ptr 32 0)] [(32,.cells [wS,wS,.own 33] 257),(33,.row wP 261)],lb 29 [(4,.ptr 32 0),(24,.h .bool)] [(32,.cells [wS,wS,.own 33] 257),(33,.row wP 261)]]
def vhn:(x91 fu).L 0:=Fx.jm (za4 fu)
def vhm:(x91 fu).L 1:=Fx.jm (qhk fu) [(vhn fu).s]
def vho:=(x91 fu).fi (za2 fu) [(vhm fu).s]
def vhp:EI wG ⟨.fn 239,[.h wB],[],_,RS.mk (.fn 277 [.ptr 0 0]) [(0,.cells [.h wB] 23)]⟩:=(fx).fi zbe
def vhq:EI wG ⟨.fn 240,[wS,wS],[],_,RS.mk (wH) []⟩:=(fx [(zpf fu).p]).fi (zbd fu)
def vhr:EI wG ⟨.yld 0,[wH,wS],[(0,.loop .ready none 196 51 [(2,.ptr 1 0),(3,.ptr 2 0),(4,.ptr 3 0),(5,.ptr 4 0),(6,.ptr 5 0)] [12,13] 0 6),(1,.cells [.h wB] 23),(2,.cells [wS] 9),(3,.cells [.own 7] 203),(4,.cells [.own 8] 203),(5,.cells [wH] 3),(6,.dfr),(7,.row wB 23),(8,.row wB 23)],_,.two (RS.mk (.c (.bool true)) [(0,.loop .ready none 196 51 [(2,.ptr 1 0),(3,.ptr 2 0),(4,.ptr 3 0),(5,.ptr 4 0),(6,.ptr 5 0)] [12,13] 0 6),(1,.cells [.h wB] 23),(2,.cells [wS] 9),(3,.cells [.own 9] 203),(4,.cells [.own 10] 203),(5,.cells [wH] 3),(6,.dfr),(7,.dead),(8,.dead),(9,.row wB 23),(10,.row wB 23)]) (RS.mk (.c (.bool false)) [(0,.loop .done (some .ret) 196 51 [(2,.ptr 1 0),(3,.ptr 2 0),(4,.ptr 3 0),(5,.ptr 4 0),(6,.ptr 5 0)] [12,13] 0 6),(1,.cells [.h wB] 23),(2,.cells [wS] 9),(3,.cells [.own 9] 203),(4,.cells [.own 9] 203),(5,.cells [wH] 3),(6,.dfr),(7,.dead),(8,.dead),(9,.row wB 23)])⟩:=(fy 196 [(vhq fu).p] [] false [([0,1,0,1,1,1],0)] (f7 rfl fh)).fo (qws fu) [] 0 [0,1,0,1,1,1]
def x95:Fx wG ⟨.fn 277,[.yld 0,.ptr 1 0],[(0,.loop .ready none 196 51 [(2,.ptr 2 0),(3,.ptr 3 0),(4,.ptr 4 0),(5,.ptr 5 0),(6,.ptr 6 0)] [12,13] 0 7),(1,.cells [.h wB] 23),(2,.cells [.h wB] 23),(3,.cells [wS] 9),(4,.cells [.own 8] 203),(5,.cells [.own 9] 203),(6,.cells [wH] 3),(7,.dfr),(8,.row wB 23),(9,.row wB 23)],_,.two (RS.mk (.tup []) [(0,.loop .done (some .ret) 196 51 [(2,.ptr 2 0),(3,.ptr 3 0),(4,.ptr 4 0),(5,.ptr 5 0),(6,.ptr 6 0)] [12,13] 0 7),(1,.cells [.h wB] 23),(2,.cells [.h wB] 23),(3,.cells [wS] 9),(4,.cells [.own 10] 203),(5,.cells [.own 10] 203),(6,.cells [wH] 3),(7,.dfr),(8,.dead),(9,.dead),(10,.row wB 23)]) (RS.mk (.tup []) [(0,.loop .ready none 196 51 [(2,.ptr 2 0),(3,.ptr 3 0),(4,.ptr 4 0),(5,.ptr 5 0),(6,.ptr 6 0)] [12,13] 0 7),(1,.cells [.h wB] 23),(2,.cells [.h wB] 23),(3,.cells [wS] 9),(4,.cells [.own 10] 203),(5,.cells [.own 11] 203),(6,.cells [wH] 3),(7,.dfr),(8,.dead),(9,.dead),(10,.row wB 23),(11,.row wB 23)])⟩:=fx [⟨q0z.e qab,zer oE⟩,(vhr fu).p] [lb 48 [(0,.yld 0),(1,.ptr 1 0),(3,wH)] [(0,.loop .ready none 196 51 [(2,.ptr 2 0),(3,.ptr 3 0),(4,.ptr 4 0),(5,.ptr 5 0),(6,.ptr 6 0)] [12,13] 0 7),(1,.cells [.h wB] 23),(2,.cells [.h wB] 23),(3,.cells [wS] 9),(4,.cells [.own 32] 203),(5,.cells [.own 33] 203),(6,.cells [wH] 3),(7,.dfr),(8,.dead),(9,.dead),(32,.row wB 23),(33,.row wB 23)]]
def vhs:Nat->(x95 fu).L 0:=Fx.lq (qw2 fu) (zbg fu) (fun r0=>[r0.s])
def vht:=(x95 fu).fi (zbf fu) [(vhs fu fu).s]
def vhu:EI wG ⟨.fn 196,[.h wB,wS],[],_,RS.mk (.own 0) [(0,.row wB 23)]⟩:=(fx [vhp.p,(vht fu).p] [] false [([0,1,0,1,1,1],0)] (f7 rfl fh)).fi (za6 fu)
def q8k:EI wG ⟨.fn 159,[.h wL,.h wB,wH],[],_,RS.mk (.own 0) [(0,.row wB 23)]⟩:=(fx [(vho fu).p,(vhu fu).p]).fi (qnm fu)
def q8l:EI wG ⟨.fn 199,[.h wP],[],_,RS.mk (.h .bool) []⟩:=(fx [(nr fu).p]).fi (qnk fu)
def x99:Fx wG ⟨.fn 242,[.h wL,.fn 199 []],[],_,RS.mk (wH) []⟩:=fx [(q8l fu).p] [lb 104 [(0,.h wL),(1,.fn 199 []),(7,wH),(8,wH)]]
def vhv:Nat->(x99 fu).L 0:=Fx.lq (qxg fu) (zbz fu) (fun r0=>[r0.s])
def zp9:=(x99 fu).fi (qxf fu) [(vhv fu fu).s]
def zm4:Fx wG ⟨.fn 198,[.h wL,.fn 199 []],[],_,RS.mk (.h wL) []⟩:=fx [(zp9 fu).p,(q8l fu).p] [lb 976 [(0,.h wL),(1,.fn 199 []),(5,wH),(6,wH)]] true
def z42:Nat->(zm4 fu).L 0:=Fx.lq (qxc fu) (zbu fu) (fun r0=>[r0.s])
def z43:=(zm4 fu).fi (zbt fu) [(z42 fu fu).s]
def z44:EI wG ⟨.fn 282,[.h .byte],[],_,RS.mk (.h .bool) []⟩:=(fx).fi q94
def zm5(fu:Nat):Fx wG ⟨.fn 47,[wS,.fn 282 []],[],_,RS.mk (.h .bool) []⟩:=fx [z44.p] [lb 104 [(0,wS),(1,.fn 282 []),(7,wH),(8,wH)]]
def z47:Nat->(zm5 fu).L 0:=Fx.lq (qt8 fu) (q8y fu) (fun r0=>[r0.s])
def z48:=(zm5 fu).fi (q8x fu) [(z47 fu fu).s]
def zm6:EI wG ⟨.fn 178,[.h .byte],[],_,RS.mk (.h .byte) []⟩:=(fx).fi tw
def qsc(fu:Nat):Fx wG ⟨.fn 283,[wS],[],_,RS.mk (.own 0) [(0,.row .str 9)]⟩:=fx [qlj.p,zm6.p] [lb 29902 [(0,wS),(3,.own 32),(5,wS),(9,wH),(10,wH)] [(32,.row .str 9)],lb 232 [(0,wS),(3,.own 32),(9,wH),(10,wH)] [(32,.row .str 9)]]
def z5a(r0:(qsc fu).L 1):(qsc fu).L 0:=Fx.jm (qwc fu r0.f) [r0.s]
def z49:Nat->(qsc fu).L 1:=Fx.lq (qwb fu) (zag fu) (fun r0=>[(z5a fu r0).s])
def z5b:=(qsc fu).fi (zaf fu) [(z49 fu fu).s]
def qsd:Fx wG ⟨.fn 244,[.h wP],[],_,RS.mk (wS) []⟩:=fx [(zp1 fu).p,(z48 fu).p,q7x.p,⟨q4m.e t8,zkh⟩,(z5b fu).p,⟨q20.e ua,zhx q4f q4g⟩] [lb 1000 [(1,.ptr 32 0),(3,wS),(38,.own 33),(39,wH),(40,wH)] [(32,.dat wP 261),(33,.row .str 9)],lb 30 [(1,.ptr 32 0)] [(32,.dat wP 261)],lb 29 [(1,.ptr 32 0),(24,.h .bool)] [(32,.dat wP 261)]]
def z5e:Nat->(qsd fu).L 0:=Fx.lq (qv3 fu) (q95 fu) (fun r2=>[r2.s])
def z5d:(qsd fu).L 1:=Fx.jm (q96 fu) [(z5e fu fu).s]
def z5c:(qsd fu).L 2:=Fx.jm (qv2 fu) [(z5d fu).s]
def z5f:=(qsd fu).fi (q93 fu) [(z5c fu).s]
def zm7:Fx wG ⟨.fn 200,[.h (.prod .str (.prod .str wL))],[],_,RS.mk (.tup [wS,.h (.prod wI wI)]) []⟩:=fx [(q8f fu).p,gl.p,(z5f fu).p,ew.p,eu.p] [lb 488 [(3,.ptr 32 0),(5,wS),(20,.h wL),(21,wH),(22,wH)] [(32,.dat (.prod wI wI) 26)]]
def z5g:Nat->(zm7 fu).L 0:=Fx.lq (qvx fu) (q9x fu) (fun r0=>[r0.s])
def zm8:=(zm7 fu).fi (qnd fu) [(z5g fu fu).s]
def zm9:Fx wG ⟨.fn 198,[.own 0,.fn 199 []],[(0,.row wP 261)],_,RS.mk (.own 1) [(0,.dead),(1,.row wP 261)]⟩:=fx [(zp9 fu).p,(q8l fu).p] [lb 976 [(0,.own 32),(1,.fn 199 []),(5,wH),(6,wH)] [(0,.dead),(32,.row wP 261)]] true
def z5h:Nat->(zm9 fu).L 0:=Fx.lq (qxd fu) (zbw fu) (fun r0=>[r0.s])
def z5i:=(zm9 fu).fi (zbv fu) [(z5h fu fu).s]
def zna:EI wG ⟨.fn 160,[.h wL],[],_,RS.mk (.tup [.own 0,.h .bool]) [(0,.row wP 30)]⟩:=(fx [(q8g fu).p,(z43 fu).p,(zm8 fu).p,gl.p,⟨qpl.e mu,q1c⟩,(z5i fu).p]).fi (qwr fu)
def y7:IF:=⟨.fn 161,[.ptr 0 0,.h wB,wH],[(0,.dat (.prod wI (.prod wI wI)) 165)],_,RS.mk (.tup [.h wT,.h .bool]) [(0,.dat (.prod wI (.prod wI wI)) 165)]⟩
def znb(s116:EI wG y7)(fu:Nat):Fx wG ⟨.fn 113,[.ptr 0 0,.own 1,.h wB,wH],[(0,.dat (.prod wI (.prod wI wI)) 165),(1,.row wP 30)],_,RS.mk (.tup [.h wT,.h .bool]) [(0,.dat (.prod wI (.prod wI wI)) 165),(1,.dead)]⟩:=fx [⟨qpl.e mu,q1c⟩,⟨q1d.e mu,zfh⟩,(q8k fu).p,(zna fu).p,s116.p] [lb 16360 [(0,.ptr 0 0),(3,wH),(8,.ptr 32 0),(10,.ptr 33 0),(48,.own 34),(49,wH),(50,wH)] [(0,.dat (.prod wI (.prod wI wI)) 165),(1,.dead),(32,.cells [wN,wN,wN] 115),(33,.cells [.own 35,wN,.own 36] 115),(34,.row wB 23),(35,.row wP 30),(36,.row wT 115)]]
def z5j(s116:EI wG y7)(fu:Nat):Nat->(znb s116 fu).L 0:=Fx.lq (qw4 s116.f fu) (zbk s116.f fu) (fun r0=>[r0.s])
def z5k(s116:EI wG y7)(fu:Nat):=(znb s116 fu).fi (zbj s116.f fu) [(z5j s116 fu fu).s]
def z5l(s116:EI wG y7)(fu:Nat):Fx wG y7:=fx [(zpp fu).p,gl.p,ew.p,(z5k s116 fu).p]
def z5m(s116:EI wG y7)(fu:Nat):EI wG y7:=(z5l s116 fu).fi (qw5 s116.f fu)
def z5n:EI wG y7 := .rc (qw6 fu) (fun r=>qw5 r fu) (fun _ _=>rfl) (fun _=>rfl) (fun s116=>z5m s116 fu) (fun _=>rfl) fu
def znc:Fx wG ⟨.fn 113,[.ptr 0 0,.h wL,.h wB,wH],[(0,.dat (.prod wI (.prod wI wI)) 165)],_,RS.mk (.tup [.h wT,.h .bool]) [(0,.dat (.prod wI (.prod wI wI)) 165)]⟩:=fx [⟨qpl.e mu,q1c⟩,⟨q1d.e mu,zfh⟩,(q8k fu).p,(zna fu).p,(z5n fu).p] [lb 16360 [(0,.ptr 0 0),(3,wH),(8,.ptr 32 0),(10,.ptr 33 0),(48,.own 34),(49,wH),(50,wH)] [(0,.dat (.prod wI (.prod wI wI)) 165),(32,.cells [wN,wN,wN] 115),(33,.cells [.own 35,wN,.own 36] 115),(34,.row wB 23),(35,.row wP 30),(36,.row wT 115)]]
def z5o:Nat->(znc fu).L 0:=Fx.lq (qw3 fu) (zbi fu) (fun r0=>[r0.s])
def z5p:=(znc fu).fi (zbh fu) [(z5o fu fu).s]
def znd:EI wG ⟨.fn 116,[.h wT],[],_,RS.mk (.fn 163 [.ptr 0 0]) [(0,.dat wT 115)]⟩:=(fx).fi qnl
def z5q:EI wG ⟨.yld 0,[wH,.agg [.h wL,.h wB,.h (.list wT),wH]],[(0,.loop .ready none 114 36 [(2,.ptr 1 0),(3,.ptr 2 0)] [11,12] 1 3),(1,.dat (.prod wI wI) 26),(2,.cells [.h .bool] 4),(3,.dfr)],_,.two (RS.mk (.c (.bool false)) [(0,.loop .done (some .ret) 114 36 [(2,.ptr 1 0),(3,.ptr 2 0)] [11,12] 1 3),(1,.dat (.prod wI wI) 26),(2,.cells [.h .bool] 4),(3,.dfr)]) (RS.mk (.c (.bool true)) [(0,.loop .ready none 114 36 [(2,.ptr 1 0),(3,.ptr 2 0)] [11,12] 1 3),(1,.dat (.prod wI wI) 26),(2,.cells [.h .bool] 4),(3,.dfr)])⟩:=(fy 114 [ew.p] [] false [([0,1,0,1,1],1)] (f7 rfl fh)).fo za0 [] 0 [0,1,0,1,1]
def qe6:IF:=⟨.fn 164,[.h wT,wH,.ptr 0 0,.ptr 1 0,.ptr 2 0],[(0,.cells [.yld 3] 209),(1,.cells [wH] 3),(2,.cells [.fn 164 [.ptr 0 0,.ptr 1 0,.ptr 2 0]] 210),(3,.loop .ready none 114 36 [(2,.ptr 4 0),(3,.ptr 5 0)] [11,12] 1 6),(4,.dat (.prod wI wI) 26),(5,.cells [.h .bool] 4),(6,.dfr)],_,.two (RS.mk (.c (.bool false)) [(0,.cells [.yld 3] 209),(1,.cells [wH] 3),(2,.cells [.fn 164 [.ptr 0 0,.ptr 1 0,.ptr 2 0]] 210),(3,.loop .done (some .ret) 114 36 [(2,.ptr 4 0),(3,.ptr 5 0)] [11,12] 1 6),(4,.dat (.prod wI wI) 26),(5,.cells [.h .bool] 4),(6,.dfr)]) (RS.mk (.c (.bool true)) [(0,.cells [.yld 3] 209),(1,.cells [wH] 3),(2,.cells [.fn 164 [.ptr 0 0,.ptr 1 0,.ptr 2 0]] 210),(3,.loop .ready none 114 36 [(2,.ptr 4 0),(3,.ptr 5 0)] [11,12] 1 6),(4,.dat (.prod wI wI) 26),(5,.cells [.h .bool] 4),(6,.dfr)])⟩
def zne(s121:EI wG qe6)(fu:Nat):Fx wG qe6:=fx [z5q.p,s121.p] [lb 488 [(1,wH),(4,.ptr 2 0),(20,.h (.list wT)),(21,wH),(22,wH)] [(0,.cells [.yld 3] 209),(1,.cells [wH] 3),(2,.cells [.fn 164 [.ptr 0 0,.ptr 1 0,.ptr 2 0]] 210),(3,.loop .ready none 114 36 [(2,.ptr 4 0),(3,.ptr 5 0)] [11,12] 1 6),(4,.dat (.prod wI wI) 26),(5,.cells [.h .bool] 4),(6,.dfr)]]
def z5s(s121:EI wG qe6)(fu:Nat):Nat->(zne s121 fu).L 0:=Fx.lq (qwv s121.f fu) (za8 s121.f fu) (fun r0=>[r0.s])
def z5r(s121:EI wG qe6)(fu:Nat):EI wG qe6:=(zne s121 fu).fi (qwt s121.f fu) [(z5s s121 fu fu).s]
def z5t:EI wG qe6 := .rc (qwu fu) (fun r=>qwt r fu) (fun _ _=>rfl) (fun _=>rfl) (fun s121=>z5r s121 fu) (fun _=>rfl) fu
def z5u:EI wG ⟨.fn 163,[.yld 0,.ptr 1 0],[(0,.loop .ready none 114 36 [(2,.ptr 2 0),(3,.ptr 3 0)] [11,12] 1 4),(1,.dat wT 115),(2,.dat (.prod wI wI) 26),(3,.cells [.h .bool] 4),(4,.dfr)],_,.two (RS.mk (.tup []) [(0,.loop .done (some .ret) 114 36 [(2,.ptr 2 0),(3,.ptr 3 0)] [11,12] 1 4),(1,.dat wT 115),(2,.dat (.prod wI wI) 26),(3,.cells [.h .bool] 4),(4,.dfr)]) (RS.mk (.tup []) [(0,.loop .ready none 114 36 [(2,.ptr 2 0),(3,.ptr 3 0)] [11,12] 1 4),(1,.dat wT 115),(2,.dat (.prod wI wI) 26),(3,.cells [.h .bool] 4),(4,.dfr)])⟩:=(fx [(z5t fu).p]).fi (za7 fu)
def q58:Fx wG ⟨.fn 201,[.h wT],[],_,RS.mk (wH) []⟩:=fx [(q8g fu).p,(nr fu).p,(zp4 fu).p,(zm8 fu).p,gl.p] [lb 30 [(1,.ptr 32 0),(3,.ptr 33 0),(4,wH)] [(32,.dat wT 115),(33,.cells [wS,wS,.own 34] 257),(34,.row wP 261)],lb 29 [(1,.ptr 32 0),(3,.ptr 33 0),(4,wH),(31,.h .bool)] [(32,.dat wT 115),(33,.cells [wS,wS,.own 34] 257),(34,.row wP 261)]]
def z5w:(q58 fu).L 0:=Fx.jm (zbm fu)
def z5v:(q58 fu).L 1:=Fx.jm (qai fu) [(z5w fu).s]
def z5x:=(q58 fu).fi (zbl fu) [(z5v fu).s]
def z5y:EI wG ⟨.fn 162,[.h (.prod wT wI)],[],_,RS.mk (wH) []⟩:=(fx [(q6x fu).p,gl.p,(z5x fu).p,(zoj fu).p,(q8k fu).p]).fi (za5 fu)
def z5z:EI wG ⟨.yld 0,[wH,.agg [.h wL,.h wB,.h (.list wT),wH]],[(0,.loop .ready none 114 36 [(2,.ptr 1 0)] [26,27] 2 2),(1,.dat (.prod wI wI) 26),(2,.dfr)],_,.two (RS.mk (.c (.bool false)) [(0,.loop .done (some .ret) 114 36 [(2,.ptr 1 0)] [26,27] 2 2),(1,.dat (.prod wI wI) 26),(2,.dfr)]) (RS.mk (.c (.bool true)) [(0,.loop .ready none 114 36 [(2,.ptr 1 0)] [26,27] 2 2),(1,.dat (.prod wI wI) 26),(2,.dfr)])⟩:=(fy 114 [(z5y fu).p,ew.p] [] false [([0,1,0,1,1,1,1],2)] (f7 rfl fh)).fo (za1 fu) [] 0 [0,1,0,1,1,1,1]
def qe7:IF:=⟨.fn 164,[.h wT,wH,.ptr 0 0,.ptr 1 0,.ptr 2 0],[(0,.cells [.yld 3] 209),(1,.cells [wH] 3),(2,.cells [.fn 164 [.ptr 0 0,.ptr 1 0,.ptr 2 0]] 210),(3,.loop .ready none 114 36 [(2,.ptr 4 0)] [26,27] 2 5),(4,.dat (.prod wI wI) 26),(5,.dfr)],_,.two (RS.mk (.c (.bool false)) [(0,.cells [.yld 3] 209),(1,.cells [wH] 3),(2,.cells [.fn 164 [.ptr 0 0,.ptr 1 0,.ptr 2 0]] 210),(3,.loop .done (some .ret) 114 36 [(2,.ptr 4 0)] [26,27] 2 5),(4,.dat (.prod wI wI) 26),(5,.dfr)]) (RS.mk (.c (.bool true)) [(0,.cells [.yld 3] 209),(1,.cells [wH] 3),(2,.cells [.fn 164 [.ptr 0 0,.ptr 1 0,.ptr 2 0]] 210),(3,.loop .ready none 114 36 [(2,.ptr 4 0)] [26,27] 2 5),(4,.dat (.prod wI wI) 26),(5,.dfr)])⟩
def znf(s124:EI wG qe7)(fu:Nat):Fx wG qe7:=fx [(z5z fu).p,s124.p] [lb 488 [(1,wH),(4,.ptr 2 0),(20,.h (.list wT)),(21,wH),(22,wH)] [(0,.cells [.yld 3] 209),(1,.cells [wH] 3),(2,.cells [.fn 164 [.ptr 0 0,.ptr 1 0,.ptr 2 0]] 210),(3,.loop .ready none 114 36 [(2,.ptr 4 0)] [26,27] 2 5),(4,.dat (.prod wI wI) 26),(5,.dfr)]]
def z54(s124:EI wG qe7)(fu:Nat):Nat->(znf s124 fu).L 0:=Fx.lq (qwy s124.f fu) (za9 s124.f fu) (fun r0=>[r0.s])
def z52(s124:EI wG qe7)(fu:Nat):EI wG qe7:=(znf s124 fu).fi (qww s124.f fu) [(z54 s124 fu fu).s]
def z56:EI wG qe7 := .rc (qwx fu) (fun r=>qww r fu) (fun _ _=>rfl) (fun _=>rfl) (fun s124=>z52 s124 fu) (fun _=>rfl) fu
def z6c:EI wG ⟨.fn 163,[.yld 0,.ptr 1 0],[(0,.loop .ready none 114 36 [(2,.ptr 2 0)] [26,27] 2 3),(1,.dat wT 115),(2,.dat (.prod wI wI) 26),(3,.dfr)],_,.two (RS.mk (.tup []) [(0,.loop .done (some .ret) 114 36 [(2,.ptr 2 0)] [26,27] 2 3),(1,.dat wT 115),(2,.dat (.prod wI wI) 26),(3,.dfr)]) (RS.mk (.tup []) [(0,.loop .ready none 114 36 [(2,.ptr 2 0)] [26,27] 2 3),(1,.dat wT 115),(2,.dat (.prod wI wI) 26),(3,.dfr)])⟩:=(fx [(z56 fu).p]).fi (zbb fu)
def z6d:EI wG ⟨.fn 114,[.h wT],[],_,RS.mk (.h (.prod wI wI)) []⟩:=(fx [znd.p,(z5u fu).p,ew.p,(z6c fu).p,eu.p] [] false [([0,1,0,1,1],1),([0,1,0,1,1,1,1],2)] (f7 rfl (f7 rfl fh))).fi (zaz fu)
def z6e:EI wG ⟨.fn 69,[.h (.prod wL wB)],[],_,RS.mk (.tup [.h wT,.h (.prod wI wI)]) []⟩:=(fx [(q7f fu).p,gl.p,(z5p fu).p,(z6d fu).p,ew.p,eu.p]).fi (zax fu)
def z6f:EI wG ⟨.fn 70,[.h wT],[],_,RS.mk (.fn 115 [.ptr 0 0]) [(0,.dat wT 115)]⟩:=(fx).fi zau
def z6g:EI wG ⟨.fn 248,[wS,.h .byte],[],_,RS.mk (.agg [wS,.fn 285 [.ptr 0 0],.fn 287 []]) [(0,.cells [.h .byte] 5)]⟩:=(fx).fi qyr
def z6h:EI wG ⟨.fn 207,[wS],[],_,.two (RS.mk (.tup [.agg [wS,.fn 285 [.ptr 0 0],.fn 287 []],.h .bool]) [(0,.cells [.h .byte] 5)]) (.two (RS.mk (.tup [.agg [wS,.fn 175 [],.fn 235 []],.h .bool]) []) (.two (RS.mk (.tup [.agg [wS,.fn 249 [],.fn 250 []],.h .bool]) []) (RS.mk (.tup [.agg [wS,.c .nilFunc,.c .nilFunc],.h .bool]) [])))⟩:=(fx [z6g.p,(nr fu).p]).fi (zct fu)
def z6i:EI wG ⟨.fn 168,[.h wB,wS],[],_,.two (RS.mk (.tup [.agg [wS,.fn 285 [.ptr 0 0],.fn 287 []],.h (.prod wI wI)]) [(0,.cells [.h .byte] 5)]) (.two (RS.mk (.tup [.agg [wS,.fn 175 [],.fn 235 []],.h (.prod wI wI)]) []) (.two (RS.mk (.tup [.agg [wS,.fn 249 [],.fn 250 []],.h (.prod wI wI)]) []) (RS.mk (.tup [.agg [wS,.c .nilFunc,.c .nilFunc],.h (.prod wI wI)]) [])))⟩:=(fx [(z6h fu).p,ew.p,eu.p]).fi (zcu fu)
def z6j:EI wG ⟨.fn 287,[.h wB],[],_,RS.mk (.tup [.own 0,.h (.prod wI wI)]) [(0,.row .byte 5)]⟩:=(fx [eu.p]).fi zcs
def zng(fu:Nat):Fx wG ⟨.fn 235,[.h wB],[],_,RS.mk (.tup [.own 0,.h (.prod wI wI)]) [(0,.row .byte 5)]⟩:=fx [ew.p,eu.p,q7s.p] [lb 1000 [(3,.ptr 32 0),(4,.own 33),(5,wH),(6,wH),(14,.h wB),(15,wH),(16,wH)] [(32,.dat (.prod wI wI) 26),(33,.row .byte 5)]]
def z6k:Nat->(zng fu).L 0:=Fx.lq (z8 fu) (qmj fu) (fun r0=>[r0.s])
def znh:=(zng fu).fi (qgs fu) [(z6k fu fu).s]
def zni(fu:Nat):Fx wG ⟨.fn 310,[.h wB,.h .byte],[],_,RS.mk (.h wB) []⟩:=fx [] [lb 96 [(0,.h wB),(1,.h .byte)]]
def z6l:Nat->(zni fu).L 0:=Fx.lq (qut fu) (q9f fu) (fun r0=>[r0.s])
def z6m:=(zni fu).fi (q9e fu) [(z6l fu fu).s]
def znj(fu:Nat):Fx wG ⟨.fn 311,[wS],[],_,RS.mk (.tup [.arr .bool,.h .bool]) []⟩:=fx [] [lb 208 [(0,wS),(2,.el 32 1),(4,wH)] [(32,.row .bool 372)]]
def z6o:Nat->(znj fu).L 0:=Fx.lq (qup fu) (q87 fu) (fun r0=>[r0.s])
def z6p:=(znj fu).fi (q86 fu) [(z6o fu fu).s]
def z6q:EI wG ⟨.fn 322,[.el 0 1,.h .byte],[(0,.row .bool 372)],_,RS.mk (.h .bool) [(0,.row .bool 372)]⟩:=(fx).fi q84
def znk(fu:Nat):Fx wG ⟨.fn 312,[.h wB,.el 0 1],[(0,.row .bool 372)],_,RS.mk (.h wB) [(0,.row .bool 372)]⟩:=fx [z6q.p] [lb 96 [(0,.h wB),(1,.el 0 1)] [(0,.row .bool 372)]]
def z6r:Nat->(znk fu).L 0:=Fx.lq (qus fu) (q9d fu) (fun r0=>[r0.s])
def z6s:=(znk fu).fi (q9c fu) [(z6r fu fu).s]
def qb4:Fx wG ⟨.fn 245,[.h wB],[],_,RS.mk (.tup [.h (.int .i32),wH]) []⟩:=fx [] [lb 524286 [(5,.h .byte),(10,.h .byte),(11,.h .byte),(12,.h .byte)],lb 524285 [(5,.h .byte),(10,.h .byte),(11,.h .byte),(12,.h .byte),(103,.h .bool)],lb 131068 [(0,.h wB),(5,.h .byte),(8,wH),(10,.h .byte),(11,.h .byte)],lb 65533 [(0,.h wB),(5,.h .byte),(8,wH),(10,.h .byte),(11,.h .byte),(79,.h .bool)],lb 16380 [(0,.h wB),(5,.h .byte),(8,wH),(10,.h .byte)],lb 8189 [(0,.h wB),(5,.h .byte),(8,wH),(10,.h .byte),(60,.h .bool)]]
def z6y:qb4.L 0:=Fx.jm zc3
def z6x:qb4.L 1:=Fx.jm qy7 [(z6y).s]
def z6w:qb4.L 2:=Fx.jm zc2 [(z6x).s]
def z6v:qb4.L 3:=Fx.jm qy6 [(z6w).s]
def z6u:qb4.L 4:=Fx.jm zc1 [(z6v).s]
def z6t:qb4.L 5:=Fx.jm qy5 [(z6u).s]
def z6z:=qb4.fi qy4 [(z6t).s]
def znl(fu:Nat):Fx wG ⟨.fn 203,[.h wB],[],_,RS.mk (.tup [.h (.int .i32),wH]) []⟩:=fx [z6z.p] [lb 104 [(0,.h wB),(6,.h wB),(7,wH),(8,.c (.int .i64 0))]]
def z60:Nat->(znl fu).L 0:=Fx.lq (qyz fu) (zcz fu) (fun r0=>[])
def znm:=(znl fu).fi (qyy fu) [(z60 fu fu).s]
def qsh:Fx wG ⟨.fn 323,[.h wB],[],_,RS.mk (.tup [.h (.int .i32),wH]) []⟩:=fx [zpb.p,(znm fu).p] [lb 2046 [(0,.h wB),(4,wH),(5,wH)],lb 2044 [(0,.h wB),(4,wH),(5,wH)],lb 16336 [(0,.h wB),(4,wH),(5,wH),(6,wH)]]
def z63:(qsh fu).L 0:=Fx.jm (qyx fu)
def z62:(qsh fu).L 1:=Fx.jm (qyw fu) [(z63 fu).s]
def z61:Nat->(qsh fu).L 2:=Fx.lq (qyv fu) (zcy fu) (fun r0=>[(z62 fu).s,r0.s])
def z64:=(qsh fu).fi (zcv fu) [(z61 fu fu).s]
def znn(fu:Nat):Fx wG ⟨.fn 324,[wS,.h (.int .i32)],[],_,RS.mk (.h .bool) []⟩:=fx [] [lb 104 [(1,.h (.int .i32)),(8,.ptr 32 0)] [(32,.it)]]
def z65:Nat->(znn fu).L 0:=Fx.lq (qun fu) (q85 fu) (fun r0=>[r0.s])
def z67:=(znn fu).fi (qum fu) [(z65 fu fu).s]
def zno:Fx wG ⟨.fn 313,[.h wB,wS],[],_,RS.mk (.h wB) []⟩:=fx [(z64 fu).p,(z67 fu).p] [lb 96 [(0,.h wB),(1,wS)]]
def z68:Nat->(zno fu).L 0:=Fx.lq (quu fu) (q9h fu) (fun r0=>[r0.s])
def z69:=(zno fu).fi (q9g fu) [(z68 fu fu).s]
def qk5:Fx wG ⟨.fn 290,[.h wB,wS],[],_,RS.mk (.h wB) []⟩:=fx [(z6m fu).p,(z6p fu).p,(z6s fu).p,(z69 fu).p] [lb 60 [(0,.h wB),(1,wS)],lb 29 [(0,.h wB),(1,wS),(22,.h .bool)],lb 28 [(0,.h wB),(1,wS)],lb 13 [(0,.h wB),(1,wS),(13,.h .bool)]]
def z7d:(qk5 fu).L 0:=Fx.jm (q83 fu)
def z7c:(qk5 fu).L 1:=Fx.jm (qul fu) [(z7d fu).s]
def z7b:(qk5 fu).L 2:=Fx.jm (q82 fu) [(z7c fu).s]
def z7a:(qk5 fu).L 3:=Fx.jm (quk fu) [(z7b fu).s]
def z7e:=(qk5 fu).fi (q81 fu) [(z7a fu).s]
def znp(fu:Nat):Fx wG ⟨.fn 291,[.h wB],[],_,RS.mk (.own 0) [(0,.row .byte 5)]⟩:=fx [q8b.p] [lb 464 [(0,.h wB),(3,.own 32),(4,wH)] [(32,.row .byte 5)]]
def z7f:Nat->(znp fu).L 0:=Fx.lq (qxb fu) (zbq fu) (fun r0=>[r0.s])
def z7g:=(znp fu).fi (zbp fu) [(z7f fu fu).s]
def y8:Fx wG ⟨.fn 250,[.h wB],[],_,RS.mk (.tup [.own 0,.h (.prod wI wI)]) [(0,.row .byte 5)]⟩:=fx [ew.p,q7s.p,eu.p,zo5.p,(z7e fu).p,zo4.p,(z7g fu).p] [lb 123646 [(0,.h wB),(3,.ptr 32 0),(4,.own 33),(5,wH),(6,.h wB),(7,.h wB)] [(32,.dat (.prod wI wI) 26),(33,.row .byte 5)],lb 15454 [(0,.h wB),(3,.ptr 32 0),(4,.own 33),(5,wH),(6,.h wB)] [(32,.dat (.prod wI wI) 26),(33,.row .byte 5)],lb 3862 [(0,.h wB),(3,.ptr 32 0),(4,.own 33),(5,wH)] [(32,.dat (.prod wI wI) 26),(33,.row .byte 5)],lb 480 [(0,.h wB),(3,.ptr 32 0),(4,.own 33)] [(32,.dat (.prod wI wI) 26),(33,.row .byte 5)]]
def z7l(r0:(y8 fu).L 3):(y8 fu).L 0:=Fx.jm (qxa fu r0.f) [r0.s]
def z7k(r0:(y8 fu).L 3):(y8 fu).L 1:=Fx.jm (qw9 fu r0.f) [(z7l fu r0).s]
def z7j(r0:(y8 fu).L 3):(y8 fu).L 2:=Fx.jm (qw8 fu r0.f) [(z7k fu r0).s]
def z7i:Nat->(y8 fu).L 3:=Fx.lq (qw7 fu) (zbo fu) (fun r0=>[(z7j fu r0).s])
def z7m:=(y8 fu).fi (zbn fu) [(z7i fu fu).s]
def z7n:EI wG ⟨.fn 120,[.h wB,wS],[],_,RS.mk (.tup [.own 0,.h (.prod wI wI)]) [(0,.row .byte 5)]⟩:=(fx [(z6i fu).p,gl.p,z6j.p,(znh fu).p,(z7m fu).p]).fi (qyq fu)
def znq:Fx wG ⟨.fn 73,[.h wT],[],_,RS.mk (.own 0) [(0,.row .byte 5)]⟩:=fx [(nr fu).p,(z7n fu).p] [lb 104 [(1,.ptr 32 0),(10,.h wL),(11,wH),(12,wH)] [(32,.dat wT 115)]]
def z7o:Nat->(znq fu).L 0:=Fx.lq (qy8 fu) (zc5 fu) (fun r0=>[r0.s])
def z7p:=(znq fu).fi (zc4 fu) [(z7o fu fu).s]
def z7q:EI wG ⟨.fn 165,[.h wB,.h wB,wH],[],_,RS.mk (.fn 202 [.ptr 0 0,.ptr 1 0,.ptr 2 0]) [(0,.cells [.h wB] 23),(1,.cells [.h wB] 23),(2,.cells [wH] 3)]⟩:=(fx).fi q88
def z7r:EI wG ⟨.fn 118,[.h wB,.h wB],[],_,RS.mk (.fn 202 [.ptr 0 0,.ptr 1 0,.ptr 2 0]) [(0,.cells [.h wB] 23),(1,.cells [.h wB] 23),(2,.cells [wH] 3)]⟩:=(fx [z7q.p]).fi q80
def z7s:EI wG ⟨.fn 44,[wS,wS],[],_,RS.mk (wS) []⟩:=(fx [q78.p]).fi qnc
def znr:EI wG ⟨.fn 17,[wS,wS],[],_,RS.mk (wS) []⟩:=(fx [z7s.p]).fi w7
def zns(fu:Nat):Fx wG ⟨.fn 117,[wS],[],_,RS.mk (wS) []⟩:=fx [qfb.p,znr.p] [lb 232 [(0,wS),(3,.own 32),(8,wH),(9,wH)] [(32,.row .byte 5)]]
def z7t:Nat->(zns fu).L 0:=Fx.lq (qu1 fu) (q9n fu) (fun r0=>[r0.s])
def znt:=(zns fu).fi (qu0 fu) [(z7t fu fu).s]
def z7u:EI wG ⟨.yld 0,[.h wB],[(0,.loop .ready none 72 27 [(3,.ptr 1 0),(4,.ptr 2 0)] [11] 5 3),(1,.cells [.own 4] 23),(2,.cells [wH] 3),(3,.dfr),(4,.row .byte 5)],_,RS.mk (.c (.bool true)) [(0,.loop .ready none 72 27 [(3,.ptr 1 0),(4,.ptr 2 0)] [11] 5 3),(1,.cells [.own 5] 23),(2,.cells [wH] 3),(3,.dfr),(4,.dead),(5,.row .byte 5)]⟩:=(fy 72 [(znt fu).p,⟨zkd.e qhr,z1k⟩] [] false [([0,1,0,1,1,1],5)] (f7 rfl fh)).fo (qmq fu) [] 0 [0,1,0,1,1,1]
def q6g:Fx wG ⟨.fn 202,[.yld 0,.ptr 1 0,.ptr 2 0,.ptr 3 0],[(0,.loop .ready none 72 27 [(3,.ptr 4 0),(4,.ptr 5 0)] [11] 5 6),(1,.cells [.h wB] 23),(2,.cells [.h wB] 23),(3,.cells [wH] 3),(4,.cells [.own 7] 23),(5,.cells [wH] 3),(6,.dfr),(7,.row .byte 5)],_,RS.mk (.tup []) [(0,.loop .ready none 72 27 [(3,.ptr 4 0),(4,.ptr 5 0)] [11] 5 6),(1,.cells [.h wB] 23),(2,.cells [.h wB] 23),(3,.cells [wH] 3),(4,.cells [.own 8] 23),(5,.cells [wH] 3),(6,.dfr),(7,.dead),(8,.row .byte 5)]⟩:=fx [(znm fu).p,(z7u fu).p,⟨q0z.e qab,zer oE⟩] [lb 320 [(0,.yld 0),(2,.ptr 2 0)] [(0,.loop .ready none 72 27 [(3,.ptr 4 0),(4,.ptr 5 0)] [11] 5 6),(1,.cells [.h wB] 23),(2,.cells [.h wB] 23),(3,.cells [wH] 3),(4,.cells [.own 32] 23),(5,.cells [wH] 3),(6,.dfr),(7,.dead),(32,.row .byte 5)],lb 96 [(0,.yld 0),(1,.ptr 1 0),(2,.ptr 2 0),(3,.ptr 3 0)] [(0,.loop .ready none 72 27 [(3,.ptr 4 0),(4,.ptr 5 0)] [11] 5 6),(1,.cells [.h wB] 23),(2,.cells [.h wB] 23),(3,.cells [wH] 3),(4,.cells [.own 32] 23),(5,.cells [wH] 3),(6,.dfr),(7,.dead),(32,.row .byte 5)]]
def z7v:Nat->(q6g fu).L 0:=Fx.lq (quq fu) (q9a fu) (fun r0=>[r0.s])
def z7w:Nat->(q6g fu).L 1:=Fx.lq (qur fu) (q9b fu) (fun r1=>[r1.s])
def z7x:=(q6g fu).fi (q89 fu) [(z7v fu fu).s,(z7w fu fu).s]
def z7y:EI wG ⟨.fn 72,[.h wB],[],_,RS.mk (.own 0) [(0,.row .byte 5)]⟩:=(fx [z7r.p,(z7x fu).p] [] false [([0,1,0,1,1,1],5)] (f7 rfl fh)).fi (q9l fu)
def z7z:EI wG ⟨.fn 71,[.h wP],[],_,RS.mk (wS) []⟩:=(fx [(zpt fu).p,(znt fu).p]).fi (q9m fu)
def qb5:Fx wG ⟨.yld 0,[wH,.agg [.h wL,.h wB,.h (.list wT)]],[(0,.loop .ready none 37 79 [(6,.ptr 1 0)] [24,25] 3 2),(1,.cells [.own 3] 23),(2,.dfr),(3,.row .byte 5)],_,RS.mk (.c (.bool true)) [(0,.loop .ready none 37 79 [(6,.ptr 1 0)] [24,25] 3 2),(1,.cells [.own 4] 23),(2,.dfr),(3,.dead),(4,.row .byte 5)]⟩:=fy 37 [(nr fu).p,(z7p fu).p,(z7y fu).p,(z7z fu).p,⟨q20.e ua,zhx q4f q4g⟩] [lb 256679 [(6,.ptr 1 0),(8,.ptr 32 0),(9,.own 33),(10,wN),(27,.h wL),(28,wH),(29,wH)] [(0,.loop .busy none 37 79 [(6,.ptr 1 0)] [24,25] 3 2),(1,.cells [.own 34] 23),(2,.dfr),(3,.dead),(32,.dat wT 115),(33,.row .byte 5),(34,.row .byte 5)],lb 2053427 [(6,.ptr 1 0),(8,.ptr 32 0),(9,.own 35),(10,wN),(12,.ptr 33 0),(27,.h wL),(28,wH),(29,wH),(42,.h .bool)] [(0,.loop .busy none 37 79 [(6,.ptr 1 0)] [24,25] 3 2),(1,.cells [.own 34] 23),(2,.dfr),(3,.dead),(32,.dat wT 115),(33,.dat wP 30),(34,.row .byte 5),(35,.row .byte 5)],lb 16046 [(6,.ptr 1 0),(8,.ptr 32 0),(9,.own 35),(10,.own 33)] [(0,.loop .busy none 37 79 [(6,.ptr 1 0)] [24,25] 3 2),(1,.cells [.own 34] 23),(2,.dfr),(3,.dead),(32,.dat wT 115),(33,.row .byte 5),(34,.row .byte 5),(35,.row .byte 5)],lb 64168 [(6,.ptr 1 0),(8,.ptr 32 0),(9,.own 34),(10,wN),(27,.h wL),(28,wH),(29,wH)] [(0,.loop .busy none 37 79 [(6,.ptr 1 0)] [24,25] 3 2),(1,.cells [.own 33] 23),(2,.dfr),(3,.dead),(32,.dat wT 115),(33,.row .byte 5),(34,.row .byte 5)]] false [([0,1,0,1,1,1,1],3)] (f7 rfl fh)
def z78(r0:(qb5 fu).L 3):(qb5 fu).L 0:=Fx.jm (quz fu r0.f) [r0.s]
def z73(r0:(qb5 fu).L 3):(qb5 fu).L 1:=Fx.jm (qux fu r0.f) [(z78 fu r0).s]
def z74:(qb5 fu).L 2:=Fx.jm (quy fu)
def z71:Nat->(qb5 fu).L 3:=Fx.lq (quw fu) (q9j fu) (fun r0=>[(z73 fu r0).s,(z74 fu).s])
def z79:=(qb5 fu).fo (q9i fu) [(z71 fu fu).s] 0 [0,1,0,1,1,1,1]
def z8a:EI wG ⟨.yld 0,[wH,.agg [.h wL,.h wB,.h (.list wT),wH]],[(0,.loop .ready none 115 15 [(2,.ptr 1 0)] [7,8] 4 2),(1,.cells [.yld 3] 169),(2,.dfr),(3,.loop .ready none 37 79 [(6,.ptr 4 0)] [24,25] 3 5),(4,.cells [.own 6] 23),(5,.dfr),(6,.row .byte 5)],_,RS.mk (.c (.bool true)) [(0,.loop .ready none 115 15 [(2,.ptr 1 0)] [7,8] 4 2),(1,.cells [.yld 3] 169),(2,.dfr),(3,.loop .ready none 37 79 [(6,.ptr 4 0)] [24,25] 3 5),(4,.cells [.own 7] 23),(5,.dfr),(6,.dead),(7,.row .byte 5)]⟩:=(fy 115 [(z79 fu).p] [] false [([0,1,1],4)] (f7 rfl fh)).fo (zaw fu) [] 0 [0,1,1]
def qfd:IF:=⟨.fn 164,[.h wT,wH,.ptr 0 0,.ptr 1 0,.ptr 2 0],[(0,.cells [.yld 3] 209),(1,.cells [wH] 3),(2,.cells [.fn 164 [.ptr 0 0,.ptr 1 0,.ptr 2 0]] 210),(3,.loop .ready none 115 15 [(2,.ptr 4 0)] [7,8] 4 5),(4,.cells [.yld 6] 169),(5,.dfr),(6,.loop .ready none 37 79 [(6,.ptr 7 0)] [24,25] 3 8),(7,.cells [.own 9] 23),(8,.dfr),(9,.row .byte 5)],_,RS.mk (.c (.bool true)) [(0,.cells [.yld 3] 209),(1,.cells [wH] 3),(2,.cells [.fn 164 [.ptr 0 0,.ptr 1 0,.ptr 2 0]] 210),(3,.loop .ready none 115 15 [(2,.ptr 4 0)] [7,8] 4 5),(4,.cells [.yld 6] 169),(5,.dfr),(6,.loop .ready none 37 79 [(6,.ptr 7 0)] [24,25] 3 8),(7,.cells [.own 10] 23),(8,.dfr),(9,.dead),(10,.row .byte 5)]⟩
def znu(s131:EI wG qfd)(fu:Nat):Fx wG qfd:=fx [(z8a fu).p,s131.p] [lb 488 [(1,wH),(4,.ptr 2 0),(20,.h (.list wT)),(21,wH),(22,wH)] [(0,.cells [.yld 3] 209),(1,.cells [wH] 3),(2,.cells [.fn 164 [.ptr 0 0,.ptr 1 0,.ptr 2 0]] 210),(3,.loop .ready none 115 15 [(2,.ptr 4 0)] [7,8] 4 5),(4,.cells [.yld 6] 169),(5,.dfr),(6,.loop .ready none 37 79 [(6,.ptr 7 0)] [24,25] 3 8),(7,.cells [.own 32] 23),(8,.dfr),(9,.dead),(32,.row .byte 5)]]
def z8c(s131:EI wG qfd)(fu:Nat):Nat->(znu s131 fu).L 0:=Fx.lq (qw1 s131.f fu) (zba s131.f fu) (fun r0=>[r0.s])
def z8b(s131:EI wG qfd)(fu:Nat):EI wG qfd:=(znu s131 fu).fi (qwz s131.f fu) [(z8c s131 fu fu).s]
def z8d:EI wG qfd := .rc (qw0 fu) (fun r=>qwz r fu) (fun _ _=>rfl) (fun _=>rfl) (fun s131=>z8b s131 fu) (fun _=>rfl) fu
def z8e:EI wG ⟨.fn 163,[.yld 0,.ptr 1 0],[(0,.loop .ready none 115 15 [(2,.ptr 2 0)] [7,8] 4 3),(1,.dat wT 115),(2,.cells [.yld 4] 169),(3,.dfr),(4,.loop .ready none 37 79 [(6,.ptr 5 0)] [24,25] 3 6),(5,.cells [.own 7] 23),(6,.dfr),(7,.row .byte 5)],_,RS.mk (.tup []) [(0,.loop .ready none 115 15 [(2,.ptr 2 0)] [7,8] 4 3),(1,.dat wT 115),(2,.cells [.yld 4] 169),(3,.dfr),(4,.loop .ready none 37 79 [(6,.ptr 5 0)] [24,25] 3 6),(5,.cells [.own 8] 23),(6,.dfr),(7,.dead),(8,.row .byte 5)]⟩:=(fx [(z8d fu).p]).fi (zbc fu)
def z8f:EI wG ⟨.fn 115,[.yld 0,.ptr 1 0],[(0,.loop .ready none 37 79 [(6,.ptr 2 0)] [24,25] 3 3),(1,.dat wT 115),(2,.cells [.own 4] 23),(3,.dfr),(4,.row .byte 5)],_,RS.mk (.tup []) [(0,.loop .ready none 37 79 [(6,.ptr 2 0)] [24,25] 3 3),(1,.dat wT 115),(2,.cells [.own 5] 23),(3,.dfr),(4,.dead),(5,.row .byte 5)]⟩:=(fx [znd.p,(z8e fu).p] [] false [([0,1,1],4)] (f7 rfl fh)).fi (zav fu)
def z8g:EI wG ⟨.fn 37,[.h (.prod wL wB)],[],_,RS.mk (.tup [.own 0,.h (.prod wI wI)]) [(0,.row .byte 5)]⟩:=(fx [(z6e fu).p,gl.p,z6f.p,(z8f fu).p,eu.p] [] false [([0,1,0,1,1,1,1],3)] (f7 rfl fh)).fi (quv fu)
def z8h:EI wG ⟨.fn 12,[.h (.prod wL wB),.h (.prod wL wB)],[],_,RS.mk (.tup [.h .bool,.h (.prod wI wI)]) []⟩:=(fx [(z8g fu).p,gl.p,ew.p,zo3.p,eu.p]).fi (q9k fu)
def z8i:EI wG ⟨.fn 4,[],[],_,RS.mk (.h .bool) []⟩:=(fx [(zow fu).p,(zpr fu).p,(z8h fu).p]).fi (qtt fu)
def znv:EI wG ⟨.fn 75,[wS],[],_,RS.mk (wH) []⟩:=(fx [⟨qkz.e ic,qr4 ou oc ot ob⟩]).fi q9
def z8k:EI wG ⟨.fn 170,[.h .byte],[],_,RS.mk (.h .bool) []⟩:=(fx).fi qcm
def znw(fu:Nat):Fx wG ⟨.fn 47,[wS,.fn 170 []],[],_,RS.mk (.h .bool) []⟩:=fx [z8k.p] [lb 104 [(0,wS),(1,.fn 170 []),(7,wH),(8,wH)]]
def z8l:Nat->(znw fu).L 0:=Fx.lq (qmk fu) (q8z fu) (fun r0=>[r0.s])
def z8m:=(znw fu).fi (qt9 fu) [(z8l fu fu).s]
def znx:EI wG ⟨.fn 122,[wS],[],_,RS.mk (.h .bool) []⟩:=(fx [(z8m fu).p]).fi (ti fu)
def z8n:EI wG ⟨.fn 86,[wS,wS,wH],[],_,RS.mk (.fn 136 [.ptr 0 0,.ptr 1 0,.ptr 2 0]) [(0,.cells [wS] 9),(1,.cells [wS] 9),(2,.cells [wH] 3)]⟩:=(fx).fi qam
def q6i:EI wG ⟨.fn 46,[wS,wS],[],_,RS.mk (.fn 136 [.ptr 0 0,.ptr 1 0,.ptr 2 0]) [(0,.cells [wS] 9),(1,.cells [wS] 9),(2,.cells [wH] 3)]⟩:=(fx [z8n.p]).fi ub
def q6j:EI wG ⟨.fn 87,[.h .byte],[],_,RS.mk (.h .bool) []⟩:=(fx).fi qc0
def z8o:EI wG ⟨.fn 171,[.h .byte],[],_,RS.mk (.h .bool) []⟩:=(fx [q6j.p]).fi wk
def zny(fu:Nat):Fx wG ⟨.fn 47,[wS,.fn 171 []],[],_,RS.mk (.h .bool) []⟩:=fx [z8o.p] [lb 104 [(0,wS),(1,.fn 171 []),(7,wH),(8,wH)]]
def z8p:Nat->(zny fu).L 0:=Fx.lq (qcx fu) (qua fu) (fun r0=>[r0.s])
def z8q:=(zny fu).fi (qml fu) [(z8p fu fu).s]
def z8r:EI wG ⟨.yld 0,[wS],[(0,.loop .ready none 124 17 [(3,.ptr 1 0),(4,.ptr 2 0)] [8] 6 3),(1,.cells [.fn 171 []] 96),(2,.cells [.h .bool] 4),(3,.dfr)],_,.two (RS.mk (.c (.bool false)) [(0,.loop .done (some .ret) 124 17 [(3,.ptr 1 0),(4,.ptr 2 0)] [8] 6 3),(1,.cells [.fn 171 []] 96),(2,.cells [.h .bool] 4),(3,.dfr)]) (RS.mk (.c (.bool true)) [(0,.loop .ready none 124 17 [(3,.ptr 1 0),(4,.ptr 2 0)] [8] 6 3),(1,.cells [.fn 171 []] 96),(2,.cells [.h .bool] 4),(3,.dfr)])⟩:=(fy 124 [(z8q fu).p] [] false [([0,1,0,1],6)] (f7 rfl fh)).fo (wn fu) [] 0 [0,1,0,1]
def qfe:EI wG ⟨.fn 138,[wS,wS],[],_,RS.mk (wH) []⟩:=(fx [⟨q42.e nz,zll oE⟩]).fi lf
def q6k:Fx wG ⟨.fn 136,[.yld 0,.ptr 1 0,.ptr 2 0,.ptr 3 0],[(0,.loop .ready none 124 17 [(3,.ptr 4 0),(4,.ptr 5 0)] [8] 6 6),(1,.cells [wS] 9),(2,.cells [wS] 9),(3,.cells [wH] 3),(4,.cells [.fn 171 []] 96),(5,.cells [.h .bool] 4),(6,.dfr)],_,.two (RS.mk (.tup []) [(0,.loop .done (some .ret) 124 17 [(3,.ptr 4 0),(4,.ptr 5 0)] [8] 6 6),(1,.cells [wS] 9),(2,.cells [wS] 9),(3,.cells [wH] 3),(4,.cells [.fn 171 []] 96),(5,.cells [.h .bool] 4),(6,.dfr)]) (RS.mk (.tup []) [(0,.loop .ready none 124 17 [(3,.ptr 4 0),(4,.ptr 5 0)] [8] 6 6),(1,.cells [wS] 9),(2,.cells [wS] 9),(3,.cells [wH] 3),(4,.cells [.fn 171 []] 96),(5,.cells [.h .bool] 4),(6,.dfr)])⟩:=fx [⟨xl.e il,qa7 ou oc ot ob⟩,(z8r fu).p,qfe.p] [lb 320 [(0,.yld 0),(2,.ptr 2 0)] [(0,.loop .ready none 124 17 [(3,.ptr 4 0),(4,.ptr 5 0)] [8] 6 6),(1,.cells [wS] 9),(2,.cells [wS] 9),(3,.cells [wH] 3),(4,.cells [.fn 171 []] 96),(5,.cells [.h .bool] 4),(6,.dfr)],lb 96 [(0,.yld 0),(1,.ptr 1 0),(2,.ptr 2 0),(3,.ptr 3 0)] [(0,.loop .ready none 124 17 [(3,.ptr 4 0),(4,.ptr 5 0)] [8] 6 6),(1,.cells [wS] 9),(2,.cells [wS] 9),(3,.cells [wH] 3),(4,.cells [.fn 171 []] 96),(5,.cells [.h .bool] 4),(6,.dfr)]]
def z8v:Nat->(q6k fu).L 0:=Fx.lq (qyb fu) (zcj fu) (fun r0=>[r0.s])
def z8w:Nat->(q6k fu).L 1:=Fx.lq (qhz fu) (zck fu) (fun r1=>[r1.s])
def z8x:=(q6k fu).fi (qn1 fu) [(z8v fu fu).s,(z8w fu fu).s]
def z8y:EI wG ⟨.fn 124,[wS,.fn 171 []],[],_,RS.mk (.h .bool) []⟩:=(fx [q6i.p,(z8x fu).p] [] false [([0,1,0,1],6)] (f7 rfl fh)).fi (qmb fu)
def znz:EI wG ⟨.fn 123,[wS],[],_,RS.mk (.h .bool) []⟩:=(fx [(z8y fu).p]).fi (ra fu)
def z8z:EI wG ⟨.fn 76,[.h (.prod .str wP)],[],_,RS.mk (.h (.prod wI wI)) []⟩:=(fx [znv.p,ew.p,(znx fu).p,(znz fu).p,eu.p]).fi (qck fu)
def qsk:Fx wG ⟨.fn 39,[.h (.prod .str (.prod .bool (.list (.prod .str wP))))],[],_,RS.mk (wH) []⟩:=fx [znv.p,(z8z fu).p,gl.p] [lb 488 [(31,.h (.list (.prod .str wP))),(32,wH),(33,wH)],lb 60 [(1,.ptr 32 0)] [(32,.dat (.prod .str (.prod .bool (.list (.prod .str wP)))) 52)],lb 29 [(1,.ptr 32 0),(29,.h .bool)] [(32,.dat (.prod .str (.prod .bool (.list (.prod .str wP)))) 52)]]
def z83:Nat->(qsk fu).L 0:=Fx.lq (zu fu) (ql9 fu) (fun r2=>[r2.s])
def z82:(qsk fu).L 1:=Fx.jm (qma fu) [(z83 fu fu).s]
def z81:(qsk fu).L 2:=Fx.jm (rf fu) [(z82 fu).s]
def z84:=(qsk fu).fi (qcl fu) [(z81 fu).s]
def qk6:Fx wG ⟨.fn 13,[.h (.list (.prod .str (.prod .bool (.list (.prod .str wP)))))],[],_,RS.mk (.h (.prod wI wI)) []⟩:=fx [ew.p,(z84 fu).p,eu.p] [lb 1000 [(2,.ptr 32 0),(29,.h (.list (.prod .str (.prod .bool (.list (.prod .str wP)))))),(30,wH),(31,wH)] [(32,.dat (.prod wI wI) 26)],lb 124 [(0,.h (.list (.prod .str (.prod .bool (.list (.prod .str wP)))))),(2,.ptr 32 0)] [(32,.dat (.prod wI wI) 26)],lb 61 [(0,.h (.list (.prod .str (.prod .bool (.list (.prod .str wP)))))),(2,.ptr 32 0),(27,.h .bool)] [(32,.dat (.prod wI wI) 26)],lb 232 [(0,.h (.list (.prod .str (.prod .bool (.list (.prod .str wP)))))),(2,.ptr 32 0),(3,wH),(9,.h (.list (.prod .str (.prod .bool (.list (.prod .str wP)))))),(10,wH),(11,wH)] [(32,.dat (.prod wI wI) 26)]]
def z89:Nat->(qk6 fu).L 0:=Fx.lq (zo fu) (ql6 fu) (fun r3=>[r3.s])
def z88:(qk6 fu).L 1:=Fx.jm (ql7 fu) [(z89 fu fu).s]
def z87:(qk6 fu).L 2:=Fx.jm (wj fu) [(z88 fu).s]
def z86:Nat->(qk6 fu).L 3:=Fx.lq (zn fu) (ql5 fu) (fun r0=>[r0.s,(z87 fu).s])
def zn0:=(qk6 fu).fi (zm fu) [(z86 fu fu).s]
def zn1:EI wG ⟨.fn 48,[.h .byte],[],_,RS.mk (.h .bool) []⟩:=(fx [q6j.p,x7s.p]).fi th
def zn2(fu:Nat):Fx wG ⟨.fn 47,[wS,.fn 48 []],[],_,RS.mk (.h .bool) []⟩:=fx [zn1.p] [lb 104 [(0,wS),(1,.fn 48 []),(7,wH),(8,wH)]]
def z9a:Nat->(zn2 fu).L 0:=Fx.lq (qcy fu) (qub fu) (fun r0=>[r0.s])
def zn3:=(zn2 fu).fi (qgu fu) [(z9a fu fu).s]
def z9b:EI wG ⟨.yld 0,[wS],[(0,.loop .ready none 124 17 [(3,.ptr 1 0),(4,.ptr 2 0)] [8] 6 3),(1,.cells [.fn 48 []] 96),(2,.cells [.h .bool] 4),(3,.dfr)],_,.two (RS.mk (.c (.bool false)) [(0,.loop .done (some .ret) 124 17 [(3,.ptr 1 0),(4,.ptr 2 0)] [8] 6 3),(1,.cells [.fn 48 []] 96),(2,.cells [.h .bool] 4),(3,.dfr)]) (RS.mk (.c (.bool true)) [(0,.loop .ready none 124 17 [(3,.ptr 1 0),(4,.ptr 2 0)] [8] 6 3),(1,.cells [.fn 48 []] 96),(2,.cells [.h .bool] 4),(3,.dfr)])⟩:=(fy 124 [(zn3 fu).p] [] false [([0,1,0,1],6)] (f7 rfl fh)).fo (wo fu) [] 0 [0,1,0,1]
end
end
end Go.Sym
