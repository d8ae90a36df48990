/- What the claim rests on, part 4: gathered texts. -/
import Derived.Shelf.LaysC
import Derived.Shelf.LaysM
import Derived.Shelf.SlGeneric
import Derived.Shelf.SlLaysF0
import Derived.Ground.NamesProg
import Derived.Test.YtboiflmddgacmaaGreatDoorProg
import Derived.Below
import Derived.Tactics
import Derived.Tactics2
import Derived.Laws.AppendOwn
import Derived.Shelf.Strconv.Itoa4
import Derived.Shelf.Bytes.SlIndexWhole
import Derived.Shelf.Strconv.AtoiAll
import Derived.Shelf.Strconv.ErrVarAll
import Derived.Shelf.SlicesE.Clone
import Derived.Shelf.SlSortCmp.NoneTotal
import Derived.Shelf.Strings.BuilderCap
import Derived.Shelf.Unicode.DecodeAny
import Derived.Laws.DeepStrings4
import Derived.Deep.LoopGhost
import Derived.Deep.DeepCutAuto
import Derived.Deep.DeepFit
import Derived.Deep.DeepMust
import Derived.Shelf.Unicode.ValidAny
import Derived.Shelf.Strings.Count
import Derived.Deep.OwnRows
import Derived.Laws.CopyRow
import Derived.Laws.IdiomStrings
import Derived.Laws.CopyOwn
import Derived.Lib.SlBytesConst
import Derived.Test.YtboiflmddgacmaaGreatDoorRows
import Derived.Defers
import Derived.Laws.Pointers
import Derived.Laws.LoneSync
import Derived.RegionTactic
import Derived.RegionCalls
import Derived.ChangeAlike
import Derived.Laws.NewBlocks
import Derived.Laws.ByValue
import Derived.Shelf.Strings.Repeat
import Derived.Shelf.Strings.BuilderK
import Derived.Shelf.Strings.OnBuilder
import Derived.Shelf.Strings.FieldsFuncAny
import Derived.Lib.AtoiAll
import Derived.Test.YtboiflmddgacmaaGreatDoorSyN3
set_option maxRecDepth 100000
set_option linter.defProp false
set_option linter.unusedSimpArgs false
set_option linter.unusedVariables false
namespace Go.Proofs
open Go.Sym(oB oF)
open Go.Shelf
def Tryz.lfn{α:Type}{a:Option α}{b c:α}(h:a=some b)(e:b=c:=by kernel_rfl):a=some c:=h.trans (congrArg some e)
def Tryz.uniR:Go.Shelf.Ren:=⟨fun|99=>77|105=>45|115=>37|129=>178|138=>153|143=>154|156=>25|165=>46|166=>47|167=>292|169=>48|170=>78|171=>44|172=>83|185=>175|187=>90|195=>185|196=>237|197=>127|205=>184|206=>115|212=>76|217=>188|218=>186|219=>156|224=>190|225=>189|229=>28|240=>79|241=>80|243=>75|244=>118|245=>119|246=>112|247=>147|253=>209|254=>210|255=>123|259=>262|260=>157|263=>113|264=>114|266=>221|267=>191|270=>291|276=>116|277=>117|279=>148|280=>149|281=>150|282=>151|283=>143|284=>144|285=>145|286=>146|287=>182|291=>240|314=>222|316=>183|317=>177|318=>179|319=>180|320=>181|321=>218|322=>219|337=>216|338=>217|n=>n,fun|0=>0|2=>2|3=>3|4=>4|5=>5|9=>9|12=>12|20=>20|21=>21|31=>68|37=>43|40=>70|46=>134|51=>149|53=>189|70=>88|72=>90|75=>93|76=>94|80=>96|85=>223|105=>197|109=>135|119=>239|127=>138|138=>276|139=>277|143=>306|145=>308|146=>187|148=>190|152=>97|154=>99|164=>192|167=>222|168=>225|171=>217|173=>220|175=>268|210=>271|212=>265|213=>266|232=>332|233=>333|n=>n,fun|1=>0|3=>4|4=>5|15=>2|16=>3|17=>1|18=>6|19=>7|n=>n⟩
abbrev Tryz.laysM171_ren:Go.Shelf.Ren:=Tryz.uniR
def Tryz.laysM171:Go.Proofs.LaysM.n171 Tryz.prog Tryz.laysM171_ren:={
 mixed:=oB
 f129:=Tryz.lfn Tryz.func178
 f171:=Tryz.lfn Tryz.func44
 f243:=Tryz.lfn Tryz.func75
 f246:=Tryz.lfn Tryz.func112
 f283:=Tryz.lfn Tryz.func143
 f284:=Tryz.lfn Tryz.func144
 f285:=Tryz.lfn Tryz.func145
 f286:=Tryz.lfn Tryz.func146
 f317:=Tryz.lfn Tryz.func177
 f318:=Tryz.lfn Tryz.func179
 f319:=Tryz.lfn Tryz.func180
 f320:=Tryz.lfn Tryz.func181
 f337:=Tryz.lfn Tryz.func216
 f338:=Tryz.lfn Tryz.func217
 t0:=Tryz.underlying0
 a0:=Tryz.isAgg0
 z0:=Tryz.sizeOf0
 v0:=Tryz.zeroValue0
 t2:=Tryz.underlying2
 a2:=Tryz.isAgg2
 z2:=Tryz.sizeOf2
 v2:=Tryz.zeroValue2
 t3:=Tryz.underlying3
 a3:=Tryz.isAgg3
 z3:=Tryz.sizeOf3
 v3:=Tryz.zeroValue3
 t4:=Tryz.underlying4
 a4:=Tryz.isAgg4
 z4:=Tryz.sizeOf4
 v4:=Tryz.zeroValue4
 t5:=Tryz.underlying5
 a5:=Tryz.isAgg5
 z5:=Tryz.sizeOf5
 v5:=Tryz.zeroValue5
 t9:=Tryz.underlying9
 a9:=Tryz.isAgg9
 z9:=Tryz.sizeOf9
 v9:=Tryz.zeroValue9
 t20:=Tryz.underlying20
 a20:=Tryz.isAgg20
 z20:=Tryz.sizeOf20
 v20:=Tryz.zeroValue20
 t37:=Tryz.underlying43
 a37:=Tryz.isAgg43
 z37:=Tryz.sizeOf43
 v37:=Tryz.zeroValue43
 t46:=Tryz.underlying134
 a46:=Tryz.isAgg134
 z46:=Tryz.sizeOf134
 v46:=Tryz.zeroValue134
 t51:=Tryz.underlying149
 a51:=Tryz.isAgg149
 z51:=Tryz.sizeOf149
 v51:=Tryz.zeroValue149
 t53:=Tryz.underlying189
 a53:=Tryz.isAgg189
 z53:=Tryz.sizeOf189
 v53:=Tryz.zeroValue189
 t171:=Tryz.underlying217
 a171:=Tryz.isAgg217
 z171:=Tryz.sizeOf217
 v171:=Tryz.zeroValue217
 t173:=Tryz.underlying220
 a173:=Tryz.isAgg220
 z173:=Tryz.sizeOf220
 v173:=Tryz.zeroValue220
 t212:=Tryz.underlying265
 a212:=Tryz.isAgg265
 z212:=Tryz.sizeOf265
 v212:=Tryz.zeroValue265
 t213:=Tryz.underlying266
 a213:=Tryz.isAgg266
 z213:=Tryz.sizeOf266
 t232:=Tryz.underlying332
 a232:=Tryz.isAgg332
 z232:=Tryz.sizeOf332
 v232:=Tryz.zeroValue332
 t233:=Tryz.underlying333
 a233:=Tryz.isAgg333
 z233:=Tryz.sizeOf333
 v233:=Tryz.zeroValue333
 g17:=oB
 g18:=oB
 g19:=oB
 i0:=oB
 i2:=oB
 i3:=oB
 i4:=oB
 i5:=oB
 i9:=oB
 i20:=oB
 i37:=oB
 i46:=oB
 i51:=oB
 i53:=oB
 i171:=oB
 i173:=oB
 i212:=oB
 i232:=oB
 i233:=oB
 m17:=oB
 m18:=oB
 m19:=by kernel_rfl }
abbrev Tryz.laysC172_ren:Go.Shelf.Ren:=Tryz.uniR
def Tryz.laysC172:Go.Proofs.LaysC.n172 Tryz.prog Tryz.laysC172_ren:={ Tryz.laysM171 with
 f172:=Tryz.lfn Tryz.func83
 f205:=Tryz.lfn Tryz.func184
 f244:=Tryz.lfn Tryz.func118
 f245:=Tryz.lfn Tryz.func119
 f247:=Tryz.lfn Tryz.func147
 f279:=Tryz.lfn Tryz.func148
 f280:=Tryz.lfn Tryz.func149
 f281:=Tryz.lfn Tryz.func150
 f282:=Tryz.lfn Tryz.func151
 f287:=Tryz.lfn Tryz.func182
 f316:=Tryz.lfn Tryz.func183
 f321:=Tryz.lfn Tryz.func218
 f322:=Tryz.lfn Tryz.func219
 t21:=Tryz.underlying21
 a21:=Tryz.isAgg21
 z21:=Tryz.sizeOf21
 v21:=Tryz.zeroValue21
 t75:=Tryz.underlying93
 a75:=Tryz.isAgg93
 z75:=Tryz.sizeOf93
 v75:=Tryz.zeroValue93
 t76:=Tryz.underlying94
 a76:=Tryz.isAgg94
 z76:=Tryz.sizeOf94
 v76:=Tryz.zeroValue94
 t85:=Tryz.underlying223
 a85:=Tryz.isAgg223
 z85:=Tryz.sizeOf223
 v85:=Tryz.zeroValue223
 t127:=Tryz.underlying138
 a127:=Tryz.isAgg138
 z127:=Tryz.sizeOf138
 v127:=Tryz.zeroValue138
 t143:=Tryz.underlying306
 a143:=Tryz.isAgg306
 z143:=Tryz.sizeOf306
 v143:=Tryz.zeroValue306
 t145:=Tryz.underlying308
 a145:=Tryz.isAgg308
 z145:=Tryz.sizeOf308
 v145:=Tryz.zeroValue308
 t167:=Tryz.underlying222
 a167:=Tryz.isAgg222
 z167:=Tryz.sizeOf222
 v167:=Tryz.zeroValue222
 t168:=Tryz.underlying225
 a168:=Tryz.isAgg225
 z168:=Tryz.sizeOf225
 v168:=Tryz.zeroValue225
 t175:=Tryz.underlying268
 a175:=Tryz.isAgg268
 z175:=Tryz.sizeOf268
 v175:=Tryz.zeroValue268
 t210:=Tryz.underlying271
 a210:=Tryz.isAgg271
 z210:=Tryz.sizeOf271
 v210:=Tryz.zeroValue271
 g15:=oB
 g16:=oB
 t80:=Tryz.underlying96
 a80:=Tryz.isAgg96
 z80:=Tryz.sizeOf96
 v80:=Tryz.zeroValue96
 i21:=oB
 i75:=oB
 i76:=oB
 i80:=oB
 i85:=oB
 i127:=oB
 i143:=oB
 i145:=oB
 i167:=oB
 i168:=oB
 i175:=oB
 i210:=oB
 m15:=oB
 m16:=oB
 c0:=oB
 c2:=oB
 c3:=oB
 c4:=oB
 c5:=oB
 c9:=oB
 c20:=oB
 c21:=oB
 c37:=oB
 c46:=oB
 c51:=oB
 c53:=oB
 c75:=oB
 c76:=oB
 c80:=oB
 c85:=oB
 c127:=oB
 c143:=oB
 c145:=oB
 c167:=oB
 c168:=oB
 c171:=oB
 c173:=oB
 c175:=oB
 c210:=oB
 c212:=oB
 c213:=oB
 c232:=oB
 c233:=by kernel_rfl }
abbrev Tryz.lays185_ren:Go.Shelf.Ren:=Tryz.uniR
def Tryz.lays185:Go.Proofs.Lays.n185 Tryz.prog Tryz.lays185_ren:={ Tryz.laysM171 with
 f115:=Tryz.lfn Tryz.func37
 f185:=Tryz.lfn Tryz.func175
 f187:=Tryz.lfn Tryz.func90
 f224:=Tryz.lfn Tryz.func190
 f253:=Tryz.lfn Tryz.func209
 f254:=Tryz.lfn Tryz.func210
 f255:=Tryz.lfn Tryz.func123
 f291:=Tryz.lfn Tryz.func240
 t146:=Tryz.underlying187
 a146:=Tryz.isAgg187
 z146:=Tryz.sizeOf187
 v146:=Tryz.zeroValue187
 g1:=by kernel_rfl }
abbrev Tryz.lays138_ren:Go.Shelf.Ren:=Tryz.uniR
def Tryz.lays138:Go.Proofs.Lays.n138 Tryz.prog Tryz.lays138_ren:={ Tryz.laysM171,Tryz.lays185 with
 f138:=Tryz.lfn Tryz.func153
 f143:=Tryz.lfn Tryz.func154
 f195:=Tryz.lfn Tryz.func185
 f217:=Tryz.lfn Tryz.func188
 f218:=Tryz.lfn Tryz.func186
 f219:=Tryz.lfn Tryz.func156
 f225:=Tryz.lfn Tryz.func189
 f266:=Tryz.lfn Tryz.func221
 f267:=Tryz.lfn Tryz.func191
 f314:=Tryz.lfn Tryz.func222 }
abbrev Tryz.lays165_ren:Go.Shelf.Ren:=Tryz.uniR
def Tryz.lays165:Go.Proofs.Lays.n165 Tryz.prog Tryz.lays165_ren:={ Tryz.laysM171 with
 f165:=Tryz.lfn Tryz.func46
 f240:=Tryz.lfn Tryz.func79
 f241:=Tryz.lfn Tryz.func80
 f276:=Tryz.lfn Tryz.func116
 f277:=Tryz.lfn Tryz.func117
 t70:=Tryz.underlying88
 a70:=Tryz.isAgg88
 z70:=Tryz.sizeOf88
 v70:=Tryz.zeroValue88
 t72:=Tryz.underlying90
 a72:=Tryz.isAgg90
 z72:=Tryz.sizeOf90
 v72:=Tryz.zeroValue90
 t164:=Tryz.underlying192
 a164:=Tryz.isAgg192
 z164:=Tryz.sizeOf192
 v164:=Tryz.zeroValue192 }
abbrev Tryz.lays169_ren:Go.Shelf.Ren:=Tryz.uniR
def Tryz.lays169:Go.Proofs.Lays.n169 Tryz.prog Tryz.lays169_ren:={ Tryz.laysM171,Tryz.lays165,Tryz.laysC172 with
 f169:=Tryz.lfn Tryz.func48 }
abbrev Tryz.lays196_ren:Go.Shelf.Ren:=Tryz.uniR
def Tryz.lays196:Go.Proofs.Lays.n196 Tryz.prog Tryz.lays196_ren:={ Tryz.laysM171 with
 f196:=Tryz.lfn Tryz.func237
 f259:=Tryz.lfn Tryz.func262
 t12:=Tryz.underlying12
 a12:=Tryz.isAgg12
 z12:=Tryz.sizeOf12
 v12:=Tryz.zeroValue12
 t119:=Tryz.underlying239
 a119:=Tryz.isAgg239
 z119:=Tryz.sizeOf239
 t138:=Tryz.underlying276
 a138:=Tryz.isAgg276
 z138:=Tryz.sizeOf276
 v138:=Tryz.zeroValue276
 t139:=Tryz.underlying277
 a139:=Tryz.isAgg277
 z139:=Tryz.sizeOf277
 v139:=Tryz.zeroValue277
 g3:=oB
 g4:=by kernel_rfl }
abbrev Tryz.lays197_ren:Go.Shelf.Ren:=Tryz.uniR
def Tryz.lays197:Go.Proofs.Lays.n197 Tryz.prog Tryz.lays197_ren:={ Tryz.laysM171,Tryz.laysC172,Tryz.lays196 with
 f197:=Tryz.lfn Tryz.func127
 f260:=Tryz.lfn Tryz.func157
 t105:=Tryz.underlying197
 a105:=Tryz.isAgg197
 z105:=Tryz.sizeOf197
 v105:=Tryz.zeroValue197 }
abbrev Tryz.lays105_ren:Go.Shelf.Ren:=Tryz.uniR
def Tryz.lays105:Go.Proofs.Lays.n105 Tryz.prog Tryz.lays105_ren:={ Tryz.laysM171,Tryz.lays165,Tryz.lays169,Tryz.laysC172,Tryz.lays185 with
 f99:=Tryz.lfn Tryz.func77
 f105:=Tryz.lfn Tryz.func45
 f166:=Tryz.lfn Tryz.func47
 f170:=Tryz.lfn Tryz.func78
 f206:=Tryz.lfn Tryz.func115
 f212:=Tryz.lfn Tryz.func76
 f263:=Tryz.lfn Tryz.func113
 f264:=Tryz.lfn Tryz.func114
 t109:=Tryz.underlying135
 a109:=Tryz.isAgg135
 z109:=Tryz.sizeOf135
 v109:=Tryz.zeroValue135
 t148:=Tryz.underlying190
 a148:=Tryz.isAgg190
 z148:=Tryz.sizeOf190
 v148:=Tryz.zeroValue190 }
abbrev Tryz.lays156_ren:Go.Shelf.Ren:=Tryz.uniR
def Tryz.lays156:Go.Proofs.Lays.n156 Tryz.prog Tryz.lays156_ren:={ Tryz.laysM171,Tryz.lays165,Tryz.lays105,Tryz.lays169,Tryz.laysC172 with
 f156:=Tryz.lfn Tryz.func25
 t31:=Tryz.underlying68
 a31:=Tryz.isAgg68
 z31:=Tryz.sizeOf68
 v31:=Tryz.zeroValue68 }
abbrev Tryz.lays229_ren:Go.Shelf.Ren:=Tryz.uniR
def Tryz.lays229:Go.Proofs.Lays.n229 Tryz.prog Tryz.lays229_ren:={ Tryz.laysM171,Tryz.laysC172,Tryz.lays156 with
 f229:=Tryz.lfn Tryz.func28
 t40:=Tryz.underlying70
 a40:=Tryz.isAgg70
 z40:=Tryz.sizeOf70
 v40:=Tryz.zeroValue70
 t152:=Tryz.underlying97
 a152:=Tryz.isAgg97
 z152:=Tryz.sizeOf97
 v152:=Tryz.zeroValue97
 t154:=Tryz.underlying99
 a154:=Tryz.isAgg99
 z154:=Tryz.sizeOf99
 v154:=Tryz.zeroValue99 }
def Tryz.sortP_ren:Go.Shelf.Ren:=⟨fun|6=>285|15=>290|14=>289|28=>301|29=>178|20=>293|21=>294|22=>295|23=>296|24=>297|25=>298|26=>299|27=>300|46=>302|47=>303|48=>304|49=>305|50=>306|57=>307|n=>n,fun|22=>341|24=>343|25=>367|3=>3|39=>134|0=>0|53=>149|55=>189|4=>4|46=>372|45=>371|50=>104|5=>5|9=>9|66=>377|70=>381|76=>383|77=>59|n=>n,fun|n=>n⟩
def Tryz.sortP:Go.Proofs.SlLaysF0.n6 Tryz.prog Tryz.sortP_ren:={
 mixed:=oB
 f6:=⟨Tryz.f285.name,oF,Tryz.lfn Tryz.func285⟩
 f14:=⟨Tryz.f289.name,oF,Tryz.lfn Tryz.func289⟩
 f15:=Tryz.lfn Tryz.func290
 f20:=⟨Tryz.f293.name,oF,Tryz.lfn Tryz.func293⟩
 f21:=⟨Tryz.f294.name,oF,Tryz.lfn Tryz.func294⟩
 f22:=⟨Tryz.f295.name,oF,Tryz.lfn Tryz.func295⟩
 f23:=⟨Tryz.f296.name,oF,Tryz.lfn Tryz.func296⟩
 f24:=⟨Tryz.f297.name,oF,Tryz.lfn Tryz.func297⟩
 f25:=⟨Tryz.f298.name,oF,Tryz.lfn Tryz.func298⟩
 f26:=⟨Tryz.f299.name,oF,Tryz.lfn Tryz.func299⟩
 f27:=⟨Tryz.f300.name,oF,Tryz.lfn Tryz.func300⟩
 f28:=Tryz.lfn Tryz.func301
 f29:=Tryz.lfn Tryz.func178
 f46:=⟨Tryz.f302.name,oF,Tryz.lfn Tryz.func302⟩
 f47:=Tryz.lfn Tryz.func303
 f48:=Tryz.lfn Tryz.func304
 f49:=⟨Tryz.f305.name,oF,Tryz.lfn Tryz.func305⟩
 f50:=⟨Tryz.f306.name,oF,Tryz.lfn Tryz.func306⟩
 f57:=⟨Tryz.f307.name,oF,Tryz.lfn Tryz.func307⟩
 t0:=Tryz.underlying0
 a0:=Tryz.isAgg0
 z0:=Tryz.sizeOf0
 v0:=Tryz.zeroValue0
 t3:=Tryz.underlying3
 a3:=Tryz.isAgg3
 z3:=Tryz.sizeOf3
 v3:=Tryz.zeroValue3
 t4:=Tryz.underlying4
 a4:=Tryz.isAgg4
 z4:=Tryz.sizeOf4
 v4:=Tryz.zeroValue4
 t5:=Tryz.underlying5
 a5:=Tryz.isAgg5
 z5:=Tryz.sizeOf5
 v5:=Tryz.zeroValue5
 t9:=Tryz.underlying9
 a9:=Tryz.isAgg9
 z9:=Tryz.sizeOf9
 v9:=Tryz.zeroValue9
 t22:=Tryz.underlying341
 a22:=Tryz.isAgg341
 z22:=Tryz.sizeOf341
 v22:=Tryz.zeroValue341
 t25:=Tryz.underlying367
 a25:=Tryz.isAgg367
 z25:=Tryz.sizeOf367
 v25:=Tryz.zeroValue367
 t39:=Tryz.underlying134
 a39:=Tryz.isAgg134
 z39:=Tryz.sizeOf134
 v39:=Tryz.zeroValue134
 t45:=Tryz.underlying371
 a45:=Tryz.isAgg371
 z45:=Tryz.sizeOf371
 v45:=Tryz.zeroValue371
 t46:=Tryz.underlying372
 a46:=Tryz.isAgg372
 z46:=Tryz.sizeOf372
 v46:=Tryz.zeroValue372
 t50:=Tryz.underlying104
 a50:=Tryz.isAgg104
 z50:=Tryz.sizeOf104
 v50:=Tryz.zeroValue104
 t53:=Tryz.underlying149
 a53:=Tryz.isAgg149
 z53:=Tryz.sizeOf149
 v53:=Tryz.zeroValue149
 t55:=Tryz.underlying189
 a55:=Tryz.isAgg189
 z55:=Tryz.sizeOf189
 v55:=Tryz.zeroValue189
 t66:=Tryz.underlying377
 a66:=Tryz.isAgg377
 z66:=Tryz.sizeOf377
 v66:=Tryz.zeroValue377
 t70:=Tryz.underlying381
 a70:=Tryz.isAgg381
 z70:=Tryz.sizeOf381
 v70:=Tryz.zeroValue381
 t76:=Tryz.underlying383
 a76:=Tryz.isAgg383
 z76:=Tryz.sizeOf383
 v76:=Tryz.zeroValue383
 t77:=Tryz.underlying59
 a77:=Tryz.isAgg59
 z77:=Tryz.sizeOf59
 v77:=Tryz.zeroValue59 }
end Go.Proofs
namespace Go.Sym
open Go.RowKit
variable[LC]
def bm.data{P:Program}{f:FuncId}{xs:List AV}{r:AV}
  (h:∀(w:World)(G:Gh)(vs:List Value),bj G [] w->ak xs G vs->Calls P f vs.toArray w fun e w'=>∃v,e = .returned v/\aj r G v/\bf w w'):bm P f xs [] r []:=by
 intro w G vs hm hr;refine(h w G vs hm hr).mono ?_;rintro e w' ⟨v,rfl,hv,hs⟩
 refine⟨v,G,rfl,?_,hv⟩;exact(uh hm).extend (new:=[]) (Gh.le.refl G) hs (fun _ _ _ h => .inl h) (fun b o v hv=>by
  have hc:=hm.agree b o v hv;have hlt:=World.block_lt_of_cell? _ _ hc;rw[World.cell?_of_block (w:=w) (hs.block b hlt (fun h=>h))];exact hc) hm.one (fun n bx h=>by cases h) (fun n bx h=>by cases h) (fun n m bx bx' b h=>by cases h)
def bf.of_below{w w':World}(h:Below w.heap.size w w'):bf w w':=⟨h.os,h.tape,h.output,h.size,fun k hk _=>h.block k hk⟩
def bf.refl(w:World):bf w w:=⟨rfl,rfl,rfl,wF _,fun _ _ _=>rfl⟩
def bm.fresh{P:Program}{f:FuncId}{xs:List AV}{τ:Ty}{l:List τ.den}{E:TypeId}
  (h:∀(w:World)(G:Gh)(vs:List Value),bj G [] w->ak xs G vs->Calls P f vs.toArray w fun e w'=>∃ad c us,e = .returned (.slice ad l.length c)/\de w' E τ.sz ad l.length c us/\ak (l.flatMap τ.enc) G.data us/\(∀b,bp ad=some b->w.heap.size<=b)/\bf w w') :
  bm P f xs [] (.own 0) [(0,.row τ l E)]:=by
 intro w G vs hm hr;refine(h w G vs hm hr).mono ?_;rintro e w' ⟨ad,c,us,rfl,hrow,hus,hb,hs⟩
 let G':Gh:={ imm:=G.imm,box:=fun _=>none,own:=fun m=>bif Nat.beq m 0 then some (ad,l.length,c) else none }
 have hself:(G'.own 0)=some (ad,l.length,c):=rfl;have hag:∀b o v,G.imm b o=some v->w'.cell? ⟨b,o,none⟩=some v:=fun b o v hv=>by
  have hc:=hm.agree b o v hv;have hlt:=World.block_lt_of_cell? _ _ hc;rw[World.cell?_of_block (w:=w) (hs.block b hlt (fun h=>h))];exact hc
 have hlt:∀b o v,G.imm b o=some v->b<w.heap.size:=fun b o v hv=>World.block_lt_of_cell? _ _ (hm.agree b o v hv)
 have hlk:∀m b,ae [(0,ag.row τ l E)] m=some b->m=0/\b = .row τ l E:=fun m b hh=>by
  simp[ae]at hh;cases hb:Nat.beq 0 m
  ·rw[hb]at hh;cases hh
  ·rw[hb]at hh;simp at hh;exact⟨(qN hb).symm,hh.symm⟩
 have hat:G'.at 0 (.row τ l E)=bp ad:=by
  simp[Gh.at,hself];cases ad<;>rfl
 refine⟨.slice ad l.length c,G',rfl,⟨⟨hag,hm.one,fun m b hh => ?_,fun m m' b b' c' h1 h2 _ _ => ?_,LC.mono (fun _ _ _ h=>h) (fun b o v h=>hs.block b (hlt b o v h) fun h=>h) hm.tab⟩,⟨hs.os,hs.tape,hs.output,hs.size,fun k hk _=>hs.block k hk fun h=>h⟩,fun _ _ _ h=>h,fun _ _ _ h => .inl h,fun m b c' h1 h2 => ?_,fun _ _ _ h=>(by cases h),fun _ _ _ h=>(by cases h)⟩,ad,l.length,c,hself,rfl⟩
 ·obtain⟨rfl,rfl⟩:=hlk m b hh;refine b9.row hself hrow (ak.data_le (fun _ _ _ h=>h) hus) fun b hb' o => ?_
  cases hq:G.imm b o with|none=>rfl|some v=>have:=hlt b o v hq;have:=hb b hb';omega
 ·obtain⟨rfl,_⟩:=hlk m b h1;obtain⟨rfl,_⟩:=hlk m' b' h2;rfl
 ·obtain⟨rfl,rfl⟩:=hlk m b h1;rw[hat]at h2;exact .inl (hb c' h2)
def q3a{P:Program}{G:Gh}{w:World}(hm:bj G [] w){τ:Ty}{l:List τ.den}{v:Value}(h:aj (.sl τ l) G v) :
  ∃news,(∀w,(Builtin.lenOf v).run P w = .ok l.length w)/\(∀w',(∀k,k<w.heap.size->w'.heap[k]? = w.heap[k]?)->(Builtin.firstCells τ.sz l.length v).run P w' = .ok news.toArray w')/\ak (l.flatMap τ.enc) G.data news/\∀u∈news,u.oneCell'=true:=by
 let s:St:={ n:=0,fr:=[],hp:=[],nx:=0,df:=[] }
 have hr:ai w G.data [] G.data s { tmps:=#[],defers:=[] } w:=
  ⟨⟨[],rfl,rfl⟩,rfl,fun i x h=>(by cases h),fun _ _ _=>⟨rfl,rfl⟩,uh ⟨hm.agree,hm.one,fun _ _ h=>(by cases h),fun _ _ _ _ _ h=>(by cases h),hm.tab⟩⟩
 rcases qay hr (x := .sl τ l) (v:=v) (flat:=l.flatMap τ.enc) (n:=l.length) h rfl with⟨b,hb,_⟩|⟨ad,c,us,rfl,h1,h2,h3⟩
 ·cases hb
 ·refine⟨us,fun w=>by simp[Builtin.lenOf],fun w' hw' => ?_,h1,h2⟩
  have hul:us.length=l.length*τ.sz:=by rw[← h1.length,ij]
  cases ad with
  |none=>
   have:us=[]:=by
    rcases h3 with h3|⟨_,_,h3,_⟩
    ·exact h3
    ·cases h3
   subst this;simp[Builtin.firstCells]
  |some ad=>
   have h3':us=[]\/∃b o,some ad=some (⟨b,o,none⟩:Addr)/\∀j u,us[j]? = some u->w'.cell? ⟨b,o+j,none⟩=some u:=by
    rcases h3 with h3|⟨b,o,h4,h5⟩
    ·exact .inl h3
    ·refine .inr ⟨b,o,h4,fun j u hu => ?_⟩
     have hc:=h5 j u hu;rw[World.cell?_of_block (w:=w) (hw' _ (World.block_lt_of_cell? _ _ hc))];exact hc
   have:=vp (P:=P) (w:=w') (ad:=ad) h3';rw[hul]at this;simp[Builtin.firstCells,this]
def q4i{P:Program}{ops:Array Oper}{rest:List Oper}{o:Oper}{a:Act}{w:World}{Q:Exit->Act->World->Prop}(hgd:o.guard=none)(s x:Operand)(t:TypeId)
  (ho:o.op = .call { callee := .builtin .append,args:=#[s,x],argTypes:=#[t,t] }) {E:TypeId} {sz:Nat} (ht:P.underlying t=some (.slice E)) (hz:gy P E=true) (hsz:cv P E=some sz) (ht2:sc P t=true)
  {ad:Option Addr} {n c:Nat} {us:List Value} (hs:a.eval s = .slice ad n c) (hrow:de w E sz ad n c us) {v:Value} (hx:a.eval x=v) {m:Nat} {news:List Value}
  (ac:∀w,(Builtin.lenOf v).run P w = .ok m w) (hcells:∀w',w'.heap=w.heap->(Builtin.firstCells sz m v).run P w' = .ok news.toArray w') (hnl:news.length=m*sz) (hn1:∀v∈news,v.oneCell'=true) (hmax:n+m<=a8)
  (h:∀ad' c' w',de w' E sz ad' (n+m) c' (us++news)->(bp ad'=bp ad\/∃g,bp ad'=some g/\w.heap.size<=g)->bq (fun b=>bp ad=some b) w w'->wpList P ops Q rest (a.put o.dst (.slice ad' (n+m) c')) w'):wpList P ops Q (o::rest) a w:=by
 obtain⟨i,z,hi,hz',z1,z2,z3,z4,zs⟩:=qbo hz hsz;rw[← zs]at hrow hcells hnl h;refine wpList_plain hgd fun _ hK => ?_
 obtain⟨ad',c',w',r1,r2,r3,r4⟩:=q2z (ty:=o.type) ht hi hz' z1 z2 z3 z4 ht2 hrow ac hcells hnl hn1 hmax;unfold Oper.wp execOp;simp only[ho,resolve,invoke,builtin,Sem.run_bind,Sem.run_pure,Result.andThen_ok,List.map_toArray,List.map_cons,List.map_nil,hs,hx,r1];exact hK _ _ (h ad' c' w' r2 r3 r4)
end Go.Sym
namespace Go.Sym
open Go.Proofs Go.RowKit Go.Sort
open Go.Proofs.Tryz
variable[LC]
def bf.below{w w':World}(h:bf w w'):Below w.heap.size w w':=⟨h.os,h.tape,h.output,h.size,fun k hk=>h.block k hk (fun h=>h)⟩
def bj.still{G:Gh}{w w':World}(hm:bj G [] w)(hs:bf w w'):bj G [] w':=
 have hlt:∀b o v,G.imm b o=some v->w'.heap[b]? = w.heap[b]? := fun b o v hv=>hs.block b (World.block_lt_of_cell? _ _ (hm.agree b o v hv)) (fun h=>h)
 ⟨fun b o v hv=>by rw[World.cell?_of_block (w:=w) (hlt b o v hv)];exact hm.agree b o v hv,hm.one,fun n bx h=>(by cases h),fun n m bx bx' b h=>(by cases h),LC.mono (fun _ _ _ h=>h) hlt hm.tab⟩
def zdp{G:Gh}{w:World}(hm:bj G [] w)(hg:LC.glob 1=some ⟨.int .u64,Lib.pow10Tab⟩)(hs:(1,20)∈LC.sizes):∃t fr,w.heap[1]? = some (.cells (Lib.pow10Tab.map fun z=>Value.int .u64 z).toArray t fr):=by
 obtain⟨_,cs,t,fr,hh,hz⟩:=hm.tab.2.2.2 _ hs;refine⟨t,fr,hh.trans ?_⟩;congr 2;apply Array.ext
 ·rw[hz];simp[Lib.pow10Tab]
 ·intro j h1 h2;have hj:j<Lib.pow10Tab.length:=by simpa using h2
  have h3:=hm.agree _ _ _ (hm.tab.1 _ _ _ hg j _ (List.getElem?_eq_getElem hj));rw[show j*(Ty.int .u64).sz=j from Nat.mul_one j]at h3
  simp only[World.cell?,hh]at h3;rw[Array.getElem?_eq_getElem h1]at h3;simp only[List.getElem_toArray,List.getElem_map];exact qJ h3
def q0u{G:Gh}{w:World}(hm:bj G [] w)(hg:LC.glob 1=some ⟨.int .u64,Lib.pow10Tab⟩)(hs:(1,20)∈LC.sizes)(n:Int)(h0 : -9223372036854775808<=n)(h1:n<=9223372036854775807) :
  Calls Tryz.prog 44 #[.int .i64 n] w fun e w'=>e = .returned (.string ⟨(Lib.itoa n).toArray⟩)/\bf w w':=
 (Any.strconv_Itoa Tryz.laysM171 n h0 h1 w (by
  unfold Lib.TabIs World.var?;obtain⟨t,fr,hh⟩:=zdp hm hg hs;rw[show Tryz.prog.globalNamed _=some 1 by kernel_rfl,qB,hh])).mono fun e w'⟨he,k,os,hw⟩=>⟨he,by
   subst hw;refine⟨rfl,rfl,rfl,by simp[grow],fun j hj _ => ?_⟩
   show(w.heap++os)[j]? = _;rw[Array.getElem?_append_left hj]⟩
def qe5:IF:=⟨.fn 44,[.h (.int .i64)],[],_,RS.mk (.h .str) []⟩
def qok(hg:LC.glob 1=some ⟨.int .u64,Lib.pow10Tab⟩)(hs:(1,20)∈LC.sizes):(qe5.e jk).Sound Tryz.prog:=fun d d' r h=>by
 have h:jk d.1=some r:=h;unfold jk at h;cases hd:decide (-9223372036854775808<=(show Int from d.1)/\(show Int from d.1)<=9223372036854775807)<;>rw[hd]at h<;>simp only[qT,qF,reduceCtorEq]at h
 have h:=qJ h;subst h;have hd:=of_decide_eq_true hd;refine⟨call44,bm.data fun w G vs hm hr => ?_⟩
 match vs,hr with
 |[v],⟨h1,_⟩=>
  have h1:v = .int .i64 d.1:=h1;subst h1;exact(q0u hm hg hs _ hd.1 hd.2).mono fun e w'⟨he,hw⟩=>⟨_,he,rfl,hw⟩
def zb4{G:Gh}{w:World}(hm:bj G [] w)(hi:0∈LC.ints){a b:Bs}{u v:Value}(hu:aj (.sl .byte a) G u)(hv:aj (.sl .byte b) G v)(h2:2<=b.length)(hb:b.length<=maxLen)(ha:a.length<4294967281) :
  Calls Tryz.prog 175 #[u,v] w fun e w'=>e = .returned (.int .i64 (Lib.index a b))/\bf w w':=by
 obtain⟨p,c,rfl,hc,hp⟩:fb 1 (Ty.byte.At G.imm) a u:=hu;obtain⟨q,d,rfl,hd,hq⟩:fb 1 (Ty.byte.At G.imm) b v:=hv;by_cases hlt:a.length<b.length
 ·have h:=Any.bytes_Index_longer Tryz.lays185 p q a.length c b.length d w h2 hlt (by unfold maxLen at hb;omega)
  rw[Lib.index_past (i:=0) (by intro e;subst e;simp at h2) (fun j hj=>absurd hj (Nat.not_lt_zero _)) (by simpa using hlt)]
  exact h.mono fun e w'⟨he,hw⟩=>⟨he,by subst hw;exact bf.refl _⟩
 ·rcases hp with rfl|⟨g,o,rfl,hcells⟩
  ·exact absurd (show([]:Bs).length<b.length from by show 0<_;omega) hlt
  rcases hq with rfl|⟨g',o',rfl,hcells'⟩
  ·exact absurd h2 (by show ¬2<=0;omega)
  obtain⟨k,hk⟩:=hm.tab.2.1 _ hi;have hk:=hm.agree _ _ _ hk;have bb:∀l:Bs,Lib.bytesOf (l.map fun x=>(x.toNat:Int))=l:=fun l=>by
   unfold Lib.bytesOf;rw[List.map_map];have:((fun n:Int=>UInt8.ofNat n.toNat) ∘ fun x:UInt8=>(x.toNat:Int))=id:=by funext x;simp
   rw[this,List.map_id]
  have cl:∀(l:Bs)(g o:Nat),(∀(j:Nat)(x:UInt8),l[j]? = some x->Ty.byte.At G.imm x g (o+j*1))->∀i,i<l.length->w.cell? ((⟨g,o,none⟩:Addr).add i)=some (.int .u8 ((l.map fun x=>(x.toNat:Int)).getD i 0)):=fun l g o h i hi=>by
   have h1:G.imm g (o+i*1)=some (.int .u8 l[i].toNat):=h i _ (List.getElem?_eq_getElem hi);have h1:=hm.agree _ _ _ h1;rw[Nat.mul_one]at h1;rw[Lib.add_plain',h1];simp[List.getD_eq_getElem?_getD,hi]
  have rg:∀l:Bs,∀x∈l.map (fun x=>(x.toNat:Int)),0<=x/\x<256:=fun l x hx=>by
   obtain⟨c,_,rfl⟩:=List.mem_map.1 hx;have:=c.toNat_lt;omega
  have h:=Any.bytes_Index_at Tryz.lays185 ⟨g,o,none⟩ ⟨g',o',none⟩ a.length c b.length d (a.map fun x=>(x.toNat:Int)) (b.map fun x=>(x.toNat:Int)) k w oC oC (rg a) (rg b) (cl a g o hcells) (cl b g' o' hcells') hc ha (by unfold maxLen at hb;omega) hk
  rw[bb,bb]at h;exact h.mono fun e w'⟨he,n,hw⟩=>⟨he,by subst hw;exact⟨rfl,rfl,rfl,wF _,fun _ _ _=>rfl⟩⟩
def qm7:IF:=⟨.fn 175,[.h (.list .byte),.h (.list .byte)],[],_,RS.mk (.h (.int .i64)) []⟩
def qyy(hi:0∈LC.ints):(qm7.e qh).Sound Tryz.prog:=fun d d' r h=>by
 obtain⟨a,b,_⟩:=d;have h:qh a b=some r:=h;unfold qh at h;cases hd:decide (2<=List.length (α:=UInt8) b/\List.length (α:=UInt8) a<4294967281/\List.length (α:=UInt8) b<=maxLen)<;>rw[hd]at h<;>simp only[qT,qF,reduceCtorEq]at h
 have h:=qJ h;subst h;have hd:=of_decide_eq_true hd;refine⟨call175,bm.data fun w G vs hm hr => ?_⟩
 match vs,hr with
 |[u,v],⟨h1,h2,_⟩=>
  exact(zb4 hm hi h1 h2 hd.1 hd.2.2 hd.2.1).mono fun e w'⟨he,hw⟩=>⟨_,he,rfl,hw⟩
end Go.Sym
namespace Go.Sym
open Go.Proofs Go.RowKit Go.Sort
variable[LC]
def bf.trans{w w1 w2:World}(h:bf w w1)(k:bf w1 w2):bf w w2:=
 ⟨k.os.trans h.os,k.tape.trans h.tape,k.output.trans h.output,Nat.le_trans h.size k.size,fun j hj _=>(k.block j (Nat.lt_of_lt_of_le hj h.size) (fun h=>h)).trans (h.block j hj (fun h=>h))⟩
def q9r{l:Bs}{v:Int}(h:Lib.atoiAll l = .ok v) : -9223372036854775808<=v/\v<=9223372036854775807:=by
 unfold Lib.atoiAll at h;split at h
 ·cases h
 ·simp only at h;split at h
  ·cases h
  ·cases h
  ·split at h
   ·cases h
   ·split at h
    ·cases h
    ·rename_i h1 h2;injection h with h
     split at h<;>rename_i h3
     ·simp only[h3,not_true_eq_false,false_and,true_and]at h1 h2;omega
     ·simp only[h3,not_false_eq_true,true_and,false_and]at h1 h2;omega
def zdc{G:Gh}{w:World}(hm:bj G [] w)(hg:LC.glob 1=some ⟨.int .u64,Lib.pow10Tab⟩)(hs:(1,20)∈LC.sizes)(h1:2∈LC.ifs)(h2:3∈LC.ifs)(s:Bs)(most:Int)(hl:s.length<=281474976710656) :
  Calls Tryz.prog 273 #[.string ⟨s.toArray⟩,.int .i64 most] w fun e w'=>e = .returned (.tuple #[.int .i64 (qfe s most).1,.bool (qfe s most).2])/\bf w w':=by
 have hsz:(⟨s.toArray⟩:ByteArray).size=s.length:=jh s;have hd:(⟨s.toArray⟩:ByteArray).data.toList=s:=oC
 have bw:∀t:ByteArray,bf w (Lib.bytesWorld w 5 t):=fun t=>by
  refine⟨rfl,rfl,rfl,?_,fun j hj _ => ?_⟩
  ·simp[Lib.bytesWorld,World.freeze]
  ·show((w.heap.push _).modify w.heap.size _)[j]? = _;rw[Array.getElem?_modify,qW,Array.getElem?_push_lt oA]
   exact(Array.getElem?_eq_getElem hj).symm
 have bad:(Calls Tryz.prog 83 #[.string ⟨s.toArray⟩] w fun e w'=>(∃n t v,e = .returned (.tuple #[.int .i64 n,.iface t v]))/\bf w w') ->
   Calls Tryz.prog 273 #[.string ⟨s.toArray⟩,.int .i64 most] w fun e w'=>e = .returned (.tuple #[.int .i64 0,.bool false])/\bf w w':=fun cA=>by
  clear hg hs hm
  go_enter Tryz.func273,Tryz.ntmps273
  go_wp2_with (go_at_call 83;refine cA.mono ?_;rintro e wa ⟨⟨n,t,v,rfl⟩,sa⟩)
  all_goals (clear cA;go_ret2;exact⟨rfl,sa⟩)
 unfold qfe
 cases hA:Lib.atoiAll s with
 |ok v=>
  obtain⟨b1,b2⟩:=q9r hA;have cA:Calls Tryz.prog 83 #[.string ⟨s.toArray⟩] w fun e w'=>e = .returned (.tuple #[.int .i64 v,.nilIface])/\bf w w':=
   (Any.strconv_Atoi_ok Tryz.laysC172 ⟨s.toArray⟩ oA v (by rw[hd];exact hA) w).mono fun e w'⟨he,hw⟩=>⟨he,by
    rcases hw with rfl|⟨t,rfl⟩
    ·exact bf.refl _
    ·exact bw t⟩
  have cI:∀w',bf w w'->Calls Tryz.prog 44 #[.int .i64 v] w' fun e w''=>e = .returned (.string ⟨(Lib.itoa v).toArray⟩)/\bf w' w'':=fun w' h=>q0u (hm.still h) hg hs v b1 b2
  have hse:(⟨(Lib.itoa v).toArray⟩:ByteArray)=⟨s.toArray⟩↔Lib.itoa v=s:=by
   constructor
   ·intro h;have:=congrArg (fun x:ByteArray=>x.data.toList) h;simpa using this
   ·intro h;rw[h]
  show Calls Tryz.prog 273 _ w fun e w'=>e = .returned (.tuple #[.int .i64 (if Lib.itoa v=s/\0<=v/\v<=most then(v,true) else(0,false)).1,.bool (if Lib.itoa v=s/\0<=v/\v<=most then(v,true) else(0,false)).2])/\bf w w'
  generalize Lib.itoa v=t at cI hse ⊢;obtain⟨r,hr⟩:∃r,r=(if t=s/\0<=v/\v<=most then(v,true) else(0,false)):=⟨_,rfl⟩
  rw[← hr];clear hA hg hs hm
  go_enter Tryz.func273,Tryz.ntmps273
  go_wp2_with (first|(go_at_call 83;refine cA.mono ?_;rintro e wa ⟨rfl,sa⟩)|(go_at_call 44;refine(cI _ (by assumption)).mono ?_;rintro e wb ⟨rfl,sb⟩))
  all_goals (clear cA cI;go_ret2)
  all_goals (by_cases q:t=s/\0<=v/\v<=most)
  all_goals first
   |(rw[qX q]at hr;subst hr;first|exact⟨rfl,sa.trans sb⟩|(exfalso;omega)|(exfalso;exact absurd q.1 (by assumption)))
   |(rw[qW q]at hr;subst hr;first|exact⟨rfl,sa.trans sb⟩|(exfalso;exact q ⟨by assumption,oA,oA⟩))
 |range=>
  obtain⟨te,pe,hv⟩:=hm.tab.2.2.1 _ h2;have cA:Calls Tryz.prog 83 #[.string ⟨s.toArray⟩] w fun e w'=>(∃n t v,e = .returned (.tuple #[.int .i64 n,.iface t v]))/\bf w w':=
   (Any.strconv_Atoi_range Tryz.laysC172 ⟨s.toArray⟩ oA (by rw[hd];exact hA) _ w (hm.agree _ _ _ hv) (.inr ⟨_,_,rfl⟩)).mono fun e w'⟨N,he,_,_,hw⟩=>⟨⟨_,_,_,he⟩,bf.of_below hw⟩
  exact bad cA
 |_=>
  obtain⟨te,pe,hv⟩:=hm.tab.2.2.1 _ h1;have cA:Calls Tryz.prog 83 #[.string ⟨s.toArray⟩] w fun e w'=>(∃n t v,e = .returned (.tuple #[.int .i64 n,.iface t v]))/\bf w w':=
   (Any.strconv_Atoi_syntax Tryz.laysC172 ⟨s.toArray⟩ oA (by rw[hd];exact hA) _ w (hm.agree _ _ _ hv) (.inr ⟨_,_,rfl⟩)).mono fun e w'⟨N,he,_,_,hw⟩=>⟨⟨_,_,_,he⟩,bf.of_below hw⟩
  exact bad cA
def q1r:IF:=⟨.fn 273,[.h .str,.h (.int .i64)],[],_,RS.mk (.tup [.h (.int .i64),.h .bool]) []⟩
def zdd(hg:LC.glob 1=some ⟨.int .u64,Lib.pow10Tab⟩)(hs:(1,20)∈LC.sizes)(h1:2∈LC.ifs)(h2:3∈LC.ifs):(q1r.e xi).Sound Tryz.prog:=fun d d' r h=>by
 obtain⟨s,most,_⟩:=d;have h:xi s most=some r:=h;unfold xi at h;cases hd:decide (List.length (α:=UInt8) s<=281474976710656)<;>rw[hd]at h<;>simp only[qT,qF,reduceCtorEq]at h
 have h:=qJ h;subst h;refine⟨Tryz.call273,bm.data fun w G vs hm hr => ?_⟩
 match vs,hr with
 |[u,v],⟨e1,e2,_⟩=>
  have e1:u = .string ⟨List.toArray s⟩:=e1;have e2:v = .int .i64 most:=e2;subst e1 e2;exact(zdc hm hg hs h1 h2 s most (of_decide_eq_true hd)).mono fun e w'⟨he,hw⟩=>⟨_,he,⟨_,rfl,rfl,rfl,trivial⟩,hw⟩
end Go.Sym
namespace Go.Sym
open Go.Proofs Go.RowKit
variable[LC]
def qez(w:World)(o:Obj){k:Nat}(hk:k<w.heap.size):(w.alloc o).heap[k]? = w.heap[k]? := by
 show(w.heap.push _)[k]? = _;rw[Array.getElem?_push_lt hk];exact(Array.getElem?_eq_getElem hk).symm
def q2v(w:World)(E:TypeId)(sz:Nat):de (w.alloc (.cells #[] E)) E sz (some ⟨w.heap.size,0,none⟩) 0 0 []:=
 ⟨oC,.inr ⟨w.heap.size,#[],(0,0),rfl,by show(w.heap.push _)[w.heap.size]? = _;simp,.inl rfl,wF _,by unfold maxLen;omega,oC,oC,oC⟩⟩
def zal(l:List (.prod .str .str:Ty).den)(hd:l.length<=a8):bm Tryz.prog 133 [.sl (.prod .str .str) l] [] (.own 0) [(0,.row (.prod .str .str) l 41)]:=by
 refine bm.fresh fun w G vs hm hr => ?_
 match vs,hr with
 |[v],⟨h1,_⟩=>
  obtain⟨news,k1,k2,k3,k4⟩:=q3a (P:=Tryz.prog) hm h1;have hnl:news.length=l.length*(.prod .str .str:Ty).sz:=by rw[← k3.length];exact ij l
  obtain⟨p,c,rfl,hc,hp⟩:fb (.prod .str .str:Ty).sz ((.prod .str .str:Ty).At G.imm) l v:=h1
  cases p with
  |none=>
   have hl:l=[]:=by
    rcases hp with h|⟨_,_,h,_⟩
    ·exact h
    ·cases h
   subst hl;have e0:news=[]:=List.eq_nil_of_length_eq_zero (by rw[hnl];exact Nat.zero_mul _)
   subst e0;have hg:Calls Tryz.prog 133 #[.slice none 0 c] w fun e w'=>e = .returned (.slice none 0 0)/\w'=w:=by
    clear hp hr k1 k2 hm hnl hc hd k3 k4;have q22:∀(w:World)(a:Option Addr)(n c n' c':Nat),(binOp .eql 42 (.slice a n c) (.slice none n' c')).run Tryz.prog w = .ok (.bool a.isNone) w:=fun w a n c n' c'=>Lib.run_eql_slice_nil w _ _ a n c n' c' Tryz.underlying42
    have u22:∀w,Sem.run Tryz.prog (underlying 42) w = .ok (TypeDesc.slice 41) w:=run_underlying Tryz.underlying42
    go_enter Tryz.func133,Tryz.ntmps133
    go_wp2
    go_ret
    exact⟨rfl,rfl⟩
   exact hg.mono fun e w'⟨he,hw⟩=>⟨none,0,[],he,⟨rfl,.inl ⟨rfl,rfl,rfl⟩⟩,k3,fun b hb=>(by cases hb),by subst hw;exact bf.refl _⟩
  |some ad=>
   generalize hn:l.length=n at *;have hg:Calls Tryz.prog 133 #[.slice (some ad) n c] w fun e w'=>∃ad' c',e = .returned (.slice ad' n c')/\de w' 41 (.prod .str .str:Ty).sz ad' n c' news/\(∀b,bp ad'=some b->w.heap.size<=b)/\bf w w':=by
    clear hm k3 hr hp hn;have q22:∀(w:World)(a:Option Addr)(n c n' c':Nat),(binOp .eql 42 (.slice a n c) (.slice none n' c')).run Tryz.prog w = .ok (.bool a.isNone) w:=fun w a n c n' c'=>Lib.run_eql_slice_nil w _ _ a n c n' c' Tryz.underlying42
    have u22:∀w,Sem.run Tryz.prog (underlying 42) w = .ok (TypeDesc.slice 41) w:=run_underlying Tryz.underlying42
    go_enter Tryz.func133,Tryz.ntmps133
    go_wp2_with (at_builtin;refine q4i rfl _ _ 42 rfl (E:=41) (sz:=(.prod .str .str:Ty).sz) oB oB oB oB rfl (q2v w 41 _) rfl k1 ?qc hnl k4 oA ?_)
    case qc=>exact fun w' hw'=>k2 w' fun k hk=>by rw[hw'];exact qez w _ hk
    intro ad' c' w1 hrow hblk hbel
    go_wp2
    go_ret
    refine⟨ad',c',rfl,by simpa using hrow,fun b hb => ?_,⟨hbel.os,hbel.tape,hbel.output,Nat.le_trans (by show w.heap.size<=(w.heap.push _).size;simp) hbel.size,fun k hk _ => ?_⟩⟩
    ·rcases hblk with h|⟨g,h,hg⟩
     ·rw[h]at hb;injection hb with hb;have hb:w.heap.size=b:=hb;omega
     ·rw[h]at hb;injection hb with hb
      have:w.heap.size<=(w.alloc (.cells #[] 41)).heap.size:=by show w.heap.size<=(w.heap.push _).size;simp
      omega
    ·rw[hbel.block k (by show k<(w.heap.push _).size;simp;omega) (fun e=>by injection e with e;have e:w.heap.size=k:=e;omega)]
     exact qez w _ hk
   exact hg.mono fun e w'⟨ad',c',he,hrow,hb,hs⟩=>⟨ad',c',news,he,hrow,k3,hb,hs⟩
def qd0:IF:=⟨.fn 133,[.h (.list (.prod .str .str))],[],_,RS.mk (.own 0) [(0,.row (.prod .str .str) 41)]⟩
def qnf:(qd0.e (gz (α:=(.prod .str .str:Ty).den))).Sound Tryz.prog:=fun d d' r h=>by
 obtain⟨l,_⟩:=d;have h:(bif decide (List.length (α:=(.prod .str .str:Ty).den) l<=a8) then some (show List (.prod .str .str:Ty).den from l) else none)=some r:=h
 cases hd:decide (List.length (α:=(.prod .str .str:Ty).den) l<=a8)<;>rw[hd]at h<;>simp only[qT,qF,reduceCtorEq]at h
 have h:=qJ h;subst h;exact⟨Tryz.call133,zal l (of_decide_eq_true hd)⟩
def zam(l:List (.byte:Ty).den)(hd:l.length<=a8):bm Tryz.prog 134 [.sl (.byte) l] [] (.own 0) [(0,.row (.byte) l 5)]:=by
 refine bm.fresh fun w G vs hm hr => ?_
 match vs,hr with
 |[v],⟨h1,_⟩=>
  obtain⟨news,k1,k2,k3,k4⟩:=q3a (P:=Tryz.prog) hm h1;have hnl:news.length=l.length*(.byte:Ty).sz:=by rw[← k3.length];exact ij l
  obtain⟨p,c,rfl,hc,hp⟩:fb (.byte:Ty).sz ((.byte:Ty).At G.imm) l v:=h1
  cases p with
  |none=>
   have hl:l=[]:=by
    rcases hp with h|⟨_,_,h,_⟩
    ·exact h
    ·cases h
   subst hl;have e0:news=[]:=List.eq_nil_of_length_eq_zero (by rw[hnl];exact Nat.zero_mul _)
   subst e0;have hg:Calls Tryz.prog 134 #[.slice none 0 c] w fun e w'=>e = .returned (.slice none 0 0)/\w'=w:=by
    clear hp hr k1 k2 hm hnl hc hd k3 k4;have q22:∀(w:World)(a:Option Addr)(n c n' c':Nat),(binOp .eql 43 (.slice a n c) (.slice none n' c')).run Tryz.prog w = .ok (.bool a.isNone) w:=fun w a n c n' c'=>Lib.run_eql_slice_nil w _ _ a n c n' c' Tryz.underlying43
    have u22:∀w,Sem.run Tryz.prog (underlying 43) w = .ok (TypeDesc.slice 5) w:=run_underlying Tryz.underlying43
    go_enter Tryz.func134,Tryz.ntmps134
    go_wp2
    go_ret
    exact⟨rfl,rfl⟩
   exact hg.mono fun e w'⟨he,hw⟩=>⟨none,0,[],he,⟨rfl,.inl ⟨rfl,rfl,rfl⟩⟩,k3,fun b hb=>(by cases hb),by subst hw;exact bf.refl _⟩
  |some ad=>
   generalize hn:l.length=n at *;have hg:Calls Tryz.prog 134 #[.slice (some ad) n c] w fun e w'=>∃ad' c',e = .returned (.slice ad' n c')/\de w' 5 (.byte:Ty).sz ad' n c' news/\(∀b,bp ad'=some b->w.heap.size<=b)/\bf w w':=by
    clear hm k3 hr hp hn;have q22:∀(w:World)(a:Option Addr)(n c n' c':Nat),(binOp .eql 43 (.slice a n c) (.slice none n' c')).run Tryz.prog w = .ok (.bool a.isNone) w:=fun w a n c n' c'=>Lib.run_eql_slice_nil w _ _ a n c n' c' Tryz.underlying43
    have u22:∀w,Sem.run Tryz.prog (underlying 43) w = .ok (TypeDesc.slice 5) w:=run_underlying Tryz.underlying43
    go_enter Tryz.func134,Tryz.ntmps134
    go_wp2_with (at_builtin;refine q4i rfl _ _ 43 rfl (E:=5) (sz:=(.byte:Ty).sz) oB oB oB oB rfl (q2v w 5 _) rfl k1 ?qc hnl k4 oA ?_)
    case qc=>exact fun w' hw'=>k2 w' fun k hk=>by rw[hw'];exact qez w _ hk
    intro ad' c' w1 hrow hblk hbel
    go_wp2
    go_ret
    refine⟨ad',c',rfl,by simpa using hrow,fun b hb => ?_,⟨hbel.os,hbel.tape,hbel.output,Nat.le_trans (by show w.heap.size<=(w.heap.push _).size;simp) hbel.size,fun k hk _ => ?_⟩⟩
    ·rcases hblk with h|⟨g,h,hg⟩
     ·rw[h]at hb;injection hb with hb;have hb:w.heap.size=b:=hb;omega
     ·rw[h]at hb;injection hb with hb
      have:w.heap.size<=(w.alloc (.cells #[] 5)).heap.size:=by show w.heap.size<=(w.heap.push _).size;simp
      omega
    ·rw[hbel.block k (by show k<(w.heap.push _).size;simp;omega) (fun e=>by injection e with e;have e:w.heap.size=k:=e;omega)]
     exact qez w _ hk
   exact hg.mono fun e w'⟨ad',c',he,hrow,hb,hs⟩=>⟨ad',c',news,he,hrow,k3,hb,hs⟩
def qng:IF:=⟨.fn 134,[.h (.list (.byte))],[],_,RS.mk (.own 0) [(0,.row (.byte) 5)]⟩
def qzd:(qng.e (gz (α:=(.byte:Ty).den))).Sound Tryz.prog:=fun d d' r h=>by
 obtain⟨l,_⟩:=d;have h:(bif decide (List.length (α:=(.byte:Ty).den) l<=a8) then some (show List (.byte:Ty).den from l) else none)=some r:=h
 cases hd:decide (List.length (α:=(.byte:Ty).den) l<=a8)<;>rw[hd]at h<;>simp only[qT,qF,reduceCtorEq]at h
 have h:=qJ h;subst h;exact⟨Tryz.call134,zam l (of_decide_eq_true hd)⟩
end Go.Sym
namespace Go.Sym
open Go.Proofs Go.RowKit Go.Sort
variable[LC]
def bm.inPlaceA{ys:List AV}{P:Program}{f:FuncId}{τ:Ty}{l l':List τ.den}{E:TypeId}(ac:l'.length=l.length)(h:∀(w:World)(G:Gh)(ad:Option Addr)(c:Nat)(us vs:List Value),de w E τ.sz ad l.length c us->ak (l.flatMap τ.enc) G.data us->ak ys G vs ->
  Calls P f (Value.slice ad l.length c::vs).toArray w fun e w'=>e = .returned (.tuple #[])/\∃us',de w' E τ.sz ad l.length c us'/\ak (l'.flatMap τ.enc) G.data us'/\bq (fun b=>bp ad=some b) w w') :
  bm P f (.own 0::ys) [(0,.row τ l E)] (.tup []) [(0,.row τ l' E)]:=by
 intro w G vs hm hreps;have hl:ae [(0,ag.row τ l E)] 0=some (.row τ l E):=rfl;obtain⟨ad,c,us,h1,h3,h4,h5⟩:=(hm.holds 0 _ hl).rowAt
 match vs,hreps with
 |v::vs,hreps=>
  obtain⟨⟨a',n',c',q1,rfl⟩,hys⟩:=hreps;rw[h1]at q1;simp at q1;obtain⟨rfl,rfl,rfl⟩:=q1;refine(h w G ad c us vs h3 h4 hys).mono ?_;rintro e w' ⟨rfl,us',r1,r2,r3⟩
  refine⟨_,G,rfl,?_,#[],rfl,trivial⟩;have hself:=uh hm;have hbox:b9 G w' 0 (.row τ l' E):=b9.row (by rw[ac];exact h1) (by rw[ac];exact r1) r2 (fun b hb=>h5 b hb)
  cases had:bp ad with
  |none=>
   have hst:bf w w':=⟨r3.os,r3.tape,r3.output,r3.size,fun k hk _=>r3.block k hk (fun e=>by rw[had]at e;cases e)⟩
   have hf:=hself.extend (new:=[]) (Gh.le.refl G) hst (fun _ _ _ h => .inl h) (fun b o v hv=>by
    have hc:=hm.agree b o v hv;have hlt:=World.block_lt_of_cell? _ _ hc;rw[World.cell?_of_block (w:=w) (hst.block b hlt (fun h=>h))];exact hc) hm.one (fun n bx h=>by cases h) (fun n bx h=>by cases h) (fun n m bx bx' b h=>by cases h)
   have hlk:∀m b,ae [(0,ag.row τ l' E)] m=some b->m=0/\b = .row τ l' E:=fun m b hh=>by
    simp[ae]at hh;cases hb:Nat.beq 0 m
    ·rw[hb]at hh;cases hh
    ·rw[hb]at hh;simp at hh;exact⟨(qN hb).symm,hh.symm⟩
   have hat:G.at 0 (.row τ l' E)=none:=by
    simp[Gh.at,h1]
    cases ad with|none=>rfl|some a=>cases had
   refine⟨⟨hf.mem.agree,hf.mem.one,fun m b hh => ?_,fun m m' b b' c h1 h2 h3 _ => ?_,hf.mem.tab⟩,hf.bel,hf.imm_le,hf.imm_new,fun m b c h1 h2 => ?_,hf.keep,hf.keepOwn⟩
   ·obtain⟨rfl,rfl⟩:=hlk m b hh;exact hbox
   ·obtain⟨rfl,_⟩:=hlk m b h1;obtain⟨rfl,_⟩:=hlk m' b' h2;rfl
   ·obtain⟨rfl,rfl⟩:=hlk m b h1;rw[hat]at h2;cases h2
  |some B=>
   have hat:∀l:List τ.den,G.at 0 (.row τ l E)=some B:=fun l=>by
    simp[Gh.at,h1]
    cases ad with
    |none=>cases had
    |some a=>exact had
   have hf:=hself.update (bx' := .row τ l' E) hl (hat l) (hat l') ⟨r3.os,r3.tape,r3.output,r3.size,fun k hk hne=>r3.block k hk (fun e=>by rw[had]at e;injection e with e;exact hne e.symm)⟩ hbox (h5 B had)
   have hlk:∀m b,ae [(0,ag.row τ l' E)] m=some b->ae (mc [(0,ag.row τ l E)] 0 (.row τ l' E)) m=some b:=fun m b hh=>by
    simp[ae]at hh;simp[mc,ae];cases hb:Nat.beq 0 m
    ·rw[hb]at hh;cases hh
    ·rw[hb]at hh;exact hh
   exact⟨⟨hf.mem.agree,hf.mem.one,fun m b hh=>hf.mem.holds m b (hlk m b hh),fun m m' b b' c h1 h2 h3 h4=>hf.mem.apart m m' b b' c (hlk _ _ h1) (hlk _ _ h2) h3 h4,hf.mem.tab⟩,hf.bel,hf.imm_le,hf.imm_new,fun m b c h1 h2=>hf.base m b c (hlk _ _ h1) h2,hf.keep,hf.keepOwn⟩
 |[],hreps=>exact hreps.elim
def zds(w:World)(n g:Nat)(d:Array Value)(os:Array Obj)(k:Nat)(hk:k<w.heap.size)(hne:k≠g):(grow (putRow id (Sort.ahead w n) g 0 d) os).heap[k]? = w.heap[k]? := by
 show((w.heap.modify g (onCells (putCells id 0 d)))++os)[k]? = _;rw[Array.getElem?_append_left (by simpa using hk),Array.getElem?_modify,qW]
def zdt(w:World)(n g:Nat)(d:Array Value)(os:Array Obj){cur:Array Value}{e:TypeId}{fr:Nat×Nat}(hh:w.heap[g]? = some (.cells cur e fr)) :
  (grow (putRow id (Sort.ahead w n) g 0 d) os).heap[g]? = some (.cells (putCells id 0 d cur) e fr):=by
 have hg:g<w.heap.size:=(Array.getElem?_eq_some_iff.1 hh).1;show((w.heap.modify g (onCells (putCells id 0 d)))++os)[g]? = _;rw[Array.getElem?_append_left (by simpa using hg),Array.getElem?_modify,qX rfl,hh]
 rfl
def zdv(zs:List Value)(cur:Array Value)(h:zs.length<=cur.size):(putCells id 0 zs.toArray cur).toList.take zs.length=zs:=by
 apply List.ext_getElem?;intro j;rw[List.getElem?_take];by_cases hj:j<zs.length
 ·rw[qX hj,Array.getElem?_toList];unfold putCells;rw[Array.getElem?_mapIdx,Array.getElem?_eq_getElem oA]
  simp[hj]
 ·rw[qW hj];exact(List.getElem?_eq_none oA).symm
def zdu(w:World)(n g:Nat)(d:Array Value)(os:Array Obj):w.heap.size<=(grow (putRow id (Sort.ahead w n) g 0 d) os).heap.size:=by
 show w.heap.size<=((w.heap.modify g (onCells (putCells id 0 d)))++os).size;simp
def zdr(zs:List Value)(cur:Array Value)(v:Value)(hv:v∈(putCells id 0 zs.toArray cur).toList):v∈cur.toList\/v∈zs:=by
 unfold putCells at hv;rw[Array.mem_toList_iff,Array.mem_mapIdx]at hv;obtain⟨j,hj,rfl⟩:=hv;split
 ·rename_i hj2;have hj3:j<zs.length:=by simpa using hj2
  refine .inr ?_;simp[hj3]
 ·exact .inl oC
end Go.Sym
namespace Go.Sym
open Go.Proofs Go.RowKit Go.Sort
variable[LC]
def qz8{α:Type}[Inhabited α](enc:α->List Value)(k:Nat)(hk:∀x,(enc x).length=k)(l:List α):flatK enc k l.toArray=(l.flatMap enc).toArray:=by
 have key:∀(l:List α)(t:Nat),t<l.length*k->(l.flatMap enc)[t]? = some ((enc l[t/k]!)[t%k]!):=by
  intro l
  induction l with
  |nil=>intro t ht;simp at ht|cons x l ih=>
   intro t ht;have k0:0<k:=by
    rcases Nat.eq_zero_or_pos k with h|h;· subst h;simp at ht
    ·exact h
   rw[List.flatMap_cons];by_cases h:t<k
   ·rw[List.getElem?_append_left (by rw[hk];exact h),Nat.div_eq_of_lt h,Nat.mod_eq_of_lt h,List.getElem?_eq_getElem (by rw[hk];exact h)]
    simp[hk,h]
   ·rw[List.getElem?_append_right (by rw[hk];omega),hk,ih (t-k) (by rw[qL,Nat.add_mul,Nat.one_mul]at ht;omega)]
    obtain⟨u,rfl⟩:∃u,t=u+k:=⟨t-k,oA⟩
    rw[Nat.add_sub_cancel,Nat.add_mod_right,Nat.add_div_right _ k0];simp
 have ac:(l.flatMap enc).length=l.length*k:=by
  clear key
  induction l with|nil=>simp|cons x l ih=>rw[List.flatMap_cons,qM,hk,ih,qL,Nat.add_mul,Nat.one_mul,Nat.add_comm]
 refine ext_get! (by simp[ac]) fun t ht => ?_
 have ht':t<l.length*k:=by simpa using ht
 rw[get_flatK enc k l.toArray t (by simpa using ht')]
 have:=key l t ht';simp only[List.getElem!_toArray];rw[List.getElem!_eq_getElem?_getD (l:=l.flatMap enc),this];rfl
def dc(x:Pq):List Value:=[.string ⟨x.1.1.toArray⟩,.int .i64 x.1.2.1,.bool x.1.2.2.1,.string ⟨x.1.2.2.2.toArray⟩]
def q3q:SWO (ltOf jy):=by
 have e:∀x y:Pq,ltOf jy x y=decide (x.1.2.1<y.1.2.1):=fun x y=>by
  have:=x.2;have:=y.2;unfold ltOf jy;have h:af (x.1.2.1-y.1.2.1)=x.1.2.1-y.1.2.1:=by unfold af;simp[IntKind.wrap,IntKind.bits,IntKind.signed];omega
  rw[h];by_cases q:x.1.2.1<y.1.2.1<;>simp[q]<;>omega
 exact⟨fun x=>by rw[e];simp,fun x y z h1 h2=>by rw[e]at *;simp at *;omega,fun x y z h1 h2=>by rw[e]at *;simp at *;omega⟩
set_option maxHeartbeats 1000000 in
def zao(x y:Pq)(W:World):Calls Tryz.prog 286 #[.agg (dc x).toArray,.agg (dc y).toArray] W fun e w'=>e = .returned (.int .i64 (jy x y))/\∃q os',w'=grow (W.drewN q) os':=by
 unfold dc jy;obtain⟨⟨a,n,s,v⟩,hx⟩:=x;obtain⟨⟨a',n',s',v'⟩,hy⟩:=y;simp only;have hw:af (n-n')=wrap64 (n-n'):=by show IntKind.i64.wrap (n-n')=_;rw[IntKind.wrap_i64];unfold Go.RowKit.wrap64;rfl
 rw[hw];clear hx hy hw
 go_enter Tryz.func286,Tryz.ntmps286
 go_wp2
 go_ret
 exact⟨rfl,0,_,by rw[alloc_eq_grow,alloc_eq_grow,grow_grow];rfl⟩
abbrev τQ:Ty := .prod .str (.prod (.int .i64) (.prod .bool .str))
def q2o{G:Gh}:∀{l:List Pq}{us:List Value},ak (List.flatMap (β:=AV) τQ.enc (l.map (·.1))) G us->us=l.flatMap dc
 |[],[],_=>rfl|[],_::_,h=>h.elim|x::l,us,h=>by
  match us,h with
  |a::b::c::d::us,h=>
   have h1:a = .string ⟨x.1.1.toArray⟩:=h.1;have h2:b = .int .i64 x.1.2.1:=h.2.1;have h3:c = .bool x.1.2.2.1:=h.2.2.1;have h4:d = .string ⟨x.1.2.2.2.toArray⟩:=h.2.2.2.1;have h5:=q2o (l:=l) h.2.2.2.2;rw[h1,h2,h3,h4,h5];rfl
  |[],h=>exact h.elim|[_],h=>exact h.2.elim|[_,_],h=>exact h.2.2.elim|[_,_,_],h=>exact h.2.2.2.elim
def q2p{G:Gh}:∀(l:List Pq),ak (List.flatMap (β:=AV) τQ.enc (l.map (·.1))) G (l.flatMap dc)
 |[]=>trivial|_::l=>⟨rfl,rfl,rfl,rfl,q2p l⟩
def q3x:∀(l:List Pc)(q:List Pq),toQ l=some q->l=q.map (·.1)
 |[],_,h=>by cases h;rfl
 |x::l,q,h=>by
  unfold toQ at h;split at h
  ·split at h
   ·rename_i r hr;cases h;rw[q3x l r hr];rfl
   ·cases h
  ·cases h
def qpp(l:List Pq):(f8 l).length=l.length:=by
 have h:=(pdq_sorts (ltOf jy) q3q l.toArray 0 l.length (Lib.bitLen l.length) true true (Nat.zero_le _) oC (Or.inl rfl)).1.1
 unfold f8;rw[Array.length_toList,h];simp
def qea(x:Pq):(dc x).length=4:=rfl
def qzu(l:List Pq):(l.flatMap dc).length=l.length*4:=by
 induction l with|nil=>rfl|cons x l ih=>rw[List.flatMap_cons,qM,qea,ih,qL];omega
def zbx{w:World}{g:Nat}{vs:Array Value}{fz:Nat×Nat}{E:TypeId}{l:List Pq}(h2:w.heap[g]? = some (.cells vs E fz))(h3:fz=(0,0)\/vs.size<=fz.1)(h4:l.length*4<=vs.size)(h7:vs.toList.take (l.length*4)=l.flatMap dc):HoldsK dc 4 w g 0 l.toArray:=by
 unfold HoldsK;rw[qz8 dc 4 qea];intro j hj;have hl:=qzu l;have hj':j<(l.flatMap dc).length:=by simpa using hj
 have hjv:j<vs.size:=oA
 refine⟨?_,?_⟩
 ·have hc:(vs.toList.take (l.length*4))[j]? = some ((l.flatMap dc)[j]):=by
   rw[h7,List.getElem?_eq_getElem hj']
  rw[List.getElem?_take,qX]at hc
  simp only[World.cell?,h2,wO];have hg:(l.flatMap dc).toArray[j]! = (l.flatMap dc)[j]:=by rw[getElem!_pos _ j hj];rfl
  rw[hg];simpa using hc
 ·simp only[World.frozen?,h2];rcases h3 with rfl|h3
  ·simp
  ·simp;omega
set_option maxHeartbeats 1000000 in
def zep(q:List Pq)(ac:q.length<=a8):bm Tryz.prog 285 [.own 0,.fn (.func 286) [] []] [(0,.row τQ (q.map (·.1)) 343)] (.tup []) [(0,.row τQ ((f8 q).map (·.1)) 343)]:=by
 unfold a8 at ac
 refine bm.inPlaceA (by show((f8 q).map (·.1)).length=(q.map (·.1)).length;rw[wC,wC,qpp]) (fun w G ad c us fvs hrow hreps hfv => ?_)
 have hus:=q2o hreps;have hfv:fvs=[.func (.func 286) #[] #[]]:=by
  match fvs,hfv with
  |[v],⟨h,_⟩=>
   obtain⟨us1,us2,k1,k2,k3⟩:=h;have e1:us1=#[]:=Array.eq_empty_of_size_eq_zero k2.length.symm;have e2:us2=#[]:=Array.eq_empty_of_size_eq_zero k3.length.symm;subst e1;subst e2;rw[k1]
 subst hfv;have hml:(q.map (fun x=>x.1)).length=q.length:=wC ..
 obtain⟨hul,hrow⟩:=hrow
 have hnone:q=[]->Calls Tryz.prog 285 (Value.slice ad (q.map (fun x=>x.1)).length c::[.func (.func 286) #[] #[]]).toArray w fun e w'=>e = .returned (.tuple #[])/\∃us',de w' 343 τQ.sz ad (q.map (fun x=>x.1)).length c us'/\ak (List.flatMap (β:=AV) τQ.enc ((f8 q).map (·.1))) G.data us'/\bq (fun b=>bp ad=some b) w w':=fun hq=>by
  subst hq;refine(AnyF.slices_SortFunc_none Tryz.sortP ad c (.func (.func 286) #[] #[]) w).mono ?_;rintro e w' ⟨rfl,rfl⟩
  refine⟨rfl,us,⟨hul,hrow⟩,?_,⟨rfl,rfl,rfl,wF _,fun _ _ _=>rfl⟩⟩
  rw[hus];have e:f8 []=[]:=List.eq_nil_of_length_eq_zero (qpp []);rw[e];exact trivial
 by_cases hq:q=[]
 ·exact hnone hq
 rcases hrow with⟨rfl,h2,rfl⟩|⟨g,vs,fz,rfl,h2,h3,h4,h5,h6,h7,h8⟩
 ·exact absurd (List.eq_nil_of_length_eq_zero (by rw[← hml];exact h2)) hq
 ·have hlt:g<w.heap.size:=(Array.getElem?_eq_some_iff.1 h2).1;have hs4:τQ.sz=4:=rfl;rw[hs4]at h6 h7 hul;have h4':q.length<=c:=by rw[← hml];exact h4
  have hH:=zbx (l:=q) h2 h3 oA (by rw[← hus];have h7':=h7;rw[show(List.length (α:=τQ.den) (q.map fun x=>x.1))=q.length from hml]at h7';exact h7')
  have hcmp:CmpLays Tryz.prog 286 #[] dc 4 jy g 0 q.toArray.size w:=fun m os dk _ x y=>zao x y _
  have key:=AnyQ.slices_SortFunc_eq (P:=Tryz.prog) Tryz.sortP 4 Tryz.isAgg343 Tryz.sizeOf343 dc qea (by intro x v hv;simp only[dc,wE,List.not_mem_nil,or_false]at hv;rcases hv with rfl|rfl|rfl|rfl<;>rfl) jy q3q 286 #[] g 0 c q.toArray w Tryz.call286 hcmp hH hlt oD
  have hargs:#[Value.slice (some ⟨g,0,none⟩) (List.length (α:=τQ.den) (List.map (β:=τQ.den) (fun x:Pq=>x.1) q)) c,Value.func (.func 286) #[] #[]]=#[.slice (some ⟨g,0,none⟩) q.toArray.size c,.func (.func 286) #[] #[]]:=by
   rw[show List.length (α:=τQ.den) (List.map (β:=τQ.den) (fun x:Pq=>x.1) q)=q.toArray.size from hml.trans oC]
  refine Eq.mpr (congrArg (fun a=>Calls _ _ a _ _) hargs) (key.mono ?_)
  rintro e w' ⟨rfl,n,os,rfl⟩
  have hsl:=qpp q;have hw:sortWorldK dc 4 w g 0 n (pdq (ltOf jy) q.toArray 0 q.toArray.size (Lib.bitLen q.toArray.size) true true) os=grow (putRow id (Sort.ahead w n) g 0 ((f8 q).flatMap dc).toArray) os:=by
   unfold sortWorldK putRowK;rw[show pdq (ltOf jy) q.toArray 0 q.toArray.size (Lib.bitLen q.toArray.size) true true=(f8 q).toArray from by unfold f8;simp,qz8 dc 4 qea]
  rw[hw];have hzl:((f8 q).flatMap dc).length=q.length*4:=by rw[qzu,hsl]
  refine⟨rfl,(f8 q).flatMap dc,⟨?_,.inr ⟨g,putCells id 0 ((f8 q).flatMap dc).toArray vs,fz,rfl,zdt w n g _ os h2,?_,h4,h5,?_,?_,?_⟩⟩,q2p _,⟨rfl,rfl,rfl,zdu w n g _ os,fun k hk hne=>zds w n g _ os k hk (fun e=>hne (by subst e;rfl))⟩⟩
  ·rw[hzl];show q.length*4=(q.map (fun x=>x.1)).length*4;rw[hml]
  ·have:(putCells id 0 ((f8 q).flatMap dc).toArray vs).size=vs.size:=by unfold putCells;rw[Array.size_mapIdx]
   rw[this];exact h3
  ·unfold putCells;rw[Array.size_mapIdx];exact h6
  ·rw[show List.length (α:=τQ.den) (q.map (fun x=>x.1))*τQ.sz=((f8 q).flatMap dc).length from by rw[hzl];show(q.map (fun x=>x.1)).length*4=_;rw[hml]]
   exact zdv _ vs (by rw[hzl];omega)
  ·intro v hv;rcases zdr _ _ _ hv with h|h
   ·exact h8 v h
   ·obtain⟨x,_,hx⟩:=List.mem_flatMap.1 h;simp only[dc,wE,List.not_mem_nil,or_false]at hx;rcases hx with rfl|rfl|rfl|rfl<;>rfl
def q3c:IF:=⟨.fn 285,[.own 0,.fn 286 []],[(0,.row τQ 343)],_,RS.mk (.tup []) [(0,.row τQ 343)]⟩
def zeq:(q3c.e ye).Sound Tryz.prog:=fun d d' r h=>by
 obtain⟨l,_⟩:=d';have h:ye l=some r:=h;unfold ye at h;cases hd:decide (List.length (α:=Pc) l<=a8)<;>rw[hd]at h<;>simp only[qT,qF,reduceCtorEq]at h
 cases hq:toQ l with
 |none=>rw[hq]at h;cases h
 |some q=>
  rw[hq]at h;have h:=qJ h;subst h;have hl:=q3x l q hq;subst hl;refine⟨Tryz.call285,zep q ?_⟩;have:=of_decide_eq_true hd
  rwa [wC]at this
end Go.Sym
set_option linter.unusedVariables false
namespace Go.Proofs.ToValid
open Go.Shelf Go.RowKit Go.Lib Go.Sym
def bx:Builder.Extra Tryz.prog Tryz.uniR:={
 sizeBuilder:=oB
 liesBuilder:=oB
 t5:=Tryz.laysM171.t5
 a5:=Tryz.laysM171.a5
 z5:=Tryz.laysM171.z5
 v5:=Tryz.laysM171.v5
 infoByte:=oB
 cellsByte:=oB
 sizeByte:=oB
 neB5:=by decide }
def zcg:Lays.n166 Tryz.prog Tryz.uniR:={ Tryz.lays165,Tryz.lays169,Tryz.laysC172 with f166:=Tryz.func47.trans (congrArg some oB) }
def zch:Lays.n167 Tryz.prog Tryz.uniR:={ Tryz.lays165,Tryz.lays169,Tryz.laysC172 with f167:=Tryz.func292.trans (congrArg some oB) }
def qy6(b:Nat)(p:Option Addr)(n cap:Nat)(w:World)(c1:w.cell? ⟨b,1,none⟩=some (.slice p n cap)) :
  Calls Tryz.prog 291 #[.pointer (some ⟨b,0,none⟩)] w fun e w'=>e = .returned (.int .i64 cap)/\w'=w:=by
 go_enter Tryz.func291,Tryz.ntmps291
 go_wp2
 go_ret
 exact⟨rfl,rfl⟩
def zbt(b n:Nat)(w:World)(hbk:w.heap[b]? = some (.cells #[.pointer none,.slice none 0 0] 90 (0,0)))(hBw:b<=w.heap.size)(hn:n<=281474976710656) :
  Calls Tryz.prog 46 #[.pointer (some ⟨b,0,none⟩),.int .i64 n] w fun e w'=>e = .returned (.tuple #[])/\(Lib.BuilderAt 90 5 b b (.pointer (some ⟨b,0,none⟩)) [] w'/\Below b w w')/\∃p cap,w'.cell? ⟨b,1,none⟩=some (.slice p 0 cap)/\n<=cap:=
 Any.Builder_Grow_fresh_cap Tryz.lays165 bx b b n w (wF _) hbk hBw hn
def qp6(b:Nat)(bs:List Value)(s:ByteArray)(w:World)(h:Lib.IsBuilderF 90 5 b b bs w)(ac:bs.length+s.size<=140737488355328)(hBw:b<=w.heap.size) :
  Calls Tryz.prog 47 #[.pointer (some ⟨b,0,none⟩),.string s] w fun e w'=>e = .returned (.tuple #[.int .i64 s.size,.nilIface])/\(Lib.BuilderAtF 90 5 b b (.pointer (some ⟨b,0,none⟩)) (bs++Lib.strCells s) w'/\Below b w w'/\Lib.OthersKept 5 (some b) w w')/\∀v0,w.cell? ⟨b,1,none⟩=some v0->∃v1,w'.cell? ⟨b,1,none⟩=some v1/\v0.capOf<=v1.capOf:=
 Any.Builder_WriteString_kc zcg bx b b bs s w h ac hBw
def zfn(b:Nat)(bs:List Value)(c:Int)(w:World)(h:Lib.IsBuilderF 90 5 b b bs w)(ac:bs.length+1<=140737488355328)(hBw:b<=w.heap.size) :
  Calls Tryz.prog 292 #[.pointer (some ⟨b,0,none⟩),.int .u8 c] w fun e w'=>e = .returned .nilIface/\(Lib.BuilderAtF 90 5 b b (.pointer (some ⟨b,0,none⟩)) (bs++[.int .u8 c]) w'/\Below b w w'/\Lib.OthersKept 5 (some b) w w'):=
 Any.Builder_WriteByte_k zch bx b b bs c w h ac hBw
def ze0(b:Nat)(l:List UInt8)(w:World)(h:Lib.IsBuilderF 90 5 b b (Lib.byteCells l) w)(hBw:b<=w.heap.size) :
  Calls Tryz.prog 48 #[.pointer (some ⟨b,0,none⟩)] w fun e w'=>e = .returned (.string ⟨l.toArray⟩)/\(Lib.IsBuilderF 90 5 b b (Lib.byteCells l) w'/\Below b w w'):=
 Any.Builder_String_any_f Tryz.lays169 bx b b l w h hBw
def qzp(s:ByteArray)(w:World)(hT:Lib.Utf8Tabs 4 5 w) :
  Calls Tryz.prog 127 #[.string s] w fun e w'=>e = .returned (.tuple #[.int .i32 (Lib.decodeGo s).1,.int .i64 (Lib.decodeGo s).2])/\Below w.heap.size w w':=
 Any.utf8_DecodeRuneInString Tryz.lays197 s w hT
def qzr(s:ByteArray)(pos:Nat)(h:pos<s.size):decodeGo (s.extract pos s.size)=Utf8.decode s pos:=by
 have hx:(s.extract pos s.size).data.toList=s.data.toList.drop pos:=by
  rw[extract_data,List.take_of_length_le (by rw[List.length_drop,← size_eq];omega)]
 have hsz:(s.extract pos s.size).size≠0:=by rw[size_eq,hx,List.length_drop,← size_eq];omega
 unfold decodeGo;rw[qW hsz,← decodeL_drop s pos,← hx];rfl
def q4j(n:Int)(h0:0<=n:=by omega)(h1:n<=4000000:=by omega):wrap64 n=n:=by unfold wrap64;omega
def zft(p n:Nat)(h:p+n<=4000000):wrap64 ((p:Int)+(n:Int))=(p:Int)+(n:Int):=q4j _
def zfu(p:Nat)(h:p+1<=4000000):wrap64 ((p:Int)+1)=(p:Int)+1:=q4j _
def vI(p k:Nat):Value.int .i64 ((p:Int)+(k:Int)) = .int .i64 ((p+k:Nat):Int):=by rw[Int.natCast_add]
def la(p:Nat):Value.int .i64 ((p:Int)+1) = .int .i64 ((p+1:Nat):Int):=by rw[Int.natCast_add];rfl
def qp1(rep:Bs)(n:Nat)(inv:Bool)(l:Bs)(hne:l≠[])(h:(Lib.decodeL l).1=65533/\(Lib.decodeL l).2=1):vu rep (n+1) inv l=(if inv then[] else rep)++vu rep n true (l.drop 1):=by
 cases l with|nil=>exact absurd rfl hne|cons c l=>rw[vu,qX h];rfl
def qf2(rep:Bs)(n:Nat)(inv:Bool)(l:Bs)(hne:l≠[])(h:¬((Lib.decodeL l).1=65533/\(Lib.decodeL l).2=1)):vu rep (n+1) inv l=l.take (Lib.decodeL l).2++vu rep n false (l.drop (Lib.decodeL l).2):=by
 cases l with|nil=>exact absurd rfl hne|cons c l=>rw[vu,qW h]
def p8(rep:Bs)(n:Nat)(inv:Bool):vu rep n inv []=[]:=by cases n<;>rfl
def qf1(rep:Bs):∀(n m:Nat)(inv:Bool)(l:Bs),l.length<=n->l.length<=m->vu rep n inv l=vu rep m inv l
 |0,m,inv,l,h1,_=>by
  have:l=[]:=by cases l with|nil=>rfl|cons c l=>simp at h1
  subst this;rw[p8,p8]
 |n+1,0,inv,l,_,h2=>by
  have:l=[]:=by cases l with|nil=>rfl|cons c l=>simp at h2
  subst this;rw[p8,p8]
 |n+1,m+1,inv,l,h1,h2=>by
  cases l with
  |nil=>rw[p8,p8]|cons c l=>
   have hw:=Lib.decodeL_width (c::l);simp only[qL]at h1 h2;by_cases h:(Lib.decodeL (c::l)).1=65533/\(Lib.decodeL (c::l)).2=1
   ·rw[qp1 rep n inv _ oC h,qp1 rep m inv _ oC h,qf1 rep n m true _ oD oD]
   ·rw[qf2 rep n inv _ oC h,qf2 rep m inv _ oC h,qf1 rep n m false _ (by simp only[List.length_drop,qL];omega) (by simp only[List.length_drop,qL];omega)]
def za3(s:ByteArray)(pos:Nat)(h:pos<s.size)(hc:(s.get! pos).toNat<128):Utf8.decode s pos=((s.get! pos).toNat,1):=by
 unfold Utf8.decode;simp only[Nat.add_zero,hc,if_true]
def za2(s:ByteArray)(pos:Nat)(h:pos<s.size)(hc:¬(s.get! pos).toNat<128)(h1:(Utf8.decode s pos).2=1):(Utf8.decode s pos).1=65533:=by
 revert h1;unfold Utf8.decode;simp only[Nat.add_zero,hc,if_false]
 repeat' split
 all_goals first|(intro _;rfl)|(intro h1;exact absurd h1 oC)
def qm8{T e:TypeId}{B b:Nat}{bs:List Value}{W W':World}(h:Lib.IsBuilderF T e B b bs W)(hb:Below W.heap.size W W'):Lib.IsBuilderF T e B b bs W':=by
 have k:∀p,Lib.BuilderAtF T e B b p bs W->Lib.BuilderAtF T e B b p bs W':=fun p h=>by
  have hlt:=h.lt;obtain⟨hB,v,hv,hown,hne⟩:=h;exact⟨hB,v,(hb.block b hlt).trans hv,hown.kept (row:=none) ⟨hb.os,hb.tape,hb.output,hb.size,fun k hk _=>hb.block k hk⟩ (Classical.em _),hne⟩
 exact h.elim (fun x => .inl (k _ x)) (fun x => .inr (k _ x))
set_option maxHeartbeats 4000000 in
set_option maxRecDepth 1000000 in
def tovalid(s rep:ByteArray)(w:World)(hs:s.size<=1000000)(hr:rep.size<=1000)(hT:Lib.Utf8Tabs 4 5 w) :
  Calls Tryz.prog 288 #[.string s,.string rep] w fun e w'=>e = .returned (.string ⟨(vu rep.data.toList s.size false s.data.toList).toArray⟩)/\Below w.heap.size w w':=by
 obtain⟨ANS,hANS⟩:∃ANS,vu rep.data.toList s.size false s.data.toList=ANS:=⟨_,rfl⟩;rw[hANS];have ac:s.data.toList.length=s.size:=(Lib.size_eq s).symm
 go_enter Tryz.func288,Tryz.ntmps288
 go_wp2
 go_loopg [0] s.size (fun gk s0 wx=>s0 = .string s/\∃pos:Nat,wx.heap[w.heap.size]? = some (.cells #[.pointer none,.slice none 0 0] 90 (0,0))/\wx.heap[w.heap.size+1]? = some (.stringIter s pos)/\Below w.heap.size w wx /\
  s.data.toList.take pos++vu rep.data.toList (s.size-pos) false (s.data.toList.drop pos)=ANS/\s.size<=pos+gk/\pos<=s.size)
 case atStart=>
  refine⟨rfl,0,?_,?_,((Below.refl _ w).alloc (wF _) _).alloc oC _,by simpa using hANS,oA,oA⟩
  ·have h1:=heap_alloc_new w (.cells #[.pointer none,.slice none 0 0] 90);exact(Below.heap_alloc _ _ _ oC).trans h1
  ·have:=World.iter_heap (w.alloc (.cells #[.pointer none,.slice none 0 0] 90)) s 0;simpa using this
 case round=>
  obtain⟨rfl,pos,hfr,hit,hbw,hsp,hfu,hps⟩:=hrel;by_cases hlt:pos<s.size
  ·obtain⟨g',rfl⟩:∃g',gk=g'+1:=⟨gk-1,oA⟩
   have hnx:∀ty,(Instr.next (.pointer (some ⟨w.heap.size+1,0,none⟩)) true ty).run Tryz.prog wr=_:=fun ty=>Lib.run_next_any_at wr (w.heap.size+1) s pos ty hit hlt
   have hne:s.data.toList.drop pos≠[]:=by
    intro h0;have:=congrArg List.length h0;rw[List.length_drop,ac]at this;simp at this;omega
   have hwd:=Lib.width_pos s pos;have hwn:pos+(Utf8.decode s pos).2<=s.size:=by
    have:=Lib.decodeL_le _ hne;rw[Lib.decodeL_drop,List.length_drop,ac]at this;omega
   have hgood:=qf2 rep.data.toList (s.size-pos-1) false _ hne;have hdg:=qzr s pos hlt;rw[Lib.decodeL_drop]at hgood;obtain⟨R,hR⟩:∃R,(Utf8.decode s pos).1=R:=⟨_,rfl⟩;obtain⟨K,hK⟩:∃K,(Utf8.decode s pos).2=K:=⟨_,rfl⟩;rw[hR,hK]at hnx hgood;rw[hK]at hwd hwn;rw[List.drop_drop,show s.size-pos-1+1=s.size-pos by omega]at hgood
   have hit2:=Lib.iterAt_heap wr (w.heap.size+1) s pos (pos+K) hit;have hbw2:=Lib.below_iterAt hbw (k:=w.heap.size+1) oA s (pos+K)
   have hfr2:(wr.iterAt (w.heap.size+1) s (pos+K)).heap[w.heap.size]? = _:=(Lib.iterAt_other wr (w.heap.size+1) w.heap.size s (pos+K) oA).trans hfr
   obtain⟨W,hWd⟩:∃W,wr.iterAt (w.heap.size+1) s (pos+K)=W:=⟨_,rfl⟩;rw[hWd]at hnx hit2 hbw2 hfr2;clear hit hbw hfr hWd;have HS:Aside (¬(R=65533/\K=1)->s.data.toList.take (pos+K)++vu rep.data.toList (s.size-(pos+K)) false (s.data.toList.drop (pos+K))=ANS):=by
    intro h;rw[← hsp,hgood h,← qS,← List.take_add];congr 1;exact qf1 _ _ _ _ _ (by rw[List.length_drop,ac];omega) (by rw[List.length_drop,ac];omega)
   have HP:Aside (s.data.toList.take pos++vu rep.data.toList (s.size-pos) false (s.data.toList.drop pos)=ANS):=hsp;clear hgood hsp;have hszW:w.heap.size+1<W.heap.size:=(Array.getElem?_eq_some_iff.1 hit2).1;by_cases h5:R=65533
   ·have h5z:(R:Int)=65533:=oA
    have cD:=qzp (s.extract pos s.size) W (Utf8Tabs_below hT hbw2);rw[hdg,hR,hK]at cD;by_cases hk:K=1
    ·
     have hkz:(K:Int)=1:=oA
     have hkb:((K:Int)==1)=true:=by simp[hkz]
     go_wp2_with (go_at_call 127;go_must (refine cD.mono ?_;rintro e W3 ⟨rfl,b3⟩))
     have hfr3:=(b3.block _ (show w.heap.size<W.heap.size by omega)).trans hfr2
     have hbw3:=hbw2.trans (b3.mono (show w.heap.size<=W.heap.size by omega))
     have hs0:=HP.out;clear cD hnx hit2 hfr2 hbw2 hdg HS hszW HP;have cG:=zbt w.heap.size (s.size+rep.size) W3 hfr3 hbw3.size oA
     go_fit cG
     rintro e W4 ⟨rfl,⟨h4,b4⟩,p4,cap4,hc4,hcap4⟩
     have hxs:(s.extract 0 pos).size=pos:=by rw[Lib.size_eq,Lib.extract_data,List.length_take,List.length_drop,ac];omega
     have hxd:(s.extract 0 pos).data.toList=s.data.toList.take pos:=by rw[Lib.extract_data];simp
     have cW:=qp6 w.heap.size [] (s.extract 0 pos) W4 (Lib.IsBuilderF.of (Or.inr h4)) (by rw[hxs];simp;omega) (Nat.le_trans hbw3.size b4.size)
     go_wp2_with (go_at_call 47;go_must (refine cW.mono ?_;rintro e W5 ⟨rfl,⟨h5w,b5,-⟩,hcp⟩))
     have hb5:Below w.heap.size w W5:=(hbw3.trans b4).trans b5;have hcells:[]++Lib.strCells (s.extract 0 pos)=Lib.byteCells (s.data.toList.take pos):=by
      rw[List.nil_append,Lib.strCells_eq,hxd]
     rw[hcells]at h5w;obtain⟨p5,n5,cap5,hc5,hcap5⟩:∃p5 n5 cap5,W5.cell? ⟨w.heap.size,1,none⟩=some (.slice p5 n5 cap5)/\1<=cap5:=by
      obtain⟨v1,hv1,hle⟩:=hcp _ hc4;obtain⟨_,v6,hv6,hown6,_⟩:=h5w;have hv:W5.cell? ⟨w.heap.size,1,none⟩=some v6:=by rw[Lib.cell_of_heap hv6];rfl
      rw[hv1]at hv;have:=qJ hv;subst this;have hle:cap4<=v1.capOf:=hle;rcases hown6.2 with⟨rfl,h0⟩|⟨g6,cap6,_,_,rfl,_⟩
      ·have:cap4<=0:=hle;omega
      ·have:cap4<=cap6:=hle;exact⟨_,_,cap6,hv1,oA⟩
     clear hcp hc4;have hcapz:¬((cap5:Int)=0):=oA
     have hcapb:((cap5:Int)==0)=false:=by simp;omega
     have cC:=qy6 w.heap.size p5 n5 cap5 W5 hc5;obtain⟨s2,hs2⟩:∃s2,s.extract pos s.size=s2:=⟨_,rfl⟩;have hl2:s2.data.toList=s.data.toList.drop pos:=by
      rw[← hs2,Lib.extract_data,List.take_of_length_le (by rw[List.length_drop,ac];omega)]
     have hz2:s2.size=s.size-pos:=by rw[Lib.size_eq,hl2,List.length_drop,ac]
     go_wp2_with (go_at_call 291;go_must (refine cC.mono ?_;rintro e W6 ⟨rfl,rfl⟩))
     have hrl:rep.data.toList.length=rep.size:=(Lib.size_eq rep).symm
     go_loopg [10,11] s2.size (fun gk s10 s11 wx=>∃(p2:Nat)(acc:List UInt8)(inv:Bool),s10 = .bool inv/\s11 = .int .i64 p2/\Lib.IsBuilderF 90 5 w.heap.size w.heap.size (Lib.byteCells acc) wx/\Below w.heap.size w wx /\
      acc++vu rep.data.toList (s2.size-p2) inv (s2.data.toList.drop p2)=ANS/\s2.size<=p2+gk/\p2<=s2.size/\acc.length<=pos+1001*p2)
     case atStart=>
      refine⟨0,s.data.toList.take pos,false,rfl,rfl,Or.inr h5w,hb5,?_,oA,oA,?_⟩
      ·rw[List.drop_zero,hl2,hz2];exact hs0
      ·rw[List.length_take,ac];omega
     case round=>
      obtain⟨p2,acc,inv,rfl,rfl,hI,hbw,hacc,hfu2,hp2,hal⟩:=hrel;have hbs:w.heap.size<=wr.heap.size:=hbw.size;by_cases hlt2:p2<s2.size
      ·obtain⟨g2,rfl⟩:∃g2,gk=g2+1:=⟨gk-1,oA⟩
       have hne2:s2.data.toList.drop p2≠[]:=by
        intro h0;have:=congrArg List.length h0;rw[List.length_drop,← Lib.size_eq,qZ]at this;omega
       have hwd2:=Lib.width_pos s2 p2;have hwn2:p2+(Utf8.decode s2 p2).2<=s2.size:=by
        have:=Lib.decodeL_le _ hne2;rw[Lib.decodeL_drop,List.length_drop,← Lib.size_eq]at this;omega
       have hgood:=qf2 rep.data.toList (s2.size-p2-1) inv _ hne2;have hbad:=qp1 rep.data.toList (s2.size-p2-1) inv _ hne2;have hdg:=qzr s2 p2 hlt2;have hlow:=za3 s2 p2 hlt2;have hhigh:=za2 s2 p2 hlt2;rw[Lib.decodeL_drop,List.drop_drop,show s2.size-p2-1+1=s2.size-p2 by omega]at hgood hbad
       have hl3:s2.data.toList.length=s2.size:=(Lib.size_eq s2).symm;obtain⟨c,hc⟩:∃c,s2[p2]'hlt2=c:=⟨_,rfl⟩;have hd2:p2<s2.data.size:=hlt2;have hcd:s2.data[p2]'hd2=c:=hc;have hcg:s2.get! p2=c:=by
        show s2.data[p2]! = c;rw[getElem!_pos s2.data p2 hd2];exact hcd
       rw[hcg]at hlow hhigh;obtain⟨R2,hR2⟩:∃R2,(Utf8.decode s2 p2).1=R2:=⟨_,rfl⟩;obtain⟨K2,hK2⟩:∃K2,(Utf8.decode s2 p2).2=K2:=⟨_,rfl⟩;rw[hK2]at hwd2 hwn2;have HG:Aside (¬(R2=65533/\K2=1)->(acc++(s2.data.toList.drop p2).take K2)++vu rep.data.toList (s2.size-(p2+K2)) false (s2.data.toList.drop (p2+K2))=ANS):=by
        intro h;rw[← hacc,hgood (by rw[hR2,hK2];exact h),hK2,qS]
        congr 2;exact qf1 _ _ _ _ _ (by rw[List.length_drop,hl3];omega) (by rw[List.length_drop,hl3];omega)
       have HB:Aside (R2=65533/\K2=1->(acc++(if inv then[] else rep.data.toList))++vu rep.data.toList (s2.size-(p2+1)) true (s2.data.toList.drop (p2+1))=ANS):=by
        intro h;rw[← hacc,hbad (by rw[hR2,hK2];exact h),qS]
        congr 2
       have hxl:(s2.extract p2 (p2+K2)).data.toList=(s2.data.toList.drop p2).take K2:=by
        rw[Lib.extract_data,Nat.add_sub_cancel_left]
       have hxz:(s2.extract p2 (p2+K2)).size=K2:=by rw[Lib.size_eq,hxl,List.length_take,List.length_drop,hl3];omega
       have hcl:acc.length<=1001000000:=oA
       have hbl:(Lib.byteCells acc).length=acc.length:=Lib.byteCells_length acc;clear hgood hbad hacc hs0;have H1:Aside (s2.data.toList.length=s2.size/\(s2.extract p2 (p2+K2)).data.toList=(s2.data.toList.drop p2).take K2/\(Lib.byteCells acc).length=acc.length/\rep.data.toList.length=rep.size):=⟨hl3,hxl,hbl,hrl⟩;have H2:Aside (c.toNat<128->R2=c.toNat/\K2=1):=fun h=>by
        have hd:=hlow h;rw[hd]at hR2 hK2;exact⟨hR2.symm,hK2.symm⟩
       have H3:Aside (¬c.toNat<128->K2=1->R2=65533):=fun h hk=>by
        have:=hhigh h (by rw[hK2];exact hk)
        rw[← hR2];exact this
       have H4:Aside ((List.drop p2 s2.data.toList).take 1=[c]):=by
        show _=_;have hlt':p2<s2.data.toList.length:=by rw[hl3];exact hlt2
        rw[List.drop_eq_getElem_cons hlt',List.take_succ_cons,List.take_zero,Array.getElem_toList,hcd]
       have cD:=qzp (s2.extract p2 s2.size) wr (Utf8Tabs_below hT hbw);rw[hdg,hR2,hK2]at cD;have hsz2:s2.size<=s.size:=by rw[hz2];exact Nat.sub_le _ _
       have HW1:Aside (wrap64 ((p2:Int)+1)=(p2:Int)+1):=zfu _ (Nat.le_trans hlt2 (Nat.le_trans hsz2 (Nat.le_trans hs oF)))
       have HWK:Aside (wrap64 ((p2:Int)+(K2:Int))=(p2:Int)+(K2:Int)):=zft _ _ (Nat.le_trans hwn2 (Nat.le_trans hsz2 (Nat.le_trans hs oF)))
       have HM:Aside (s2.size<=p2+1+g2/\s2.size<=p2+K2+g2/\acc.length+1<=pos+1001*(p2+1)/\acc.length+rep.size<=pos+1001*(p2+1)/\acc.length+K2<=pos+1001*(p2+K2)/\acc.length<=pos+1001*(p2+1)/\acc.length+1<=140737488355328/\acc.length+rep.size<=140737488355328/\acc.length+K2<=140737488355328):=by
        refine⟨?_,?_,?_,?_,?_,?_,?_,?_,?_⟩<;>omega
       clear hal hcl hfu2;clear hcd hcg hlow hhigh hdg hR2 hK2 hl3 hxl hbl hrl hs2 hl2 ac hne2 hz2 hxs hxd hcells hne hR hK;by_cases h128:c.toNat<128
       ·
        obtain⟨_,hk1⟩:=H2.out h128;subst hk1;have H5:Aside (acc++[c]++vu rep.data.toList (s2.size-(p2+1)) false (List.drop (p2+1) s2.data.toList)=ANS):=by
         have:=HG.out oA
         rw[H4.out]at this;exact this
        have cB:=zfn w.heap.size (Lib.byteCells acc) c.toNat wr hI (by rw[H1.out.2.2.1];exact HM.out.2.2.2.2.2.2.1) hbs
        clear HG HB H2 H3 H4 cD;have h128z:(c.toNat:Int)<128:=oA
        go_wp2_with (go_at_call 292;go_must (refine cB.mono ?_;rintro e W7 ⟨rfl,h7,b7,k7⟩))
        go_roundg g2
        case measure=>exact Nat.lt_succ_self _
        case rel=>
         refine⟨p2+1,acc++[c],false,rfl,by first|exact la p2|exact(congrArg (Value.int .i64) HW1.out).trans (la p2),Or.inr ?_,hbw.trans b7,H5.out,HM.out.1,hlt2,by rw[qM];exact HM.out.2.2.1⟩
         rw[Lib.byteCells_append];exact h7
       ·have h128z:¬((c.toNat:Int)<128):=oA
        by_cases hk:K2=1
        ·have hr2:=H3.out h128 hk;have H5:Aside ((acc++(if inv then[] else rep.data.toList))++vu rep.data.toList (s2.size-(p2+1)) true (List.drop (p2+1) s2.data.toList)=ANS):=HB.out ⟨hr2,hk⟩
         have hkz:(K2:Int)=1:=oA
         have hkb:((K2:Int)==1)=true:=by simp[hkz]
         clear HG HB H2 H3 H4
         cases inv with
         |true=>
          go_wp2_with (go_at_call 127;go_must (refine cD.mono ?_;rintro e W7 ⟨rfl,b7⟩))
          go_roundg g2
          case measure=>exact Nat.lt_succ_self _
          case rel=>
           refine⟨p2+1,acc,true,rfl,by first|exact la p2|exact(congrArg (Value.int .i64) HW1.out).trans (la p2),qm8 hI b7,hbw.trans (b7.mono hbs),?_,HM.out.1,hlt2,HM.out.2.2.2.2.2.1⟩
           have h:(acc++[])++vu rep.data.toList (s2.size-(p2+1)) true (List.drop (p2+1) s2.data.toList)=ANS:=H5.out;rw[List.append_nil]at h;exact h
         |false=>
          go_wp2_with (go_at_call 127;go_must (refine cD.mono ?_;rintro e W7 ⟨rfl,b7⟩))
          have cW:=qp6 w.heap.size (Lib.byteCells acc) rep W7 (qm8 hI b7) (by rw[H1.out.2.2.1];exact HM.out.2.2.2.2.2.2.2.1) (Nat.le_trans hbs b7.size)
          go_wp2_with (go_at_call 47;go_must (refine cW.mono ?_;rintro e W8 ⟨rfl,⟨h8,b8,-⟩,-⟩))
          go_roundg g2
          case measure=>exact Nat.lt_succ_self _
          case rel=>
           refine⟨p2+1,acc++rep.data.toList,true,rfl,by first|exact la p2|exact(congrArg (Value.int .i64) HW1.out).trans (la p2),Or.inr ?_,(hbw.trans (b7.mono hbs)).trans b8,?_,HM.out.1,hlt2,by rw[qM,H1.out.2.2.2];exact HM.out.2.2.2.1⟩
           ·rw[Lib.byteCells_append,← Lib.strCells_eq];exact h8
           ·have h:(acc++rep.data.toList)++vu rep.data.toList (s2.size-(p2+1)) true (List.drop (p2+1) s2.data.toList)=ANS:=H5.out;exact h
        ·have hkz:¬((K2:Int)=1):=oA
         have hkb:((K2:Int)==1)=false:=by simp;omega
         have H5:=HG.out (fun h=>hk h.2)
         go_wp2_with (go_at_call 127;go_must (refine cD.mono ?_;rintro e W7 ⟨rfl,b7⟩))
         have cW:=qp6 w.heap.size (Lib.byteCells acc) (s2.extract p2 (p2+K2)) W7 (qm8 hI b7) (by rw[H1.out.2.2.1,hxz];exact HM.out.2.2.2.2.2.2.2.2) (Nat.le_trans hbs b7.size)
         go_wp2_with (go_at_call 47;go_must (refine cW.mono ?_;rintro e W8 ⟨rfl,⟨h8,b8,-⟩,-⟩))
         go_roundg g2
         case measure=>exact Nat.lt_succ_self _
         case rel=>
          refine⟨p2+K2,acc++(s2.data.toList.drop p2).take K2,false,rfl,by first|exact vI p2 K2|exact(congrArg (Value.int .i64) HWK.out).trans (vI p2 K2),Or.inr ?_,(hbw.trans (b7.mono hbs)).trans b8,H5,HM.out.2.1,hwn2,?_⟩
          ·rw[Lib.byteCells_append,← H1.out.2.1,← Lib.strCells_eq];exact h8
          ·rw[qM,← H1.out.2.1,← Lib.size_eq,hxz];exact HM.out.2.2.2.2.1
      ·
       obtain rfl:p2=s2.size:=oA
       have cS:=ze0 w.heap.size acc wr hI hbs
       go_wp2_with (go_at_call 48;go_must (refine cS.mono ?_;rintro e W8 ⟨rfl,_,b8⟩))
       go_ret
       refine⟨?_,hbw.trans b8⟩;rw[Lib.size_eq,List.drop_length,p8,List.append_nil]at hacc;subst hacc;rfl
    ·have hkz:¬((K:Int)=1):=oA
     have hkb:((K:Int)==1)=false:=by simp;omega
     have hs3:=HS.out (fun h=>hk h.2)
     go_wp2_with (go_at_call 127;go_must (refine cD.mono ?_;rintro e W3 ⟨rfl,b3⟩))
     go_roundg g'
     case measure=>omega
     case rel=>exact⟨rfl,pos+K,(b3.block _ (by show _<W.heap.size;omega)).trans hfr2,(b3.block _ (by show _<W.heap.size;omega)).trans hit2,hbw2.trans (b3.mono (by show _<=W.heap.size;omega)),hs3,oA,hwn⟩
   ·have h5':¬((R:Int)=65533):=oA
    have hs3:=HS.out (fun h=>h5 h.1)
    go_wp2
    go_roundg g'
    case measure=>omega
    case rel=>exact⟨rfl,pos+K,hfr2,hit2,hbw2,hs3,oA,hwn⟩
  ·
   obtain rfl:pos=s.size:=oA
   have hnx:∀ty,(Instr.next (.pointer (some ⟨w.heap.size+1,0,none⟩)) true ty).run Tryz.prog wr=_:=fun ty=>Lib.run_next_end_at wr (w.heap.size+1) s s.size ty hit hlt
   have cC:=qy6 w.heap.size none 0 0 wr (by rw[Lib.cell_of_heap hfr];rfl)
   go_wp2_with (go_at_call 291;go_must (refine cC.mono ?_;rintro e W' ⟨rfl,rfl⟩))
   go_ret
   refine⟨?_,hbw⟩;rw[← hsp,← ac,List.drop_length,List.take_length,p8,List.append_nil];rfl
end Go.Proofs.ToValid
namespace Go.Sym
open Go.Proofs Go.RowKit
open Go.Proofs.Tryz
variable[LC]
def ul(t:List UInt8):Bool:=(List.range 256).all fun c=>match t[c]? with|some x=>Nat.beq x.toNat (Lib.firstT c)|none=>false
def um(t:List (UInt8×UInt8)):Bool:=(List.range 16).all fun c=>match t[c]? with|some x=>Nat.beq x.1.toNat (Lib.accLo c)&&Nat.beq x.2.toNat (Lib.accHi c)|none=>false
def q36{G:Gh}{w:World}(hm:bj G [] w){t0:List UInt8}{t1:List (UInt8×UInt8)}(h0:LC.glob 4=some ⟨.byte,t0⟩)(h1:LC.glob 5=some ⟨.prod .byte .byte,t1⟩)(e0:ul t0=true)(e1:um t1=true):Lib.Utf8Tabs 4 5 w:=by
 refine⟨fun c hc => ?_,fun i hi => ?_⟩
 ·have h:=List.all_eq_true.1 e0 c (List.mem_range.2 hc)
  cases hx:t0[c]? with
  |none=>rw[hx]at h;cases h
  |some x=>
   rw[hx]at h;have ha:G.imm 4 (c*1)=some (.int .u8 x.toNat):=hm.tab.1 _ _ _ h0 c x hx;rw[Nat.mul_one]at ha;rw[hm.agree _ _ _ ha,qN h]
 ·have h:=List.all_eq_true.1 e1 i (List.mem_range.2 hi)
  cases hx:t1[i]? with
  |none=>rw[hx]at h;cases h
  |some x=>
   rw[hx]at h;simp only[qA]at h;have ha:G.imm 5 (i*2)=some (.int .u8 x.1.toNat)/\G.imm 5 (i*2+1)=some (.int .u8 x.2.toNat):=hm.tab.1 _ _ _ h1 i x hx;rw[Nat.mul_comm]at ha;exact⟨by rw[hm.agree _ _ _ ha.1,qN h.1],by rw[hm.agree _ _ _ ha.2,qN h.2]⟩
def ze8{G:Gh}{w:World}(hm:bj G [] w){t0:List UInt8}{t1:List (UInt8×UInt8)}(h0:LC.glob 4=some ⟨.byte,t0⟩)(h1:LC.glob 5=some ⟨.prod .byte .byte,t1⟩)(e0:ul t0=true)(e1:um t1=true)(s o:Bs)(d1:s.length<=1000000)(d2:o.length<=1000) :
  Calls Tryz.prog 288 #[.string ⟨s.toArray⟩,.string ⟨o.toArray⟩] w fun e w'=>e = .returned (.string ⟨(vu o s.length false s).toArray⟩)/\bf w w':=by
 refine(ToValid.tovalid ⟨s.toArray⟩ ⟨o.toArray⟩ w (by rw[jh];exact d1) (by rw[jh];exact d2) (q36 hm h0 h1 e0 e1)).mono ?_
 rintro e w' ⟨rfl,hw⟩
 exact⟨by rw[jh],bf.of_below hw⟩
def q3y:IF:=⟨.fn 288,[.h .str,.h .str],[],_,RS.mk (.h .str) []⟩
def ze9{t0:List UInt8}{t1:List (UInt8×UInt8)}(h0:LC.glob 4=some ⟨.byte,t0⟩)(h1:LC.glob 5=some ⟨.prod .byte .byte,t1⟩)(e0:ul t0=true)(e1:um t1=true):(q3y.e yh).Sound Tryz.prog:=fun d d' r h=>by
 obtain⟨s,o,_⟩:=d;have h:yh s o=some r:=h;unfold yh at h;cases hd:decide (List.length (α:=UInt8) s<=1000000/\List.length (α:=UInt8) o<=1000)<;>rw[hd]at h<;>simp only[qT,qF,reduceCtorEq]at h
 have h:=qJ h;subst h;obtain⟨d1,d2⟩:=of_decide_eq_true hd;refine⟨call288,bm.data fun w G vs hm hr => ?_⟩
 match vs,hr with
 |[u,v],⟨h1',h2',_⟩=>
  have h1':u = .string ⟨s.toArray⟩:=h1';have h2':v = .string ⟨o.toArray⟩:=h2';subst h1' h2';exact(ze8 hm h0 h1 e0 e1 s o d1 d2).mono fun e w'⟨he,hw⟩=>⟨_,he,rfl,hw⟩
def zfh{G:Gh}{w:World}(hm:bj G [] w){t0:List UInt8}{t1:List (UInt8×UInt8)}(h0:LC.glob 4=some ⟨.byte,t0⟩)(h1:LC.glob 5=some ⟨.prod .byte .byte,t1⟩)(e0:ul t0=true)(e1:um t1=true)(s:Bs)(d1:s.length<=9223372036854775807) :
  Calls Tryz.prog 237 #[.string ⟨s.toArray⟩] w fun e w'=>e = .returned (.bool (Lib.validD s))/\bf w w':=by
 refine(Any.utf8_ValidString Tryz.lays196 ⟨s.toArray⟩ w (by rw[jh];exact d1) (q36 hm h0 h1 e0 e1)).mono ?_
 rintro e w' ⟨rfl,hw⟩
 exact⟨rfl,bf.of_below hw⟩
def q37:IF:=⟨.fn 237,[.h .str],[],_,RS.mk (.h .bool) []⟩
def zfi{t0:List UInt8}{t1:List (UInt8×UInt8)}(h0:LC.glob 4=some ⟨.byte,t0⟩)(h1:LC.glob 5=some ⟨.prod .byte .byte,t1⟩)(e0:ul t0=true)(e1:um t1=true):(q37.e ym).Sound Tryz.prog:=fun d d' r h=>by
 obtain⟨s,_⟩:=d;have h:ym s=some r:=h;unfold ym at h;cases hd:decide (List.length (α:=UInt8) s<=9223372036854775807)<;>rw[hd]at h<;>simp only[qT,qF,reduceCtorEq]at h
 have h:=qJ h;subst h;have d1:=of_decide_eq_true hd;refine⟨call237,bm.data fun w G vs hm hr => ?_⟩
 match vs,hr with
 |[u],⟨h1',_⟩=>
  have h1':u = .string ⟨s.toArray⟩:=h1';subst h1';exact(zfh hm h0 h1 e0 e1 s d1).mono fun e w'⟨he,hw⟩=>⟨_,he,rfl,hw⟩
end Go.Sym
namespace Go.Sym
open Go.RowKit
variable[LC]
section
variable{P:Program}{zpp:World}{zpk:Gh}{zpm:List (Nat×ag)}{G:Gh}{s:St}{a:Act}{w:World}
def ai.drewOk(hr:ai zpp zpk zpm G s a w):ai zpp zpk zpm G s a w.drew:=
 ⟨hr.defers,hr.size,hr.frame,hr.fresh,⟨⟨hr.fin.mem.agree,hr.fin.mem.one,hr.fin.mem.holds,hr.fin.mem.apart,LC.mono (fun _ _ _ h=>h) (fun _ _ _ _=>rfl) hr.fin.mem.tab⟩,⟨hr.fin.bel.os,hr.fin.bel.tape,hr.fin.bel.output,hr.fin.bel.size,hr.fin.bel.block⟩,hr.fin.imm_le,hr.fin.imm_new,hr.fin.base,hr.fin.keep,hr.fin.keepOwn⟩⟩
def ak.setAt{G:Gh}{x:AV}{v:Value}(hx:aj x G v):∀{xs:List AV}{vs:List Value}{i:Nat},ak xs G vs->ak (xs.set i x) G (vs.set i v)|[],[],_,_=>trivial|_::_,_::_,0,h=>⟨hx,h.2⟩|_::_,_::_,_+1,h=>⟨h.1,ak.setAt hx h.2⟩|[],_::_,_,h=>h.elim|_::_,[],_,h=>h.elim
def ai.setCellAt(hr:ai zpp zpk zpm G s a w){n B i:Nat}{cs:List AV}{T:TypeId}{x:AV}{v:Value}(hn:ae s.hp n=some (.cells cs T))(hB:G.box n=some B)(hx:aj x G v)(h1:v.oneCell'=true) :
  ai zpp zpk zpm G { s with hp:=(n,.cells (cs.set i x) T)::s.hp } a (w.setCell ⟨B,i,none⟩ v):=by
 obtain⟨B',vs,k1,k2,k3,k4,k5⟩:=hr.fin.mem.holds n _ hn;rw[hB]at k1;cases k1;have hheap:(w.setCell ⟨B,i,none⟩ v).heap[B]? = some (.cells (vs.setIfInBounds i v) T (0,0)):=by
  simp[World.setCell,Array.getElem?_modify,k2]
 have hbel:bq (fun b=>b=B) w (w.setCell ⟨B,i,none⟩ v):=
  ⟨rfl,rfl,rfl,by simp[World.setCell],fun k _ hne=>by
   simp only[World.setCell,Array.getElem?_modify];rw[qW (fun e=>hne e.symm)]⟩
 have hat:∀cs',G.at n (.cells cs' T)=some B:=fun _=>hB
 refine⟨hr.defers,hr.size,hr.frame,fun m hm hl=>hr.fresh m hm (by
  simp only[ae]at hl;cases hb:Nat.beq n m
  ·rw[hb]at hl;exact hl
  ·rw[hb]at hl;cases hl),hr.fin.update hn (hat cs) (hat _) hbel ⟨B,_,hB,hheap,?_,?_,k5⟩ k5⟩
 ·rw[Array.toList_setIfInBounds];exact ak.setAt hx k3
 ·intro u hu;rw[Array.toList_setIfInBounds]at hu;rcases List.mem_or_eq_of_mem_set hu with hu|hu
  ·exact k4 u hu
  ·rw[hu];exact h1
def ai.cellAt(hr:ai zpp zpk zpm G s a w){n B i:Nat}{cs:List AV}{T:TypeId}{x:AV}(hn:ae s.hp n=some (.cells cs T))(hB:G.box n=some B)(hx:cs[i]? = some x) :
  ∃v,w.cell? ⟨B,i,none⟩=some v/\aj x G v/\w.frozen? ⟨B,i,none⟩=false:=by
 obtain⟨B',vs,k1,k2,k3,k4,k5⟩:=hr.fin.mem.holds n _ hn;rw[hB]at k1;cases k1;obtain⟨v,v1,v2⟩:=fh k3 hx;refine⟨v,cell_of_heap k2 v1,v2,?_⟩;simp only[World.frozen?,k2];simp
def ai.start{G:Gh}{hp:List (Nat×ag)}{w:World}{N:NM}(hm:bj G hp w)(h:∀n b,ae hp n=some b->ao N n=some n/\cq (ao N) b=b)(hN:∀n,ae hp n=none->ap N n=none)(k:Nat) :
  ai w (G.view N) hp (G.view N) { n:=k,fr:=[],hp:=hp,nx:=64,df:=[] } { tmps:=Array.replicate k undef,defers:=[] } w:=by
 refine⟨⟨[],rfl,rfl⟩,oC,fun i x hx=>(by cases hx),fun m _ hl => ?_,uh (hm.only h)⟩
 have:=hN m hl;simp[Gh.view,this]
end
end Go.Sym
set_option linter.unusedVariables false
namespace Go.Proofs.Repl
open Go.Shelf Go.RowKit Go.Lib Go.Sym
def rv(a b:UInt8)(ga gb ca cb:Nat)(c:UInt8):Value:=if c=a then .slice (some ⟨ga,0,none⟩) 2 ca else if c=b then .slice (some ⟨gb,0,none⟩) 2 cb else .slice none 0 0
structure gd(R:Nat)(a b a1 a2 b1 b2:UInt8)(w:World):Prop where
 ex:∃ga gb gt ca cb ct,(∀c:UInt8,w.cell? ⟨R,c.toNat,none⟩=some (rv a b ga gb ca cb c))/\w.cell? ⟨R,256,none⟩=some (.slice (some ⟨gt,0,none⟩) 2 ct) /\
  w.cell? ⟨gt,0,none⟩=some (.string ⟨#[b]⟩)/\w.cell? ⟨gt,1,none⟩=some (.string ⟨#[a]⟩) /\
  w.cell? ⟨ga,0,none⟩=some (.int .u8 a1.toNat)/\w.cell? ⟨ga,1,none⟩=some (.int .u8 a2.toNat)/\w.cell? ⟨gb,0,none⟩=some (.int .u8 b1.toNat)/\w.cell? ⟨gb,1,none⟩=some (.int .u8 b2.toNat)
def gd.below{R:Nat}{a b a1 a2 b1 b2:UInt8}{w w':World}(h:gd R a b a1 a2 b1 b2 w)(hb:Below w.heap.size w w'):gd R a b a1 a2 b1 b2 w':=by
 have k:∀{p:Addr}{v:Value},w.cell? p=some v->w'.cell? p=some v:=fun{p v} hc=>(hb.cell (World.block_lt_of_cell? _ _ hc)).trans hc
 obtain⟨ga,gb,gt,ca,cb,ct,h1,h2,h3,h4,h5,h6,h7,h8⟩:=h.ex;exact⟨ga,gb,gt,ca,cb,ct,fun c=>k (h1 c),k h2,k h3,k h4,k h5,k h6,k h7,k h8⟩
def qzi(s:ByteArray)(c:UInt8)(w:World) :
  Calls Tryz.prog 153 #[.string s,.string ⟨#[c]⟩] w fun e w'=>e = .returned (.int .i64 (Lib.countByte s.data.toList c))/\w'=w:=
 Any.strings_Count_one Tryz.lays138 s c w
def zea{w:World}{g:Nat}{t:TypeId}{N:Nat}{f:Nat->Value}{cur:Array Value}(hg:w.heap[g]? = some (.cells cur t (0,0)))(hz:cur.size=N)(hc:∀i,i<N->cur[i]? = some (f i)){j:Nat}(hj:j+2<=N)(v1 v2:Value) :
  (w.setRow g (cur.toList.take j++[v1,v2]++cur.toList.drop (j+2)).toArray).rowIs g t N (fun i=>if i=j then v1 else if i=j+1 then v2 else f i):=by
 have hl:cur.toList.length=N:=by simpa using hz
 refine⟨_,setRow_heap w g cur _ t _ hg,oD,fun i hi => ?_⟩
 simp only[List.getElem?_toArray];rw[qS];by_cases h1:i<j
 ·rw[List.getElem?_append_left oD,List.getElem?_take,qX h1,qW,qW,← hc i hi];simp
 ·rw[List.getElem?_append_right oD,show(cur.toList.take j).length=j by simp;omega]
  by_cases h2:i=j
  ·subst h2;simp
  ·by_cases h3:i=j+1
   ·subst h3;rw[qW h2,qX rfl,show j+1-j=1 by omega];rfl
   ·rw[qW h2,qW h3,List.getElem?_append_right oD,List.getElem?_drop,← hc i hi]
    simp;congr 1;omega
def qmn(b o n:Nat):(⟨b,o,none⟩:Addr).add n=⟨b,o+n,none⟩:=by unfold Addr.add;split<;>simp_all
def qzh{w:World}{G ga j M c:Nat}{f:Nat->Value}{x1 x2:UInt8}(hrow:w.rowIs G 5 M f)(hj:j+2<=M)(h0:w.cell? ⟨ga,0,none⟩=some (.int .u8 x1.toNat))(h1:w.cell? ⟨ga,1,none⟩=some (.int .u8 x2.toNat)) :
  ∃ROW,(Builtin.copy_ #[43,43] 3 #[.slice (some ⟨G,j,none⟩) (M-j) (M-j),.slice (some ⟨ga,0,none⟩) 2 c]).run Tryz.prog w = .ok (.int .i64 2) (w.setRow G ROW) /\
   (w.setRow G ROW).rowIs G 5 M (fun i=>if i=j then .int .u8 x1.toNat else if i=j+1 then .int .u8 x2.toNat else f i):=by
 obtain⟨cur,k1,k2,k3⟩:=hrow;refine⟨_,?_,zea k1 k2 k3 hj _ _⟩;exact run_copy_row (P:=Tryz.prog) w 43 43 3 5 G j (M-j) (M-j) ⟨ga,0,none⟩ 2 c cur 5 [.int .u8 x1.toNat,.int .u8 x2.toNat] Tryz.underlying43 oB k1
  (by show 2=Nat.min 2 (M-j);exact(Nat.min_eq_left oA).symm)
  (fun i v hv=>by
   rw[qmn]
   match i,hv with
   |0,hv=>cases hv;exact h0
   |1,hv=>cases hv;exact h1
   | i+2,hv=>cases hv)
  (by show j+2<=cur.size;omega) (fun v hv=>by
   rcases List.mem_cons.1 hv with rfl|hv
   ·rfl
   ·rcases List.mem_cons.1 hv with rfl|hv
    ·rfl
    ·cases hv)
def bv(l:Bs)(j:Nat):Value := .int .u8 (l.getD j 0).toNat
def qy3(l m:Bs)(j:Nat)(h:j<l.length):bv (l++m) j=bv l j:=by unfold bv;rw[List.getD_eq_getElem?_getD,List.getD_eq_getElem?_getD,List.getElem?_append_left h]
def qy2(l m:Bs)(c:UInt8):bv (l++c::m) l.length = .int .u8 c.toNat:=by unfold bv;rw[List.getD_eq_getElem?_getD,List.getElem?_append_right (wF _),Nat.sub_self];rfl
def zab(l m:Bs)(c d:UInt8):bv (l++c::d::m) (l.length+1) = .int .u8 d.toNat:=by unfold bv;rw[List.getD_eq_getElem?_getD,List.getElem?_append_right oA,show l.length+1-l.length=1 by omega];rfl
def zj(l:Bs)(j:Nat)(h:l.length<=j:=by omega):bv l j = .int .u8 0:=by unfold bv;rw[List.getD_eq_getElem?_getD,List.getElem?_eq_none h];rfl
def qy4(l:Bs)(c d:UInt8)(i:Nat):(if i=l.length then Value.int .u8 c.toNat else if i=l.length+1 then .int .u8 d.toNat else bv l i)=bv (l++[c,d]) i:=by
 by_cases h:i<l.length
 ·rw[qW,qW,qy3 _ _ _ h]
 ·by_cases h1:i=l.length
  ·subst h1;rw[qX rfl,qy2]
  ·by_cases h2:i=l.length+1
   ·subst h2;rw[qW h1,qX rfl,zab]
   ·rw[qW h1,qW h2,zj _ _,zj _ _ oD]
def zac(l:Bs)(c:UInt8)(i:Nat):(if i=l.length then Value.int .u8 c.toNat else bv l i)=bv (l++[c]) i:=by
 by_cases h:i<l.length
 ·rw[qW,qy3 _ _ _ h]
 ·by_cases h1:i=l.length
  ·subst h1;rw[qX rfl,qy2]
  ·rw[qW h1,zj _ _,zj _ _ oD]
def vI2(p:Nat):Value.int .i64 ((p:Int)+2) = .int .i64 ((p+2:Nat):Int):=by rw[Int.natCast_add];rfl
def la(p:Nat):Value.int .i64 ((p:Int)+1) = .int .i64 ((p+1:Nat):Int):=by rw[Int.natCast_add];rfl
def q4k(n:Nat)(h:n<=4000000:=by omega):wrap64 (n:Int)=(n:Int):=by unfold wrap64;omega
def zc6(p:Addr)(n c:Nat)(w:World):(binOp .neq 43 (.slice (some p) n c) (.slice none 0 0)).run Tryz.prog w = .ok (.bool true) w:=oB
def zc5(w:World):(binOp .neq 43 (.slice none 0 0) (.slice none 0 0)).run Tryz.prog w = .ok (.bool false) w:=oB
def zbh(p:Addr)(n c:Nat)(w:World):(binOp .eql 43 (.slice (some p) n c) (.slice none 0 0)).run Tryz.prog w = .ok (.bool false) w:=oB
def zbg(w:World):(binOp .eql 43 (.slice none 0 0) (.slice none 0 0)).run Tryz.prog w = .ok (.bool true) w:=oB
set_option maxHeartbeats 4000000 in
set_option maxRecDepth 1000000 in
def q99(R:Nat)(a b a1 a2 b1 b2:UInt8)(s:ByteArray)(w:World)(hab:a≠b)(hs:s.size<=1000000)(hB:gd R a b a1 a2 b1 b2 w) :
  Calls Tryz.prog 335 #[.pointer (some ⟨R,0,none⟩),.string s] w fun e w'=>e = .returned (.string ⟨(dp a b [a1,a2] [b1,b2] s.data.toList).toArray⟩)/\Below w.heap.size w w':=by
 obtain⟨ga,gb,gt,ca,cb,ct,-,hT,ht0,ht1,-⟩:=hB.ex;obtain⟨L,hL⟩:∃L,s.data.toList=L:=⟨_,rfl⟩;have ac:L.length=s.size:=by rw[← hL];exact(Lib.size_eq s).symm
 rw[hL];have HB:Aside (gd R a b a1 a2 b1 b2 w):=hB;clear hB;have cBc:=fun w=>qzi s b w
 have cAc:=fun w=>qzi s a w
 rw[hL]at cBc cAc;obtain⟨Z,hZ⟩:∃Z,fm a b L=Z:=⟨_,rfl⟩;have HZ:Aside (fm a b L=Z):=hZ;have hZ2:Z<=2000000:=by
  rw[← hZ];unfold fm;have h1:=List.count_le_length (a:=a) (l:=L);have h2:=List.count_le_length (a:=b) (l:=L);omega
 clear hZ;obtain⟨M,hM⟩:∃M,s.size+Z=M:=⟨_,rfl⟩;have HM:Aside (s.size+Z=M):=hM;have hMb:M<=3000000:=oA
 clear hM;have hn1:=zc6;have hn2:=zc5
 go_enter Tryz.func335,Tryz.ntmps335
 go_upto_if 26 with(fail)
 go_cut [5,6] (fun s5 s6 wx=>s5 = .int .i64 (M:Nat)/\s6 = .bool (decide (0<Z))/\Below w.heap.size w wx)
 case first=>
  obtain⟨X,hX⟩:∃X,L.count b=X:=⟨_,rfl⟩;obtain⟨Y,hY⟩:∃Y,L.count a=Y:=⟨_,rfl⟩;have HXY:Aside (Z=Y+X):=by show Z=Y+X;rw[← HZ.out];unfold fm;rw[hX,hY]
  have hXl:X<=s.size:=by rw[← hX,← ac];exact List.count_le_length
  have hYl:Y<=s.size:=by rw[← hY,← ac];exact List.count_le_length
  have cBc:∀w,Calls Tryz.prog 153 #[.string s,.string ⟨#[b]⟩] w fun e w'=>e = .returned (.int .i64 (X:Nat))/\w'=w:=fun w=>by rw[← hX];exact cBc w
  have cAc:∀w,Calls Tryz.prog 153 #[.string s,.string ⟨#[a]⟩] w fun e w'=>e = .returned (.int .i64 (Y:Nat))/\w'=w:=fun w=>by rw[← hY];exact cAc w
  clear hX hY
  go_wp2
  ·rename_i h16;clear h16
   go_loopg [5,6,32] 2 (fun gk s5 s6 s32 wx=>Below w.heap.size w wx/\((s32 = .int .i64 0/\s5 = .int .i64 (s.size:Nat)/\s6 = .bool false/\gk=2)\/(s32 = .int .i64 1/\s5 = .int .i64 ((s.size+X:Nat):Int)/\s6 = .bool (decide (0<X))/\gk=1)\/(s32 = .int .i64 2/\s5 = .int .i64 ((s.size+(Y+X):Nat):Int)/\s6 = .bool (decide (0<Y+X))/\gk=0)))
   case atStart=>exact⟨Below.refl _ _,Or.inl ⟨rfl,rfl,rfl,rfl⟩⟩
   case round=>
    obtain⟨hbw,h⟩:=hrel;have ht0':wr.cell? ⟨gt,0,none⟩=some (.string ⟨#[b]⟩):=(hbw.cell (World.block_lt_of_cell? _ _ ht0)).trans ht0;have ht1':wr.cell? ⟨gt,1,none⟩=some (.string ⟨#[a]⟩):=(hbw.cell (World.block_lt_of_cell? _ _ ht1)).trans ht1;clear ht0 ht1;rcases h with⟨rfl,rfl,rfl,rfl⟩|⟨rfl,rfl,rfl,rfl⟩|⟨rfl,rfl,rfl,rfl⟩
    ·have cX:=cBc wr;by_cases h0:X=0
     ·subst h0
      go_wp2_with (go_at_call 153;go_must (refine cX.mono ?_;rintro e W1 ⟨rfl,rfl⟩))
      go_roundg 1
      case measure=>omega
      case rel=>exact⟨hbw,Or.inr (Or.inl ⟨rfl,rfl,rfl,rfl⟩)⟩
     ·have hz:¬((X:Int)=0):=oA
      obtain⟨ga',gb',gt',ca',cb',ct',hR,-⟩:=(HB.out.below hbw).ex;have hRb:wr.cell? ⟨R,b.toNat,none⟩=some (.slice (some ⟨gb',0,none⟩) 2 cb'):=by rw[hR b];unfold rv;rw[qW (fun h=>hab h.symm),qX rfl]
      clear hR;have g0:∀h,(⟨#[b]⟩:ByteArray)[0]'h=b:=fun _=>rfl
      have g1:(b.toNat:Int)<256:=by have:=b.toNat_lt;omega
      go_wp2_with (go_at_call 153;go_must (refine cX.mono ?_;rintro e W1 ⟨rfl,rfl⟩))
      go_region
      all_goals go_wp2
      go_roundg 1
      case measure=>omega
      case rel=>exact⟨hbw.drew,Or.inr (Or.inl ⟨rfl,congrArg _ oA,by rw[decide_eq_true (Nat.pos_of_ne_zero h0)],rfl⟩)⟩
    ·have cX:=cAc wr;by_cases h0:Y=0
     ·subst h0
      go_wp2_with (go_at_call 153;go_must (refine cX.mono ?_;rintro e W1 ⟨rfl,rfl⟩))
      go_roundg 0
      case measure=>omega
      case rel=>exact⟨hbw,Or.inr (Or.inr ⟨rfl,congrArg _ oA,by rw[wO],rfl⟩)⟩
     ·have hz:¬((Y:Int)=0):=oA
      obtain⟨ga',gb',gt',ca',cb',ct',hR,-⟩:=(HB.out.below hbw).ex;have hRb:wr.cell? ⟨R,a.toNat,none⟩=some (.slice (some ⟨ga',0,none⟩) 2 ca'):=by rw[hR a];unfold rv;rw[qX rfl]
      clear hR;have g0:∀h,(⟨#[a]⟩:ByteArray)[0]'h=a:=fun _=>rfl
      have g1:(a.toNat:Int)<256:=by have:=a.toNat_lt;omega
      go_wp2_with (go_at_call 153;go_must (refine cX.mono ?_;rintro e W1 ⟨rfl,rfl⟩))
      go_region
      all_goals go_wp2
      go_roundg 0
      case measure=>omega
      case rel=>exact⟨hbw.drew,Or.inr (Or.inr ⟨rfl,congrArg _ oA,by rw[decide_eq_true (show 0<Y+X by omega)],rfl⟩)⟩
    ·go_wp2
     go_meet
     case rel=>exact⟨by rw[← HM.out,HXY.out],by rw[HXY.out],hbw⟩
  ·rename_i h16;clear h16
   go_loopg [5,6,10] s.size (fun gk s5 s6 s10 wx=>wx=w/\∃k C:Nat,s10 = .int .i64 k/\s5 = .int .i64 ((s.size+C:Nat):Int)/\s6 = .bool (decide (0<C))/\k<=s.size/\s.size<=k+gk/\Aside (fm a b (L.take k)=C)/\C<=2000000)
   case atStart=>exact⟨rfl,0,0,rfl,rfl,rfl,Nat.zero_le _,oA,rfl,oA⟩
   case round=>
    obtain⟨rfl,k,C,rfl,rfl,rfl,hk,hgk,HC,hC⟩:=hrel;by_cases hk2:k<s.size
    ·obtain⟨g,rfl⟩:∃g,gk=g+1:=⟨gk-1,oA⟩
     obtain⟨c,hc⟩:∃c,s[k]'hk2=c:=⟨_,rfl⟩;have hstep:Aside (fm a b (L.take (k+1))=C+(if c=a then 1 else if c=b then 1 else 0)):=by
      have h1:k<L.length:=by rw[ac];exact hk2
      have h2:L[k]'h1=c:=by subst hL;exact hc
      show _=_;rw[q3t L k h1,qni,HC.out,qnj hab,h2]
     have hC3:Aside (fm a b (L.take (k+1))<=2000000):=by
      show _<=_;unfold fm;have h1:=List.count_le_length (a:=a) (l:=L.take (k+1));have h2:=List.count_le_length (a:=b) (l:=L.take (k+1));rw[List.length_take]at h1 h2;omega
     obtain⟨ga',gb',gt',ca',cb',ct',hR,-⟩:=HB.out.ex;have hRc:=hR c;unfold rv at hRc;clear hR;have g1:(c.toNat:Int)<256:=by have:=c.toNat_lt;omega
     by_cases h1:c=a
     ·rw[qX h1]at hRc;rw[qX h1]at hstep;clear h1
      go_wp2
      go_roundg g
      case measure=>omega
      case rel=>exact⟨rfl,k+1,C+1,congrArg _ oA,congrArg _ oA,by rw[decide_eq_true (Nat.succ_pos C)],oA,oA,hstep,by have:=hC3.out;rw[hstep.out]at this;exact this⟩
     ·rw[qW h1]at hRc;rw[qW h1]at hstep;by_cases h2:c=b
      ·rw[qX h2]at hRc;rw[qX h2]at hstep;clear h1 h2
       go_wp2
       go_roundg g
       case measure=>omega
       case rel=>exact⟨rfl,k+1,C+1,congrArg _ oA,congrArg _ oA,by rw[decide_eq_true (Nat.succ_pos C)],oA,oA,hstep,by have:=hC3.out;rw[hstep.out]at this;exact this⟩
      ·rw[qW h2]at hRc;rw[qW h2]at hstep;clear h1 h2
       go_wp2
       go_roundg g
       case measure=>omega
       case rel=>exact⟨rfl,k+1,C,congrArg _ oA,congrArg _ oA,rfl,oA,oA,hstep,hC⟩
    ·obtain rfl:k=s.size:=oA
     have HC2:C=Z:=by rw[← HC.out,← ac,List.take_length,HZ.out]
     subst HC2
     go_wp2
     go_meet
     case rel=>exact⟨by rw[HM.out],rfl,Below.refl _ _⟩
 case rest=>
  obtain⟨rfl,hs6,hbw⟩:=hcut;cases h0:decide (0<Z)<;>rw[h0]at hs6<;>subst hs6
  ·have hz0:=of_decide_eq_false h0;have hid:=qzy hab [a1,a2] [b1,b2] L (by rw[HZ.out];omega)
   clear h0 hz0;have HI:Aside (dp a b [a1,a2] [b1,b2] L=L):=hid;clear hid
   go_wp2
   go_ret
   exact⟨by rw[HI.out,← hL];rfl,hbw⟩
  ·clear h0;have hmk:∀w:World,(Instr.makeSlice 43 (.int .i64 (M:Int)) (.int .i64 (M:Int))).run Tryz.prog w = .ok (.slice (some ⟨w.heap.size,0,none⟩) M M) (w.alloc (.cells (madeCells #[.int .u8 0] M) 5)):=fun w=>
    run_make_row' (P:=Tryz.prog) 43 5 (.int .u8 0) 1 Tryz.underlying43 oB rfl .i64 .i64 M oA oA w
   go_wp2
   obtain⟨G,hG⟩:∃G,wc.heap.size=G:=⟨_,rfl⟩;have hrow0:=World.rowIs_made wc (.int .u8 0) M 5;have hGle:w.heap.size<=G:=by rw[← hG];exact hbw.size
   have hbw1:=hbw.alloc hbw.size (Obj.cells (madeCells #[.int .u8 0] M) 5);rw[hG]at hrow0 ⊢;have hLM:Aside (∀k,(dp a b [a1,a2] [b1,b2] (L.take k)).length<=M):=fun k=>by
    have h1:dp a b [a1,a2] [b1,b2] L=dp a b [a1,a2] [b1,b2] (L.take k)++dp a b [a1,a2] [b1,b2] (L.drop k):=by rw[← qeg,List.take_append_drop]
    have h2:=congrArg List.length h1;rw[qn1 hab,ac,HZ.out,HM.out,qM]at h2;omega
   go_loopg [13,14] s.size (fun gk s13 s14 wx=>∃k j:Nat,s13 = .int .i64 j/\s14 = .int .i64 k/\k<=s.size/\s.size<=k+gk/\j<=M/\Aside ((dp a b [a1,a2] [b1,b2] (L.take k)).length=j)/\Aside (wx.rowIs G 5 M (bv (dp a b [a1,a2] [b1,b2] (L.take k))))/\Below w.heap.size w wx)
   case atStart=>exact⟨0,0,rfl,rfl,Nat.zero_le _,oA,Nat.zero_le _,rfl,hrow0.congr (fun i _=>(zj [] i (Nat.zero_le _)).symm),hbw1⟩
   case round=>
    obtain⟨k,j,rfl,rfl,hk,hgk,hjM,HJ,hrow,hbx⟩:=hrel;clear hrow0 hbw1;by_cases hk2:k<s.size
    ·obtain⟨g,rfl⟩:∃g,gk=g+1:=⟨gk-1,oA⟩
     have HG:Aside (s.size<=k+1+g):=by show _<=_;omega
     clear hgk hk;obtain⟨c,hc⟩:∃c,s[k]'hk2=c:=⟨_,rfl⟩;have hk1:k<L.length:=by rw[ac];exact hk2
     have hLk:L[k]'hk1=c:=by subst hL;exact hc
     have hstep:Aside (dp a b [a1,a2] [b1,b2] (L.take (k+1))=dp a b [a1,a2] [b1,b2] (L.take k)++nr a b [a1,a2] [b1,b2] c):=by
      show _=_;rw[q3t L k hk1,qeg,hLk];show _++(nr a b [a1,a2] [b1,b2] c++[])=_;rw[List.append_nil]
     have hfit:Aside (j+(nr a b [a1,a2] [b1,b2] c).length<=M):=by
      have:=hLM.out (k+1);rw[hstep.out,qM,HJ.out]at this;exact this
     clear hLk hk1;obtain⟨ga',gb',gt',ca',cb',ct',hR,hT',ht0',ht1',ha0,ha1,hb0,hb1⟩:=(HB.out.below hbx).ex;have hRc:=hR c;unfold rv at hRc;clear hR hT' ht0' ht1';have g1:(c.toNat:Int)<256:=by have:=c.toNat_lt;omega
     unfold nr at hstep hfit;by_cases h1:c=a
     ·rw[qX h1]at hRc hstep hfit;have hf2:j+2<=M:=hfit.out;clear h1;have hMj:¬M=j:=oA
      obtain⟨ROW,hcp,hnew⟩:=qzh (w:=wr.drew) (c:=ca') hrow.out.drew hf2 (by rw[World.cell?_drew];exact ha0) (by rw[World.cell?_drew];exact ha1)
      have HN:Aside (_):=hnew;have HW:Aside (wrap64 ((j:Int)+2)=(j:Int)+2):=by have:=q4k (j+2);rw[Int.natCast_add]at this;exact this
      clear hnew
      go_wp2
      go_region
      all_goals go_wp2
      go_roundg g
      case measure=>exact Nat.lt_succ_self _
      case rel=>exact⟨k+1,j+2,by first|exact vI2 j|exact(congrArg (Value.int .i64) HW.out).trans (vI2 j),la k,hk2,HG.out,hf2,by show _=_;rw[hstep.out,qM,HJ.out];rfl,World.rowIs.congr HN.out (fun i _=>by rw[hstep.out,← qy4,HJ.out]),below_setRow hbx.drew hGle _⟩
     ·rw[qW h1]at hRc hstep hfit;by_cases h2:c=b
      ·rw[qX h2]at hRc hstep hfit;have hf2:j+2<=M:=hfit.out;clear h1 h2;have hMj:¬M=j:=oA
       obtain⟨ROW,hcp,hnew⟩:=qzh (w:=wr.drew) (c:=cb') hrow.out.drew hf2 (by rw[World.cell?_drew];exact hb0) (by rw[World.cell?_drew];exact hb1)
       have HN:Aside (_):=hnew;have HW:Aside (wrap64 ((j:Int)+2)=(j:Int)+2):=by have:=q4k (j+2);rw[Int.natCast_add]at this;exact this
       clear hnew
       go_wp2
       go_region
       all_goals go_wp2
       go_roundg g
       case measure=>exact Nat.lt_succ_self _
       case rel=>exact⟨k+1,j+2,by first|exact vI2 j|exact(congrArg (Value.int .i64) HW.out).trans (vI2 j),la k,hk2,HG.out,hf2,by show _=_;rw[hstep.out,qM,HJ.out];rfl,World.rowIs.congr HN.out (fun i _=>by rw[hstep.out,← qy4,HJ.out]),below_setRow hbx.drew hGle _⟩
      ·rw[qW h2]at hRc hstep hfit;have hf1:j+1<=M:=hfit.out;clear h1 h2;have hcell:wr.cell? ⟨G,j,none⟩=some (bv (dp a b [a1,a2] [b1,b2] (L.take k)) j):=hrow.out.cell oA
       have hfroz:wr.frozen? ⟨G,j,none⟩=false:=hrow.out.frozen j
       go_wp2
       go_roundg g
       case measure=>exact Nat.lt_succ_self _
       case rel=>exact⟨k+1,j+1,la j,la k,hk2,HG.out,hf1,by show _=_;rw[hstep.out,qM,HJ.out];rfl,World.rowIs.congr (World.rowIs.set hrow.out j _) (fun i _=>by rw[hstep.out,← zac,HJ.out]),hbx.setCell hGle _⟩
    ·obtain rfl:k=s.size:=oA
     have HT:Aside (L.take s.size=L):=by show _=_;rw[← ac,List.take_length]
     have HE:Aside (∃l,l=dp a b [a1,a2] [b1,b2] L/\l.length=M):=⟨_,rfl,by rw[qn1 hab,ac,HZ.out,HM.out]⟩
     obtain⟨E,hE,hEl⟩:=HE.out;have hcv:(convert 43 9 (.slice (some ⟨G,0,none⟩) M M)).run Tryz.prog wr = .ok (.string ⟨E.toArray⟩) wr:=by
      have h:=run_convert_bytes_back (P:=Tryz.prog) wr 43 9 5 ⟨G,0,none⟩ M E Tryz.underlying43 Tryz.underlying5 Tryz.underlying9 (fun i hi=>by
       rw[qmn,wO,hrow.out.cell oA,HT.out,← hE]
       unfold bv;rw[List.getD_eq_getElem?_getD,List.getElem?_eq_getElem hi];rfl)
      rw[hEl]at h;exact h
     have HEq:Aside (E=dp a b [a1,a2] [b1,b2] L):=hE;clear hE hEl
     go_wp2
     go_ret
     exact⟨by rw[← HEq.out];rfl,hbx⟩
end Go.Proofs.Repl
set_option linter.unusedVariables false
namespace Go.Proofs.Repl
open Go.Shelf Go.RowKit Go.Lib Go.Sym
def zb5:(Tryz.prog.info? 9).map (fun i=>(i.zero,i.size,i.bytes))=some (some (Value.string ⟨#[]⟩),1,16):=oB
def mk2(w:World):(Instr.makeSlice 68 (.int .i64 0) (.int .i64 2)).run Tryz.prog w = .ok (.slice (some ⟨w.heap.size,0,none⟩) 0 2) (w.alloc (.cells #[.string ⟨#[]⟩,.string ⟨#[]⟩] 9)):=by
 obtain⟨i,hi,hzz⟩:=Option.map_eq_some_iff.1 zb5;simp only[qP]at hzz;obtain⟨hz,hs,hb⟩:=hzz;have h:=run_make (P:=Tryz.prog) w 68 9 i (.string ⟨#[]⟩) Tryz.underlying68 hi hz .i64 .i64 0 2 oF oF (by rw[hb];decide) oF
 rw[hs,show madeCells (Value.string ⟨#[]⟩).cells (Int.toNat 2*1)=#[.string ⟨#[]⟩,.string ⟨#[]⟩] from oB]at h
 exact h
def zr(V:Value)(j:Nat):Value:=if j=256 then V else .slice none 0 0
def z1(b:UInt8)(g c:Nat)(V:Value)(j:Nat):Value:=if j=b.toNat then .slice (some ⟨g,0,none⟩) 2 c else zr V j
def zpc:Tryz.zeroCells244.toList.length=257:=oB
def zo9:Tryz.zeroCells244.toList.all (fun v=>v.oneCell')=true:=oB
def gp:Option Value->Bool|some (.slice none n c)=>Nat.beq n 0&&Nat.beq c 0|_=>false
def zb8{v:Option Value}(h:gp v=true):v=some (.slice none 0 0):=by
 unfold gp at h;split at h
 ·simp only[qA]at h;rw[qN h.1,qN h.2]
 ·cases h
def zpa:(List.range 257).all (fun j=>gp Tryz.zeroCells244.toList[j]?)=true:=oB
def zeu(w:World)(T:Nat):∃ROW,(storeCells ⟨w.heap.size,0,none⟩ (Tryz.zeroCells244.toList.set 256 (.slice (some ⟨T,0,none⟩) 0 2))).run Tryz.prog (w.alloc (.cells Tryz.zeroCells244 244)) = .ok () ((w.alloc (.cells Tryz.zeroCells244 244)).setRow w.heap.size ROW) /\
  ((w.alloc (.cells Tryz.zeroCells244 244)).setRow w.heap.size ROW).rowIs w.heap.size 244 257 (zr (.slice (some ⟨T,0,none⟩) 0 2)):=by
 have hnew:(w.alloc (.cells Tryz.zeroCells244 244)).heap[w.heap.size]? = some (.cells Tryz.zeroCells244 244):=heap_alloc_new w _;have hz:=zpc;have h:=run_storeCells_at Tryz.prog w.heap.size 0 244 (Tryz.zeroCells244.toList.set 256 (.slice (some ⟨T,0,none⟩) 0 2)) 0 _ _ hnew (by rw[List.length_set,hz,← Array.length_toList,hz];decide) (fun v hv=>by
  rcases List.mem_or_eq_of_mem_set hv with hv|rfl
  ·exact List.all_eq_true.1 zo9 v hv
  ·rfl)
 refine⟨_,h,?_⟩;refine⟨_,setRow_heap _ _ _ _ _ _ hnew,?_,fun i hi => ?_⟩
 ·simp only[List.size_toArray,qM,List.length_set,List.length_take,List.length_drop,hz];decide
 ·rw[List.getElem?_toArray,List.length_set,hz,List.drop_eq_nil_of_le (by rw[hz];decide),List.append_nil]
  show([]++_)[i]? = _;rw[List.nil_append,List.getElem?_set];unfold zr;by_cases h2:256=i
  ·subst h2;rw[qX rfl,qX rfl,hz];rfl
  ·rw[qW h2,qW (fun e=>h2 e.symm)]
   exact zb8 (List.all_eq_true.1 zpa i (List.mem_range.2 hi))
def uj(w:World)(x y:UInt8):Obj := .cells (bytesRow ⟨#[x,y]⟩ (grownCap w 2 0 5)) 5 ((bytesRow ⟨#[x,y]⟩ (grownCap w 2 0 5)).size,(bytesRow ⟨#[x,y]⟩ (grownCap w 2 0 5)).size+1)
def ue(w:World):Nat:=grownCap w 2 0 5
def cv2(w:World)(x y:UInt8):(convert 9 43 (.string ⟨#[x,y]⟩)).run Tryz.prog w = .ok (.slice (some ⟨w.heap.size,0,none⟩) 2 (ue w)) (w.drew.alloc (uj w x y)):=
 run_bytes_of_string (P:=Tryz.prog) w 9 43 5 ⟨#[x,y]⟩ Tryz.underlying9 Tryz.underlying43 Tryz.underlying5
def zaa(w W:World)(x y:UInt8):(W.alloc (uj w x y)).cell? ⟨W.heap.size,0,none⟩=some (.int .u8 x.toNat)/\(W.alloc (uj w x y)).cell? ⟨W.heap.size,1,none⟩=some (.int .u8 y.toNat):=by
 unfold uj;rw[World.cell?_alloc_mark,World.cell?_alloc_mark];exact⟨bytesRow_at ⟨#[x,y]⟩ _ 0 (by show 0<2;decide),bytesRow_at ⟨#[x,y]⟩ _ 1 (by show 1<2;decide)⟩
def cv1(w:World)(x:UInt8):(convert 43 9 (.slice (some ⟨w.heap.size,0,none⟩) 1 1)).run Tryz.prog (w.alloc (.cells #[.int .u8 x.toNat] 5)) = .ok (.string ⟨#[x]⟩) (w.alloc (.cells #[.int .u8 x.toNat] 5)):=
 run_convert_bytes_back (P:=Tryz.prog) _ 43 9 5 ⟨w.heap.size,0,none⟩ 1 [x] Tryz.underlying43 Tryz.underlying5 Tryz.underlying9 (fun i hi=>by
  have:i=0:=by simpa using hi
  subst this;rw[qmn];show World.cell? _ ⟨w.heap.size,0,none⟩=_;unfold World.cell?;rw[show(w.alloc (.cells #[.int .u8 (x.toNat:Int)] 5)).heap[w.heap.size]? = _ from heap_alloc_new w _]
  rfl)
def w4(wr:World)(T k n:Nat)(c:UInt8):World:=(((wr.alloc (.cells #[.int .u8 c.toNat] 5)).alloc (.cells #[.string ⟨#[c]⟩] 9)).setCell ⟨T,k,none⟩ (.string ⟨#[c]⟩)).setCell ⟨T+1,256,none⟩ (.slice (some ⟨T,0,none⟩) n 2)
def w5(wr:World)(T k n:Nat)(c x y:UInt8):World:=(((w4 wr T k n c).alloc (uj (w4 wr T k n c) x y)).setCell ⟨T+1,c.toNat,none⟩ (.slice (some ⟨wr.heap.size+1+1,0,none⟩) 2 (ue (w4 wr T k n c)))).drew
def q3j(wr:World)(T k n:Nat)(c x y:UInt8)(hT:T+2<=wr.heap.size){f h:Nat->Value}(hR:wr.rowIs (T+1) 244 257 f)(hTr:wr.rowIs T 9 2 h) :
  (w5 wr T k n c x y).rowIs (T+1) 244 257 (fun j=>if j=c.toNat then .slice (some ⟨wr.heap.size+1+1,0,none⟩) 2 (ue (w4 wr T k n c)) else if j=256 then .slice (some ⟨T,0,none⟩) n 2 else f j)/\(w5 wr T k n c x y).rowIs T 9 2 (fun i=>if i=k then .string ⟨#[c]⟩ else h i) /\
   (w5 wr T k n c x y).cell? ⟨wr.heap.size+1+1,0,none⟩=some (.int .u8 x.toNat)/\(w5 wr T k n c x y).cell? ⟨wr.heap.size+1+1,1,none⟩=some (.int .u8 y.toNat)/\(∀p:Addr,T+2<=p.block->p.block<wr.heap.size->(w5 wr T k n c x y).cell? p=wr.cell? p)/\Below T wr (w5 wr T k n c x y)/\T+2<=(w5 wr T k n c x y).heap.size:=by
 unfold w5;generalize hWb:uj (w4 wr T k n c) x y=B;generalize (Value.slice (some ⟨wr.heap.size+1+1,0,none⟩) 2 (ue (w4 wr T k n c)))=V3;have hbc0:=fun W=>zaa (w4 wr T k n c) W x y
 rw[hWb]at hbc0;unfold w4;clear hWb;generalize (Obj.cells #[.int .u8 c.toNat] 5)=o1;generalize (Obj.cells #[.string ⟨#[c]⟩] 9)=o2;generalize (Value.string ⟨#[c]⟩)=S;generalize (Value.slice (some ⟨T,0,none⟩) n 2)=V2;have hsz:((((wr.alloc o1).alloc o2).setCell ⟨T,k,none⟩ S).setCell ⟨T+1,256,none⟩ V2).heap.size=wr.heap.size+1+1:=by simp[World.setCell]
 have hbc:=hbc0 ((((wr.alloc o1).alloc o2).setCell ⟨T,k,none⟩ S).setCell ⟨T+1,256,none⟩ V2);rw[hsz]at hbc;refine⟨?_,?_,?_,?_,fun p h1 h2 => ?_,?_,?_⟩
 ·exact(((((hR.alloc o1).alloc o2).setOther (a:=⟨T,k,none⟩) oC S).set 256 V2).alloc _).set _ V3
 ·exact(((((hTr.alloc o1).alloc o2).set k S).setOther (a:=⟨T+1,256,none⟩) oC V2).alloc _).setOther (a:=⟨T+1,c.toNat,none⟩) oC V3
 ·rw[World.cell?_drew,World.cell?_setCell_other _ _ _ _ (by intro h;have:=congrArg Addr.block h;simp at this;omega)];exact hbc.1
 ·rw[World.cell?_drew,World.cell?_setCell_other _ _ _ _ (by intro h;have:=congrArg Addr.block h;simp at this;omega)];exact hbc.2
 ·refine World.cell?_of_block (w:=wr) ?_;show(World.setCell _ _ _).heap[p.block]? = _;rw[Below.heap_setCell _ _ _ _ oD,Below.heap_alloc _ _ _ (by rw[hsz];omega),Below.heap_setCell _ _ _ _ oD,Below.heap_setCell _ _ _ _ oD,Below.heap_alloc _ _ _ oD,Below.heap_alloc _ _ _ h2]
 ·have hsz2:wr.heap.size+1+1=((((wr.alloc o1).alloc o2).setCell ⟨T,k,none⟩ S).setCell ⟨T+1,256,none⟩ V2).heap.size:=hsz.symm;exact(((((((Below.refl T wr).alloc oA o1).alloc oD o2).setCell (p:=⟨T,k,none⟩) (wF _) S).setCell (p:=⟨T+1,256,none⟩) (Nat.le_succ _) V2).alloc oA _).setCell (p:=⟨T+1,c.toNat,none⟩) (Nat.le_succ _) V3).drew
 ·show _<=(World.setCell _ _ _).heap.size;simp[World.setCell];omega
set_option maxHeartbeats 4000000 in
set_option maxRecDepth 1000000 in
def q94(q ro cap:Nat)(a b a1 a2 b1 b2:UInt8)(w:World)(hab:a≠b)
  (hc:w.cell? ⟨q,4,none⟩=some (.slice (some ⟨ro,0,none⟩) 4 cap)) (h0:w.cell? ⟨ro,0,none⟩=some (.string ⟨#[a]⟩)) (h1:w.cell? ⟨ro,1,none⟩=some (.string ⟨#[a1,a2]⟩)) (h2:w.cell? ⟨ro,2,none⟩=some (.string ⟨#[b]⟩)) (h3:w.cell? ⟨ro,3,none⟩=some (.string ⟨#[b1,b2]⟩)) :
  Calls Tryz.prog 132 #[.pointer (some ⟨q,0,none⟩)] w fun e w'=>∃R,e = .returned (.iface 245 (.pointer (some ⟨R,0,none⟩)))/\gd R a b a1 a2 b1 b2 w'/\Below w.heap.size w w':=by
 go_enter Tryz.func132,Tryz.ntmps132
 go_wp2
 go_loopg [4,5] 2 (fun gk s4 s5 wx=>wx=w/\((s5 = .int .i64 0/\s4 = .bool true/\gk=2)\/(s5 = .int .i64 2/\s4 = .bool false/\gk=1)\/(s5 = .int .i64 4/\s4 = .bool false/\gk=0)))
 case atStart=>exact⟨rfl,Or.inl ⟨rfl,rfl,rfl⟩⟩
 case round=>
  obtain⟨rfl,⟨rfl,rfl,rfl⟩|⟨rfl,rfl,rfl⟩|⟨rfl,rfl,rfl⟩⟩:=hrel
  ·go_wp2
   go_roundg 1
   case measure=>exact Nat.lt_succ_self _
   case rel=>exact⟨rfl,Or.inr (Or.inl ⟨rfl,rfl,rfl⟩)⟩
  ·go_wp2
   go_roundg 0
   case measure=>exact Nat.lt_succ_self _
   case rel=>exact⟨rfl,Or.inr (Or.inr ⟨rfl,rfl,rfl⟩)⟩
  ·have hmk:=mk2;obtain⟨W1,hW1⟩:∃W1,wr.alloc (.cells #[.string ⟨#[]⟩,.string ⟨#[]⟩] 9)=W1:=⟨_,rfl⟩;have hz1:W1.heap.size=wr.heap.size+1:=by rw[← hW1];simp
   have hT1:W1.rowIs wr.heap.size 9 2 (fun _ => .string ⟨#[]⟩):=by rw[← hW1];exact World.rowIs_alloc wr _ _ _ (fun i hi=>by match i,hi with|0,_=>rfl|1,_=>rfl)
   have hb1:Below wr.heap.size wr W1:=by rw[← hW1];exact(Below.refl _ _).alloc (wF _) _
   obtain⟨ROW,hst,hrow⟩:=zeu W1 wr.heap.size;rw[hz1]at hst hrow;have hT2:=(hT1.alloc (.cells Tryz.zeroCells244 244)).of_block (setRow_other (W1.alloc (.cells Tryz.zeroCells244 244)) (wr.heap.size+1) wr.heap.size ROW oA)
   have hb2:=below_setRow (hb1.alloc hb1.size (.cells Tryz.zeroCells244 244)) (Nat.le_succ wr.heap.size) ROW;obtain⟨W2,hW2⟩:∃W2,(W1.alloc (.cells Tryz.zeroCells244 244)).setRow (wr.heap.size+1) ROW=W2:=⟨_,rfl⟩;rw[hW2]at hst hrow hT2 hb2;have HB2:Aside (W2.rowIs (wr.heap.size+1) 244 257 (zr (.slice (some ⟨wr.heap.size,0,none⟩) 0 2))/\W2.rowIs wr.heap.size 9 2 (fun _ => .string ⟨#[]⟩)/\Below wr.heap.size wr W2):=⟨hrow,hT2,hb2⟩
   clear hrow hT2 hb2 hT1 hb1 hW2
   go_wp2
   obtain⟨T,hT⟩:∃T,wr.heap.size=T:=⟨_,rfl⟩;rw[hT]at HB2 ⊢;have hS:Aside (wr.heap.size=T):=hT;clear hst hmk hz1 hW1 hT
   go_loopg [12] 2 (fun gk s12 wx=>Below T wr wx/\T+2<=wx.heap.size/\(
    (s12 = .int .i64 2/\gk=2/\Aside (wx.rowIs (T+1) 244 257 (zr (.slice (some ⟨T,0,none⟩) 0 2))/\wx.rowIs T 9 2 (fun _ => .string ⟨#[]⟩))) \/
    (s12 = .int .i64 0/\gk=1/\∃gb cb,T+2<=gb/\gb<wx.heap.size/\Aside (wx.rowIs (T+1) 244 257 (fun j=>if j=b.toNat then .slice (some ⟨gb,0,none⟩) 2 cb else if j=256 then .slice (some ⟨T,0,none⟩) 1 2 else .slice none 0 0)/\wx.rowIs T 9 2 (fun i=>if i=0 then .string ⟨#[b]⟩ else .string ⟨#[]⟩)/\wx.cell? ⟨gb,0,none⟩=some (.int .u8 b1.toNat)/\wx.cell? ⟨gb,1,none⟩=some (.int .u8 b2.toNat))) \/
    (s12 = .int .i64 (-2)/\gk=0/\Aside (gd (T+1) a b a1 a2 b1 b2 wx))))
   case atStart=>exact⟨HB2.out.2.2,by have:=HB2.out.1.lt;omega,Or.inl ⟨rfl,rfl,HB2.out.1,HB2.out.2.1⟩⟩
   case round=>
    obtain⟨hbx,hsz,h⟩:=hrel;have k0:=(hbx.cell (p:=⟨ro,0,none⟩) (by rw[← hS.out];exact World.block_lt_of_cell? _ _ h0)).trans h0
    have k1:=(hbx.cell (p:=⟨ro,1,none⟩) (by rw[← hS.out];exact World.block_lt_of_cell? _ _ h1)).trans h1
    have k2:=(hbx.cell (p:=⟨ro,2,none⟩) (by rw[← hS.out];exact World.block_lt_of_cell? _ _ h2)).trans h2
    have k3:=(hbx.cell (p:=⟨ro,3,none⟩) (by rw[← hS.out];exact World.block_lt_of_cell? _ _ h3)).trans h3
    clear h0 h1 h2 h3 hc HB2;have e1:=zbh;have e2:=zbg;have e3:=cv1;have e4:=cv2;rcases h with⟨rfl,rfl,hr⟩|⟨rfl,rfl,gb,cb,hgb,hgs,hr⟩|⟨rfl,rfl,hr⟩
    ·have g0:∀h,(⟨#[b]⟩:ByteArray)[0]'h=b:=fun _=>rfl
     have g1:(b.toNat:Int)<256:=by have:=b.toNat_lt;omega
     have g2:b.toNat<256:=b.toNat_lt;have hRb:wr.cell? ⟨T+1,b.toNat,none⟩=some (.slice none 0 0):=by
      rw[hr.out.1.cell oA];unfold zr;rw[qW (by have:=b.toNat_lt;omega)]
     have hR2:wr.cell? ⟨T+1,256,none⟩=some (.slice (some ⟨T,0,none⟩) 0 2):=by rw[hr.out.1.cell oF];rfl
     have hT0:∀o1 o2,((wr.alloc o1).alloc o2).cell? ⟨T,0,none⟩=some (.string ⟨#[]⟩):=fun o1 o2=>((hr.out.2.alloc o1).alloc o2).cell oF
     have hTf:∀o1 o2,((wr.alloc o1).alloc o2).frozen? ⟨T,0,none⟩=false:=fun o1 o2=>((hr.out.2.alloc o1).alloc o2).frozen _
     have hR3:∀o1 o2,((wr.alloc o1).alloc o2).cell? ⟨T+1,256,none⟩=some (.slice (some ⟨T,0,none⟩) 0 2):=fun o1 o2=>by rw[((hr.out.1.alloc o1).alloc o2).cell oF];rfl
     have hRf:∀o1 o2,((wr.alloc o1).alloc o2).frozen? ⟨T+1,256,none⟩=false:=fun o1 o2=>((hr.out.1.alloc o1).alloc o2).frozen _
     have hR4:∀o1 o2 v1 v2 o3,(((((wr.alloc o1).alloc o2).setCell ⟨T,0,none⟩ v1).setCell ⟨T+1,256,none⟩ v2).alloc o3).cell? ⟨T+1,b.toNat,none⟩=some (.slice none 0 0):=fun o1 o2 v1 v2 o3=>by
      rw[((((((hr.out.1.alloc o1).alloc o2).setOther (a:=⟨T,0,none⟩) oC v1).set 256 v2)).alloc o3).cell oA]
      rw[qW];unfold zr;rw[qW (by have:=b.toNat_lt;omega)]
     have hRg:∀o1 o2 v1 v2 o3,(((((wr.alloc o1).alloc o2).setCell ⟨T,0,none⟩ v1).setCell ⟨T+1,256,none⟩ v2).alloc o3).frozen? ⟨T+1,b.toNat,none⟩=false:=fun o1 o2 v1 v2 o3=>
      ((((((hr.out.1.alloc o1).alloc o2).setOther (a:=⟨T,0,none⟩) oC v1).set 256 v2)).alloc o3).frozen _
     clear g2
     go_wp2
     go_roundg 1
     case measure=>exact Nat.lt_succ_self _
     case rel=>
      have HS:=q3j wr T 0 1 b b1 b2 hsz hr.out.1 hr.out.2;obtain⟨q1,q2,q3,q4,q5,q6,q7⟩:=HS;have q8:=World.block_lt_of_cell? _ _ q3;refine⟨hbx.trans q6,q7,Or.inr (Or.inl ⟨rfl,rfl,wr.heap.size+1+1,ue (w4 wr T 0 1 b),oA,q8,(?_:_/\_/\_/\_)⟩)⟩
      refine⟨q1.congr (fun j _ => ?_),q2,q3,q4⟩
      ·show(if _ then _ else if _ then _ else zr _ j)=_
       unfold zr;by_cases h1:j=b.toNat
       ·rw[qX h1,qX h1]
       ·by_cases h2:j=256
        ·rw[qW h1,qX h2,qW h1,qX h2]
        ·rw[qW h1,qW h2,qW h2,qW h1,qW h2]
    ·have g0:∀h,(⟨#[a]⟩:ByteArray)[0]'h=a:=fun _=>rfl
     have g1:(a.toNat:Int)<256:=by have:=a.toNat_lt;omega
     have g2:a.toNat<256:=a.toNat_lt;have hne:¬a.toNat=b.toNat:=fun h=>hab (UInt8.toNat_inj.1 h)
     have HNE:Aside (¬a.toNat=b.toNat):=hne;have hRb:wr.cell? ⟨T+1,a.toNat,none⟩=some (.slice none 0 0):=by
      rw[hr.out.1.cell oA];rw[qW,qW]
     have hR2:wr.cell? ⟨T+1,256,none⟩=some (.slice (some ⟨T,0,none⟩) 1 2):=by rw[hr.out.1.cell oF];rw[qW (by have:=b.toNat_lt;omega),qX rfl]
     have hT0:∀o1 o2,((wr.alloc o1).alloc o2).cell? ⟨T,1,none⟩=some (.string ⟨#[]⟩):=fun o1 o2=>((hr.out.2.1.alloc o1).alloc o2).cell oF
     have hTf:∀o1 o2,((wr.alloc o1).alloc o2).frozen? ⟨T,1,none⟩=false:=fun o1 o2=>((hr.out.2.1.alloc o1).alloc o2).frozen _
     have hR3:∀o1 o2,((wr.alloc o1).alloc o2).cell? ⟨T+1,256,none⟩=some (.slice (some ⟨T,0,none⟩) 1 2):=fun o1 o2=>by rw[((hr.out.1.alloc o1).alloc o2).cell oF];rw[qW (by have:=b.toNat_lt;omega),qX rfl]
     have hRf:∀o1 o2,((wr.alloc o1).alloc o2).frozen? ⟨T+1,256,none⟩=false:=fun o1 o2=>((hr.out.1.alloc o1).alloc o2).frozen _
     have hR4:∀o1 o2 v1 v2 o3,(((((wr.alloc o1).alloc o2).setCell ⟨T,1,none⟩ v1).setCell ⟨T+1,256,none⟩ v2).alloc o3).cell? ⟨T+1,a.toNat,none⟩=some (.slice none 0 0):=fun o1 o2 v1 v2 o3=>by
      rw[((((((hr.out.1.alloc o1).alloc o2).setOther (a:=⟨T,1,none⟩) oC v1).set 256 v2)).alloc o3).cell oA]
      rw[qW];rw[qW,qW]
     have hRg:∀o1 o2 v1 v2 o3,(((((wr.alloc o1).alloc o2).setCell ⟨T,1,none⟩ v1).setCell ⟨T+1,256,none⟩ v2).alloc o3).frozen? ⟨T+1,a.toNat,none⟩=false:=fun o1 o2 v1 v2 o3=>
      ((((((hr.out.1.alloc o1).alloc o2).setOther (a:=⟨T,1,none⟩) oC v1).set 256 v2)).alloc o3).frozen _
     clear g2 hne
     go_wp2
     go_roundg 0
     case measure=>exact Nat.lt_succ_self _
     case rel=>
      have HS:=q3j wr T 1 2 a a1 a2 hsz hr.out.1 hr.out.2.1;obtain⟨q1,q2,q3,q4,q5,q6,q7⟩:=HS;have hgbR:=(q5 ⟨gb,0,none⟩ hgb hgs).trans hr.out.2.2.1;have hgbS:=(q5 ⟨gb,1,none⟩ hgb hgs).trans hr.out.2.2.2;have hB:gd (T+1) a b a1 a2 b1 b2 (w5 wr T 1 2 a a1 a2):=by
       refine⟨wr.heap.size+1+1,gb,T,ue (w4 wr T 1 2 a),cb,2,fun d => ?_,?_,?_,?_,q3,q4,hgbR,hgbS⟩
       ·rw[q1.cell (by have:=d.toNat_lt;omega)]
        unfold rv;by_cases h1:d=a
        ·rw[qX (congrArg _ h1),qX h1]
        ·rw[qW (fun h=>h1 (UInt8.toNat_inj.1 h)),qW h1,qW (by have:=d.toNat_lt;omega)]
         by_cases h2:d=b
         ·rw[qX (congrArg _ h2),qX h2]
         ·rw[qW (fun h=>h2 (UInt8.toNat_inj.1 h)),qW h2,qW (by have:=d.toNat_lt;omega)]
       ·rw[q1.cell oF,qW (by have:=a.toNat_lt;omega),qX rfl]
       ·rw[q2.cell oF];rfl
       ·rw[q2.cell oF];rfl
      exact⟨hbx.trans q6,q7,Or.inr (Or.inr ⟨rfl,rfl,hB⟩)⟩
    ·go_wp2
     go_ret
     exact⟨T+1,rfl,hr.out,by rw[hS.out];exact hbx⟩
end Go.Proofs.Repl
namespace Go.Proofs.YtboiflmddgacmaaGreatDoor.Once
open Go.Sym(oB)
def disable(w:World):(callFunc 223 #[]).run Tryz.prog w = .ok (.value (.tuple #[])) w:=run_call_mark0 Tryz.func223 oB oB oB .disable oB w
def enable(w:World):(callFunc 225 #[]).run Tryz.prog w = .ok (.value (.tuple #[])) w:=run_call_mark0 Tryz.func225 oB oB oB .enable oB w
def acquire(a:Addr)(w:World):(callFunc 226 #[.pointer (some a)]).run Tryz.prog w = .ok (.value (.tuple #[])) w:=run_call_marked Tryz.func226 oB oB oB .acquire oB a w
def releaseMerge(a:Addr)(w:World):(callFunc 228 #[.pointer (some a)]).run Tryz.prog w = .ok (.value (.tuple #[])) w:=run_call_marked Tryz.func228 oB oB oB .releaseMerge oB a w
set_option maxHeartbeats 1600000 in
def zez(a:Addr)(x:Value)(u:FrameMode)(w:World)(hc:w.cell? a=some x)(hz:w.frozen? a=false) :
  CallsD Tryz.prog 163 #[.pointer (some a),.bool true] u w fun e u' w'=>u'=u/\(e = .returned (.tuple #[])/\w'=w.drew.setCell a (.int .u32 1)):=by
 have hc':w.drew.cell? a=some x:=by go_simp
 have hz':w.drew.frozen? a=false:=by go_simp
 have hst:=run_call_store (P:=Tryz.prog) Tryz.func196 oB oB oB oB (k := .u32) (y:=1) hc' hz'
 go_enter_d Tryz.func163,Tryz.ntmps163
 go_wp2
 go_region_calls
 all_goals (go_end0;exact⟨rfl,rfl⟩)
set_option maxHeartbeats 1600000 in
def zfg(a:Addr)(u:FrameMode)(w:World)(hc:w.cell? a=some (.int .i32 1))(hz:w.frozen? a=false) :
  CallsD Tryz.prog 162 #[.pointer (some a)] u w fun e u' w'=>u'=u/\(e = .returned (.tuple #[])/\w'=w.setCell a (.int .i32 0)):=by
 have hd:=disable;have he:=enable;have hr:=releaseMerge;have hadd:=run_call_add (P:=Tryz.prog) Tryz.func229 oB oB oB .i32 oB (y := -1) (s:=0) hc hz (by simp[go_sem];rfl)
 have hcv:=run_convert_to_unsafe (P:=Tryz.prog) (src:=310) (dst:=192) Tryz.underlying310 Tryz.underlying192 oB hc
 go_enter_d Tryz.func162,Tryz.ntmps162
 go_wp2
 go_end0
 go_wp2
 go_end0
 exact⟨rfl,rfl⟩
set_option maxHeartbeats 1600000 in
def zco(a:Addr)(w:World)(hc:w.cell? a=some (.int .i32 0))(hz:w.frozen? a=false) :
  Calls Tryz.prog 161 #[.pointer (some a)] w fun e w'=>e = .returned (.tuple #[])/\w'=w.setCell a (.int .i32 1):=by
 have hd:=disable;have he:=enable;have ha:=acquire;have hcas:=run_call_cas_hit (P:=Tryz.prog) Tryz.func224 oB oB oB .i32 oB (y:=1) hc hz
 have hc':(w.setCell a (.int .i32 1)).cell? a=some (.int .i32 1):=World.cell?_setCell_same w a _ hc;have hcv:=run_convert_to_unsafe (P:=Tryz.prog) (src:=310) (dst:=192) Tryz.underlying310 Tryz.underlying192 oB hc'
 go_enter Tryz.func161,Tryz.ntmps161
 go_wp2
 first|go_end0|(simp only[Exit.inBlock,Exit.then];refine bodyPost_ret (results_none rfl _ _ _) rfl ?_)|refine bodyPost_ret (results_none rfl _ _ _) rfl ?_
 go_wp2
 go_end0
 exact⟨rfl,rfl⟩
end Go.Proofs.YtboiflmddgacmaaGreatDoor.Once
namespace Go.Proofs.YtboiflmddgacmaaGreatDoor.Once
open Go.Sym(oB oC)
set_option maxHeartbeats 1600000 in
def zeo(b:Nat)(w:World)(R:World->Prop)
  (h0:w.cell? ⟨b,0,none⟩=some (.int .u32 0)) (h1:w.cell? ⟨b,0+1,none⟩=some (.int .i32 0)) (f0:w.frozen? ⟨b,0,none⟩=false) (f1:w.frozen? ⟨b,0+1,none⟩=false)
  (hf:Calls Tryz.prog 103 #[.pointer (some ⟨b,0,none⟩)] (w.setCell ⟨b,0+1,none⟩ (.int .i32 1)) fun e w'=>e = .returned (.tuple #[])/\R w')
  (hR:∀w',R w'->w'.cell? ⟨b,0,none⟩=some (.int .u32 0)/\w'.frozen? ⟨b,0,none⟩=false/\w'.cell? ⟨b,0+1,none⟩=some (.int .i32 1)/\w'.frozen? ⟨b,0+1,none⟩=false) :
  Calls Tryz.prog 131 #[.pointer (some ⟨b,0,none⟩),.func (.func 103) #[.pointer (some ⟨b,0,none⟩)] #[]] w fun e w'=>e = .returned (.tuple #[])/\∃w1,R w1/\w'=(w1.drew.setCell ⟨b,0,none⟩ (.int .u32 1)).setCell ⟨b,0+1,none⟩ (.int .i32 0):=by
 have hl:=run_call_load (P:=Tryz.prog) Tryz.func160 oB oB oB .u32 oB (w:=w.setCell ⟨b,0+1,none⟩ (.int .i32 1)) (a:=⟨b,0,none⟩) (x:=0) ((World.cell?_setCell_other _ ⟨b,0+1,none⟩ ⟨b,0,none⟩ _ oC).trans h0)
 have hnot:∀(x:Bool)(w:World),(Op.unary .not (.bool x)).run Tryz.prog w = .ok (.bool (!x)) w:=fun _ _=>rfl
 go_enter_defers Tryz.func131,Tryz.ntmps131
 go_wp2_with (first|(go_at_call 161;refine(zco ⟨b,0+1,none⟩ _ (by go_simp) (by go_simp)).mono ?_;rintro e w' ⟨rfl,rfl⟩)|(go_at_call 130;go_in)|(go_at_call 103;refine hf.mono ?_;rintro e w' ⟨rfl,hw⟩))
 obtain⟨r0,rf0,r1,rf1⟩:=hR w' hw
 first|go_end0|skip
 first|go_wp2|skip
 refine leaves_cons (f:=163) (args:=#[.pointer (some ⟨b,0,none⟩),.bool true]) oC (by simp[go_sem]) ?_
 refine(zez ⟨b,0,none⟩ (.int .u32 0) .returning _ r0 rf0).mono ?_;rintro e u' w'' ⟨rfl,rfl,rfl⟩
 refine leaves_cons (f:=162) (args:=#[.pointer (some ⟨b,0+1,none⟩)]) (by simp[settle]) (by simp[go_sem]) ?_
 have r1':(w'.drew.setCell ⟨b,0,none⟩ (.int .u32 1)).cell? ⟨b,0+1,none⟩=some (.int .i32 1):=by
  refine(World.cell?_setCell_other _ ⟨b,0,none⟩ ⟨b,0+1,none⟩ _ oC).trans ?_
  rw[World.cell?_drew];exact r1
 refine(zfg ⟨b,0+1,none⟩ _ _ r1' (by simp[rf1])).mono ?_
 rintro e u' w'' ⟨rfl,rfl,rfl⟩
 simp[Leaves,settle,results,Tryz.results131];exact⟨w',hw,rfl⟩
set_option maxHeartbeats 1600000 in
def qzs(b:Nat)(w:World)(R:World->Prop)
  (h0:w.cell? ⟨b,0,none⟩=some (.int .u32 0)) (h1:w.cell? ⟨b,0+1,none⟩=some (.int .i32 0)) (f0:w.frozen? ⟨b,0,none⟩=false) (f1:w.frozen? ⟨b,0+1,none⟩=false)
  (hf:Calls Tryz.prog 103 #[.pointer (some ⟨b,0,none⟩)] (w.setCell ⟨b,0+1,none⟩ (.int .i32 1)) fun e w'=>e = .returned (.tuple #[])/\R w')
  (hR:∀w',R w'->w'.cell? ⟨b,0,none⟩=some (.int .u32 0)/\w'.frozen? ⟨b,0,none⟩=false/\w'.cell? ⟨b,0+1,none⟩=some (.int .i32 1)/\w'.frozen? ⟨b,0+1,none⟩=false) :
  Calls Tryz.prog 102 #[.pointer (some ⟨b,0,none⟩),.func (.func 103) #[.pointer (some ⟨b,0,none⟩)] #[]] w fun e w'=>e = .returned (.tuple #[])/\∃w1,R w1/\w'=(w1.drew.setCell ⟨b,0,none⟩ (.int .u32 1)).setCell ⟨b,0+1,none⟩ (.int .i32 0):=by
 have hl:=run_call_load (P:=Tryz.prog) Tryz.func160 oB oB oB .u32 oB h0
 have hnot:∀(x:Bool)(w:World),(Op.unary .not (.bool x)).run Tryz.prog w = .ok (.bool (!x)) w:=fun _ _=>rfl
 go_enter Tryz.func102,Tryz.ntmps102
 go_wp2_with (first|(go_at_call 130;go_in)|(go_at_call 131;refine(zeo b w R h0 h1 f0 f1 hf hR).mono ?_;rintro e w' ⟨rfl,w1,hw1,rfl⟩))
 go_end0
 exact⟨rfl,w1,hw1,rfl⟩
set_option maxHeartbeats 1600000 in
def za5(a:Addr)(d:Int)(hd:¬d=0)(fv:Value)(w:World)(h0:w.cell? a=some (.int .u32 d)) :
  Calls Tryz.prog 102 #[.pointer (some a),fv] w fun e w'=>e = .returned (.tuple #[])/\w'=w:=by
 have hl:=run_call_load (P:=Tryz.prog) Tryz.func160 oB oB oB .u32 oB h0
 have hnot:∀(x:Bool)(w:World),(Op.unary .not (.bool x)).run Tryz.prog w = .ok (.bool (!x)) w:=fun _ _=>rfl
 have hd':(d != 0)=true:=by simp[hd]
 go_enter Tryz.func102,Tryz.ntmps102
 go_wp2
 go_end0
 exact⟨rfl,rfl⟩
end Go.Proofs.YtboiflmddgacmaaGreatDoor.Once
namespace Go.Proofs.YtboiflmddgacmaaGreatDoor.Once
open Go.Sym(oC)
set_option maxHeartbeats 1600000 in
def replace_first(b:Nat)(s:ByteArray)(w:World)(R:World->Prop)(Q:Value->World->Prop)
  (h0:w.cell? ⟨b,0,none⟩=some (.int .u32 0)) (h1:w.cell? ⟨b,0+1,none⟩=some (.int .i32 0)) (f0:w.frozen? ⟨b,0,none⟩=false) (f1:w.frozen? ⟨b,0+1,none⟩=false)
  (hf:Calls Tryz.prog 103 #[.pointer (some ⟨b,0,none⟩)] (w.setCell ⟨b,0+1,none⟩ (.int .i32 1)) fun e w'=>e = .returned (.tuple #[])/\R w')
  (hR:∀w',R w'->w'.cell? ⟨b,0,none⟩=some (.int .u32 0)/\w'.frozen? ⟨b,0,none⟩=false/\w'.cell? ⟨b,0+1,none⟩=some (.int .i32 1)/\w'.frozen? ⟨b,0+1,none⟩=false)
  (hg:∀w',R w'->∃g,w'.cell? ⟨b,3,none⟩=some (.iface 241 (.pointer (some ⟨g,0,none⟩))) /\
   Calls Tryz.prog 333 #[.pointer (some ⟨g,0,none⟩),.string s] ((w'.drew.setCell ⟨b,0,none⟩ (.int .u32 1)).setCell ⟨b,0+1,none⟩ (.int .i32 0)) fun e w''=>∃v,e = .returned v/\Q v w'') :
  Calls Tryz.prog 64 #[.pointer (some ⟨b,0,none⟩),.string s] w fun e w'=>∃v,e = .returned v/\Q v w':=by
 have hme : ∀ (g : Nat) (w : World), (method 511 241 (.pointer (some ⟨g, 0, none⟩)) "Replace").run Tryz.prog w = .ok (333, .pointer (some ⟨g, 0, none⟩)) w := fun _ _ => by kernel_rfl
 go_enter Tryz.func64,Tryz.ntmps64
 go_wp2_with (first|(go_at_call 102;refine(qzs b w R h0 h1 f0 f1 hf hR).mono ?_;rintro e w' ⟨rfl,w1,hw1,rfl⟩;obtain⟨g,hg1,hg2⟩:=hg w1 hw1;have hc3:((w1.drew.setCell ⟨b,0,none⟩ (.int .u32 1)).setCell ⟨b,0+1,none⟩ (.int .i32 0)).cell? ⟨b,3,none⟩=some (.iface 241 (.pointer (some ⟨g,0,none⟩))):=((World.cell?_setCell_other _ ⟨b,0+1,none⟩ ⟨b,3,none⟩ _ oC).trans ((World.cell?_setCell_other _ ⟨b,0,none⟩ ⟨b,3,none⟩ _ oC).trans (by rw[World.cell?_drew];exact hg1))))|(go_at_call 333;refine hg2.mono ?_;rintro e w' ⟨v,rfl,hq⟩))
 go_ret
 exact⟨_,rfl,hq⟩
set_option maxHeartbeats 1600000 in
def replace_done(b g:Nat)(s:ByteArray)(w:World)(Q:Value->World->Prop)(d:Int)(hd:¬d=0)
  (h0:w.cell? ⟨b,0,none⟩=some (.int .u32 d)) (hc3:w.cell? ⟨b,3,none⟩=some (.iface 241 (.pointer (some ⟨g,0,none⟩))))
  (hg2:Calls Tryz.prog 333 #[.pointer (some ⟨g,0,none⟩),.string s] w fun e w''=>∃v,e = .returned v/\Q v w'') :
  Calls Tryz.prog 64 #[.pointer (some ⟨b,0,none⟩),.string s] w fun e w'=>∃v,e = .returned v/\Q v w':=by
 have hme : ∀ (g : Nat) (w : World), (method 511 241 (.pointer (some ⟨g, 0, none⟩)) "Replace").run Tryz.prog w = .ok (333, .pointer (some ⟨g, 0, none⟩)) w := fun _ _ => by kernel_rfl
 go_enter Tryz.func64,Tryz.ntmps64
 go_wp2_with (first|(go_at_call 102;refine(za5 ⟨b,0,none⟩ d hd _ w h0).mono ?_;rintro e w' ⟨rfl,rfl⟩)|(go_at_call 333;refine hg2.mono ?_;rintro e w' ⟨v,rfl,hq⟩))
 go_ret
 exact⟨_,rfl,hq⟩
set_option maxHeartbeats 1600000 in
def replaceS_first(b:Nat)(s:ByteArray)(w:World)(R:World->Prop)(Q:Value->World->Prop)
  (h0:w.cell? ⟨b,0,none⟩=some (.int .u32 0)) (h1:w.cell? ⟨b,0+1,none⟩=some (.int .i32 0)) (f0:w.frozen? ⟨b,0,none⟩=false) (f1:w.frozen? ⟨b,0+1,none⟩=false)
  (hf:Calls Tryz.prog 103 #[.pointer (some ⟨b,0,none⟩)] (w.setCell ⟨b,0+1,none⟩ (.int .i32 1)) fun e w'=>e = .returned (.tuple #[])/\R w')
  (hR:∀w',R w'->w'.cell? ⟨b,0,none⟩=some (.int .u32 0)/\w'.frozen? ⟨b,0,none⟩=false/\w'.cell? ⟨b,0+1,none⟩=some (.int .i32 1)/\w'.frozen? ⟨b,0+1,none⟩=false)
  (hg:∀w',R w'->∃g,w'.cell? ⟨b,3,none⟩=some (.iface 245 (.pointer (some ⟨g,0,none⟩))) /\
   Calls Tryz.prog 335 #[.pointer (some ⟨g,0,none⟩),.string s] ((w'.drew.setCell ⟨b,0,none⟩ (.int .u32 1)).setCell ⟨b,0+1,none⟩ (.int .i32 0)) fun e w''=>∃v,e = .returned v/\Q v w'') :
  Calls Tryz.prog 64 #[.pointer (some ⟨b,0,none⟩),.string s] w fun e w'=>∃v,e = .returned v/\Q v w':=by
 have hme : ∀ (g : Nat) (w : World), (method 511 245 (.pointer (some ⟨g, 0, none⟩)) "Replace").run Tryz.prog w = .ok (335, .pointer (some ⟨g, 0, none⟩)) w := fun _ _ => by kernel_rfl
 go_enter Tryz.func64,Tryz.ntmps64
 go_wp2_with (first|(go_at_call 102;refine(qzs b w R h0 h1 f0 f1 hf hR).mono ?_;rintro e w' ⟨rfl,w1,hw1,rfl⟩;obtain⟨g,hg1,hg2⟩:=hg w1 hw1;have hc3:((w1.drew.setCell ⟨b,0,none⟩ (.int .u32 1)).setCell ⟨b,0+1,none⟩ (.int .i32 0)).cell? ⟨b,3,none⟩=some (.iface 245 (.pointer (some ⟨g,0,none⟩))):=((World.cell?_setCell_other _ ⟨b,0+1,none⟩ ⟨b,3,none⟩ _ oC).trans ((World.cell?_setCell_other _ ⟨b,0,none⟩ ⟨b,3,none⟩ _ oC).trans (by rw[World.cell?_drew];exact hg1))))|(go_at_call 335;refine hg2.mono ?_;rintro e w' ⟨v,rfl,hq⟩))
 go_ret
 exact⟨_,rfl,hq⟩
end Go.Proofs.YtboiflmddgacmaaGreatDoor.Once
namespace Go.Sym
open Go.RowKit
variable[LC]
def bj.blocks_none{G:Gh}{hp:List (Nat×ag)}{w:World}(hm:bj G hp w){b:Nat}(h:jw G hp b)(o:Nat):G.imm b o=none:=by
 obtain⟨n,bx,hl,ha⟩:=h;have hb:=hm.holds n bx hl
 cases bx with
 |cells cs T=>obtain⟨B,vs,h1,_,_,_,h5⟩:=hb;simp only[Gh.at,h1,qI]at ha;subst ha;exact h5 o
 |row τ l E=>
  obtain⟨a,c,h1,h2⟩:=hb;rcases h2 with⟨rfl,_⟩|⟨g,vs,fz,rfl,_,_,_,_,_,_,_,h9⟩
  ·simp only[Gh.at,h1]at ha;cases ha
  ·simp only[Gh.at,h1,qI]at ha;subst ha;exact h9 o
 |loop st pe f m fr ps tag D=>obtain⟨B,tmps,DB,h1,_,_,_,_,h5⟩:=hb;simp only[Gh.at,h1,qI]at ha;subst ha;exact h5 o
 |dfr=>obtain⟨B,h1,_,h5⟩:=hb;simp only[Gh.at,h1,qI]at ha;subst ha;exact h5 o
 |it s p=>obtain⟨B,h1,_,h5⟩:=hb;simp only[Gh.at,h1,qI]at ha;subst ha;exact h5 o
 |dead=>cases ha
def bm.gone{P:Program}{f:FuncId}{xs:List AV}{hp:List (Nat×ag)}{r:AV}
  (h:∀(w:World)(G:Gh)(vs:List Value),bj G hp w->ak xs G vs->Calls P f vs.toArray w fun e w'=>∃v,e = .returned v/\aj r G v/\bq (jw G hp) w w'):bm P f xs hp r []:=by
 intro w G vs hm hr;refine(h w G vs hm hr).mono ?_;rintro e w' ⟨v,rfl,hv,hs⟩
 have hblk:∀b o v,G.imm b o=some v->w'.heap[b]? = w.heap[b]? := fun b o v hv=>hs.block b (World.block_lt_of_cell? _ _ (hm.agree b o v hv)) fun hb=>by
  rw[hm.blocks_none hb o]at hv;cases hv
 refine⟨v,G,rfl,⟨⟨fun b o v hv=>by rw[World.cell?_of_block (w:=w) (hblk b o v hv)];exact hm.agree b o v hv,hm.one,fun n bx h=>(by cases h),fun n m bx bx' b h=>(by cases h),LC.mono (fun _ _ _ h=>h) hblk hm.tab⟩,hs,fun _ _ _ h=>h,fun _ _ _ h => .inl h,fun n bx b h=>(by cases h),fun _ _ _ _ h=>h,fun _ _ _ _ h=>h⟩,hv⟩
end Go.Sym
set_option linter.unusedVariables false
namespace Go.Proofs.Repl
open Go.Shelf Go.RowKit Go.Lib Go.Sym
def gd.setCell{R q n:Nat}{u:Int}{a b a1 a2 b1 b2:UInt8}{w:World}(h:gd R a b a1 a2 b1 b2 w)(hq:w.cell? ⟨q,0,none⟩=some (.int .u32 u))(v:Value):gd R a b a1 a2 b1 b2 (w.setCell ⟨q,n,none⟩ v):=by
 obtain⟨ga,gb,gt,ca,cb,ct,h1,h2,h3,h4,h5,h6,h7,h8⟩:=h.ex;have kR:¬R=q:=fun e=>by
  have:=h1 0;subst e;rw[show(0:UInt8).toNat=0 from rfl,hq]at this
  unfold rv at this;split at this
  ·cases this
  ·split at this<;>cases this
 have kt:¬gt=q:=fun e=>by subst e;rw[hq]at h3;cases h3
 have ka:¬ga=q:=fun e=>by subst e;rw[hq]at h5;cases h5
 have kb:¬gb=q:=fun e=>by subst e;rw[hq]at h7;cases h7
 have k:∀{p:Nat}{o:Nat}{x:Value},¬p=q->w.cell? ⟨p,o,none⟩=some x->(w.setCell ⟨q,n,none⟩ v).cell? ⟨p,o,none⟩=some x:=fun{p o x} hp hx=>by
  rw[World.cell?_of_block (w:=w) (Below.heap_setCell w ⟨q,n,none⟩ v p hp)];exact hx
 exact⟨ga,gb,gt,ca,cb,ct,fun c=>k kR (h1 c),k kR h2,k kt h3,k kt h4,k ka h5,k ka h6,k kb h7,k kb h8⟩
structure Once(q:Nat)(w w':World):Prop where
 bel:bq (fun k=>k=q) w w'
 c0:w'.cell? ⟨q,0,none⟩=some (.int .u32 0)
 c1:w'.cell? ⟨q,0+1,none⟩=some (.int .i32 1)
 f0:w'.frozen? ⟨q,0,none⟩=false
 f1:w'.frozen? ⟨q,0+1,none⟩=false
def q90(S:Nat->Prop)(w:World):bq S w w.drew:=⟨rfl,rfl,rfl,wF _,fun _ _ _=>rfl⟩
def qm3{S:Nat->Prop}{w w':World}(h:Below w.heap.size w w'):bq S w w':=⟨h.os,h.tape,h.output,h.size,fun k hk _=>h.block k hk⟩
def zg{q:Nat}{w w':World}(h:bq (fun k=>k=q) w w')(n:Nat)(v:Value):bq (fun k=>k=q) w (w'.setCell ⟨q,n,none⟩ v):=
 ⟨h.os,h.tape,h.output,by simp[World.setCell];exact h.size,fun k hk hn=>(Below.heap_setCell w' ⟨q,n,none⟩ v k hn).trans (h.block k hk hn)⟩
def qm4{S:Nat->Prop}{a b c:World}(h:bq S a b)(k:bq S b c):bq S a c:=
 ⟨k.os.trans h.os,k.tape.trans h.tape,k.output.trans h.output,Nat.le_trans h.size k.size,fun i hi hn=>(k.block i (Nat.lt_of_lt_of_le hi h.size) hn).trans (h.block i hi hn)⟩
set_option maxHeartbeats 1600000 in
def q96(q ro cap:Nat)(v3:Value)(a b a1 a2 b1 b2:UInt8)(w:World)(hab:a≠b)
  (c0:w.cell? ⟨q,0,none⟩=some (.int .u32 0)) (c1:w.cell? ⟨q,0+1,none⟩=some (.int .i32 1)) (hf:∀j,w.frozen? ⟨q,j,none⟩=false) (c3:w.cell? ⟨q,3,none⟩=some v3)
  (hc:w.cell? ⟨q,4,none⟩=some (.slice (some ⟨ro,0,none⟩) 4 cap)) (h0:w.cell? ⟨ro,0,none⟩=some (.string ⟨#[a]⟩)) (h1:w.cell? ⟨ro,1,none⟩=some (.string ⟨#[a1,a2]⟩)) (h2:w.cell? ⟨ro,2,none⟩=some (.string ⟨#[b]⟩)) (h3:w.cell? ⟨ro,3,none⟩=some (.string ⟨#[b1,b2]⟩)) :
  Calls Tryz.prog 103 #[.pointer (some ⟨q,0,none⟩)] w fun e w'=>e = .returned (.tuple #[])/\Once q w w'/\∃R,w'.cell? ⟨q,3,none⟩=some (.iface 245 (.pointer (some ⟨R,0,none⟩)))/\gd R a b a1 a2 b1 b2 w':=by
 have hqlt:q<w.heap.size:=World.block_lt_of_cell? _ _ c0;have hB:=q94 q ro cap a b a1 a2 b1 b2 w hab hc h0 h1 h2 h3
 go_enter Tryz.func103,Tryz.ntmps103
 go_wp2_with (go_at_call 132;go_must (refine hB.mono ?_;rintro e W ⟨R,rfl,hBu,hbe⟩;have k0:∀{j:Nat}{v:Value},w.cell? ⟨q,j,none⟩=some v->W.cell? ⟨q,j,none⟩=some v:=(fun hj=>(hbe.cell (World.block_lt_of_cell? _ _ hj)).trans hj);have kf:∀j,W.frozen? ⟨q,j,none⟩=false:=(fun j=>(hbe.frozen (p:=⟨q,j,none⟩) hqlt).trans (hf j));have d0:=k0 c0;have d1:=k0 c1;have d3:=k0 c3;have d4:=k0 hc;clear hB hf k0))
 have d0':(W.setCell ⟨q,3,none⟩ (.iface 245 (.pointer (some ⟨R,0,none⟩)))).cell? ⟨q,0,none⟩=some (.int .u32 0):=by rw[World.cell?_setCell_other _ _ _ _ oC];exact d0
 have d1':(W.setCell ⟨q,3,none⟩ (.iface 245 (.pointer (some ⟨R,0,none⟩)))).cell? ⟨q,0+1,none⟩=some (.int .i32 1):=by rw[World.cell?_setCell_other _ _ _ _ oC];exact d1
 have d3':=World.cell?_setCell_same W ⟨q,3,none⟩ (.iface 245 (.pointer (some ⟨R,0,none⟩))) d3
 go_end0
 refine⟨rfl,⟨zg (zg (qm3 hbe) 3 _) 4 _,?_,?_,?_,?_⟩,R,?_,(hBu.setCell d0 _).setCell d0' _⟩
 ·rw[World.cell?_setCell_other _ _ _ _ oC];exact d0'
 ·rw[World.cell?_setCell_other _ _ _ _ oC];exact d1'
 ·simp[kf]
 ·simp[kf]
 ·rw[World.cell?_setCell_other _ _ _ _ oC];exact d3'
def replS(q ro cap:Nat)(v3:Value)(a b a1 a2 b1 b2:UInt8)(s:ByteArray)(w:World)(hab:a≠b)(hs:s.size<=1000000)
  (c0:w.cell? ⟨q,0,none⟩=some (.int .u32 0)) (c1:w.cell? ⟨q,0+1,none⟩=some (.int .i32 0)) (hf:∀j,w.frozen? ⟨q,j,none⟩=false) (c3:w.cell? ⟨q,3,none⟩=some v3)
  (hc:w.cell? ⟨q,4,none⟩=some (.slice (some ⟨ro,0,none⟩) 4 cap)) (h0:w.cell? ⟨ro,0,none⟩=some (.string ⟨#[a]⟩)) (h1:w.cell? ⟨ro,1,none⟩=some (.string ⟨#[a1,a2]⟩)) (h2:w.cell? ⟨ro,2,none⟩=some (.string ⟨#[b]⟩)) (h3:w.cell? ⟨ro,3,none⟩=some (.string ⟨#[b1,b2]⟩)) :
  Calls Tryz.prog 64 #[.pointer (some ⟨q,0,none⟩),.string s] w fun e w'=>∃v,e = .returned v/\v = .string ⟨(dp a b [a1,a2] [b1,b2] s.data.toList).toArray⟩/\bq (fun k=>k=q) w w':=by
 have hne:¬ro=q:=fun e=>by subst e;rw[c0]at h0;cases h0
 have k:∀{p:Addr}{x:Value},p≠⟨q,0+1,none⟩->w.cell? p=some x->(w.setCell ⟨q,0+1,none⟩ (.int .i32 1)).cell? p=some x:=fun{p x} hp hx=>by
  rw[World.cell?_setCell_other _ _ _ _ (fun e=>hp e.symm)];exact hx
 have kb:bq (fun k=>k=q) w (w.setCell ⟨q,0+1,none⟩ (.int .i32 1)):=zg (qm3 (Below.refl _ _)) _ _
 refine Go.Proofs.YtboiflmddgacmaaGreatDoor.Once.replaceS_first q s w (fun w'=>Once q (w.setCell ⟨q,0+1,none⟩ (.int .i32 1)) w'/\∃R,w'.cell? ⟨q,3,none⟩=some (.iface 245 (.pointer (some ⟨R,0,none⟩)))/\gd R a b a1 a2 b1 b2 w') (fun v w'=>v = .string ⟨(dp a b [a1,a2] [b1,b2] s.data.toList).toArray⟩/\bq (fun k=>k=q) w w') c0 c1 (hf _) (hf _) ?_ ?_ ?_
 ·exact q96 q ro cap v3 a b a1 a2 b1 b2 _ hab (k oC c0) (World.cell?_setCell_same w _ _ c1) (fun j=>by simp[hf]) (k oC c3) (k oC hc) (k (by intro h;exact hne (congrArg Addr.block h)) h0) (k (by intro h;exact hne (congrArg Addr.block h)) h1) (k (by intro h;exact hne (congrArg Addr.block h)) h2) (k (by intro h;exact hne (congrArg Addr.block h)) h3)
 ·rintro w' ⟨ho,_⟩
  exact⟨ho.c0,ho.f0,ho.c1,ho.f1⟩
 ·rintro w' ⟨ho,R,hR,hBu⟩
  refine⟨R,hR,?_⟩;have e0:w'.drew.cell? ⟨q,0,none⟩=some (.int .u32 0):=by rw[World.cell?_drew];exact ho.c0
  have e1:=World.cell?_setCell_same w'.drew ⟨q,0,none⟩ (.int .u32 1) e0;have hB2:gd R a b a1 a2 b1 b2 ((w'.drew.setCell ⟨q,0,none⟩ (.int .u32 1)).setCell ⟨q,0+1,none⟩ (.int .i32 0)):=
   ((hBu.below (Below.refl _ w').drew).setCell e0 _).setCell e1 _
  have hBel:bq (fun k=>k=q) w ((w'.drew.setCell ⟨q,0,none⟩ (.int .u32 1)).setCell ⟨q,0+1,none⟩ (.int .i32 0)):=
   zg (zg (qm4 (qm4 kb ho.bel) (q90 _ _)) 0 _) (0+1) _
  refine(q99 R a b a1 a2 b1 b2 s _ hab hs hB2).mono ?_;rintro e w2 ⟨rfl,hb2⟩
  exact⟨_,rfl,rfl,qm4 hBel (qm3 hb2)⟩
end Go.Proofs.Repl
namespace Go.Sym
open Go.Proofs Go.RowKit
variable[LC]
def zd1(a b a1 a2 b1 b2:UInt8)(s:Bs)(p2:Int)(hab:a≠b)(hs:s.length<=1000000) :
  bm Tryz.prog 64 [.ptr 0 0,.str s] [(0,.cells [.int .u32 0,.int .i32 0,.int .u32 p2,.val .nilIface,.own 1] 161),(1,.row .str [[a],[a1,a2],[b],[b1,b2]] 9)] (.str (dp a b [a1,a2] [b1,b2] s)) []:=by
 refine bm.gone fun w G vs hm hr => ?_
 match vs,hr with
 |[v1,v2],hr=>
 obtain⟨⟨q,hG,rfl⟩,r2,_⟩:=hr;have r2:v2 = .string ⟨s.toArray⟩:=r2;subst r2;obtain⟨B,cs,g1,g2,g3,g4,g5⟩:=hm.holds 0 _ rfl;rw[show G.box 0=some q from hG]at g1
 cases g1
 obtain⟨ad,c,us,o1,o2,o3,o4⟩:=(hm.holds 1 (.row .str [[a],[a1,a2],[b],[b1,b2]] 9) rfl).rowAt;obtain⟨u0,c0,x0⟩:=fh g3 (i:=0) rfl;obtain⟨u1,c1,x1⟩:=fh g3 (i:=1) rfl;obtain⟨u3,c3,x3⟩:=fh g3 (i:=3) rfl;obtain⟨u4,c4,x4⟩:=fh g3 (i:=4) rfl;have x0:u0 = .int .u32 0:=x0;have x1:u1 = .int .i32 0:=x1;obtain⟨ad',n',c',x5,x4⟩:=x4;rw[o1]at x5;cases x5
 subst x0 x1 x4;have k:∀{i:Nat}{v:Value},cs.toList[i]? = some v->w.cell? ⟨q,i,none⟩=some v:=fun{i v} h=>cell_of_heap g2 h
 obtain⟨ho1,ho2⟩:=o2;rcases ho2 with⟨_,h0,_⟩|⟨g,vr,fz,rfl,e1,_,e3,e4,e5,e6,_⟩
 ·cases h0
 ·have hus:us=[.string ⟨#[a]⟩,.string ⟨#[a1,a2]⟩,.string ⟨#[b]⟩,.string ⟨#[b1,b2]⟩]:=by
   match us,o3 with
   |[y0,y1,y2,y3],⟨z0,z1,z2,z3,_⟩=>
    have z0:y0 = .string ⟨#[a]⟩:=z0;have z1:y1 = .string ⟨#[a1,a2]⟩:=z1;have z2:y2 = .string ⟨#[b]⟩:=z2;have z3:y3 = .string ⟨#[b1,b2]⟩:=z3;rw[z0,z1,z2,z3]
  have kr:∀{i:Nat}{v:Value},us[i]? = some v->w.cell? ⟨g,i,none⟩=some v:=fun{i v} h=>by
   rw[← e6,List.getElem?_take]at h;split at h
   ·exact cell_of_heap e1 h
   ·cases h
  subst hus;refine(Go.Proofs.Repl.replS q g c u3 a b a1 a2 b1 b2 ⟨s.toArray⟩ w hab (by rw[jh];exact hs) (k c0) (k c1) (fun j=>by simp[World.frozen?,g2]) (k c3) (k c4) (kr (i:=0) rfl) (kr (i:=1) rfl) (kr (i:=2) rfl) (kr (i:=3) rfl)).mono ?_
  rintro e w' ⟨v,rfl,rfl,hb⟩
  refine⟨_,rfl,rfl,⟨hb.os,hb.tape,hb.output,hb.size,fun k hk hn=>hb.block k hk (fun e=>hn ?_)⟩⟩
  subst e;exact⟨0,_,rfl,hG⟩
def q2k:IF:=⟨.fn 64,[.ptr 0 0,.h .str],[(0,.cells [.h (.int .u32),.h (.int .i32),.h (.int .u32),.c .nilIface,.own 1] 161),(1,.row .str 9)],_,RS.mk (.h .str) []⟩
def zd2:(q2k.e tp).Sound Tryz.prog:=fun d d' r h=>by
 obtain⟨_,s,_⟩:=d;obtain⟨⟨p0,p1,p2,_,_,_⟩,on,_⟩:=d';have h:tp s p0 p1 p2 on=some r:=h;obtain⟨a,a1,a2,b,b1,b2,rfl,rfl,rfl,hab,hs,rfl⟩:=zd5 h;exact⟨Tryz.call64,zd1 a b a1 a2 b1 b2 s p2 hab hs⟩
end Go.Sym
namespace Go.Sym
open Go.Proofs Go.RowKit
open Go.Proofs.Tryz
variable[LC]
def qys:Builder.Extra Tryz.prog Tryz.lays105_ren:={
 sizeBuilder:=oB
 liesBuilder:=oB
 t5:=Tryz.lays105.t5
 a5:=Tryz.lays105.a5
 z5:=Tryz.lays105.z5
 v5:=Tryz.lays105.v5
 infoByte:=oB
 cellsByte:=oB
 sizeByte:=oB
 neB5:=by decide }
def zd0{w:World}(s:Bs)(n:Int)(d1:0<=n)(d2:n<=9223372036854775807)(d3:s.length*n.toNat<=140737488355328) :
  Calls Tryz.prog 45 #[.string ⟨s.toArray⟩,.int .i64 n] w fun e w'=>e = .returned (.string ⟨(Lib.repeatL s n.toNat).toArray⟩)/\bf w w':=by
 have hn:n=((n.toNat:Nat):Int):=oA
 have key:=Any.strings_Repeat Tryz.lays105 qys ⟨s.toArray⟩ n.toNat w oA (by rw[jh];exact d3)
 rw[← hn]at key;exact key.mono fun e w'⟨he,hw⟩=>⟨he,bf.of_below hw⟩
def qpe:IF:=⟨.fn 45,[.h .str,.h (.int .i64)],[],_,RS.mk (.h .str) []⟩
def q2h:(qpe.e qn).Sound Tryz.prog:=fun d d' r h=>by
 obtain⟨s,n,_⟩:=d;have h:qn s n=some r:=h;unfold qn at h;cases hd:decide (0<=(show Int from n)/\(show Int from n)<=9223372036854775807/\List.length (α:=UInt8) s*(show Int from n).toNat<=140737488355328)<;>rw[hd]at h<;>simp only[qT,qF,reduceCtorEq]at h
 have h:=qJ h;subst h;obtain⟨d1,d2,d3⟩:=of_decide_eq_true hd;refine⟨call45,bm.data fun w G vs hm hr => ?_⟩
 match vs,hr with
 |[u,v],⟨h1,h2,_⟩=>
  have h1:u = .string ⟨s.toArray⟩:=h1;have h2:v = .int .i64 n:=h2;subst h1 h2;exact(zd0 s n d1 d2 d3).mono fun e w'⟨he,hw⟩=>⟨_,he,rfl,hw⟩
end Go.Sym
namespace Go.Sym
open Go.Proofs Go.RowKit Go.Shelf
def bq.refl(S:Nat->Prop)(w:World):bq S w w:=⟨rfl,rfl,rfl,wF _,fun _ _ _=>rfl⟩
def bq.drew(S:Nat->Prop)(w:World):bq S w w.drew:=⟨rfl,rfl,rfl,wF _,fun _ _ _=>rfl⟩
def bq.freeze{S:Nat->Prop}(w:World)(p:Addr)(n:Nat)(h:S p.block):bq S w (w.drew.freeze p n):=by
 unfold World.freeze;split
 ·exact bq.drew S w
 ·exact⟨rfl,rfl,rfl,oC,fun k hk hS=>by
   simp[Array.getElem?_modify];rw[qW (fun e=>hS (by rw[← e];exact h))];rfl⟩
section
variable{P:Program}{ρ:Ren}
end
open Go.Proofs.Tryz
variable[LC]
def bq.mono{S S':Nat->Prop}{w w':World}(h:bq S w w')(hS:∀k,S k->S' k):bq S' w w':=⟨h.os,h.tape,h.output,h.size,fun k hk hn=>h.block k hk fun q=>hn (hS k q)⟩
def Fin.same{zpp w:World}{zpk G:Gh}{zpm hp hp':List (Nat×ag)}(hf:Fin zpp zpk zpm G hp' w)(h:∀n,ae hp n=ae hp' n):Fin zpp zpk zpm G hp w:=
 ⟨⟨hf.mem.agree,hf.mem.one,fun n bx hl=>hf.mem.holds n bx (by rw[← h];exact hl),fun n m bx bx' b h1 h2=>hf.mem.apart n m bx bx' b (by rw[← h];exact h1) (by rw[← h];exact h2),hf.mem.tab⟩,
  hf.bel,hf.imm_le,hf.imm_new,fun n bx b hl=>hf.base n bx b (by rw[← h];exact hl),hf.keep,hf.keepOwn⟩
end Go.Sym
namespace Go.Sym
open Go.Proofs Go.RowKit Go.Sort
open Go.Proofs.Tryz
variable[LC]
def qyn:IF:=⟨.fn 83,[.h .str],[],_,RS.mk (.tup [.h (.int .i64),.c .nilIface]) []⟩
def q9t:(qyn.e qm).Sound Tryz.prog:=fun d d' r h=>by
 obtain⟨s,_⟩:=d;have h:qm s=some r:=h;unfold qm at h;cases hd:decide (List.length (α:=UInt8) s<=281474976710656)<;>rw[hd]at h<;>simp only[qT,qF,reduceCtorEq]at h
 have hl:List.length (α:=UInt8) s<=281474976710656:=of_decide_eq_true hd;split at h
 ·rename_i v hA;have h:=qJ h;subst h;refine⟨call83,bm.data fun w G vs hm hr => ?_⟩
  match vs,hr with
  |[u],⟨e1,_⟩=>
   have e1:u = .string ⟨List.toArray s⟩:=e1;subst e1;have hsz:(⟨List.toArray (α:=UInt8) s⟩:ByteArray).size=List.length (α:=UInt8) s:=jh s;refine(Any.strconv_Atoi_ok Tryz.laysC172 ⟨List.toArray (α:=UInt8) s⟩ oA v (by simpa using hA) w).mono fun e w'⟨he,hw⟩=>⟨_,he,⟨_,rfl,rfl,rfl,trivial⟩,?_⟩
   rcases hw with rfl|⟨t,rfl⟩
   ·exact bf.refl _
   ·refine⟨rfl,rfl,rfl,?_,fun j hj _ => ?_⟩
    ·simp[Lib.bytesWorld,World.freeze]
    ·show((w.heap.push _).modify w.heap.size _)[j]? = _;rw[Array.getElem?_modify,qW,Array.getElem?_push_lt oA]
     exact(Array.getElem?_eq_getElem hj).symm
 ·cases h
end Go.Sym
namespace Go.Sym
open Go.Proofs Go.RowKit
open Go.Proofs.Tryz
variable[LC]
def qyt:Builder.Extra Tryz.prog Tryz.lays156_ren:=qys
def zcd{G:Gh}{w:World}(hm:bj G [] w){l:List Bs}{u:Value}(sep:Bs)(hu:aj (.sl .str l) G u)(d1:l.length<=140737488355328)(d2:(Lib.join l sep).length<=140737488355328) :
  Calls Tryz.prog 25 #[u,.string ⟨sep.toArray⟩] w fun e w'=>e = .returned (.string ⟨(Lib.join l sep).toArray⟩)/\bf w w':=by
 obtain⟨p,c,rfl,hc,hp⟩:fb 1 (Ty.str.At G.imm) l u:=hu;by_cases hl:l=[]
 ·subst hl;exact(Any.strings_Join_none Tryz.lays156 qyt p c ⟨sep.toArray⟩ w).mono fun e w'⟨he,hw⟩=>⟨he,hw▸bf.refl _⟩
 ·rcases hp with h|⟨g,o,rfl,hcells⟩
  ·exact absurd h hl
  have e:(l.map fun s:Bs=>(⟨s.toArray⟩:ByteArray)).map (·.data.toList)=l:=by
   rw[List.map_map];exact(List.map_congr_left fun s _=>rfl).trans (List.map_id l)
  have hcl:∀(j:Nat) x,(l.map fun s:Bs=>(⟨s.toArray⟩:ByteArray))[j]? = some x->w.cell? ⟨g,o+j,none⟩=some (.string x):=fun j x hx=>by
   rw[List.getElem?_map]at hx;obtain⟨s,hs,rfl⟩:=Option.map_eq_some_iff.1 hx;have h1:G.imm g (o+j*1)=some (.string ⟨s.toArray⟩):=hcells j s hs;rw[Nat.mul_one]at h1;exact hm.agree _ _ _ h1
  have hlt:g<w.heap.size:=by
   obtain⟨x,t,rfl⟩:=List.exists_cons_of_ne_nil hl;exact World.block_lt_of_cell? _ _ (hcl 0 ⟨x.toArray⟩ rfl)
  have key:=Any.strings_Join Tryz.lays156 qyt g o c (l.map fun s:Bs=>(⟨s.toArray⟩:ByteArray)) ⟨sep.toArray⟩ w hcl hlt (by rw[wC];exact d1) (by rw[wC];exact hc) (by rw[e];exact d2)
  rw[e,wC]at key;exact key.mono fun e w'⟨he,hw⟩=>⟨he,bf.of_below hw⟩
def q0v:IF:=⟨.fn 25,[.h (.list .str),.h .str],[],_,RS.mk (.h .str) []⟩
def zce:(q0v.e tr).Sound Tryz.prog:=fun d d' r h=>by
 obtain⟨l,s,_⟩:=d;have h:tr l s=some r:=h;unfold tr at h;cases hd:decide (List.length (α:=Bs) l<=140737488355328/\List.length (Lib.join l s)<=140737488355328)<;>rw[hd]at h<;>simp only[qT,qF,reduceCtorEq]at h
 have h:=qJ h;subst h;obtain⟨d1,d2⟩:=of_decide_eq_true hd;refine⟨call25,bm.data fun w G vs hm hr => ?_⟩
 match vs,hr with
 |[u,v],⟨h1,h2,_⟩=>
  have h2:v = .string ⟨s.toArray⟩:=h2;subst h2;exact(zcd hm s h1 d1 d2).mono fun e w'⟨he,hw⟩=>⟨_,he,rfl,hw⟩
end Go.Sym
namespace Go.Sym
open Go.Proofs Go.RowKit
variable[LC]
set_option maxHeartbeats 1000000 in
def q93(W:World)(x:Nat):FnGives Tryz.prog 29 #[] #[encR x] (.bool (dy x)) W:=by
 unfold FnGives encR dy
 go_enter Tryz.func29,Tryz.ntmps29
 go_wp2
 ·rename_i h;have h:x=32:=oA
  subst h;exact bodyPost_ret (results_tmp (t:=2) oB _ _ _) rfl ⟨rfl,0,rfl⟩
 ·have h1:∀k:Nat,((x:Int)==(k:Int))=(x==k):=fun k=>by
   rw[Bool.eq_iff_iff,beq_iff_eq,beq_iff_eq];omega
  refine bodyPost_ret (results_tmp (t:=2) oB _ _ _) rfl ⟨?_,0,rfl⟩
  exact congrArg (fun b=>Ending.returned (.bool b)) (by rw[← h1 32,← h1 9];rfl)
def zdj{w:World}{B:Nat}{E:TypeId}{A n:Nat}{xs:List Value}(h:w.ownsRow B E 1 (.slice (some ⟨A,0,none⟩) n n) n xs)(h1:∀v∈xs,v.oneCell'=true):de w E 1 (some ⟨A,0,none⟩) n n xs:=by
 obtain⟨h0,⟨h,_⟩|⟨g,cap,cur,h,_,hb,hc,hm,hz,ht⟩⟩:=h
 ·cases h
 ·injection h with ha _ hcap
  injection ha with ha
  injection ha with ha
  subst ha;subst hcap;refine⟨h0,.inr ⟨A,cur,(0,0),rfl,hb,.inl rfl,hc,hm,hz,ht,fun v hv=>h1 v ?_⟩⟩
  rw[← ht,← hz,← Array.length_toList,List.take_length];exact hv
def zbk(s:Bs)(hs:s.length<=4294967296):bm Tryz.prog 28 [.str s,.fn (.func 29) [] []] [] (.own 0) [(0,.row .str ((Lib.goFieldsP dy ⟨s.toArray⟩).map (·.data.toList)) 9)]:=by
 refine bm.fresh fun w G vs hm hr => ?_
 match vs,hr with
 |[u,v],⟨h1,h2,_⟩=>
  have h1:u = .string ⟨s.toArray⟩:=h1;subst h1;obtain⟨us1,us2,k1,k2,k3⟩:=h2;have e1:us1=#[]:=Array.eq_empty_of_size_eq_zero k2.length.symm;have e2:us2=#[]:=Array.eq_empty_of_size_eq_zero k3.length.symm;subst e1;subst e2;subst k1;refine(Any.strings_FieldsFunc Tryz.lays229 29 #[] Tryz.call29 dy ⟨s.toArray⟩ w hs (fun W x _=>q93 W x) oB oB).mono ?_
  rintro e w' ⟨A,he,hA,hrow,hb⟩
  have k1:∀n,n=(Lib.goFieldsP dy ⟨s.toArray⟩).length->e = .returned (.slice (some ⟨A,0,none⟩) n (Lib.goFieldsP dy ⟨s.toArray⟩).length):=by rintro _ rfl;exact he
  have k2:∀n,n=(Lib.goFieldsP dy ⟨s.toArray⟩).length->de w' 9 1 (some ⟨A,0,none⟩) n (Lib.goFieldsP dy ⟨s.toArray⟩).length ((Lib.goFieldsP dy ⟨s.toArray⟩).map Value.string):=by rintro _ rfl;exact zdj hrow (fun v hv=>by obtain⟨x,_,rfl⟩:=List.mem_map.1 hv;rfl)
  refine⟨some ⟨A,0,none⟩,(Lib.goFieldsP dy ⟨s.toArray⟩).length,(Lib.goFieldsP dy ⟨s.toArray⟩).map Value.string,k1 _ (wC _),k2 _ (wC _),?_,fun b hb=>by cases hb;exact hA,bf.of_below hb⟩
  generalize Lib.goFieldsP dy ⟨s.toArray⟩=L
  induction L with|nil=>trivial|cons x L ih=>exact⟨rfl,ih⟩
def qz3:IF:=⟨.fn 28,[.h .str,.fn 29 []],[],_,RS.mk (.own 0) [(0,.row .str 9)]⟩
def zbj:(qz3.e qk).Sound Tryz.prog:=fun d d' r h=>by
 obtain⟨s,_⟩:=d;have h:qk s=some r:=h;unfold qk at h;cases hd:decide (List.length (α:=UInt8) s<=4294967296)<;>rw[hd]at h<;>simp only[qT,qF,reduceCtorEq]at h
 have h:=qJ h;subst h;exact⟨Tryz.call28,zbk s (of_decide_eq_true hd)⟩
end Go.Sym
namespace Go.Sym
noncomputable section
open Go.Proofs
set_option linter.unusedVariables false
set_option maxRecDepth 100000
set_option maxHeartbeats 2000000
open Tryz
abbrev wT : Ty := .tree (.prod (.list (.prod .str .str)) (.list .byte))
abbrev wL : Ty := .list (.prod .str .str)
abbrev wP : Ty := .prod .str .str
abbrev wH : Pt := .h (.int .i64)
abbrev wI : Ty := .int .i64
abbrev wB : Ty := .list .byte
abbrev wN : Pt := .c .nilS
abbrev wS : Pt := .h .str
abbrev wG : Program := Tryz.prog
section
variable(fu:Nat)
def qoc:Nat->Option ((τ:Ty)×List τ.den)|1=>some ⟨.int .u64,ze3⟩|4=>some ⟨.byte,qa2⟩|5=>some ⟨.prod .byte .byte,qa3⟩|_=>none
abbrev vo(f:Nat)(p:List Nat):Option (Code×Code):=some (nk 0 (sub (o5 (lz wG f)) p),nk 1 (sub (o5 (lz wG f)) p))
def zck:Nat->Option (Code×Code)|0=>vo 167 [0,1,0,1,1,1]|1=>vo 105 [0,1,0,1,1]|2=>vo 105 [0,1,0,1,1,1,1]|3=>vo 36 [0,1,0,1,1,1,1]|4=>vo 106 [0,1,1]|5=>vo 69 [0,1,0,1,1,1]|_=>none
instance:LC:=⟨zck,qoc,[0],[2,3],[(1,20),(4,256),(5,32)]⟩
def qxr:wG.follows .mixedOrders=true:=oB
def etys:List (Nat×Ty):=[(5,.byte),(9,.str),(41,.prod .str .str),(43,.list .byte),(124,.tree (.prod wL wB)),(255,.prod .str .str),(343,.prod .str (.prod wI (.prod .bool .str)))]
abbrev fx{i:IF}(calls:List (EP wG):=[])(ls:List LB:=[])(sub:Bool:=false)(tags:List (List Nat×Nat):=[])(ht:∀p t,im p tags=some t->∀g ps x y,Sym.sub (o5 (lz wG (qes i.key))) p = .rangeFunc g ps x y->LC.lc t=some (x,y):=by exact ip)(hf:wG.funcs[qes i.key]? = some (lz wG (qes i.key)):=by kernel_rfl):Fx wG i:=Fx.at etys qxr (qes i.key) calls ls sub tags ht hf
abbrev fy{i:IF}(f:FuncId)(calls:List (EP wG):=[])(ls:List LB:=[])(sub:Bool:=false)(tags:List (List Nat×Nat):=[])(ht:∀p t,im p tags=some t->∀g ps x y,Sym.sub (o5 (lz wG f)) p = .rangeFunc g ps x y->LC.lc t=some (x,y):=by exact ip)(hf:wG.funcs[f]? = some (lz wG f):=by kernel_rfl):Fx wG i:=Fx.at etys qxr f calls ls sub tags ht hf
def q7u:(qhg 123 mr).Sound wG:=q7t func123 oB oB oB oB
def q7q:(qhe 186 qbw).Sound wG:=q7p func186 oB oB oB oB
def q7s:(qhf 221 mr).Sound wG:=q7r func221 oB oB oB oB
def d6:EI wG ⟨.fn 16,[wH,wH],[],_,RS.mk (.h (.prod wI wI)) []⟩:=(fx).fi au
def x1s:EI wG ⟨.fn 121,[.h .byte],[],_,RS.mk (.h .bool) []⟩:=(fx).fi qs7
def x2(fu:Nat):Fx wG ⟨.fn 71,[wS,.fn 121 []],[],_,RS.mk (.h .bool) []⟩:=fx [x1s.p] [lb 104 [(0,wS),(1,.fn 121 []),(7,wH),(8,wH)]]
def zla:Nat->(x2 fu).L 0:=Fx.lq (qgx fu) (qr4 fu) (fun r0=>[r0.s])
def x2s:=(x2 fu).fi (qr3 fu) [(zla fu fu).s]
def x3s:EI wG ⟨.fn 87,[wS],[],_,RS.mk (.h .bool) []⟩:=(fx [(x2s fu).p]).fi (qs6 fu)
def x4s:EI wG ⟨.fn 220,[wH],[],_,RS.mk (.h .bool) []⟩:=(fx).fi qwt
def x5(fu:Nat):Fx wG ⟨.fn 97,[wS],[],_,RS.mk (.tup [.arr .bool,.h .bool]) []⟩:=fx [] [lb 208 [(0,wS),(2,.el 32 1),(4,wH)] [(32,.row .bool 164)]]
def zm2:Nat->(x5 fu).L 0:=Fx.lq (qk5 fu) (qws fu) (fun r0=>[r0.s])
def x5s:=(x5 fu).fi (yl fu) [(zm2 fu fu).s]
def x6s:EI wG ⟨.fn 188,[wS,.h .byte],[],_,RS.mk (wH) []⟩:=(fx [⟨qhf 221 mr,q7s⟩]).fi qcd
def x7s:EI wG ⟨.fn 192,[wS,.h .byte],[],_,RS.mk (wH) []⟩:=(fx [x6s.p]).fi qcs
def x8s:EI wG ⟨.fn 193,[.h (.int .i32)],[],_,RS.mk (.h .bool) []⟩:=(fx).fi qw9
def x9(fu:Nat):Fx wG ⟨.fn 158,[wS,.h (.int .i32)],[],_,RS.mk (wH) []⟩:=fx [x7s.p,x8s.p] [lb 3528 [(175,.ptr 32 0)] [(32,.it)],lb 117301840 [(0,wS),(7,wS),(8,wH),(9,wH),(12,wH)],lb 7331364 [(0,wS),(7,wS),(8,wH),(9,wH)],lb 458208 [(0,wS),(7,wS),(8,wH),(9,wH)],lb 13 [(0,wS),(1,.h (.int .i32)),(160,.h .bool)]]
def zoz:Nat->(x9 fu).L 0:=Fx.lq (qke fu) (qv7 fu) (fun r1=>[r1.s])
def zo2(r2:(x9 fu).L 3):Nat->(x9 fu).L 1:=Fx.lq (qkh fu r2.f) (qv9 fu r2.f) (fun r4=>[r4.s])
def zo1(r2:(x9 fu).L 3):(x9 fu).L 2:=Fx.jm (qkg fu r2.f) [(zo2 fu r2 fu).s]
def zo0:Nat->(x9 fu).L 3:=Fx.lq (qkf fu) (qv8 fu) (fun r2=>[(zo1 fu r2).s])
def zoy:(x9 fu).L 4:=Fx.jm (qkd fu) [(zoz fu fu).s,(zo0 fu fu).s]
def x9s:=(x9 fu).fi (qct fu) [(zoy fu).s]
def qqd:EI wG ⟨.fn 126,[.el 0 1,.h .byte],[(0,.row .bool 164)],_,RS.mk (.h .bool) [(0,.row .bool 164)]⟩:=(fx).fi qcu
def x11:Fx wG ⟨.fn 187,[wS,wS],[],_,RS.mk (wH) []⟩:=fx [x4s.p,(x5s fu).p,(x9s fu).p,qqd.p] [lb 470 [(0,wS),(5,.h (.int .i32))],lb 62864 [(0,wS),(6,.el 32 1),(8,wH)] [(32,.row .bool 164)],lb 1000 [(1,wS),(45,.ptr 32 0)] [(32,.it)],lb 124 [(0,wS),(1,wS)]]
def zgs:(x11 fu).L 0:=Fx.jm (qj9 fu)
def zgt:Nat->(x11 fu).L 1:=Fx.lq (qka fu) (qv5 fu) (fun r1=>[r1.s])
def zgv:Nat->(x11 fu).L 2:=Fx.lq (qkc fu) (qv6 fu) (fun r3=>[r3.s])
def zgu:(x11 fu).L 3:=Fx.jm (qkb fu) [(zgv fu fu).s]
def zgw:=(x11 fu).fi (qv4 fu) [(zgs fu).s,(zgt fu fu).s,(zgu fu).s]
def zg9:EI wG ⟨.fn 155,[wS,wS],[],_,RS.mk (.h .bool) []⟩:=(fx [(zgw fu).p]).fi (qv1 fu)
def zhy:EI wG ⟨.fn 122,[wS],[],_,RS.mk (.h .bool) []⟩:=(fx [(zg9 fu).p]).fi (qs5 fu)
def qgb:EI wG ⟨.fn 60,[.h .byte],[],_,RS.mk (.h .bool) []⟩:=(fx).fi qg
def zi2:EI wG ⟨.fn 88,[wS],[],_,RS.mk (.h .bool) []⟩:=(fx [(zhy fu).p,qgb.p]).fi (qta fu)
def x16(fu:Nat):Fx wG ⟨.fn 89,[wS,wH],[],_,RS.mk (wH) []⟩:=fx [qgb.p] [lb 3729 [(0,wS),(5,wH),(6,wH),(26,.h .bool)],lb 464 [(0,wS),(5,wH),(6,wH)]]
def zjd(r0:(x16 fu).L 1):(x16 fu).L 0:=Fx.jm (qh9 fu r0.f) [r0.s]
def zjc:Nat->(x16 fu).L 1:=Fx.lq (qh8 fu) (qs9 fu) (fun r0=>[(zjd fu r0).s])
def zje:=(x16 fu).fi (qs8 fu) [(zjc fu fu).s]
def dd:EI wG ⟨.fn 19,[],[],_,RS.mk (.h (.prod wI wI)) []⟩:=(fx).fi ce
def x18:Fx wG ⟨.fn 58,[wS,wS],[],_,RS.mk (.tup [.own 0,.h (.prod wI wI)]) [(0,.row .str 9)]⟩:=fx [(x3s fu).p,d6.p,(zi2 fu).p,(zje fu).p,dd.p] [lb 4072 [(5,.ptr 32 0),(8,.own 33),(55,.own 33),(56,wH),(57,wH)] [(32,.dat (.prod wI wI) 28),(33,.row .str 9)],lb 126 [(5,.ptr 32 0),(6,wS),(8,.own 33)] [(32,.dat (.prod wI wI) 28),(33,.row .str 9)],lb 992 [(5,.ptr 32 0),(6,wS),(7,wH),(8,.own 33)] [(32,.dat (.prod wI wI) 28),(33,.row .str 9)]]
def zj6:Nat->(x18 fu).L 0:=Fx.lq (qh7 fu) (qs4 fu) (fun r2=>[r2.s])
def zj5:(x18 fu).L 1:=Fx.jm (qh6 fu) [(zj6 fu fu).s]
def zj4:Nat->(x18 fu).L 2:=Fx.lq (qh5 fu) (qs3 fu) (fun r0=>[(zj5 fu).s,r0.s])
def qqy:=(x18 fu).fi (qca fu) [(zj4 fu fu).s]
def dw:EI wG ⟨.fn 14,[.h (.prod wI wI)],[],_,RS.mk (.h .bool) []⟩:=(fx).fi cd
def x20:Fx wG ⟨.fn 56,[.h wL],[],_,RS.mk (.h (.prod wI wI)) []⟩:=fx [d6.p,(qqy fu).p,dw.p,dd.p] [lb 232 [(2,.ptr 32 0),(11,.h wL),(12,wH),(13,wH)] [(32,.dat (.prod wI wI) 28)]]
def zk2:Nat->(x20 fu).L 0:=Fx.lq (qig fu) (qtf fu) (fun r0=>[r0.s])
def q52:=(x20 fu).fi (qif fu) [(zk2 fu fu).s]
def x21:Fx wG ⟨.fn 33,[.h (.prod wL wB)],[],_,RS.mk (.own 0) [(0,.row .byte 5)]⟩:=fx [(qqy fu).p] [lb 119608 [(1,.ptr 32 0),(3,.own 34),(11,.h wL),(12,wH),(13,wH),(25,.own 33),(26,wH),(27,wH)] [(32,.dat (.prod wL wB) 45),(33,.row .str 9),(34,.row .byte 5)],lb 232 [(1,.ptr 32 0),(3,.own 33),(11,.h wL),(12,wH),(13,wH)] [(32,.dat (.prod wL wB) 45),(33,.row .byte 5)]]
def zk4(r0:(x21 fu).L 1):Nat->(x21 fu).L 0:=Fx.lq (qjc fu r0.f) (qur fu r0.f) (fun r1=>[r1.s,r0.s])
def zk3:Nat->(x21 fu).L 1:=Fx.lq (qjb fu) (quq fu) (fun r0=>[(zk4 fu r0 fu).s])
def q53:=(x21 fu).fi (qja fu) [(zk3 fu fu).s]
def w3(fu:Nat):Fx wG ⟨.fn 86,[.h wB],[],_,RS.mk (wH) []⟩:=fx [] [lb 14924 [(0,.h wB),(3,wH),(4,wH),(5,.h .byte)],lb 7461 [(0,.h wB),(3,wH),(4,wH),(5,.h .byte),(32,.h .bool)],lb 464 [(0,.h wB),(3,wH),(4,wH)]]
def zk7(r0:(w3 fu).L 2):(w3 fu).L 0:=Fx.jm (qsc fu r0.f) [r0.s]
def zk6(r0:(w3 fu).L 2):(w3 fu).L 1:=Fx.jm (qbt fu r0.f) [r0.s,(zk7 fu r0).s]
def zk5:Nat->(w3 fu).L 2:=Fx.lq (qg4 fu) (qsb fu) (fun r0=>[(zk6 fu r0).s])
def q54:=(w3 fu).fi (qg3 fu) [(zk5 fu fu).s]
def zk8:EI wG ⟨.fn 57,[.h wB],[],_,RS.mk (.h (.prod wI wI)) []⟩:=(fx [(q54 fu).p,d6.p,dd.p]).fi (qum fu)
def qra:EI wG ⟨.fn 32,[.h (.prod wL wB)],[],_,RS.mk (.h (.prod wI wI)) []⟩:=(fx [(q52 fu).p,dw.p,(q53 fu).p,d6.p,(zk8 fu).p]).fi (qci fu)
def zk9:EI wG ⟨.fn 10,[.h (.prod wL wB)],[],_,RS.mk (.tup [.own 0,.h (.prod wI wI)]) [(0,.row .byte 5)]⟩:=(fx [(qra fu).p,dw.p,(q53 fu).p,dd.p]).fi (qul fu)
def qrb:EI wG ⟨.fn 90,[.h wB,.h .byte],[],_,RS.mk (wH) []⟩:=(fx [⟨qhg 123 mr,q7u⟩]).fi qbx
def q55:EI wG ⟨.fn 37,[.h wB,.h wB],[],_,RS.mk (.h .bool) []⟩:=(fx).fi qhh
def q56:EI wG ⟨.fn 124,[.h wB,.h wB],[],_,RS.mk (.h .bool) []⟩:=(fx [q55.p]).fi qhi
def q57:EI wG ⟨.fn 91,[.h wB,.h wB],[],_,RS.mk (.h wB) []⟩:=(fx [q56.p]).fi qby
def zlc:EI wG ⟨.fn 59,[.h wB],[],_,RS.mk (.tup [wS,wH]) []⟩:=(fx [qrb.p,q57.p]).fi qth
def q58:EI wG ⟨.fn 62,[.own 0],[(0,.row .str 9)],_,RS.mk (.ptr 1 0) [(0,.dead),(1,.cells [.h (.int .u32),.h (.int .i32),.h (.int .u32),.c .nilIface,.own 2] 161),(2,.row .str 9)]⟩:=(fx [] [] true).fi qki
def x32:Fx wG ⟨.fn 156,[wS,wS],[],_,RS.mk (wH) []⟩:=fx [x6s.p] [lb 57 [(0,wS),(1,wS),(5,wH),(16,.h .bool)]]
def zld:x32.L 0:=Fx.jm qce
def q6a:=x32.fi qcc [(zld).s]
def zle:EI wG ⟨.fn 125,[wS,wS],[],_,RS.mk (.tup [wS,wS,.h .bool]) []⟩:=(fx [q6a.p]).fi qtj
def q6b:EI wG ⟨.fn 92,[wS,wS],[],_,RS.mk (.tup [wS,wS,.h .bool]) []⟩:=(fx [zle.p]).fi qj8
def x35(fu:Nat):Fx wG ⟨.fn 96,[wS,.h .byte],[],_,RS.mk (wS) []⟩:=fx [] [lb 96 [(0,wS),(1,.h .byte)]]
def zlf:Nat->(x35 fu).L 0:=Fx.lq (qlf fu) (qwy fu) (fun r0=>[r0.s])
def q6d:=(x35 fu).fi (qle fu) [(zlf fu fu).s]
def x36(fu:Nat):Fx wG ⟨.fn 99,[wS,.el 0 1],[(0,.row .bool 164)],_,RS.mk (wS) [(0,.row .bool 164)]⟩:=fx [qqd.p] [lb 96 [(0,wS),(1,.el 0 1)] [(0,.row .bool 164)]]
def zlg:Nat->(x36 fu).L 0:=Fx.lq (qld fu) (qwx fu) (fun r0=>[r0.s])
def q6f:=(x36 fu).fi (qlc fu) [(zlg fu fu).s]
def q6g:EI wG ⟨.fn 159,[.h .byte],[],_,RS.mk (.h .bool) []⟩:=(fx).fi qlu
def s9:Fx wG ⟨.fn 157,[wS],[],_,RS.mk (.tup [.h (.int .i32),wH]) []⟩:=fx [] [lb 524286 [(5,.h .byte),(10,.h .byte),(11,.h .byte),(12,.h .byte)],lb 524285 [(5,.h .byte),(10,.h .byte),(11,.h .byte),(12,.h .byte),(98,.h .bool)],lb 131068 [(0,wS),(5,.h .byte),(8,wH),(10,.h .byte),(11,.h .byte)],lb 65533 [(0,wS),(5,.h .byte),(8,wH),(10,.h .byte),(11,.h .byte),(75,.h .bool)],lb 16380 [(0,wS),(5,.h .byte),(8,wH),(10,.h .byte)],lb 8189 [(0,wS),(5,.h .byte),(8,wH),(10,.h .byte),(57,.h .bool)]]
def zlm:s9.L 0:=Fx.jm qxc
def zll:s9.L 1:=Fx.jm qly [(zlm).s]
def zlk:s9.L 2:=Fx.jm qxb [(zll).s]
def zlj:s9.L 3:=Fx.jm qlx [(zlk).s]
def zli:s9.L 4:=Fx.jm qxa [(zlj).s]
def zlh:s9.L 5:=Fx.jm qlw [(zli).s]
def zln:=s9.fi qlv [(zlh).s]
def qrc:EI wG ⟨.fn 127,[wS],[],_,RS.mk (.tup [.h (.int .i32),wH]) []⟩:=(fx [zln.p]).fi qcx
def x40(fu:Nat):Fx wG ⟨.fn 129,[wS],[],_,RS.mk (.tup [.h (.int .i32),wH]) []⟩:=fx [q6g.p,qrc.p] [lb 2046 [(0,wS),(4,wH),(5,wH)],lb 2044 [(0,wS),(4,wH),(5,wH)],lb 16336 [(0,wS),(4,wH),(5,wH),(6,wH)]]
def zlr:(x40 fu).L 0:=Fx.jm (qlm fu)
def zlq:(x40 fu).L 1:=Fx.jm (qll fu) [(zlr fu).s]
def zlp:Nat->(x40 fu).L 2:=Fx.lq (qlk fu) (qw5 fu) (fun r0=>[(zlq fu).s,r0.s])
def zls:=(x40 fu).fi (qw4 fu) [(zlp fu fu).s]
def q6n:EI wG ⟨.fn 128,[wS,.h (.int .i32)],[],_,RS.mk (.h .bool) []⟩:=(fx [(x9s fu).p]).fi (qcp fu)
def x42:Fx wG ⟨.fn 101,[wS,wS],[],_,RS.mk (wS) []⟩:=fx [(zls fu).p,(q6n fu).p] [lb 96 [(0,wS),(1,wS)]]
def zlt:Nat->(x42 fu).L 0:=Fx.lq (qlh fu) (qwz fu) (fun r0=>[r0.s])
def q6p:=(x42 fu).fi (qlg fu) [(zlt fu fu).s]
def x43:Fx wG ⟨.fn 93,[wS,wS],[],_,RS.mk (wS) []⟩:=fx [(q6d fu).p,(x5s fu).p,(q6f fu).p,(q6p fu).p] [lb 60 [(0,wS),(1,wS)],lb 29 [(0,wS),(1,wS),(21,.h .bool)],lb 28 [(0,wS),(1,wS)],lb 13 [(0,wS),(1,wS),(12,.h .bool)]]
def zlx:(x43 fu).L 0:=Fx.jm (qwk fu)
def zlw:(x43 fu).L 1:=Fx.jm (qkv fu) [(zlx fu).s]
def zlv:(x43 fu).L 2:=Fx.jm (qwj fu) [(zlw fu).s]
def zlu:(x43 fu).L 3:=Fx.jm (qku fu) [(zlv fu).s]
def q6q:=(x43 fu).fi (qkt fu) [(zlu fu).s]
def zly:EI wG ⟨.fn 94,[wS],[],_,RS.mk (.h .bool) []⟩:=(fx [(qqy fu).p,dw.p]).fi (qti fu)
def zlz:EI wG ⟨.fn 61,[wS],[],_,RS.mk (.tup [.h wP,.h .bool]) []⟩:=(fx [q6b.p,(q6q fu).p,(zly fu).p]).fi (qtg fu)
def oo(fu:Nat):Fx wG ⟨.fn 132,[.ptr 0 0],[(0,.cells [.h (.int .u32),.h (.int .i32),.h (.int .u32),.c .nilIface,.own 1] 161),(1,.row .str 9)],_,RS.mk (.iel 241 2 1) [(0,.cells [.h (.int .u32),.h (.int .i32),.h (.int .u32),.c .nilIface,.own 3] 161),(1,.dead),(2,.row .byte 240),(3,.row .str 9)]⟩:=fx [] [lb 2003 [(3,.own 32),(4,.h .bool),(5,wH)] [(0,.cells [.h (.int .u32),.h (.int .i32),.h (.int .u32),.c .nilIface,.own 32] 161),(1,.dead),(32,.row .str 9)],lb 129744 [(3,.own 32),(6,.el 33 1),(8,wH)] [(0,.cells [.h (.int .u32),.h (.int .i32),.h (.int .u32),.c .nilIface,.own 32] 161),(1,.dead),(32,.row .str 9),(33,.row .byte 240)],lb 32424 [(3,.own 32),(6,.el 33 1),(61,wH)] [(0,.cells [.h (.int .u32),.h (.int .i32),.h (.int .u32),.c .nilIface,.own 32] 161),(1,.dead),(32,.row .str 9),(33,.row .byte 240)],lb 16336 [(3,.own 32),(11,.ptr 33 0),(12,wH)] [(0,.cells [.h (.int .u32),.h (.int .i32),.h (.int .u32),.c .nilIface,.own 32] 161),(1,.dead),(32,.row .str 9),(33,.cells [wN,wN,wN,wN,wN,wN,wN,wN,wN,wN,wN,wN,wN,wN,wN,wN,wN,wN,wN,wN,wN,wN,wN,wN,wN,wN,wN,wN,wN,wN,wN,wN,wN,wN,wN,wN,wN,wN,wN,wN,wN,wN,wN,wN,wN,wN,wN,wN,wN,wN,wN,wN,wN,wN,wN,wN,wN,wN,wN,wN,wN,wN,wN,wN,wN,wN,wN,wN,wN,wN,wN,wN,wN,wN,wN,wN,wN,wN,wN,wN,wN,wN,wN,wN,wN,wN,wN,wN,wN,wN,wN,wN,wN,wN,wN,wN,wN,wN,wN,wN,wN,wN,wN,wN,wN,wN,wN,wN,wN,wN,wN,wN,wN,wN,wN,wN,wN,wN,wN,wN,wN,wN,wN,wN,wN,wN,wN,wN,wN,wN,wN,wN,wN,wN,wN,wN,wN,wN,wN,wN,wN,wN,wN,wN,wN,wN,wN,wN,wN,wN,wN,wN,wN,wN,wN,wN,wN,wN,wN,wN,wN,wN,wN,wN,wN,wN,wN,wN,wN,wN,wN,wN,wN,wN,wN,wN,wN,wN,wN,wN,wN,wN,wN,wN,wN,wN,wN,wN,wN,wN,wN,wN,wN,wN,wN,wN,wN,wN,wN,wN,wN,wN,wN,wN,wN,wN,wN,wN,wN,wN,wN,wN,wN,wN,wN,wN,wN,wN,wN,wN,wN,wN,wN,wN,wN,wN,wN,wN,wN,wN,wN,wN,wN,wN,wN,wN,wN,wN,wN,wN,wN,wN,wN,wN,wN,wN,wN,wN,wN,wN,wN,wN,wN,wN,wN,wN,.own 34] 244),(34,.row .str 9)],lb 2000 [(3,.own 32),(4,.h .bool),(5,wH)] [(0,.cells [.h (.int .u32),.h (.int .i32),.h (.int .u32),.c .nilIface,.own 32] 161),(1,.dead),(32,.row .str 9)],lb 30 [(3,.own 32)] [(0,.cells [.h (.int .u32),.h (.int .i32),.h (.int .u32),.c .nilIface,.own 32] 161),(1,.dead),(32,.row .str 9)],lb 29 [(3,.own 32),(28,.h .bool)] [(0,.cells [.h (.int .u32),.h (.int .i32),.h (.int .u32),.c .nilIface,.own 32] 161),(1,.dead),(32,.row .str 9)]]
def zl3(r2:(oo fu).L 4):(oo fu).L 0:=Fx.jm (qkm fu r2.f) [r2.s]
def zl6:Nat->(oo fu).L 1:=Fx.lq (qkp fu) (qwe fu) (fun r6=>[r6.s])
def zl4:Nat->(oo fu).L 2:=Fx.lq (qkn fu) (qwc fu) (fun r4=>[r4.s,(zl6 fu fu).s])
def zl5:Nat->(oo fu).L 3:=Fx.lq (qko fu) (qwd fu) (fun r5=>[])
def zl2:Nat->(oo fu).L 4:=Fx.lq (qkl fu) (qwb fu) (fun r2=>[(zl3 fu r2).s,(zl4 fu fu).s,(zl5 fu fu).s])
def zl1:(oo fu).L 5:=Fx.jm (qwf fu) [(zl2 fu fu).s]
def zl0:(oo fu).L 6:=Fx.jm (qkk fu) [(zl1 fu).s]
def zl7:=(oo fu).fi (qwa fu) [(zl0 fu).s]
def qre:IF:=⟨.fn 103,[.ptr 0 0],[(0,.cells [.h (.int .u32),.h (.int .i32),.h (.int .u32),.c .nilIface,.own 1] 161),(1,.row .str 9)],_,RS.mk (.tup []) [(0,.cells [.h (.int .u32),.h (.int .i32),.h (.int .u32),.iel 241 2 1,.own 3] 161),(1,.dead),(2,.row .byte 240),(3,.row .str 9)]⟩
def x47:Fx wG qre:=fx [(zl7 fu).p]
def zl9:EI wG qre:=(x47 fu).fi (qkj fu)
def q71:(qre.e (qkj fu)).Sound wG:=(zl9 fu).h
def qrf:IF:=⟨.fn 333,[.el 0 1,wS],[(0,.row .byte 240)],_,RS.mk (wS) [(0,.row .byte 240)]⟩
def x48(fu:Nat):Fx wG qrf:=fx [] [lb 14925 [(0,.el 0 1),(1,wS),(5,.own 32),(6,wH),(7,.h .byte)] [(0,.row .byte 240),(32,.row .byte 5)],lb 464 [(0,.el 0 1),(1,wS),(5,.own 32),(6,wH)] [(0,.row .byte 240),(32,.row .byte 5)],lb 464 [(0,.el 0 1),(1,wS),(5,wN),(6,wH)] [(0,.row .byte 240)]]
def q6r(r2:(x48 fu).L 1):(x48 fu).L 0:=Fx.jm (qkz fu r2.f) [r2.s]
def zmb:Nat->(x48 fu).L 1:=Fx.lq (qk0 fu) (qwo fu) (fun r2=>[(q6r fu r2).s,r2.s])
def zma:Nat->(x48 fu).L 2:=Fx.lq (qky fu) (qwn fu) (fun r0=>[r0.s,(q6r fu (zmb fu fu)).s])
def zmc:EI wG qrf:=(x48 fu).fi (qcv fu) [(zma fu fu).s]
def qwp:(qrf.e (qcv fu)).Sound wG:=(zmc fu).h
def q2i:IF:=⟨.fn 64,[.ptr 0 0,wS],[(0,.cells [.h (.int .u32),.h (.int .i32),.h (.int .u32),.c .nilIface,.own 1] 161),(1,.row .str 9)],_,RS.mk (wS) [(0,.cells [.h (.int .u32),.h (.int .i32),.h (.int .u32),.iel 241 2 1,.u] 161),(1,.dead),(2,.row .byte 240)]⟩
def q2j:IF:=⟨.fn 64,[.ptr 0 0,wS],[(0,.cells [.h (.int .u32),.h (.int .i32),.h (.int .u32),.iel 241 1 1,.u] 161),(1,.row .byte 240)],_,RS.mk (wS) [(0,.cells [.h (.int .u32),.h (.int .i32),.h (.int .u32),.iel 241 1 1,.u] 161),(1,.row .byte 240)]⟩
def q7z(s:Bs)(p0 p1 p2:Int)(on:List Bs)(r:Bs×Int×Int×Int×Bs)(hr:ya fu s p0 p1 p2 on=some r) :
  bm wG 64 [.ptr 0 0,.str s] [(0,.cells [.int .u32 p0,.int .i32 p1,.int .u32 p2,.val .nilIface,.own 1] 161),(1,.row .str on 9)] (.str r.1) [(0,.cells [.int .u32 r.2.1,.int .i32 r.2.2.1,.int .u32 r.2.2.2.1,.iface 241 (.oel 2 1 0 0),.undef] 161),(1,.dead),(2,.row .byte r.2.2.2.2 240)]:=by
 unfold ya at hr;cases hc:decide (p0=0)&&decide (p1=0)<;>rw[hc]at hr<;>simp only[qT,qF,reduceCtorEq]at hr
 simp only[qA,decide_eq_true_eq]at hc;obtain⟨rfl,rfl⟩:=hc;obtain⟨x,hx,hr⟩:=Option.bind_eq_some_iff.1 hr;obtain⟨x0,x1,x2,tab,on'⟩:=x;simp only at hr;cases hc2:decide (x0=0)&&decide (x1=1)<;>rw[hc2]at hr<;>simp only[qT,qF,reduceCtorEq]at hr
 simp only[qA,decide_eq_true_eq]at hc2;obtain⟨rfl,rfl⟩:=hc2;obtain⟨y,hy,hr⟩:=Option.bind_eq_some_iff.1 hr;obtain⟨out,tab'⟩:=y;simp only[qI]at hr;subst hr;have hB:bm wG 103 [.ptr 0 0] [(0,.cells [.int .u32 0,.int .i32 1,.int .u32 p2,.val .nilIface,.own 1] 161),(1,.row .str on 9)] (.tup []) [(0,.cells [.int .u32 0,.int .i32 1,.int .u32 x2,.iface 241 (.oel 2 1 0 0),.own 3] 161),(1,.dead),(2,.row .byte tab 240),(3,.row .str on' 9)]:=
  (q71 fu ((),()) (((0:Int),((1:Int),(p2,((),((),()))))),(on,())) ((0:Int),(1:Int),x2,tab,on') hx).2
 have hP:bm wG 333 [.oel 0 1 0 0,.str s] [(0,.row .byte tab 240)] (.str out) [(0,.row .byte tab' 240)]:=
  (qwp fu ((),(s,())) (tab,()) (out,tab') hy).2
 intro w G vs hm hv;show Calls _ _ _ _ (ix w G [(0,.cells [.int .u32 0,.int .i32 0,.int .u32 p2,.val .nilIface,.own 1] 161),(1,.row .str on 9)] (.str out) [(0,.cells [.int .u32 1,.int .i32 0,.int .u32 x2,.iface 241 (.oel 2 1 0 0),.undef] 161),(1,.dead),(2,.row .byte tab' 240)]);have hm:bj G [(0,.cells [.int .u32 0,.int .i32 0,.int .u32 p2,.val .nilIface,.own 1] 161),(1,.row .str on 9)] w:=hm;have hv:ak [.ptr 0 0,.str s] G vs:=hv
 match vs,hv with
 |[v1,v2],hv=>
 obtain⟨⟨B,hGB,rfl⟩,rfl,_⟩:=hv;have hid:∀n b,ae ([(0,.cells [.int .u32 0,.int .i32 0,.int .u32 p2,.val .nilIface,.own 1] 161),(1,.row .str on 9)]:List (Nat×ag)) n=some b->ao [(0,0),(1,1)] n=some n/\cq (ao [(0,0),(1,1)]) b=b:=by
  intro n b h
  match n,h with
  |0,h=>cases h;exact⟨rfl,rfl⟩
  |1,h=>cases h;exact⟨rfl,rfl⟩
  |n+2,h=>cases h
 have hr0:=ai.start (N:=[(0,0),(1,1)]) hm hid (fun n h=>by
  match n,h with
  |0,h=>cases h
  |1,h=>cases h
  | n+2,h=>rfl) 4
 have hGB0:(G.view [(0,0),(1,1)]).box 0=some B:=hGB;obtain⟨c0,e0,r0,z0⟩:=hr0.cellAt (i:=0) rfl hGB0 rfl;obtain⟨c1,e1,r1,z1⟩:=hr0.cellAt (i:=1) rfl hGB0 rfl;have r0:c0 = .int .u32 0:=r0;have r1:c1 = .int .i32 0:=r1;subst r0 r1;have hr1:=hr0.setCellAt (i:=1) (x := .int .i32 1) (v := .int .i32 1) rfl hGB0 rfl rfl
 -- the building
 have hmB:bj ((G.view [(0,0),(1,1)]).view [(0,0),(1,1)]) [(0,.cells [.int .u32 0,.int .i32 1,.int .u32 p2,.val .nilIface,.own 1] 161),(1,.row .str on 9)] (w.setCell ⟨B,1,none⟩ (.int .i32 1)):=
  hr1.fin.mem.view (names:=[(0,0),(1,1)]) rfl (fun m m' n h1 h2=>by
   match m,m',h1,h2 with
   |0,0,_,_=>rfl|1,1,_,_=>rfl|0,1,h1,h2=>cases h1;cases h2
   |1,0,h1,h2=>cases h1;cases h2
   |0,m'+2,_,h2=>cases h2
   |1,m'+2,_,h2=>cases h2
   | m+2,_,h1,_=>cases h1)
 have hcB:=hB (w.setCell ⟨B,1,none⟩ (.int .i32 1)) ((G.view [(0,0),(1,1)]).view [(0,0),(1,1)]) [.pointer (some ⟨B,0,none⟩)] hmB ⟨⟨B,hGB,rfl⟩,trivial⟩
 let s2:St:={ n:=4,fr:=[(0,.tup [])],hp:=[(0,.cells [.int .u32 0,.int .i32 1,.int .u32 x2,.iface 241 (.oel 66 1 0 0),.own 67] 161),(1,.dead),(66,.row .byte tab 240),(67,.row .str on' 9),(0,.dead),(1,.dead),(0,.cells [.int .u32 0,.int .i32 1,.int .u32 p2,.val .nilIface,.own 1] 161),(0,.cells [.int .u32 0,.int .i32 0,.int .u32 p2,.val .nilIface,.own 1] 161),(1,.row .str on 9)],nx:=64,df:=[] }
 let hp0:List (Nat×ag):=[(0,.cells [.int .u32 0,.int .i32 0,.int .u32 p2,.val .nilIface,.own 1] 161),(1,.row .str on 9)]
 let R:World->Prop:=fun w'=>∃G2 a2,ai w (G.view [(0,0),(1,1)]) hp0 G2 s2 a2 w'
 have hBw:∀{w':World}{G2:Gh}{a2:Act},ai w (G.view [(0,0),(1,1)]) hp0 G2 s2 a2 w'->G2.box 0=some B:=fun h=>h.fin.keep 0 _ B rfl hGB0
 refine(Go.Proofs.YtboiflmddgacmaaGreatDoor.Once.replace_first B ⟨s.toArray⟩ w R (fun v w'=>∃G4,Fin w G hp0 G4 [(0,.cells [.int .u32 1,.int .i32 0,.int .u32 x2,.iface 241 (.oel 2 1 0 0),.undef] 161),(1,.dead),(2,.row .byte tab' 240)] w'/\aj (.str out) G4 v) e0 e1 z0 z1 ?_ ?_ ?_).mono ?_
 ·refine hcB.mono ?_;intro e w' hpost;obtain⟨G2,v,he,hr2⟩:=qak hr1 (t:=0) (names:=[(0,0),(1,1)]) (hpv:=[(0,.cells [.int .u32 0,.int .i32 1,.int .u32 p2,.val .nilIface,.own 1] 161),(1,.row .str on 9)]) (hp:=[(0,.cells [.int .u32 0,.int .i32 1,.int .u32 p2,.val .nilIface,.own 1] 161),(1,.row .str on 9)]) rfl rfl (show 0<4 by decide) rfl rfl (by repeat (first|trivial|refine⟨rfl,?_⟩)) hpost
  obtain⟨u,u1,u2⟩:=hr2.frame 0 _ rfl;have u3:u=v:=by simpa [Act.put] using u1.symm
  obtain⟨us,h1,h2⟩:=u2;have:us=#[]:=by
   cases hq:us.toList with|nil=>simpa using hq|cons _ _=>rw[hq]at h2;exact h2.elim
  subst this;subst u3;exact⟨by rw[he,h1],G2,_,hr2⟩
 ·rintro w' ⟨G2,a2,hr2⟩
  obtain⟨d0,f0,q0,y0⟩:=hr2.cellAt (i:=0) rfl (hBw hr2) rfl;obtain⟨d1,f1,q1,y1⟩:=hr2.cellAt (i:=1) rfl (hBw hr2) rfl;have q0:d0 = .int .u32 0:=q0;have q1:d1 = .int .i32 1:=q1;subst q0 q1;exact⟨f0,y0,f1,y1⟩
 ·rintro w' ⟨G2,a2,hr2⟩
  obtain⟨d3,f3,q3,_⟩:=hr2.cellAt (i:=3) rfl (hBw hr2) rfl;obtain⟨u3,rfl,g,n3,c3,o3,rfl⟩:=q3;refine⟨g,by simpa using f3,?_⟩
  have hr3:=(hr2.drewOk.setCellAt (i:=0) (x := .int .u32 1) (v := .int .u32 1) rfl (hBw hr2) rfl rfl).setCellAt (i:=0+1) (x := .int .i32 0) (v := .int .i32 0) rfl (hBw hr2) rfl rfl;have hmP:bj (G2.view [(0,66)]) [(0,.row .byte tab 240)] ((w'.drew.setCell ⟨B,0,none⟩ (.int .u32 1)).setCell ⟨B,0+1,none⟩ (.int .i32 0)):=
   hr3.fin.mem.view (names:=[(0,66)]) rfl (fun m m' n h1 h2=>by
    cases m with
    |zero=>cases m' with|zero=>rfl|succ m'=>cases h2
    | succ m=>cases h1)
  have hcP:=hP _ (G2.view [(0,66)]) [.pointer (some ⟨g,0,none⟩),.string ⟨s.toArray⟩] hmP ⟨⟨g,n3,c3,o3,oC⟩,rfl,trivial⟩
  refine hcP.mono ?_;intro e w4 hpost;obtain⟨G4,v,he,hr4⟩:=qak hr3 (t:=1) (names:=[(0,66)]) (hpv:=[(0,.row .byte tab 240)]) (hp:=[(0,.row .byte tab 240)]) rfl rfl (show 1<4 by decide) rfl rfl ⟨rfl,trivial⟩ hpost
  obtain⟨u,u1,u2⟩:=hr4.frame 1 _ rfl;have u3:u=v:=by
   have hs:=hr3.size;have hlt:1<a2.tmps.size:=by rw[hs];exact(show 1<4 by decide)
   simp only[Act.put]at u1;rw[Array.getElem?_setIfInBounds]at u1;simp[hlt]at u1;exact u1.symm
  subst u3;obtain⟨G5,k1,k2⟩:=qem hr4 (ids:=[(0,0),(1,1)]) (fun n bx h=>by
   match n,h with
   |0,h=>rfl|1,h=>rfl| n+2,h=>cases h) (v := .str out) (p := wS) (hp:=[(0,.cells [.h (.int .u32),.h (.int .i32),.h (.int .u32),.iel 241 2 1,.u] 161),(1,.dead),(2,.row .byte 240)]) (y:=(out,(((1:Int),((0:Int),(x2,((),((),()))))),((),(tab',()))))) (by rfl)
  exact⟨u,he,G5,k1.only hid,k2 u u2⟩
 ·rintro e w4 ⟨v,rfl,G4,k1,k2⟩
  exact⟨v,G4,rfl,k1,k2⟩
def zd3:(q2i.e (ya fu)).Sound wG:=fun d d' r hr=>
 ⟨call64,q7z fu d.2.1 d'.1.1 d'.1.2.1 d'.1.2.2.1 d'.2.1 r hr⟩
def q70(s:Bs)(p0 p1 p2:Int)(tab:Bs)(r:Bs×Int×Int×Int×Bs)(hr:yc fu s p0 p1 p2 tab=some r) :
  bm wG 64 [.ptr 0 0,.str s] [(0,.cells [.int .u32 p0,.int .i32 p1,.int .u32 p2,.iface 241 (.oel 1 1 0 0),.undef] 161),(1,.row .byte tab 240)] (.str r.1) [(0,.cells [.int .u32 r.2.1,.int .i32 r.2.2.1,.int .u32 r.2.2.2.1,.iface 241 (.oel 1 1 0 0),.undef] 161),(1,.row .byte r.2.2.2.2 240)]:=by
 unfold yc at hr;cases hc : !decide (p0=0)<;>rw[hc]at hr<;>simp only[qT,qF,reduceCtorEq]at hr
 simp only[Bool.not_eq_true',decide_eq_false_iff_not]at hc;obtain⟨y,hy,hr⟩:=Option.bind_eq_some_iff.1 hr;obtain⟨out,tab'⟩:=y;simp only[qI]at hr;subst hr;have hP:bm wG 333 [.oel 0 1 0 0,.str s] [(0,.row .byte tab 240)] (.str out) [(0,.row .byte tab' 240)]:=
  (qwp fu ((),(s,())) (tab,()) (out,tab') hy).2
 intro w G vs hm hv
 let hp0:List (Nat×ag):=[(0,.cells [.int .u32 p0,.int .i32 p1,.int .u32 p2,.iface 241 (.oel 1 1 0 0),.undef] 161),(1,.row .byte tab 240)]
 show Calls _ _ _ _ (ix w G hp0 (.str out) [(0,.cells [.int .u32 p0,.int .i32 p1,.int .u32 p2,.iface 241 (.oel 1 1 0 0),.undef] 161),(1,.row .byte tab' 240)]);have hm:bj G hp0 w:=hm;have hv:ak [.ptr 0 0,.str s] G vs:=hv
 match vs,hv with
 |[v1,v2],hv=>
 obtain⟨⟨B,hGB,rfl⟩,rfl,_⟩:=hv;have hid:∀n b,ae hp0 n=some b->ao [(0,0),(1,1)] n=some n/\cq (ao [(0,0),(1,1)]) b=b:=by
  intro n b h
  match n,h with
  |0,h=>cases h;exact⟨rfl,rfl⟩
  |1,h=>cases h;exact⟨rfl,rfl⟩
  |n+2,h=>cases h
 have hr0:=ai.start (N:=[(0,0),(1,1)]) hm hid (fun n h=>by
  match n,h with
  |0,h=>cases h
  |1,h=>cases h
  | n+2,h=>rfl) 4
 have hGB0:(G.view [(0,0),(1,1)]).box 0=some B:=hGB;obtain⟨c0,e0,r0,_⟩:=hr0.cellAt (i:=0) rfl hGB0 rfl;have r0:c0 = .int .u32 p0:=r0;subst r0;obtain⟨d3,f3,q3,_⟩:=hr0.cellAt (i:=3) rfl hGB0 rfl;obtain⟨u3,rfl,g,n3,c3,o3,rfl⟩:=q3;have hmP:bj ((G.view [(0,0),(1,1)]).view [(0,1)]) [(0,.row .byte tab 240)] w:=
  hr0.fin.mem.view (names:=[(0,1)]) rfl (fun m m' n h1 h2=>by
   cases m with
   |zero=>cases m' with|zero=>rfl|succ m'=>cases h2
   | succ m=>cases h1)
 have hcP:=hP w ((G.view [(0,0),(1,1)]).view [(0,1)]) [.pointer (some ⟨g,0,none⟩),.string ⟨s.toArray⟩] hmP ⟨⟨g,n3,c3,o3,oC⟩,rfl,trivial⟩
 refine(Go.Proofs.YtboiflmddgacmaaGreatDoor.Once.replace_done B g ⟨s.toArray⟩ w (fun v w'=>∃G4,Fin w G hp0 G4 [(0,.cells [.int .u32 p0,.int .i32 p1,.int .u32 p2,.iface 241 (.oel 1 1 0 0),.undef] 161),(1,.row .byte tab' 240)] w'/\aj (.str out) G4 v) p0 hc e0 (by simpa using f3) ?_).mono ?_
 ·refine hcP.mono ?_;intro e w4 hpost;obtain⟨G4,v,he,hr4⟩:=qak hr0 (t:=1) (names:=[(0,1)]) (hpv:=[(0,.row .byte tab 240)]) (hp:=[(0,.row .byte tab 240)]) rfl rfl (show 1<4 by decide) rfl rfl ⟨rfl,trivial⟩ hpost
  obtain⟨u,u1,u2⟩:=hr4.frame 1 _ rfl;have u3:u=v:=by simpa [Act.put] using u1.symm
  subst u3;obtain⟨G5,k1,k2⟩:=qem hr4 (ids:=[(0,0),(1,1)]) (fun n bx h=>by
   match n,h with
   |0,h=>rfl|1,h=>rfl| n+2,h=>cases h) (v := .str out) (p := wS) (hp:=[(0,.cells [.h (.int .u32),.h (.int .i32),.h (.int .u32),.iel 241 1 1,.u] 161),(1,.row .byte 240)]) (y:=(out,((p0,(p1,(p2,((),((),()))))),(tab',())))) (by rfl)
  exact⟨u,he,G5,k1.only hid,k2 u u2⟩
 ·rintro e w4 ⟨v,rfl,G4,k1,k2⟩
  exact⟨v,G4,rfl,k1,k2⟩
def zd4:(q2j.e (yc fu)).Sound wG:=fun d d' r hr=>
 ⟨call64,q70 fu d.2.1 d'.1.1 d'.1.2.1 d'.1.2.2.1 d'.2.1 r hr⟩
def x49(fu:Nat):Fx wG ⟨.fn 95,[wS,.h .byte],[],_,RS.mk (wS) []⟩:=fx [] [lb 96 [(0,wS),(1,.h .byte)]]
def zmd:Nat->(x49 fu).L 0:=Fx.lq (qk9 fu) (qwv fu) (fun r0=>[r0.s])
def q6t:=(x49 fu).fi (qk8 fu) [(zmd fu fu).s]
def x50(fu:Nat):Fx wG ⟨.fn 98,[wS,.el 0 1],[(0,.row .bool 164)],_,RS.mk (wS) [(0,.row .bool 164)]⟩:=fx [qqd.p] [lb 96 [(0,wS),(1,.el 0 1)] [(0,.row .bool 164)]]
def zmf:Nat->(x50 fu).L 0:=Fx.lq (qk7 fu) (qwu fu) (fun r0=>[r0.s])
def q6v:=(x50 fu).fi (qk6 fu) [(zmf fu fu).s]
def x51:Fx wG ⟨.fn 100,[wS,wS],[],_,RS.mk (wS) []⟩:=fx [qrc.p,(q6n fu).p] [lb 96 [(0,wS),(1,wS)]]
def zmg:Nat->(x51 fu).L 0:=Fx.lq (qlb fu) (qww fu) (fun r0=>[r0.s])
def q6x:=(x51 fu).fi (qla fu) [(zmg fu fu).s]
def x52:Fx wG ⟨.fn 63,[wS,wS],[],_,RS.mk (wS) []⟩:=fx [(q6d fu).p,(q6t fu).p,(x5s fu).p,(q6f fu).p,(q6v fu).p,(q6p fu).p,(q6x fu).p] [lb 60 [(0,wS),(1,wS)],lb 29 [(0,wS),(1,wS),(21,.h .bool)],lb 28 [(0,wS),(1,wS)],lb 13 [(0,wS),(1,wS),(12,.h .bool)]]
def zmk:(x52 fu).L 0:=Fx.jm (qwm fu)
def zmj:(x52 fu).L 1:=Fx.jm (qkx fu) [(zmk fu).s]
def zmi:(x52 fu).L 2:=Fx.jm (qwl fu) [(zmj fu).s]
def zmh:(x52 fu).L 3:=Fx.jm (qkw fu) [(zmi fu).s]
def zml:=(x52 fu).fi (qkq fu) [(zmh fu).s]
def oq:Fx wG ⟨.fn 34,[.h wB],[],_,RS.mk (.tup [.own 0,wH,.h (.prod wI wI)]) [(0,.row wP 41)]⟩:=fx [d6.p,zlc.p,qgb.p,q58.p,⟨q2i.e (ya fu),zd3 fu⟩,(zml fu).p,dd.p,(zlz fu).p,⟨q2j.e (yc fu),zd4 fu⟩] [lb 8168 [(4,.ptr 32 0),(5,.own 33),(6,wH),(11,.ptr 34 0),(77,wH),(78,wH)] [(32,.dat (.prod wI wI) 28),(33,.row wP 41),(34,.cells [.h (.int .u32),.h (.int .i32),.h (.int .u32),.iel 241 35 1,.u] 161),(35,.row .byte 240)],lb 8168 [(4,.ptr 32 0),(5,.own 35),(6,wH),(11,.ptr 33 0),(77,wH),(78,.c (.int .i64 0))] [(32,.dat (.prod wI wI) 28),(33,.cells [.h (.int .u32),.h (.int .i32),.h (.int .u32),.c .nilIface,.own 34] 161),(34,.row .str 9),(35,.row wP 41)],lb 252 [(4,.ptr 32 0),(5,.own 33),(6,wH)] [(32,.dat (.prod wI wI) 28),(33,.row wP 41)],lb 15918 [(0,.h wB),(4,.ptr 32 0),(5,.own 33),(6,wH),(7,wS),(8,wH)] [(32,.dat (.prod wI wI) 28),(33,.row wP 41)],lb 15917 [(0,.h wB),(4,.ptr 32 0),(5,.own 33),(6,wH),(7,wS),(8,wH),(41,.h .bool)] [(32,.dat (.prod wI wI) 28),(33,.row wP 41)],lb 992 [(0,.h wB),(4,.ptr 32 0),(5,.own 33),(6,wH)] [(32,.dat (.prod wI wI) 28),(33,.row wP 41)]]
def zmq:Nat->(oq fu).L 0:=Fx.lq (qie fu) (qtd fu) (fun r5=>[r5.s])
def zmo:Nat->(oq fu).L 1:=Fx.lq (qid fu) (qtc fu) (fun r3=>[(zmq fu fu).s])
def q6y:(oq fu).L 2:=Fx.jm (qcb fu) [(zmo fu fu).s]
def zmp(r0:(oq fu).L 5):(oq fu).L 3:=Fx.jm (qte fu r0.f) [(q6y fu).s,r0.s]
def zmn(r0:(oq fu).L 5):(oq fu).L 4:=Fx.jm (qic fu r0.f) [r0.s,(zmp fu r0).s]
def zmm:Nat->(oq fu).L 5:=Fx.lq (qib fu) (qtb fu) (fun r0=>[(q6y fu).s,(zmn fu r0).s])
def q6z:=(oq fu).fi (qia fu) [(zmm fu fu).s]
def w8(fu:Nat):Fx wG ⟨.fn 35,[.h wB],[],_,RS.mk (.own 0) [(0,.row .byte 5)]⟩:=fx [] [lb 14919 [(0,.h wB),(3,.own 32),(4,wH),(44,.h .bool)] [(32,.row .byte 5)],lb 3729 [(0,.h wB),(3,.own 32),(4,wH),(18,.h .bool)] [(32,.row .byte 5)],lb 464 [(0,.h wB),(3,.own 32),(4,wH)] [(32,.row .byte 5)]]
def zmt(r0:(w8 fu).L 2):(w8 fu).L 0:=Fx.jm (qi9 fu r0.f) [r0.s]
def zms(r0:(w8 fu).L 2):(w8 fu).L 1:=Fx.jm (qcj fu r0.f) [r0.s,(zmt fu r0).s]
def zmr:Nat->(w8 fu).L 2:=Fx.lq (qi8 fu) (qup fu) (fun r0=>[(zms fu r0).s])
def zmu:=(w8 fu).fi (qun fu) [(zmr fu fu).s]
def zmv:EI wG ⟨.fn 11,[.h wB],[],_,RS.mk (.tup [.h (.prod wL wB),.h (.prod wI wI)]) []⟩:=(fx [(q6z fu).p,dw.p,(zmu fu).p,(qra fu).p,dd.p]).fi (quk fu)
def x56(fu:Nat):Fx wG ⟨.fn 108,[wS],[],_,RS.mk (wS) []⟩:=fx [] [lb 232 [(3,.own 32),(8,.own 32),(9,wH),(10,wH)] [(32,.row .byte 5)]]
def zmw:Nat->(x56 fu).L 0:=Fx.lq (qhb fu) (qse fu) (fun r0=>[r0.s])
def q62:=(x56 fu).fi (qbu fu) [(zmw fu fu).s]
def lf:EI wG ⟨.fn 67,[wS,wS],[],_,RS.mk (.h .bool) []⟩:=(fx [(q62 fu).p]).fi (eq fu)
def x58:Fx wG ⟨.fn 274,[wS,wS],[],_,RS.mk (wS) []⟩:=fx [(q6t fu).p,(x5s fu).p,(q6v fu).p,(q6x fu).p] [lb 60 [(0,wS),(1,wS)],lb 29 [(0,wS),(1,wS),(21,.h .bool)],lb 28 [(0,wS),(1,wS)],lb 13 [(0,wS),(1,wS),(12,.h .bool)]]
def zm0:(x58 fu).L 0:=Fx.jm (qwi fu)
def zmz:(x58 fu).L 1:=Fx.jm (qks fu) [(zm0 fu).s]
def zmy:(x58 fu).L 2:=Fx.jm (qwh fu) [(zmz fu).s]
def zmx:(x58 fu).L 3:=Fx.jm (qkr fu) [(zmy fu).s]
def zm1:=(x58 fu).fi (qwg fu) [(zmx fu).s]
def qbl:EI wG ⟨.fn 260,[.ptr 0 0],[(0,.cells [wS] 339)],_,RS.mk (.tup []) [(0,.cells [wS] 339)]⟩:=(fx [(zm1 fu).p]).fi (tm fu)
def qbm:EI wG ⟨.fn 257,[.h .byte],[],_,RS.mk (.h .bool) []⟩:=(fx [x7s.p]).fi tn
def xa:Fx wG ⟨.fn 256,[.ptr 0 0,.fn 257 []],[(0,.cells [wS] 339)],_,RS.mk (wS) [(0,.cells [wS] 339)]⟩:=fx [(qbl fu).p,qbm.p] [lb 482 [(0,.ptr 0 0),(1,.fn 257 []),(5,wH)] [(0,.cells [wS] 339)],lb 481 [(0,.ptr 0 0),(1,.fn 257 []),(5,wH),(25,.h .bool)] [(0,.cells [wS] 339)],lb 480 [(0,.ptr 0 0),(1,.fn 257 []),(5,wH)] [(0,.cells [wS] 339)]]
def zm5(r0:(xa fu).L 2):(xa fu).L 0:=Fx.jm (qua fu r0.f) [r0.s]
def zm4(r0:(xa fu).L 2):(xa fu).L 1:=Fx.jm (qi2 fu r0.f) [(zm5 fu r0).s]
def zm3:Nat->(xa fu).L 2:=Fx.lq (qi1 fu) (qt9 fu) (fun r0=>[(zm4 fu r0).s])
def zm6:=(xa fu).fi (qi0 fu) [(zm3 fu fu).s]
def qrl:EI wG ⟨.fn 258,[.ptr 0 0,.h .byte],[(0,.cells [wS] 339)],_,RS.mk (.h .bool) [(0,.cells [wS] 339)]⟩:=(fx [(qbl fu).p]).fi (x6 fu)
def zm7:EI wG ⟨.fn 270,[.h .byte],[],_,RS.mk (.h .bool) []⟩:=(fx [qbm.p]).fi qt8
def xc:Fx wG ⟨.fn 256,[.ptr 0 0,.fn 270 []],[(0,.cells [wS] 339)],_,RS.mk (wS) [(0,.cells [wS] 339)]⟩:=fx [(qbl fu).p,zm7.p] [lb 482 [(0,.ptr 0 0),(1,.fn 270 []),(5,wH)] [(0,.cells [wS] 339)],lb 481 [(0,.ptr 0 0),(1,.fn 270 []),(5,wH),(25,.h .bool)] [(0,.cells [wS] 339)],lb 480 [(0,.ptr 0 0),(1,.fn 270 []),(5,wH)] [(0,.cells [wS] 339)]]
def zna(r0:(xc fu).L 2):(xc fu).L 0:=Fx.jm (qud fu r0.f) [r0.s]
def zm9(r0:(xc fu).L 2):(xc fu).L 1:=Fx.jm (qi4 fu r0.f) [(zna fu r0).s]
def zm8:Nat->(xc fu).L 2:=Fx.lq (qi3 fu) (quc fu) (fun r0=>[(zm9 fu r0).s])
def znb:=(xc fu).fi (qub fu) [(zm8 fu fu).s]
def znc:EI wG ⟨.fn 282,[.h .byte],[],_,RS.mk (.h .bool) []⟩:=(fx [qbm.p]).fi qui
def xd:Fx wG ⟨.fn 256,[.ptr 0 0,.fn 282 []],[(0,.cells [wS] 339)],_,RS.mk (wS) [(0,.cells [wS] 339)]⟩:=fx [(qbl fu).p,znc.p] [lb 482 [(0,.ptr 0 0),(1,.fn 282 []),(5,wH)] [(0,.cells [wS] 339)],lb 481 [(0,.ptr 0 0),(1,.fn 282 []),(5,wH),(25,.h .bool)] [(0,.cells [wS] 339)],lb 480 [(0,.ptr 0 0),(1,.fn 282 []),(5,wH)] [(0,.cells [wS] 339)]]
def znf(r0:(xd fu).L 2):(xd fu).L 0:=Fx.jm (qug fu r0.f) [r0.s]
def zne(r0:(xd fu).L 2):(xd fu).L 1:=Fx.jm (qi6 fu r0.f) [(znf fu r0).s]
def znd:Nat->(xd fu).L 2:=Fx.lq (qi5 fu) (quf fu) (fun r0=>[(zne fu r0).s])
def zng:=(xd fu).fi (que fu) [(znd fu fu).s]
def x67:Fx wG ⟨.fn 271,[.ptr 0 0],[(0,.cells [wS] 339)],_,RS.mk (.tup [wS,.h .bool]) [(0,.cells [wS] 339)]⟩:=fx [(qrl fu).p,(zng fu).p] [lb 976 [(0,.ptr 0 0),(4,.own 32),(5,wH)] [(0,.cells [wS] 339),(32,.row .byte 5)]]
def znh:Nat->(x67 fu).L 0:=Fx.lq (qi7 fu) (quj fu) (fun r0=>[r0.s])
def zni:=(x67 fu).fi (quh fu) [(znh fu fu).s]
def qrn:EI wG ⟨.fn 81,[wS,wS],[],_,RS.mk (.h .bool) []⟩:=(fx).fi tk
def znj:EI wG ⟨.fn 283,[wS,wS],[],_,RS.mk (.tup [wS,.h .bool]) []⟩:=(fx [qrn.p]).fi qtk
def znk:EI wG ⟨.fn 272,[wS,wS],[],_,RS.mk (.tup [wS,.h .bool]) []⟩:=(fx [znj.p]).fi qv3
def qfh:LC.glob 1=some ⟨.int .u64,Lib.pow10Tab⟩:=rfl
def qfi:(1,20)∈LC.sizes:=oF
def znl:EI wG ⟨.fn 259,[.ptr 0 0],[(0,.cells [wS] 339)],_,RS.mk (.tup [.h (.prod .str (.prod wI (.prod .bool .str))),.h .bool]) [(0,.cells [wS] 339)]⟩:=(fx [(znb fu).p,(qrl fu).p,(zni fu).p,q6b.p,znk.p,⟨q1r.e xi,zdd qfh qfi oF oF⟩]).fi (qt7 fu)
def q65:EI wG ⟨.fn 275,[.h (.prod .str (.prod wI (.prod .bool .str))),.ptr 0 0],[(0,.dat (.prod .str (.prod wI (.prod .bool .str))) 343)],_,RS.mk (.h .bool) [(0,.dat (.prod .str (.prod wI (.prod .bool .str))) 343)]⟩:=(fx [(lf fu).p]).fi (qir fu)
def x73:Fx wG ⟨.fn 284,[.h (.list (.prod .str (.prod wI (.prod .bool .str)))),.fn 275 [.ptr 0 0]],[(0,.dat (.prod .str (.prod wI (.prod .bool .str))) 343)],_,RS.mk (wH) [(0,.dat (.prod .str (.prod wI (.prod .bool .str))) 343)]⟩:=fx [(q65 fu).p] [lb 104 [(0,.h (.list (.prod .str (.prod wI (.prod .bool .str))))),(1,.fn 275 [.ptr 0 0]),(7,wH),(8,wH)] [(0,.dat (.prod .str (.prod wI (.prod .bool .str))) 343)]]
def znm:Nat->(x73 fu).L 0:=Fx.lq (qj5 fu) (qvz fu) (fun r0=>[r0.s])
def znn:=(x73 fu).fi (qvy fu) [(znm fu fu).s]
def zno:EI wG ⟨.fn 276,[.h (.list (.prod .str (.prod wI (.prod .bool .str)))),.fn 275 [.ptr 0 0]],[(0,.dat (.prod .str (.prod wI (.prod .bool .str))) 343)],_,RS.mk (.h .bool) [(0,.dat (.prod .str (.prod wI (.prod .bool .str))) 343)]⟩:=(fx [(znn fu).p]).fi (qvq fu)
def x76:Fx wG ⟨.fn 281,[.h .byte],[],_,RS.mk (.tup [.h .byte,.h .bool]) []⟩:=fx [] [lb 103 [(0,.h .byte),(13,.h .bool)],lb 25 [(0,.h .byte),(4,.h .bool)]]
def znq:x76.L 0:=Fx.jm qha
def znp:x76.L 1:=Fx.jm qg9 [(znq).s]
def znr:=x76.fi qg8 [(znp).s]
def q68:EI wG ⟨.fn 269,[wS],[],_,RS.mk (.tup [.h .byte,.h .bool]) []⟩:=(fx [znr.p]).fi qhd
def x78:Fx wG ⟨.fn 287,[.h (.prod .str (.prod wI (.prod .bool .str)))],[],_,RS.mk (wS) []⟩:=fx [(lf fu).p,q68.p] [lb 4048 [(3,wS),(4,.own 32),(5,wH)] [(32,.row .byte 5)],lb 62 [(3,wS)],lb 61 [(3,wS),(26,.h .bool)]]
def znu:Nat->(x78 fu).L 0:=Fx.lq (qix fu) (qt4 fu) (fun r2=>[r2.s])
def znt:(x78 fu).L 1:=Fx.jm (qiw fu) [(znu fu fu).s]
def zns:(x78 fu).L 2:=Fx.jm (qch fu) [(znt fu).s]
def znv:=(x78 fu).fi (qt3 fu) [(zns fu).s]
def qz7:LC.glob 4=some ⟨.byte,qa2⟩:=rfl
def qxz:LC.glob 5=some ⟨.prod .byte .byte,qa3⟩:=rfl
def qz6:ul qa2=true:=oB
def qxy:um qa3=true:=oB
def x79:Fx wG ⟨.fn 277,[.own 0],[(0,.row (.prod .str (.prod wI (.prod .bool .str))) 343)],_,RS.mk (.tup [.h wP,.h .bool]) [(0,.dead)]⟩:=fx [⟨q3c.e ye,zeq⟩,(znv fu).p,⟨q3y.e yh,ze9 qz7 qxz qz6 qxy⟩] [lb 2024 [(2,.ptr 32 0),(4,.ptr 33 0),(28,.own 34),(29,wH),(30,wH)] [(0,.dead),(32,.dat wP 255),(33,.dat wP 255),(34,.row (.prod .str (.prod wI (.prod .bool .str))) 343)]] true
def znw:Nat->(x79 fu).L 0:=Fx.lq (qio fu) (qts fu) (fun r0=>[r0.s])
def znx:=(x79 fu).fi (qtr fu) [(znw fu fu).s]
def ta:Fx wG ⟨.fn 261,[.h (.list (.prod .str (.prod wI (.prod .bool .str))))],[],_,RS.mk (.tup [.own 0,.h .bool]) [(0,.row wP 255)]⟩:=fx [(zno fu).p,(q65 fu).p,(znx fu).p] [lb 3827623 [(0,.h (.list (.prod .str (.prod wI (.prod .bool .str))))),(4,.own 34),(6,.ptr 32 0),(7,.fn 275 [.ptr 32 0]),(8,.own 33),(13,.h (.list (.prod .str (.prod wI (.prod .bool .str))))),(14,wH),(15,wH),(26,.h (.list (.prod .str (.prod wI (.prod .bool .str))))),(27,wH),(28,wH)] [(32,.dat (.prod .str (.prod wI (.prod .bool .str))) 343),(33,.row (.prod .str (.prod wI (.prod .bool .str))) 343),(34,.row wP 255)],lb 956904 [(0,.h (.list (.prod .str (.prod wI (.prod .bool .str))))),(4,.own 33),(6,.ptr 32 0),(7,.fn 275 [.ptr 32 0]),(8,.own 34),(13,.h (.list (.prod .str (.prod wI (.prod .bool .str))))),(14,wH),(15,wH),(26,.h (.list (.prod .str (.prod wI (.prod .bool .str))))),(27,wH),(28,wH)] [(32,.dat (.prod .str (.prod wI (.prod .bool .str))) 343),(33,.row wP 255),(34,.row (.prod .str (.prod wI (.prod .bool .str))) 343)],lb 232 [(0,.h (.list (.prod .str (.prod wI (.prod .bool .str))))),(4,.own 32),(13,.h (.list (.prod .str (.prod wI (.prod .bool .str))))),(14,wH),(15,wH)] [(32,.row wP 255)]]
def zn0(r0:(ta fu).L 2)(r1:(ta fu).L 1):(ta fu).L 0:=Fx.jm (qiu fu r0.f r1.f) [r1.s]
def znz(r0:(ta fu).L 2):Nat->(ta fu).L 1:=Fx.lq (qit fu r0.f) (qtz fu r0.f) (fun r1=>[(zn0 fu r0 r1).s,r0.s])
def zny:Nat->(ta fu).L 2:=Fx.lq (qis fu) (qty fu) (fun r0=>[r0.s,(znz fu r0 fu).s])
def zn1:=(ta fu).fi (qtx fu) [(zny fu fu).s]
def x81:Fx wG ⟨.fn 233,[wS],[],_,.two (RS.mk (.tup [.agg [wS,wS,wN],.h .bool]) []) (RS.mk (.tup [.agg [wS,wS,.own 0],.h .bool]) [(0,.row wP 255)])⟩:=fx [(zm6 fu).p,(qrl fu).p,(znl fu).p,(qbl fu).p,(zn1 fu).p] [lb 16352 [(2,.ptr 32 0),(4,.ptr 33 0),(5,.ptr 34 0),(7,.own 35)] [(32,.cells [wS,wS,wN] 251),(33,.cells [wS] 339),(34,.cells [wS,wS,wN] 251),(35,.row (.prod .str (.prod wI (.prod .bool .str))) 343)],lb 510 [(2,.ptr 32 0),(4,.ptr 33 0),(5,.ptr 34 0)] [(32,.cells [wS,wS,wN] 251),(33,.cells [wS] 339),(34,.cells [wS,wS,wN] 251)],lb 509 [(2,.ptr 32 0),(4,.ptr 33 0),(5,.ptr 34 0),(33,.h .bool)] [(32,.cells [wS,wS,wN] 251),(33,.cells [wS] 339),(34,.cells [wS,wS,wN] 251)]]
def zn4:Nat->(x81 fu).L 0:=Fx.lq (qiv fu) (qt1 fu) (fun r2=>[r2.s])
def zn3:(x81 fu).L 1:=Fx.jm (qt2 fu) [(zn4 fu fu).s]
def zn2:(x81 fu).L 2:=Fx.jm (qcg fu) [(zn3 fu).s]
def zn5:=(x81 fu).fi (qt0 fu) [(zn2 fu).s]
def x82(fu:Nat):Fx wG ⟨.fn 71,[wS,.fn 257 []],[],_,RS.mk (.h .bool) []⟩:=fx [qbm.p] [lb 104 [(0,wS),(1,.fn 257 []),(7,wH),(8,wH)]]
def zn6:Nat->(x82 fu).L 0:=Fx.lq (qgy fu) (qr6 fu) (fun r0=>[r0.s])
def zn7:=(x82 fu).fi (qr5 fu) [(zn6 fu fu).s]
end
end
noncomputable section
open Go.Proofs
set_option linter.unusedVariables false
set_option maxRecDepth 100000
set_option maxHeartbeats 2000000
open Tryz
section
variable(fu:Nat)
def q7c:EI wG ⟨.fn 234,[wS],[],_,RS.mk (.h .bool) []⟩:=(fx [(zn7 fu).p]).fi (x7 fu)
def zn8:EI wG ⟨.fn 236,[.h wP,.ptr 0 0],[(0,.dat wP 255)],_,RS.mk (.h .bool) [(0,.dat wP 255)]⟩:=(fx [(lf fu).p]).fi (qto fu)
def x85:Fx wG ⟨.fn 205,[.h wL,.fn 236 [.ptr 0 0]],[(0,.dat wP 255)],_,RS.mk (wH) [(0,.dat wP 255)]⟩:=fx [(zn8 fu).p] [lb 104 [(0,.h wL),(1,.fn 236 [.ptr 0 0]),(7,wH),(8,wH)] [(0,.dat wP 255)]]
def zn9:Nat->(x85 fu).L 0:=Fx.lq (qj2 fu) (qvw fu) (fun r0=>[r0.s])
def zoa:=(x85 fu).fi (qvv fu) [(zn9 fu fu).s]
def zob:EI wG ⟨.fn 235,[.h wL,.fn 236 [.ptr 0 0]],[(0,.dat wP 255)],_,RS.mk (.h .bool) [(0,.dat wP 255)]⟩:=(fx [(zoa fu).p]).fi (qvp fu)
def xf:Fx wG ⟨.fn 206,[.h (.prod .str (.prod .str wL))],[],_,RS.mk (.h (.prod wI wI)) []⟩:=fx [(q7c fu).p,d6.p,dd.p,(zob fu).p,⟨q37.e ym,zfi qz7 qxz qz6 qxy⟩] [lb 31333 [(1,.ptr 32 0),(2,.ptr 33 0),(3,wH),(4,.ptr 34 0),(22,.h wL),(23,wH),(24,wH),(29,.h .bool)] [(32,.dat (.prod .str (.prod .str wL)) 251),(33,.dat (.prod wI wI) 28),(34,.dat wP 255)],lb 488 [(1,.ptr 32 0),(2,.ptr 33 0),(22,.h wL),(23,wH),(24,wH)] [(32,.dat (.prod .str (.prod .str wL)) 251),(33,.dat (.prod wI wI) 28)],lb 28 [(1,.ptr 32 0),(2,.ptr 33 0)] [(32,.dat (.prod .str (.prod .str wL)) 251),(33,.dat (.prod wI wI) 28)],lb 13 [(1,.ptr 32 0),(2,.ptr 33 0),(14,.h .bool)] [(32,.dat (.prod .str (.prod .str wL)) 251),(33,.dat (.prod wI wI) 28)]]
def zof(r2:(xf fu).L 1):(xf fu).L 0:=Fx.jm (qin fu r2.f) [r2.s]
def zoe:Nat->(xf fu).L 1:=Fx.lq (qim fu) (qtp fu) (fun r2=>[(zof fu r2).s])
def zod:(xf fu).L 2:=Fx.jm (qtq fu) [(zoe fu fu).s]
def zoc:(xf fu).L 3:=Fx.jm (qil fu) [(zod fu).s]
def qrt:=(xf fu).fi (xz fu) [(zoc fu).s]
def zog:EI wG ⟨.fn 204,[wS],[],_,.two (RS.mk (.tup [.agg [wS,wS,wN],.agg [wH,wH]]) []) (RS.mk (.tup [.agg [wS,wS,.own 0],.agg [wH,wH]]) [(0,.row wP 255)])⟩:=(fx [d6.p,(zn5 fu).p,(qrt fu).p,dw.p,dd.p]).fi (qtm fu)
def x89:Fx wG ⟨.fn 168,[.h wL],[],_,.two (RS.mk (.tup [.agg [wS,wS,wN],wH,.h .bool]) []) (RS.mk (.tup [.agg [wS,wS,.own 0],wH,.h .bool]) [(0,.row wP 255)])⟩:=fx [(lf fu).p,(zog fu).p,dw.p] [lb 935 [(0,.h wL),(2,.ptr 32 0),(5,wH),(10,.h wL),(11,wH),(12,wH)] [(32,.cells [wS,wS,wN] 251)],lb 232 [(0,.h wL),(2,.ptr 32 0),(5,wH),(10,.h wL),(11,wH),(12,wH)] [(32,.cells [wS,wS,wN] 251)]]
def zoi(r0:(x89 fu).L 1):(x89 fu).L 0:=Fx.jm (qje fu r0.f) [r0.s]
def zoh:Nat->(x89 fu).L 1:=Fx.lq (qjd fu) (quw fu) (fun r0=>[(zoi fu r0).s])
def qru:=(x89 fu).fi (qck fu) [(zoh fu fu).s]
def x90:Fx wG ⟨.fn 200,[.h (.prod .str (.prod .str wL)),wS],[],_,RS.mk (.tup [wS,.h .bool,.h (.prod wI wI)]) []⟩:=fx [(qrt fu).p,dw.p,(lf fu).p,dd.p] [lb 232 [(1,wS),(6,.ptr 32 0),(16,.h wL),(17,wH),(18,wH)] [(32,.dat (.prod wI wI) 28)]]
def zol:Nat->(x90 fu).L 0:=Fx.lq (qij fu) (qtl fu) (fun r0=>[r0.s])
def q7f:=(x90 fu).fi (qii fu) [(zol fu fu).s]
def zom:EI wG ⟨.fn 201,[.h .byte],[],_,RS.mk (.h .bool) []⟩:=(fx).fi qu1
def x92(fu:Nat):Fx wG ⟨.fn 71,[wS,.fn 201 []],[],_,RS.mk (.h .bool) []⟩:=fx [zom.p] [lb 104 [(0,wS),(1,.fn 201 []),(7,wH),(8,wH)]]
def zon:Nat->(x92 fu).L 0:=Fx.lq (qgz fu) (qr8 fu) (fun r0=>[r0.s])
def zoo:=(x92 fu).fi (qr7 fu) [(zon fu fu).s]
def q7h:EI wG ⟨.fn 49,[wS,wS],[],_,RS.mk (.h .bool) []⟩:=(fx [qrn.p]).fi qcr
def x94:Fx wG ⟨.fn 166,[.h wL],[],_,RS.mk (.tup [wS,.h .bool]) []⟩:=fx [(qru fu).p,(lf fu).p,(q7f fu).p,(zoo fu).p,q7h.p] [lb 30 [(4,.ptr 32 0)] [(32,.cells [wS,wS,.own 33] 251),(33,.row wP 255)],lb 29 [(4,.ptr 32 0),(24,.h .bool)] [(32,.cells [wS,wS,.own 33] 251),(33,.row wP 255)]]
def zoq:(x94 fu).L 0:=Fx.jm (qu2 fu)
def zop:(x94 fu).L 1:=Fx.jm (x8 fu) [(zoq fu).s]
def zor:=(x94 fu).fi (qu0 fu) [(zop fu).s]
def zos:EI wG ⟨.fn 202,[.h wB],[],_,RS.mk (.fn 232 [.ptr 0 0]) [(0,.cells [.h wB] 43)]⟩:=(fx).fi qvc
def zot:EI wG ⟨.fn 203,[wS,wS],[],_,RS.mk (wH) []⟩:=(fx [(q6q fu).p]).fi (qvb fu)
def zou:EI wG ⟨.yld 0,[wH,wS],[(0,.loop .ready none 167 51 [(2,.ptr 1 0),(3,.ptr 2 0),(4,.ptr 3 0),(5,.ptr 4 0),(6,.ptr 5 0)] [12,13] 0 6),(1,.cells [.h wB] 43),(2,.cells [wS] 9),(3,.cells [.own 7] 203),(4,.cells [.own 8] 203),(5,.cells [wH] 3),(6,.dfr),(7,.row wB 43),(8,.row wB 43)],_,.two (RS.mk (.c (.bool true)) [(0,.loop .ready none 167 51 [(2,.ptr 1 0),(3,.ptr 2 0),(4,.ptr 3 0),(5,.ptr 4 0),(6,.ptr 5 0)] [12,13] 0 6),(1,.cells [.h wB] 43),(2,.cells [wS] 9),(3,.cells [.own 9] 203),(4,.cells [.own 10] 203),(5,.cells [wH] 3),(6,.dfr),(7,.dead),(8,.dead),(9,.row wB 43),(10,.row wB 43)]) (RS.mk (.c (.bool false)) [(0,.loop .done (some .ret) 167 51 [(2,.ptr 1 0),(3,.ptr 2 0),(4,.ptr 3 0),(5,.ptr 4 0),(6,.ptr 5 0)] [12,13] 0 6),(1,.cells [.h wB] 43),(2,.cells [wS] 9),(3,.cells [.own 9] 203),(4,.cells [.own 9] 203),(5,.cells [wH] 3),(6,.dfr),(7,.dead),(8,.dead),(9,.row wB 43)])⟩:=(fy 167 [(zot fu).p] [] false [([0,1,0,1,1,1],0)] (ji rfl ip)).fo (qjg fu) [] 0 [0,1,0,1,1,1]
def x98:Fx wG ⟨.fn 232,[.yld 0,.ptr 1 0],[(0,.loop .ready none 167 51 [(2,.ptr 2 0),(3,.ptr 3 0),(4,.ptr 4 0),(5,.ptr 5 0),(6,.ptr 6 0)] [12,13] 0 7),(1,.cells [.h wB] 43),(2,.cells [.h wB] 43),(3,.cells [wS] 9),(4,.cells [.own 8] 203),(5,.cells [.own 9] 203),(6,.cells [wH] 3),(7,.dfr),(8,.row wB 43),(9,.row wB 43)],_,.two (RS.mk (.tup []) [(0,.loop .done (some .ret) 167 51 [(2,.ptr 2 0),(3,.ptr 3 0),(4,.ptr 4 0),(5,.ptr 5 0),(6,.ptr 6 0)] [12,13] 0 7),(1,.cells [.h wB] 43),(2,.cells [.h wB] 43),(3,.cells [wS] 9),(4,.cells [.own 10] 203),(5,.cells [.own 10] 203),(6,.cells [wH] 3),(7,.dfr),(8,.dead),(9,.dead),(10,.row wB 43)]) (RS.mk (.tup []) [(0,.loop .ready none 167 51 [(2,.ptr 2 0),(3,.ptr 3 0),(4,.ptr 4 0),(5,.ptr 5 0),(6,.ptr 6 0)] [12,13] 0 7),(1,.cells [.h wB] 43),(2,.cells [.h wB] 43),(3,.cells [wS] 9),(4,.cells [.own 10] 203),(5,.cells [.own 11] 203),(6,.cells [wH] 3),(7,.dfr),(8,.dead),(9,.dead),(10,.row wB 43),(11,.row wB 43)])⟩:=fx [⟨qm7.e qh,qyy oF⟩,(zou fu).p] [lb 48 [(0,.yld 0),(1,.ptr 1 0),(3,wH)] [(0,.loop .ready none 167 51 [(2,.ptr 2 0),(3,.ptr 3 0),(4,.ptr 4 0),(5,.ptr 5 0),(6,.ptr 6 0)] [12,13] 0 7),(1,.cells [.h wB] 43),(2,.cells [.h wB] 43),(3,.cells [wS] 9),(4,.cells [.own 32] 203),(5,.cells [.own 33] 203),(6,.cells [wH] 3),(7,.dfr),(8,.dead),(9,.dead),(32,.row wB 43),(33,.row wB 43)]]
def zov:Nat->(x98 fu).L 0:=Fx.lq (qjq fu) (qve fu) (fun r0=>[r0.s])
def zow:=(x98 fu).fi (qvd fu) [(zov fu fu).s]
def zox:EI wG ⟨.fn 167,[.h wB,wS],[],_,RS.mk (.own 0) [(0,.row wB 43)]⟩:=(fx [zos.p,(zow fu).p] [] false [([0,1,0,1,1,1],0)] (ji rfl ip)).fi (qu4 fu)
def qp7:EI wG ⟨.fn 135,[.h wL,.h wB,wH],[],_,RS.mk (.own 0) [(0,.row wB 43)]⟩:=(fx [(zor fu).p,(zox fu).p]).fi (qcn fu)
def qp8:EI wG ⟨.fn 170,[.h wP],[],_,RS.mk (.h .bool) []⟩:=(fx [(lf fu).p]).fi (qcl fu)
def q4n:Fx wG ⟨.fn 205,[.h wL,.fn 170 []],[],_,RS.mk (wH) []⟩:=fx [(qp8 fu).p] [lb 104 [(0,.h wL),(1,.fn 170 []),(7,wH),(8,wH)]]
def zfw:Nat->(q4n fu).L 0:=Fx.lq (qj4 fu) (qvx fu) (fun r0=>[r0.s])
def q4o:=(q4n fu).fi (qj3 fu) [(zfw fu fu).s]
def q4p:Fx wG ⟨.fn 169,[.h wL,.fn 170 []],[],_,RS.mk (.h wL) []⟩:=fx [(q4o fu).p,(qp8 fu).p] [lb 976 [(0,.h wL),(1,.fn 170 []),(5,wH),(6,wH)]] true
def zfx:Nat->(q4p fu).L 0:=Fx.lq (qj0 fu) (qvs fu) (fun r0=>[r0.s])
def zfy:=(q4p fu).fi (qvr fu) [(zfx fu fu).s]
def zfz:EI wG ⟨.fn 238,[.h .byte],[],_,RS.mk (.h .bool) []⟩:=(fx).fi qtu
def q4q(fu:Nat):Fx wG ⟨.fn 71,[wS,.fn 238 []],[],_,RS.mk (.h .bool) []⟩:=fx [zfz.p] [lb 104 [(0,wS),(1,.fn 238 []),(7,wH),(8,wH)]]
def zf0:Nat->(q4q fu).L 0:=Fx.lq (qg0 fu) (qsa fu) (fun r0=>[r0.s])
def zf1:=(q4q fu).fi (qr9 fu) [(zf0 fu fu).s]
def zf2:EI wG ⟨.fn 263,[.h .byte],[],_,RS.mk (.h .byte) []⟩:=(fx).fi qg5
def qf6(fu:Nat):Fx wG ⟨.fn 239,[wS],[],_,RS.mk (.own 0) [(0,.row .str 9)]⟩:=fx [qbm.p,zf2.p] [lb 29902 [(0,wS),(3,.own 32),(5,wS),(9,wH),(10,wH)] [(32,.row .str 9)],lb 232 [(0,wS),(3,.own 32),(9,wH),(10,wH)] [(32,.row .str 9)]]
def zf4(r0:(qf6 fu).L 1):(qf6 fu).L 0:=Fx.jm (qiz fu r0.f) [r0.s]
def zf3:Nat->(qf6 fu).L 1:=Fx.lq (qiy fu) (qt6 fu) (fun r0=>[(zf4 fu r0).s])
def zf5:=(qf6 fu).fi (qt5 fu) [(zf3 fu fu).s]
def qf7:Fx wG ⟨.fn 207,[.h wP],[],_,RS.mk (wS) []⟩:=fx [(q7c fu).p,(zf1 fu).p,q58.p,⟨q2k.e tp,zd2⟩,(zf5 fu).p,⟨qe5.e jk,qok qfh qfi⟩] [lb 1000 [(1,.ptr 32 0),(3,wS),(38,.own 33),(39,wH),(40,wH)] [(32,.dat wP 255),(33,.row .str 9)],lb 30 [(1,.ptr 32 0)] [(32,.dat wP 255)],lb 29 [(1,.ptr 32 0),(24,.h .bool)] [(32,.dat wP 255)]]
def zf8:Nat->(qf7 fu).L 0:=Fx.lq (qiq fu) (qtv fu) (fun r2=>[r2.s])
def zf7:(qf7 fu).L 1:=Fx.jm (qtw fu) [(zf8 fu fu).s]
def zf6:(qf7 fu).L 2:=Fx.jm (qip fu) [(zf7 fu).s]
def zf9:=(qf7 fu).fi (qtt fu) [(zf6 fu).s]
def q4r:Fx wG ⟨.fn 171,[.h (.prod .str (.prod .str wL))],[],_,RS.mk (.tup [wS,.h (.prod wI wI)]) []⟩:=fx [(qrt fu).p,dw.p,(zf9 fu).p,d6.p,dd.p] [lb 488 [(3,.ptr 32 0),(5,wS),(20,.h wL),(21,wH),(22,wH)] [(32,.dat (.prod wI wI) 28)]]
def zga:Nat->(q4r fu).L 0:=Fx.lq (qik fu) (qtn fu) (fun r0=>[r0.s])
def q4s:=(q4r fu).fi (qcf fu) [(zga fu fu).s]
def q4t:Fx wG ⟨.fn 169,[.own 0,.fn 170 []],[(0,.row wP 255)],_,RS.mk (.own 1) [(0,.dead),(1,.row wP 255)]⟩:=fx [(q4o fu).p,(qp8 fu).p] [lb 976 [(0,.own 32),(1,.fn 170 []),(5,wH),(6,wH)] [(0,.dead),(32,.row wP 255)]] true
def zgb:Nat->(q4t fu).L 0:=Fx.lq (qj1 fu) (qvu fu) (fun r0=>[r0.s])
def zgc:=(q4t fu).fi (qvt fu) [(zgb fu fu).s]
def q4u:EI wG ⟨.fn 136,[.h wL],[],_,RS.mk (.tup [.own 0,.h .bool]) [(0,.row wP 41)]⟩:=(fx [(qru fu).p,(zfy fu).p,(q4s fu).p,dw.p,⟨qd0.e gz,qnf⟩,(zgc fu).p]).fi (qjf fu)
def qa:IF:=⟨.fn 137,[.ptr 0 0,.h wB,wH],[(0,.dat (.prod wI (.prod wI wI)) 172)],_,RS.mk (.tup [.h wT,.h .bool]) [(0,.dat (.prod wI (.prod wI wI)) 172)]⟩
def q4v(s119:EI wG qa)(fu:Nat):Fx wG ⟨.fn 104,[.ptr 0 0,.own 1,.h wB,wH],[(0,.dat (.prod wI (.prod wI wI)) 172),(1,.row wP 41)],_,RS.mk (.tup [.h wT,.h .bool]) [(0,.dat (.prod wI (.prod wI wI)) 172),(1,.dead)]⟩:=fx [⟨qd0.e gz,qnf⟩,⟨qng.e gz,qzd⟩,(qp7 fu).p,(q4u fu).p,s119.p] [lb 16360 [(0,.ptr 0 0),(3,wH),(8,.ptr 32 0),(10,.ptr 33 0),(48,.own 34),(49,wH),(50,wH)] [(0,.dat (.prod wI (.prod wI wI)) 172),(1,.dead),(32,.cells [wN,wN,wN] 124),(33,.cells [.own 35,wN,.own 36] 124),(34,.row wB 43),(35,.row wP 41),(36,.row wT 124)]]
def zgd(s119:EI wG qa)(fu:Nat):Nat->(q4v s119 fu).L 0:=Fx.lq (qjs s119.f fu) (qvi s119.f fu) (fun r0=>[r0.s])
def zge(s119:EI wG qa)(fu:Nat):=(q4v s119 fu).fi (qvh s119.f fu) [(zgd s119 fu fu).s]
def zgf(s119:EI wG qa)(fu:Nat):Fx wG qa:=fx [(q6z fu).p,dw.p,d6.p,(zge s119 fu).p]
def zgg(s119:EI wG qa)(fu:Nat):EI wG qa:=(zgf s119 fu).fi (qjt s119.f fu)
def zgh:EI wG qa := .rc (qju fu) (fun r=>qjt r fu) (fun _ _=>rfl) (fun _=>rfl) (fun s119=>zgg s119 fu) (fun _=>rfl) fu
def q4w:Fx wG ⟨.fn 104,[.ptr 0 0,.h wL,.h wB,wH],[(0,.dat (.prod wI (.prod wI wI)) 172)],_,RS.mk (.tup [.h wT,.h .bool]) [(0,.dat (.prod wI (.prod wI wI)) 172)]⟩:=fx [⟨qd0.e gz,qnf⟩,⟨qng.e gz,qzd⟩,(qp7 fu).p,(q4u fu).p,(zgh fu).p] [lb 16360 [(0,.ptr 0 0),(3,wH),(8,.ptr 32 0),(10,.ptr 33 0),(48,.own 34),(49,wH),(50,wH)] [(0,.dat (.prod wI (.prod wI wI)) 172),(32,.cells [wN,wN,wN] 124),(33,.cells [.own 35,wN,.own 36] 124),(34,.row wB 43),(35,.row wP 41),(36,.row wT 124)]]
def zgi:Nat->(q4w fu).L 0:=Fx.lq (qjr fu) (qvg fu) (fun r0=>[r0.s])
def zgj:=(q4w fu).fi (qvf fu) [(zgi fu fu).s]
def q4x:EI wG ⟨.fn 107,[.h wT],[],_,RS.mk (.fn 139 [.ptr 0 0]) [(0,.dat wT 124)]⟩:=(fx).fi qcm
def zgk:EI wG ⟨.yld 0,[wH,.agg [.h wL,.h wB,.h (.list wT),wH]],[(0,.loop .ready none 105 36 [(2,.ptr 1 0),(3,.ptr 2 0)] [11,12] 1 3),(1,.dat (.prod wI wI) 28),(2,.cells [.h .bool] 4),(3,.dfr)],_,.two (RS.mk (.c (.bool false)) [(0,.loop .done (some .ret) 105 36 [(2,.ptr 1 0),(3,.ptr 2 0)] [11,12] 1 3),(1,.dat (.prod wI wI) 28),(2,.cells [.h .bool] 4),(3,.dfr)]) (RS.mk (.c (.bool true)) [(0,.loop .ready none 105 36 [(2,.ptr 1 0),(3,.ptr 2 0)] [11,12] 1 3),(1,.dat (.prod wI wI) 28),(2,.cells [.h .bool] 4),(3,.dfr)])⟩:=(fy 105 [d6.p] [] false [([0,1,0,1,1],1)] (ji rfl ip)).fo quy [] 0 [0,1,0,1,1]
def wo:IF:=⟨.fn 140,[.h wT,wH,.ptr 0 0,.ptr 1 0,.ptr 2 0],[(0,.cells [.yld 3] 209),(1,.cells [wH] 3),(2,.cells [.fn 140 [.ptr 0 0,.ptr 1 0,.ptr 2 0]] 210),(3,.loop .ready none 105 36 [(2,.ptr 4 0),(3,.ptr 5 0)] [11,12] 1 6),(4,.dat (.prod wI wI) 28),(5,.cells [.h .bool] 4),(6,.dfr)],_,.two (RS.mk (.c (.bool false)) [(0,.cells [.yld 3] 209),(1,.cells [wH] 3),(2,.cells [.fn 140 [.ptr 0 0,.ptr 1 0,.ptr 2 0]] 210),(3,.loop .done (some .ret) 105 36 [(2,.ptr 4 0),(3,.ptr 5 0)] [11,12] 1 6),(4,.dat (.prod wI wI) 28),(5,.cells [.h .bool] 4),(6,.dfr)]) (RS.mk (.c (.bool true)) [(0,.cells [.yld 3] 209),(1,.cells [wH] 3),(2,.cells [.fn 140 [.ptr 0 0,.ptr 1 0,.ptr 2 0]] 210),(3,.loop .ready none 105 36 [(2,.ptr 4 0),(3,.ptr 5 0)] [11,12] 1 6),(4,.dat (.prod wI wI) 28),(5,.cells [.h .bool] 4),(6,.dfr)])⟩
def q4y(s124:EI wG wo)(fu:Nat):Fx wG wo:=fx [zgk.p,s124.p] [lb 488 [(1,wH),(4,.ptr 2 0),(20,.h (.list wT)),(21,wH),(22,wH)] [(0,.cells [.yld 3] 209),(1,.cells [wH] 3),(2,.cells [.fn 140 [.ptr 0 0,.ptr 1 0,.ptr 2 0]] 210),(3,.loop .ready none 105 36 [(2,.ptr 4 0),(3,.ptr 5 0)] [11,12] 1 6),(4,.dat (.prod wI wI) 28),(5,.cells [.h .bool] 4),(6,.dfr)]]
def zgm(s124:EI wG wo)(fu:Nat):Nat->(q4y s124 fu).L 0:=Fx.lq (qjj s124.f fu) (qu6 s124.f fu) (fun r0=>[r0.s])
def zgl(s124:EI wG wo)(fu:Nat):EI wG wo:=(q4y s124 fu).fi (qjh s124.f fu) [(zgm s124 fu fu).s]
def zgn:EI wG wo := .rc (qji fu) (fun r=>qjh r fu) (fun _ _=>rfl) (fun _=>rfl) (fun s124=>zgl s124 fu) (fun _=>rfl) fu
def zgo:EI wG ⟨.fn 139,[.yld 0,.ptr 1 0],[(0,.loop .ready none 105 36 [(2,.ptr 2 0),(3,.ptr 3 0)] [11,12] 1 4),(1,.dat wT 124),(2,.dat (.prod wI wI) 28),(3,.cells [.h .bool] 4),(4,.dfr)],_,.two (RS.mk (.tup []) [(0,.loop .done (some .ret) 105 36 [(2,.ptr 2 0),(3,.ptr 3 0)] [11,12] 1 4),(1,.dat wT 124),(2,.dat (.prod wI wI) 28),(3,.cells [.h .bool] 4),(4,.dfr)]) (RS.mk (.tup []) [(0,.loop .ready none 105 36 [(2,.ptr 2 0),(3,.ptr 3 0)] [11,12] 1 4),(1,.dat wT 124),(2,.dat (.prod wI wI) 28),(3,.cells [.h .bool] 4),(4,.dfr)])⟩:=(fx [(zgn fu).p]).fi (qu5 fu)
def qqi:Fx wG ⟨.fn 172,[.h wT],[],_,RS.mk (wH) []⟩:=fx [(qru fu).p,(lf fu).p,(q7f fu).p,(q4s fu).p,dw.p] [lb 30 [(1,.ptr 32 0),(3,.ptr 33 0),(4,wH)] [(32,.dat wT 124),(33,.cells [wS,wS,.own 34] 251),(34,.row wP 255)],lb 29 [(1,.ptr 32 0),(3,.ptr 33 0),(4,wH),(31,.h .bool)] [(32,.dat wT 124),(33,.cells [wS,wS,.own 34] 251),(34,.row wP 255)]]
def zgq:(qqi fu).L 0:=Fx.jm (qvk fu)
def zgp:(qqi fu).L 1:=Fx.jm (ql fu) [(zgq fu).s]
def zgr:=(qqi fu).fi (qvj fu) [(zgp fu).s]
def zgx:EI wG ⟨.fn 138,[.h (.prod wT wI)],[],_,RS.mk (wH) []⟩:=(fx [(q52 fu).p,dw.p,(zgr fu).p,(q54 fu).p,(qp7 fu).p]).fi (qu3 fu)
def zgy:EI wG ⟨.yld 0,[wH,.agg [.h wL,.h wB,.h (.list wT),wH]],[(0,.loop .ready none 105 36 [(2,.ptr 1 0)] [26,27] 2 2),(1,.dat (.prod wI wI) 28),(2,.dfr)],_,.two (RS.mk (.c (.bool false)) [(0,.loop .done (some .ret) 105 36 [(2,.ptr 1 0)] [26,27] 2 2),(1,.dat (.prod wI wI) 28),(2,.dfr)]) (RS.mk (.c (.bool true)) [(0,.loop .ready none 105 36 [(2,.ptr 1 0)] [26,27] 2 2),(1,.dat (.prod wI wI) 28),(2,.dfr)])⟩:=(fy 105 [(zgx fu).p,d6.p] [] false [([0,1,0,1,1,1,1],2)] (ji rfl ip)).fo (quz fu) [] 0 [0,1,0,1,1,1,1]
def wq:IF:=⟨.fn 140,[.h wT,wH,.ptr 0 0,.ptr 1 0,.ptr 2 0],[(0,.cells [.yld 3] 209),(1,.cells [wH] 3),(2,.cells [.fn 140 [.ptr 0 0,.ptr 1 0,.ptr 2 0]] 210),(3,.loop .ready none 105 36 [(2,.ptr 4 0)] [26,27] 2 5),(4,.dat (.prod wI wI) 28),(5,.dfr)],_,.two (RS.mk (.c (.bool false)) [(0,.cells [.yld 3] 209),(1,.cells [wH] 3),(2,.cells [.fn 140 [.ptr 0 0,.ptr 1 0,.ptr 2 0]] 210),(3,.loop .done (some .ret) 105 36 [(2,.ptr 4 0)] [26,27] 2 5),(4,.dat (.prod wI wI) 28),(5,.dfr)]) (RS.mk (.c (.bool true)) [(0,.cells [.yld 3] 209),(1,.cells [wH] 3),(2,.cells [.fn 140 [.ptr 0 0,.ptr 1 0,.ptr 2 0]] 210),(3,.loop .ready none 105 36 [(2,.ptr 4 0)] [26,27] 2 5),(4,.dat (.prod wI wI) 28),(5,.dfr)])⟩
def q4z(s127:EI wG wq)(fu:Nat):Fx wG wq:=fx [(zgy fu).p,s127.p] [lb 488 [(1,wH),(4,.ptr 2 0),(20,.h (.list wT)),(21,wH),(22,wH)] [(0,.cells [.yld 3] 209),(1,.cells [wH] 3),(2,.cells [.fn 140 [.ptr 0 0,.ptr 1 0,.ptr 2 0]] 210),(3,.loop .ready none 105 36 [(2,.ptr 4 0)] [26,27] 2 5),(4,.dat (.prod wI wI) 28),(5,.dfr)]]
def zg0(s127:EI wG wq)(fu:Nat):Nat->(q4z s127 fu).L 0:=Fx.lq (qjm s127.f fu) (qu7 s127.f fu) (fun r0=>[r0.s])
def zgz(s127:EI wG wq)(fu:Nat):EI wG wq:=(q4z s127 fu).fi (qjk s127.f fu) [(zg0 s127 fu fu).s]
def zg1:EI wG wq := .rc (qjl fu) (fun r=>qjk r fu) (fun _ _=>rfl) (fun _=>rfl) (fun s127=>zgz s127 fu) (fun _=>rfl) fu
def zg2:EI wG ⟨.fn 139,[.yld 0,.ptr 1 0],[(0,.loop .ready none 105 36 [(2,.ptr 2 0)] [26,27] 2 3),(1,.dat wT 124),(2,.dat (.prod wI wI) 28),(3,.dfr)],_,.two (RS.mk (.tup []) [(0,.loop .done (some .ret) 105 36 [(2,.ptr 2 0)] [26,27] 2 3),(1,.dat wT 124),(2,.dat (.prod wI wI) 28),(3,.dfr)]) (RS.mk (.tup []) [(0,.loop .ready none 105 36 [(2,.ptr 2 0)] [26,27] 2 3),(1,.dat wT 124),(2,.dat (.prod wI wI) 28),(3,.dfr)])⟩:=(fx [(zg1 fu).p]).fi (qu9 fu)
def zg3:EI wG ⟨.fn 105,[.h wT],[],_,RS.mk (.h (.prod wI wI)) []⟩:=(fx [q4x.p,(zgo fu).p,d6.p,(zg2 fu).p,dd.p] [] false [([0,1,0,1,1],1),([0,1,0,1,1,1,1],2)] (ji rfl (ji rfl ip))).fi (qux fu)
def zg4:EI wG ⟨.fn 65,[.h (.prod wL wB)],[],_,RS.mk (.tup [.h wT,.h (.prod wI wI)]) []⟩:=(fx [(qra fu).p,dw.p,(zgj fu).p,(zg3 fu).p,d6.p,dd.p]).fi (quv fu)
def zg5:EI wG ⟨.fn 66,[.h wT],[],_,RS.mk (.fn 106 [.ptr 0 0]) [(0,.dat wT 124)]⟩:=(fx).fi qus
def zg6:EI wG ⟨.fn 211,[wS,.h .byte],[],_,RS.mk (.agg [wS,.fn 241 [.ptr 0 0],.fn 243 []]) [(0,.cells [.h .byte] 5)]⟩:=(fx).fi qlj
def zg7:EI wG ⟨.fn 176,[wS],[],_,.two (RS.mk (.tup [.agg [wS,.fn 241 [.ptr 0 0],.fn 243 []],.h .bool]) [(0,.cells [.h .byte] 5)]) (.two (RS.mk (.tup [.agg [wS,.fn 212 [],.fn 213 []],.h .bool]) []) (.two (RS.mk (.tup [.agg [wS,.fn 214 [],.fn 215 []],.h .bool]) []) (RS.mk (.tup [.agg [wS,.c .nilFunc,.c .nilFunc],.h .bool]) [])))⟩:=(fx [zg6.p,(lf fu).p]).fi (qw1 fu)
def zg8:EI wG ⟨.fn 142,[.h wB,wS],[],_,.two (RS.mk (.tup [.agg [wS,.fn 241 [.ptr 0 0],.fn 243 []],.h (.prod wI wI)]) [(0,.cells [.h .byte] 5)]) (.two (RS.mk (.tup [.agg [wS,.fn 212 [],.fn 213 []],.h (.prod wI wI)]) []) (.two (RS.mk (.tup [.agg [wS,.fn 214 [],.fn 215 []],.h (.prod wI wI)]) []) (RS.mk (.tup [.agg [wS,.c .nilFunc,.c .nilFunc],.h (.prod wI wI)]) [])))⟩:=(fx [(zg7 fu).p,d6.p,dd.p]).fi (qw2 fu)
def zha:EI wG ⟨.fn 243,[.h wB],[],_,RS.mk (.tup [.own 0,.h (.prod wI wI)]) [(0,.row .byte 5)]⟩:=(fx [dd.p]).fi qw0
def q40(fu:Nat):Fx wG ⟨.fn 213,[.h wB],[],_,RS.mk (.tup [.own 0,.h (.prod wI wI)]) [(0,.row .byte 5)]⟩:=fx [d6.p,dd.p,qrb.p] [lb 1000 [(3,.ptr 32 0),(4,.own 33),(5,wH),(6,wH),(14,.h wB),(15,wH),(16,wH)] [(32,.dat (.prod wI wI) 28),(33,.row .byte 5)]]
def zhb:Nat->(q40 fu).L 0:=Fx.lq (qgw fu) (qr2 fu) (fun r0=>[r0.s])
def zhc:=(q40 fu).fi (qr1 fu) [(zhb fu fu).s]
def q41(fu:Nat):Fx wG ⟨.fn 265,[.h wB,.h .byte],[],_,RS.mk (.h wB) []⟩:=fx [] [lb 96 [(0,.h wB),(1,.h .byte)]]
def zhd:Nat->(q41 fu).L 0:=Fx.lq (qhr fu) (qsu fu) (fun r0=>[r0.s])
def zhe:=(q41 fu).fi (qst fu) [(zhd fu fu).s]
def q42(fu:Nat):Fx wG ⟨.fn 266,[wS],[],_,RS.mk (.tup [.arr .bool,.h .bool]) []⟩:=fx [] [lb 208 [(0,wS),(2,.el 32 1),(4,wH)] [(32,.row .bool 351)]]
def zhf:Nat->(q42 fu).L 0:=Fx.lq (qhn fu) (qsm fu) (fun r0=>[r0.s])
def zhg:=(q42 fu).fi (qsl fu) [(zhf fu fu).s]
def zhh:EI wG ⟨.fn 278,[.el 0 1,.h .byte],[(0,.row .bool 351)],_,RS.mk (.h .bool) [(0,.row .bool 351)]⟩:=(fx).fi qsj
def q43(fu:Nat):Fx wG ⟨.fn 267,[.h wB,.el 0 1],[(0,.row .bool 351)],_,RS.mk (.h wB) [(0,.row .bool 351)]⟩:=fx [zhh.p] [lb 96 [(0,.h wB),(1,.el 0 1)] [(0,.row .bool 351)]]
def zhi:Nat->(q43 fu).L 0:=Fx.lq (qhq fu) (qss fu) (fun r0=>[r0.s])
def zhj:=(q43 fu).fi (qsr fu) [(zhi fu fu).s]
def s7:Fx wG ⟨.fn 208,[.h wB],[],_,RS.mk (.tup [.h (.int .i32),wH]) []⟩:=fx [] [lb 524286 [(5,.h .byte),(10,.h .byte),(11,.h .byte),(12,.h .byte)],lb 524285 [(5,.h .byte),(10,.h .byte),(11,.h .byte),(12,.h .byte),(103,.h .bool)],lb 131068 [(0,.h wB),(5,.h .byte),(8,wH),(10,.h .byte),(11,.h .byte)],lb 65533 [(0,.h wB),(5,.h .byte),(8,wH),(10,.h .byte),(11,.h .byte),(79,.h .bool)],lb 16380 [(0,.h wB),(5,.h .byte),(8,wH),(10,.h .byte)],lb 8189 [(0,.h wB),(5,.h .byte),(8,wH),(10,.h .byte),(60,.h .bool)]]
def zhp:s7.L 0:=Fx.jm qxf
def zho:s7.L 1:=Fx.jm ql2 [(zhp).s]
def zhn:s7.L 2:=Fx.jm qxe [(zho).s]
def zhm:s7.L 3:=Fx.jm ql1 [(zhn).s]
def zhl:s7.L 4:=Fx.jm qxd [(zhm).s]
def zhk:s7.L 5:=Fx.jm ql0 [(zhl).s]
def zhq:=s7.fi qlz [(zhk).s]
def q44(fu:Nat):Fx wG ⟨.fn 174,[.h wB],[],_,RS.mk (.tup [.h (.int .i32),wH]) []⟩:=fx [zhq.p] [lb 104 [(0,.h wB),(6,.h wB),(7,wH),(8,.c (.int .i64 0))]]
def zhr:Nat->(q44 fu).L 0:=Fx.lq (qlr fu) (qw7 fu) (fun r0=>[])
def q45:=(q44 fu).fi (qlq fu) [(zhr fu fu).s]
def qga:Fx wG ⟨.fn 279,[.h wB],[],_,RS.mk (.tup [.h (.int .i32),wH]) []⟩:=fx [q6g.p,(q45 fu).p] [lb 2046 [(0,.h wB),(4,wH),(5,wH)],lb 2044 [(0,.h wB),(4,wH),(5,wH)],lb 16336 [(0,.h wB),(4,wH),(5,wH),(6,wH)]]
def zhu:(qga fu).L 0:=Fx.jm (qlp fu)
def zht:(qga fu).L 1:=Fx.jm (qlo fu) [(zhu fu).s]
def zhs:Nat->(qga fu).L 2:=Fx.lq (qln fu) (qw6 fu) (fun r0=>[(zht fu).s,r0.s])
def zhv:=(qga fu).fi (qw3 fu) [(zhs fu fu).s]
def q46(fu:Nat):Fx wG ⟨.fn 280,[wS,.h (.int .i32)],[],_,RS.mk (.h .bool) []⟩:=fx [] [lb 104 [(1,.h (.int .i32)),(8,.ptr 32 0)] [(32,.it)]]
def zhw:Nat->(q46 fu).L 0:=Fx.lq (qhm fu) (qsk fu) (fun r0=>[r0.s])
def zhx:=(q46 fu).fi (qhl fu) [(zhw fu fu).s]
def q47:Fx wG ⟨.fn 268,[.h wB,wS],[],_,RS.mk (.h wB) []⟩:=fx [(zhv fu).p,(zhx fu).p] [lb 96 [(0,.h wB),(1,wS)]]
def zhz:Nat->(q47 fu).L 0:=Fx.lq (qhs fu) (qsw fu) (fun r0=>[r0.s])
def zh0:=(q47 fu).fi (qsv fu) [(zhz fu fu).s]
def qbb:Fx wG ⟨.fn 247,[.h wB,wS],[],_,RS.mk (.h wB) []⟩:=fx [(zhe fu).p,(zhg fu).p,(zhj fu).p,(zh0 fu).p] [lb 60 [(0,.h wB),(1,wS)],lb 29 [(0,.h wB),(1,wS),(22,.h .bool)],lb 28 [(0,.h wB),(1,wS)],lb 13 [(0,.h wB),(1,wS),(13,.h .bool)]]
def zh4:(qbb fu).L 0:=Fx.jm (qsi fu)
def zh3:(qbb fu).L 1:=Fx.jm (qhk fu) [(zh4 fu).s]
def zh2:(qbb fu).L 2:=Fx.jm (qsh fu) [(zh3 fu).s]
def zh1:(qbb fu).L 3:=Fx.jm (qhj fu) [(zh2 fu).s]
def zh5:=(qbb fu).fi (qsg fu) [(zh1 fu).s]
def q48(fu:Nat):Fx wG ⟨.fn 248,[.h wB],[],_,RS.mk (.own 0) [(0,.row .byte 5)]⟩:=fx [q68.p] [lb 464 [(0,.h wB),(3,.own 32),(4,wH)] [(32,.row .byte 5)]]
def zh6:Nat->(q48 fu).L 0:=Fx.lq (qjz fu) (qvo fu) (fun r0=>[r0.s])
def zh7:=(q48 fu).fi (qvn fu) [(zh6 fu fu).s]
def qb:Fx wG ⟨.fn 215,[.h wB],[],_,RS.mk (.tup [.own 0,.h (.prod wI wI)]) [(0,.row .byte 5)]⟩:=fx [d6.p,qrb.p,dd.p,q57.p,(zh5 fu).p,q56.p,(zh7 fu).p] [lb 123646 [(0,.h wB),(3,.ptr 32 0),(4,.own 33),(5,wH),(6,.h wB),(7,.h wB)] [(32,.dat (.prod wI wI) 28),(33,.row .byte 5)],lb 15454 [(0,.h wB),(3,.ptr 32 0),(4,.own 33),(5,wH),(6,.h wB)] [(32,.dat (.prod wI wI) 28),(33,.row .byte 5)],lb 3862 [(0,.h wB),(3,.ptr 32 0),(4,.own 33),(5,wH)] [(32,.dat (.prod wI wI) 28),(33,.row .byte 5)],lb 480 [(0,.h wB),(3,.ptr 32 0),(4,.own 33)] [(32,.dat (.prod wI wI) 28),(33,.row .byte 5)]]
def zib(r0:(qb fu).L 3):(qb fu).L 0:=Fx.jm (qjy fu r0.f) [r0.s]
def zia(r0:(qb fu).L 3):(qb fu).L 1:=Fx.jm (qjx fu r0.f) [(zib fu r0).s]
def zh9(r0:(qb fu).L 3):(qb fu).L 2:=Fx.jm (qjw fu r0.f) [(zia fu r0).s]
def zh8:Nat->(qb fu).L 3:=Fx.lq (qjv fu) (qvm fu) (fun r0=>[(zh9 fu r0).s])
def zic:=(qb fu).fi (qvl fu) [(zh8 fu fu).s]
def zid:EI wG ⟨.fn 111,[.h wB,wS],[],_,RS.mk (.tup [.own 0,.h (.prod wI wI)]) [(0,.row .byte 5)]⟩:=(fx [(zg8 fu).p,dw.p,zha.p,(zhc fu).p,(zic fu).p]).fi (qli fu)
def q49:Fx wG ⟨.fn 70,[.h wT],[],_,RS.mk (.own 0) [(0,.row .byte 5)]⟩:=fx [(lf fu).p,(zid fu).p] [lb 104 [(1,.ptr 32 0),(10,.h wL),(11,wH),(12,wH)] [(32,.dat wT 124)]]
def zie:Nat->(q49 fu).L 0:=Fx.lq (ql3 fu) (qxh fu) (fun r0=>[r0.s])
def zif:=(q49 fu).fi (qxg fu) [(zie fu fu).s]
def zig:EI wG ⟨.fn 141,[.h wB,.h wB,wH],[],_,RS.mk (.fn 173 [.ptr 0 0,.ptr 1 0,.ptr 2 0]) [(0,.cells [.h wB] 43),(1,.cells [.h wB] 43),(2,.cells [wH] 3)]⟩:=(fx).fi qsn
def zih:EI wG ⟨.fn 110,[.h wB,.h wB],[],_,RS.mk (.fn 173 [.ptr 0 0,.ptr 1 0,.ptr 2 0]) [(0,.cells [.h wB] 43),(1,.cells [.h wB] 43),(2,.cells [wH] 3)]⟩:=(fx [zig.p]).fi qsf
def zii:EI wG ⟨.fn 82,[wS,wS],[],_,RS.mk (wS) []⟩:=(fx [qrn.p]).fi qih
def q5a:EI wG ⟨.fn 51,[wS,wS],[],_,RS.mk (wS) []⟩:=(fx [zii.p]).fi yi
def q5b(fu:Nat):Fx wG ⟨.fn 109,[wS],[],_,RS.mk (wS) []⟩:=fx [qgb.p,q5a.p] [lb 232 [(0,wS),(3,.own 32),(8,wH),(9,wH)] [(32,.row .byte 5)]]
def zij:Nat->(q5b fu).L 0:=Fx.lq (qhz fu) (qs2 fu) (fun r0=>[r0.s])
def q5c:=(q5b fu).fi (qhy fu) [(zij fu fu).s]
def zik:EI wG ⟨.yld 0,[.h wB],[(0,.loop .ready none 69 27 [(3,.ptr 1 0),(4,.ptr 2 0)] [11] 5 3),(1,.cells [.own 4] 43),(2,.cells [wH] 3),(3,.dfr),(4,.row .byte 5)],_,RS.mk (.c (.bool true)) [(0,.loop .ready none 69 27 [(3,.ptr 1 0),(4,.ptr 2 0)] [11] 5 3),(1,.cells [.own 5] 43),(2,.cells [wH] 3),(3,.dfr),(4,.dead),(5,.row .byte 5)]⟩:=(fy 69 [(q5c fu).p,⟨qpe.e qn,q2h⟩] [] false [([0,1,0,1,1,1],5)] (ji rfl ip)).fo (qbz fu) [] 0 [0,1,0,1,1,1]
def qqr:Fx wG ⟨.fn 173,[.yld 0,.ptr 1 0,.ptr 2 0,.ptr 3 0],[(0,.loop .ready none 69 27 [(3,.ptr 4 0),(4,.ptr 5 0)] [11] 5 6),(1,.cells [.h wB] 43),(2,.cells [.h wB] 43),(3,.cells [wH] 3),(4,.cells [.own 7] 43),(5,.cells [wH] 3),(6,.dfr),(7,.row .byte 5)],_,RS.mk (.tup []) [(0,.loop .ready none 69 27 [(3,.ptr 4 0),(4,.ptr 5 0)] [11] 5 6),(1,.cells [.h wB] 43),(2,.cells [.h wB] 43),(3,.cells [wH] 3),(4,.cells [.own 8] 43),(5,.cells [wH] 3),(6,.dfr),(7,.dead),(8,.row .byte 5)]⟩:=fx [(q45 fu).p,(zik fu).p,⟨qm7.e qh,qyy oF⟩] [lb 320 [(0,.yld 0),(2,.ptr 2 0)] [(0,.loop .ready none 69 27 [(3,.ptr 4 0),(4,.ptr 5 0)] [11] 5 6),(1,.cells [.h wB] 43),(2,.cells [.h wB] 43),(3,.cells [wH] 3),(4,.cells [.own 32] 43),(5,.cells [wH] 3),(6,.dfr),(7,.dead),(32,.row .byte 5)],lb 96 [(0,.yld 0),(1,.ptr 1 0),(2,.ptr 2 0),(3,.ptr 3 0)] [(0,.loop .ready none 69 27 [(3,.ptr 4 0),(4,.ptr 5 0)] [11] 5 6),(1,.cells [.h wB] 43),(2,.cells [.h wB] 43),(3,.cells [wH] 3),(4,.cells [.own 32] 43),(5,.cells [wH] 3),(6,.dfr),(7,.dead),(32,.row .byte 5)]]
def zil:Nat->(qqr fu).L 0:=Fx.lq (qho fu) (qsp fu) (fun r0=>[r0.s])
def zim:Nat->(qqr fu).L 1:=Fx.lq (qhp fu) (qsq fu) (fun r1=>[r1.s])
def zin:=(qqr fu).fi (qso fu) [(zil fu fu).s,(zim fu fu).s]
def zio:EI wG ⟨.fn 69,[.h wB],[],_,RS.mk (.own 0) [(0,.row .byte 5)]⟩:=(fx [zih.p,(zin fu).p] [] false [([0,1,0,1,1,1],5)] (ji rfl ip)).fi (qs0 fu)
def ziq:EI wG ⟨.fn 68,[.h wP],[],_,RS.mk (wS) []⟩:=(fx [(q62 fu).p,(q5c fu).p]).fi (qs1 fu)
def s8:Fx wG ⟨.yld 0,[wH,.agg [.h wL,.h wB,.h (.list wT)]],[(0,.loop .ready none 36 79 [(6,.ptr 1 0)] [24,25] 3 2),(1,.cells [.own 3] 43),(2,.dfr),(3,.row .byte 5)],_,RS.mk (.c (.bool true)) [(0,.loop .ready none 36 79 [(6,.ptr 1 0)] [24,25] 3 2),(1,.cells [.own 4] 43),(2,.dfr),(3,.dead),(4,.row .byte 5)]⟩:=fy 36 [(lf fu).p,(zif fu).p,(zio fu).p,(ziq fu).p,⟨qe5.e jk,qok qfh qfi⟩] [lb 256679 [(6,.ptr 1 0),(8,.ptr 32 0),(9,.own 33),(10,wN),(27,.h wL),(28,wH),(29,wH)] [(0,.loop .busy none 36 79 [(6,.ptr 1 0)] [24,25] 3 2),(1,.cells [.own 34] 43),(2,.dfr),(3,.dead),(32,.dat wT 124),(33,.row .byte 5),(34,.row .byte 5)],lb 2053427 [(6,.ptr 1 0),(8,.ptr 32 0),(9,.own 35),(10,wN),(12,.ptr 33 0),(27,.h wL),(28,wH),(29,wH),(42,.h .bool)] [(0,.loop .busy none 36 79 [(6,.ptr 1 0)] [24,25] 3 2),(1,.cells [.own 34] 43),(2,.dfr),(3,.dead),(32,.dat wT 124),(33,.dat wP 41),(34,.row .byte 5),(35,.row .byte 5)],lb 16046 [(6,.ptr 1 0),(8,.ptr 32 0),(9,.own 35),(10,.own 33)] [(0,.loop .busy none 36 79 [(6,.ptr 1 0)] [24,25] 3 2),(1,.cells [.own 34] 43),(2,.dfr),(3,.dead),(32,.dat wT 124),(33,.row .byte 5),(34,.row .byte 5),(35,.row .byte 5)],lb 64168 [(6,.ptr 1 0),(8,.ptr 32 0),(9,.own 34),(10,wN),(27,.h wL),(28,wH),(29,wH)] [(0,.loop .busy none 36 79 [(6,.ptr 1 0)] [24,25] 3 2),(1,.cells [.own 33] 43),(2,.dfr),(3,.dead),(32,.dat wT 124),(33,.row .byte 5),(34,.row .byte 5)]] false [([0,1,0,1,1,1,1],3)] (ji rfl ip)
def ziu(r0:(s8 fu).L 3):(s8 fu).L 0:=Fx.jm (qhx fu r0.f) [r0.s]
def zis(r0:(s8 fu).L 3):(s8 fu).L 1:=Fx.jm (qhv fu r0.f) [(ziu fu r0).s]
def zit:(s8 fu).L 2:=Fx.jm (qhw fu)
def zir:Nat->(s8 fu).L 3:=Fx.lq (qhu fu) (qsy fu) (fun r0=>[(zis fu r0).s,(zit fu).s])
def ziv:=(s8 fu).fo (qsx fu) [(zir fu fu).s] 0 [0,1,0,1,1,1,1]
def ziw:EI wG ⟨.yld 0,[wH,.agg [.h wL,.h wB,.h (.list wT),wH]],[(0,.loop .ready none 106 15 [(2,.ptr 1 0)] [7,8] 4 2),(1,.cells [.yld 3] 176),(2,.dfr),(3,.loop .ready none 36 79 [(6,.ptr 4 0)] [24,25] 3 5),(4,.cells [.own 6] 43),(5,.dfr),(6,.row .byte 5)],_,RS.mk (.c (.bool true)) [(0,.loop .ready none 106 15 [(2,.ptr 1 0)] [7,8] 4 2),(1,.cells [.yld 3] 176),(2,.dfr),(3,.loop .ready none 36 79 [(6,.ptr 4 0)] [24,25] 3 5),(4,.cells [.own 7] 43),(5,.dfr),(6,.dead),(7,.row .byte 5)]⟩:=(fy 106 [(ziv fu).p] [] false [([0,1,1],4)] (ji rfl ip)).fo (quu fu) [] 0 [0,1,1]
def ww:IF:=⟨.fn 140,[.h wT,wH,.ptr 0 0,.ptr 1 0,.ptr 2 0],[(0,.cells [.yld 3] 209),(1,.cells [wH] 3),(2,.cells [.fn 140 [.ptr 0 0,.ptr 1 0,.ptr 2 0]] 210),(3,.loop .ready none 106 15 [(2,.ptr 4 0)] [7,8] 4 5),(4,.cells [.yld 6] 176),(5,.dfr),(6,.loop .ready none 36 79 [(6,.ptr 7 0)] [24,25] 3 8),(7,.cells [.own 9] 43),(8,.dfr),(9,.row .byte 5)],_,RS.mk (.c (.bool true)) [(0,.cells [.yld 3] 209),(1,.cells [wH] 3),(2,.cells [.fn 140 [.ptr 0 0,.ptr 1 0,.ptr 2 0]] 210),(3,.loop .ready none 106 15 [(2,.ptr 4 0)] [7,8] 4 5),(4,.cells [.yld 6] 176),(5,.dfr),(6,.loop .ready none 36 79 [(6,.ptr 7 0)] [24,25] 3 8),(7,.cells [.own 10] 43),(8,.dfr),(9,.dead),(10,.row .byte 5)]⟩
def q5d(s134:EI wG ww)(fu:Nat):Fx wG ww:=fx [(ziw fu).p,s134.p] [lb 488 [(1,wH),(4,.ptr 2 0),(20,.h (.list wT)),(21,wH),(22,wH)] [(0,.cells [.yld 3] 209),(1,.cells [wH] 3),(2,.cells [.fn 140 [.ptr 0 0,.ptr 1 0,.ptr 2 0]] 210),(3,.loop .ready none 106 15 [(2,.ptr 4 0)] [7,8] 4 5),(4,.cells [.yld 6] 176),(5,.dfr),(6,.loop .ready none 36 79 [(6,.ptr 7 0)] [24,25] 3 8),(7,.cells [.own 32] 43),(8,.dfr),(9,.dead),(32,.row .byte 5)]]
def ziy(s134:EI wG ww)(fu:Nat):Nat->(q5d s134 fu).L 0:=Fx.lq (qjp s134.f fu) (qu8 s134.f fu) (fun r0=>[r0.s])
def zix(s134:EI wG ww)(fu:Nat):EI wG ww:=(q5d s134 fu).fi (qjn s134.f fu) [(ziy s134 fu fu).s]
def ziz:EI wG ww := .rc (qjo fu) (fun r=>qjn r fu) (fun _ _=>rfl) (fun _=>rfl) (fun s134=>zix s134 fu) (fun _=>rfl) fu
def zi0:EI wG ⟨.fn 139,[.yld 0,.ptr 1 0],[(0,.loop .ready none 106 15 [(2,.ptr 2 0)] [7,8] 4 3),(1,.dat wT 124),(2,.cells [.yld 4] 176),(3,.dfr),(4,.loop .ready none 36 79 [(6,.ptr 5 0)] [24,25] 3 6),(5,.cells [.own 7] 43),(6,.dfr),(7,.row .byte 5)],_,RS.mk (.tup []) [(0,.loop .ready none 106 15 [(2,.ptr 2 0)] [7,8] 4 3),(1,.dat wT 124),(2,.cells [.yld 4] 176),(3,.dfr),(4,.loop .ready none 36 79 [(6,.ptr 5 0)] [24,25] 3 6),(5,.cells [.own 8] 43),(6,.dfr),(7,.dead),(8,.row .byte 5)]⟩:=(fx [(ziz fu).p]).fi (qva fu)
def zi1:EI wG ⟨.fn 106,[.yld 0,.ptr 1 0],[(0,.loop .ready none 36 79 [(6,.ptr 2 0)] [24,25] 3 3),(1,.dat wT 124),(2,.cells [.own 4] 43),(3,.dfr),(4,.row .byte 5)],_,RS.mk (.tup []) [(0,.loop .ready none 36 79 [(6,.ptr 2 0)] [24,25] 3 3),(1,.dat wT 124),(2,.cells [.own 5] 43),(3,.dfr),(4,.dead),(5,.row .byte 5)]⟩:=(fx [q4x.p,(zi0 fu).p] [] false [([0,1,1],4)] (ji rfl ip)).fi (qut fu)
def zi3:EI wG ⟨.fn 36,[.h (.prod wL wB)],[],_,RS.mk (.tup [.own 0,.h (.prod wI wI)]) [(0,.row .byte 5)]⟩:=(fx [(zg4 fu).p,dw.p,zg5.p,(zi1 fu).p,dd.p] [] false [([0,1,0,1,1,1,1],3)] (ji rfl ip)).fi (qht fu)
def zi4:EI wG ⟨.fn 12,[.h (.prod wL wB),.h (.prod wL wB)],[],_,RS.mk (.tup [.h .bool,.h (.prod wI wI)]) []⟩:=(fx [(zi3 fu).p,dw.p,d6.p,q55.p,dd.p]).fi (qsz fu)
def zi5:EI wG ⟨.fn 4,[],[],_,RS.mk (.h .bool) []⟩:=(fx [(zk9 fu).p,(zmv fu).p,(zi4 fu).p]).fi (qgv fu)
def zi6:EI wG ⟨.fn 73,[.h .byte],[],_,RS.mk (.h .bool) []⟩:=(fx).fi qsd
def zi7:EI wG ⟨.fn 72,[.h .byte],[],_,RS.mk (.h .bool) []⟩:=(fx [zi6.p]).fi qhc
def q5e(fu:Nat):Fx wG ⟨.fn 71,[wS,.fn 72 []],[],_,RS.mk (.h .bool) []⟩:=fx [zi7.p] [lb 104 [(0,wS),(1,.fn 72 []),(7,wH),(8,wH)]]
def zi8:Nat->(q5e fu).L 0:=Fx.lq (xg fu) (qg2 fu) (fun r0=>[r0.s])
def zi9:=(q5e fu).fi (qg1 fu) [(zi8 fu fu).s]
def zja:EI wG ⟨.fn 38,[wS],[],_,RS.mk (.h .bool) []⟩:=(fx [(zi9 fu).p]).fi (qbv fu)
def qqt:EI wG ⟨.fn 17,[wH,wH,wH],[],_,RS.mk (.h .bool) []⟩:=(fx).fi jo
def q5f:EI wG ⟨.fn 39,[.h (.prod .str (.prod wI (.prod wI (.prod (.prod wI (.prod wI (.prod wI wI))) (.prod wI (.prod wI (.prod wI wI)))))))],[],_,RS.mk (.h .bool) []⟩:=(fx).fi yp
def zjb:EI wG ⟨.fn 40,[.h (.prod wI (.prod wI (.prod wI wI)))],[],_,RS.mk (.h .bool) []⟩:=(fx [qqt.p]).fi yv
def qge:Fx wG ⟨.fn 13,[.h (.prod .str (.prod wI (.prod wI (.prod (.prod wI (.prod wI (.prod wI wI))) (.prod wI (.prod wI (.prod wI wI)))))))],[],_,RS.mk (.h (.prod wI wI)) []⟩:=fx [(zja fu).p,d6.p,qqt.p,q5f.p,zjb.p,dd.p] [lb 490 [(2,.ptr 32 0)] [(32,.dat (.prod wI wI) 28)],lb 489 [(2,.ptr 32 0),(23,.h .bool)] [(32,.dat (.prod wI wI) 28)],lb 249 [(1,.ptr 32 0),(2,.ptr 33 0),(26,.h .bool)] [(32,.dat (.prod .str (.prod wI (.prod wI (.prod (.prod wI (.prod wI (.prod wI wI))) (.prod wI (.prod wI (.prod wI wI))))))) 25),(33,.dat (.prod wI wI) 28)]]
def zjh:(qge fu).L 0:=Fx.jm (ql4 fu)
def zjf:(qge fu).L 1:=Fx.jm (qcz fu) [(zjh fu).s]
def zjg:(qge fu).L 2:=Fx.jm (qc0 fu)
def zji:=(qge fu).fi (qcy fu) [(zjf fu).s,(zjg fu).s]
def q5g:EI wG ⟨.fn 15,[wH],[],_,RS.mk (.h .bool) []⟩:=(fx).fi xj
def q5h:EI wG ⟨.fn 20,[wH,wH,wH],[],_,RS.mk (.h .bool) []⟩:=(fx).fi jj
def q5i:EI wG ⟨.fn 21,[wH,wH],[],_,RS.mk (.tup [wH,wH]) []⟩:=(fx).fi xv
def zjj:EI wG ⟨.fn 42,[wH],[],_,RS.mk (wH) []⟩:=(fx).fi xp
def zjk:EI wG ⟨.fn 74,[wH],[],_,RS.mk (.h .bool) []⟩:=(fx).fi qb6
def q5j:EI wG ⟨.fn 43,[wH,wH],[],_,RS.mk (wH) []⟩:=(fx [zjk.p]).fi xt
def q5k(fu:Nat):Fx wG ⟨.fn 22,[wH,wH,wH],[],_,RS.mk (wH) []⟩:=fx [zjj.p,q5j.p] [lb 464 [(0,wH),(1,wH),(7,wH),(8,wH)]]
def zjl:Nat->(q5k fu).L 0:=Fx.lq (xq fu) (qh3 fu) (fun r0=>[r0.s])
def qqu:=(q5k fu).fi (lg fu) [(zjl fu fu).s]
def og:Fx wG ⟨.fn 6,[wH,wH],[],_,RS.mk (.tup [.h (.prod wI (.prod wI (.prod wI (.prod wI (.prod wI (.prod wI wI)))))),.h (.prod wI wI)]) []⟩:=fx [q5g.p,d6.p,q5h.p,q5i.p,(qqu fu).p,dd.p] [lb 8147 [(1,wH),(4,.ptr 32 0),(5,.ptr 33 0),(6,wH),(7,wH),(8,wH),(9,wH)] [(32,.dat (.prod wI (.prod wI (.prod wI (.prod wI (.prod wI (.prod wI wI)))))) 32),(33,.dat (.prod wI wI) 28)],lb 32585 [(1,wH),(4,.ptr 32 0),(5,.ptr 33 0),(6,wH),(7,wH),(8,wH),(9,wH),(54,.h .bool)] [(32,.dat (.prod wI (.prod wI (.prod wI (.prod wI (.prod wI (.prod wI wI)))))) 32),(33,.dat (.prod wI wI) 28)],lb 16352 [(1,wH),(4,.ptr 32 0),(5,.ptr 33 0),(6,wH),(7,wH),(8,wH),(10,wH)] [(32,.dat (.prod wI (.prod wI (.prod wI (.prod wI (.prod wI (.prod wI wI)))))) 32),(33,.dat (.prod wI wI) 28)],lb 8144 [(1,wH),(4,.ptr 32 0),(5,.ptr 33 0),(6,wH),(7,wH),(8,wH),(9,wH)] [(32,.dat (.prod wI (.prod wI (.prod wI (.prod wI (.prod wI (.prod wI wI)))))) 32),(33,.dat (.prod wI wI) 28)],lb 126 [(1,wH),(4,.ptr 32 0),(5,.ptr 33 0),(6,wH),(7,wH)] [(32,.dat (.prod wI (.prod wI (.prod wI (.prod wI (.prod wI (.prod wI wI)))))) 32),(33,.dat (.prod wI wI) 28)],lb 125 [(1,wH),(4,.ptr 32 0),(5,.ptr 33 0),(6,wH),(7,wH),(36,.h .bool)] [(32,.dat (.prod wI (.prod wI (.prod wI (.prod wI (.prod wI (.prod wI wI)))))) 32),(33,.dat (.prod wI wI) 28)]]
def zjq(r2:(og fu).L 3):(og fu).L 0:=Fx.jm (qb3 fu r2.f) [r2.s]
def zjp(r2:(og fu).L 3):(og fu).L 1:=Fx.jm (qb2 fu r2.f) [(zjq fu r2).s]
def zjr:Nat->(og fu).L 2:=Fx.lq (xl fu) (qh0 fu) (fun r5=>[r5.s])
def zjo:Nat->(og fu).L 3:=Fx.lq (tg fu) (qb0 fu) (fun r2=>[(zjp fu r2).s,(zjr fu fu).s])
def zjn:(og fu).L 4:=Fx.jm (qh1 fu) [(zjo fu fu).s]
def zjm:(og fu).L 5:=Fx.jm (qb1 fu) [(zjn fu).s]
def q5l:=(og fu).fi (tf fu) [(zjm fu).s]
end
end
end Go.Sym
namespace Go.Sym
noncomputable section
open Go.Proofs
set_option linter.unusedVariables false
set_option maxRecDepth 100000
set_option maxHeartbeats 2000000
open Tryz
section
variable(fu:Nat)
def qgf:EI wG ⟨.fn 31,[.h (.prod wI (.prod wI (.prod wI (.prod wI (.prod wI (.prod wI wI))))))],[],_,RS.mk (.h (.prod wI wI)) []⟩:=(fx [q5h.p,q5j.p,d6.p,dd.p]).fi qj
def q5m:EI wG ⟨.fn 23,[.h (.prod wI (.prod wI (.prod wI (.prod wI (.prod wI (.prod wI wI))))))],[],_,RS.mk (.tup [wH,.h (.prod wI wI)]) []⟩:=(fx [qgf.p,dw.p,(qqu fu).p,q5i.p,dd.p]).fi (xn fu)
def q5n:EI wG ⟨.fn 9,[.h (.prod wI (.prod wI (.prod wI (.prod wI (.prod wI (.prod wI wI))))))],[],_,RS.mk (.tup [wH,.h (.prod wI wI)]) []⟩:=(fx [qgf.p,dw.p,(qqu fu).p,dd.p]).fi (qi fu)
def qqw:Fx wG ⟨.fn 41,[.h (.prod wI (.prod wI (.prod wI wI))),wH,wH],[],_,RS.mk (wH) []⟩:=fx [(q5m fu).p,qgf.p,dw.p,(q5n fu).p] [lb 254 [(2,wH),(3,.ptr 32 0),(7,.ptr 33 0)] [(32,.dat (.prod wI (.prod wI (.prod wI wI))) 23),(33,.dat (.prod wI (.prod wI (.prod wI (.prod wI (.prod wI (.prod wI wI)))))) 32)],lb 253 [(2,wH),(3,.ptr 32 0),(7,.ptr 33 0),(46,.h .bool)] [(32,.dat (.prod wI (.prod wI (.prod wI wI))) 23),(33,.dat (.prod wI (.prod wI (.prod wI (.prod wI (.prod wI (.prod wI wI)))))) 32)]]
def zjt:(qqw fu).L 0:=Fx.jm (qc2 fu)
def zjs:(qqw fu).L 1:=Fx.jm (qc1 fu) [(zjt fu).s]
def zju:=(qqw fu).fi (yq fu) [(zjs fu).s]
def wy:Fx wG ⟨.fn 18,[.h (.prod .str (.prod wI (.prod wI (.prod (.prod wI (.prod wI (.prod wI wI))) (.prod wI (.prod wI (.prod wI wI))))))),wH,wH],[],_,RS.mk (wH) []⟩:=fx [q5f.p,(zju fu).p] [lb 7826 [(1,wH),(2,wH),(3,.ptr 32 0),(7,wH),(8,wH),(9,.h .bool),(10,wH)] [(32,.dat (.prod .str (.prod wI (.prod wI (.prod (.prod wI (.prod wI (.prod wI wI))) (.prod wI (.prod wI (.prod wI wI))))))) 25)],lb 15651 [(1,wH),(2,wH),(3,.ptr 32 0),(7,wH),(8,wH),(9,.h .bool),(10,wH),(11,wH),(44,.h .bool)] [(32,.dat (.prod .str (.prod wI (.prod wI (.prod (.prod wI (.prod wI (.prod wI wI))) (.prod wI (.prod wI (.prod wI wI))))))) 25)],lb 976 [(1,wH),(2,wH),(3,.ptr 32 0),(7,wH),(8,wH),(9,.h .bool),(10,wH)] [(32,.dat (.prod .str (.prod wI (.prod wI (.prod (.prod wI (.prod wI (.prod wI wI))) (.prod wI (.prod wI (.prod wI wI))))))) 25)]]
def zjx(r0:(wy fu).L 2):(wy fu).L 0:=Fx.jm (qc3 fu r0.f) [r0.s]
def zjw(r0:(wy fu).L 2):(wy fu).L 1:=Fx.jm (yu fu r0.f) [(zjx fu r0).s]
def zjv:Nat->(wy fu).L 2:=Fx.lq (jl fu) (yt fu) (fun r0=>[(zjw fu r0).s])
def zjy:=(wy fu).fi (tu fu) [(zjv fu fu).s]
def zjz:EI wG ⟨.fn 5,[.h (.prod .str (.prod wI (.prod wI (.prod (.prod wI (.prod wI (.prod wI wI))) (.prod wI (.prod wI (.prod wI wI))))))),wH],[],_,RS.mk (.tup [wH,.h (.prod wI wI)]) []⟩:=(fx [(zji fu).p,dw.p,q5g.p,d6.p,(q5l fu).p,qqt.p,(zjy fu).p,dd.p]).fi (yn fu)
def zj0:EI wG ⟨.fn 24,[wH,wH],[],_,RS.mk (wS) []⟩:=(fx [⟨qe5.e jk,qok qfh qfi⟩,⟨qpe.e qn,q2h⟩]).fi iv
def q5o:EI wG ⟨.fn 26,[],[],_,RS.mk (.h (.prod .str (.prod .str (.prod .str (.prod .str (.prod .str wP)))))) []⟩:=(fx).fi xw
def q5p:EI wG ⟨.fn 27,[],[],_,RS.mk (.agg [wS,wS,wS,wS,wS,wS,wS,wS,wS,wS,wS,wS]) []⟩:=(fx).fi xu
def q5q:Fx wG ⟨.fn 7,[.h (.prod wI (.prod wI (.prod wI (.prod wI (.prod wI (.prod wI wI))))))],[],_,RS.mk (.tup [wS,.h (.prod wI wI)]) []⟩:=fx [(q5m fu).p,dw.p,zj0.p,q5o.p,q5p.p,⟨q0v.e tr,zce⟩,dd.p] [lb 126 [(1,.ptr 32 0),(3,.ptr 33 0),(4,wH),(6,wS),(7,wH)] [(32,.dat (.prod wI (.prod wI (.prod wI (.prod wI (.prod wI (.prod wI wI)))))) 32),(33,.dat (.prod wI wI) 28)]]
def zj1:(q5q fu).L 0:=Fx.jm (xm fu)
def zj2:=(q5q fu).fi (ti fu) [(zj1 fu).s]
def q5r(fu:Nat):Fx wG ⟨.fn 53,[.h (.list .str),wS],[],_,RS.mk (wH) []⟩:=fx [] [lb 104 [(0,.h (.list .str)),(1,wS),(7,wH),(8,wH)]]
def zj3:Nat->(q5r fu).L 0:=Fx.lq (qj6 fu) (qv0 fu) (fun r0=>[r0.s])
def q5s:=(q5r fu).fi (yd fu) [(zj3 fu fu).s]
def zj7:EI wG ⟨.fn 50,[.h (.list .str),wS],[],_,RS.mk (.h .bool) []⟩:=(fx [(q5s fu).p]).fi (qco fu)
def q5t(fu:Nat):Fx wG ⟨.fn 84,[wS],[],_,RS.mk (.h .bool) []⟩:=fx [] [lb 104 [(0,wS),(5,wH),(6,wH)]]
def zj8:Nat->(q5t fu).L 0:=Fx.lq (xh fu) (qg7 fu) (fun r0=>[r0.s])
def zj9:=(q5t fu).fi (qg6 fu) [(zj8 fu fu).s]
def qq1:EI wG ⟨.fn 52,[wS,wH],[],_,RS.mk (.tup [wH,.h .bool]) []⟩:=(fx [⟨qyn.e qm,q9t⟩,(zj9 fu).p]).fi (iu fu)
def q5u(fu:Nat):Fx wG ⟨.fn 185,[wS],[],_,RS.mk (wH) []⟩:=fx [] [lb 104 [(2,wH),(4,.ptr 32 0)] [(32,.it)]]
def zka:Nat->(q5u fu).L 0:=Fx.lq (qlt fu) (qw8 fu) (fun r0=>[r0.s])
def q5v:=(q5u fu).fi (qls fu) [(zka fu fu).s]
def qgh:Fx wG ⟨.fn 152,[wS,wH],[],_,RS.mk (.own 0) [(0,.row .str 9)]⟩:=fx [(q5v fu).p,qrc.p] [lb 2000 [(0,wS),(1,wH),(6,.own 32),(7,wH)] [(32,.row .str 9)],lb 30 [(0,wS),(1,wH)],lb 29 [(0,wS),(1,wH),(5,wH),(18,.h .bool)]]
def zkd:Nat->(qgh fu).L 0:=Fx.lq (qk3 fu) (qwr fu) (fun r2=>[r2.s])
def zkc:(qgh fu).L 1:=Fx.jm (qk2 fu) [(zkd fu fu).s]
def zkb:(qgh fu).L 2:=Fx.jm (qk1 fu) [(zkc fu).s]
def zke:=(qgh fu).fi (qwq fu) [(zkb fu).s]
def q5w:EI wG ⟨.fn 154,[wS,wS],[],_,RS.mk (wH) []⟩:=(fx [q6a.p]).fi yf
def q5x:Fx wG ⟨.fn 153,[wS,wS],[],_,RS.mk (wH) []⟩:=fx [(q5v fu).p,⟨qhe 186 qbw,q7q⟩,q5w.p] [lb 496 [(0,wS),(1,wS),(5,wH)]]
def zkf:Nat->(q5x fu).L 0:=Fx.lq (qj7 fu) (qv2 fu) (fun r0=>[r0.s])
def zkg:=(q5x fu).fi (qcq fu) [(zkf fu fu).s]
def qq4:Fx wG ⟨.fn 120,[wS,wS,wH,wH],[],_,RS.mk (.h (.list .str)) []⟩:=fx [(zke fu).p,(zkg fu).p,q5w.p] [lb 16352 [(0,wS),(1,wS),(2,wH),(3,wH),(9,.own 32),(10,wH)] [(32,.row .str 9)],lb 62 [(0,wS),(1,wS),(2,wH),(3,wH)]]
def zki:Nat->(qq4 fu).L 0:=Fx.lq (mu fu) (yj fu) (fun r1=>[r1.s])
def zkh:(qq4 fu).L 1:=Fx.jm (qcw fu) [(zki fu fu).s]
def zkj:=(qq4 fu).fi (qk4 fu) [(zkh fu).s]
def zkk:EI wG ⟨.fn 85,[wS,wS],[],_,RS.mk (.h (.list .str)) []⟩:=(fx [(zkj fu).p]).fi (yg fu)
def qq6:Fx wG ⟨.fn 54,[wS],[],_,RS.mk (.tup [wH,wH,wH,.h .bool]) []⟩:=fx [(zkk fu).p,(qq1 fu).p] [lb 30 [(4,.c (.int .i64 0)),(6,.h (.list .str))],lb 29 [(4,.c (.int .i64 0)),(6,.h (.list .str)),(19,.h .bool)]]
def zkm:(qq6 fu).L 0:=Fx.jm (qh2 fu)
def zkl:(qq6 fu).L 1:=Fx.jm (qb5 fu) [(zkm fu).s]
def zkn:=(qq6 fu).fi (qb4 fu) [(zkl fu).s]
def qbc:Fx wG ⟨.fn 55,[wS],[],_,RS.mk (.tup [wH,.h .bool]) []⟩:=fx [(qq1 fu).p] [lb 30 [(0,wS)],lb 29 [(0,wS),(31,.h .bool)],lb 28 [(0,wS)],lb 13 [(0,wS),(18,.h .bool)]]
def zks:(qbc fu).L 0:=Fx.jm (qb9 fu)
def zkr:(qbc fu).L 1:=Fx.jm (xy fu) [(zks fu).s]
def zkq:(qbc fu).L 2:=Fx.jm (qh4 fu) [(zkr fu).s]
def zkp:(qbc fu).L 3:=Fx.jm (xx fu) [(zkq fu).s]
def zkt:=(qbc fu).fi (qb8 fu) [(zkp fu).s]
def q51:Fx wG ⟨.fn 30,[.h (.list .str)],[],_,RS.mk (.tup [.h (.prod wI (.prod wI (.prod wI (.prod wI (.prod wI (.prod wI wI)))))),.h .bool]) []⟩:=fx [q5o.p,q7h.p,q5a.p,(zj7 fu).p,(qq1 fu).p,q5p.p,(q5s fu).p,(zkn fu).p,(zkt fu).p] [lb 60 [(0,.h (.list .str)),(2,.ptr 32 0)] [(32,.dat (.prod wI (.prod wI (.prod wI (.prod wI (.prod wI (.prod wI wI)))))) 32)]]
def zku:(q51 fu).L 0:=Fx.jm (tj fu)
def zkv:=(q51 fu).fi (qb7 fu) [(zku fu).s]
def zkw:EI wG ⟨.fn 8,[wS],[],_,RS.mk (.tup [.h (.prod wI (.prod wI (.prod wI (.prod wI (.prod wI (.prod wI wI)))))),.h (.prod wI wI)]) []⟩:=(fx [d6.p,⟨qz3.e qk,zbj⟩,(zkv fu).p,qgf.p,dw.p,dd.p]).fi (th fu)
def qq7:IF:=⟨.fn 3,[.h (.prod .str (.prod wI (.prod wI (.prod (.prod wI (.prod wI (.prod wI wI))) (.prod wI (.prod wI (.prod wI wI))))))),wH,wH],[],_,RS.mk (.h .bool) []⟩
def qbd:Fx wG qq7:=fx [(zi5 fu).p,(zjz fu).p,(q5l fu).p,(zj2 fu).p,(zkw fu).p,(q5n fu).p] [lb 1022 [(1,wH),(2,wH),(11,.ptr 32 0),(13,.ptr 33 0)] [(32,.dat (.prod wI (.prod wI (.prod wI (.prod wI (.prod wI (.prod wI wI)))))) 32),(33,.dat (.prod wI (.prod wI (.prod wI (.prod wI (.prod wI (.prod wI wI)))))) 32)],lb 1021 [(1,wH),(2,wH),(11,.ptr 32 0),(13,.ptr 33 0),(75,.h .bool)] [(32,.dat (.prod wI (.prod wI (.prod wI (.prod wI (.prod wI (.prod wI wI)))))) 32),(33,.dat (.prod wI (.prod wI (.prod wI (.prod wI (.prod wI (.prod wI wI)))))) 32)],lb 126 [(1,wH),(2,wH),(7,wH),(9,wH)],lb 125 [(1,wH),(2,wH),(7,wH),(8,.ptr 32 0),(9,wH),(48,.h .bool)] [(32,.dat (.prod wI wI) 28)]]
def zk0:(qbd fu).L 0:=Fx.jm (qgu fu)
def zkz:(qbd fu).L 1:=Fx.jm (qbs fu) [(zk0 fu).s]
def zky:(qbd fu).L 2:=Fx.jm (qgt fu) [(zkz fu).s]
def zkx:(qbd fu).L 3:=Fx.jm (qbr fu) [(zky fu).s]
def zk1:EI wG qq7:=(qbd fu).fi (td fu) [(zkx fu).s]
def q7o:(qq7.e (td fu)).Sound wG:=(zk1 fu).h
end
end
end Go.Sym

namespace Go.Sym.Cal
def rr(y:Int):Bool:=y%4==0&&(y%100 != 0||y%400==0)
def lp(y:Int):Int:=if rr y=true then 1 else 0
def q03(y:Int):0<=lp y/\lp y<=1:=by unfold lp;split<;>omega
def zcp(y:Int):lp y=(y/4-y/100+y/400)-((y-1)/4-(y-1)/100+(y-1)/400):=by
 unfold lp rr;split
 ·rename_i h;simp at h;omega
 ·rename_i h;simp at h;omega
def q9(m:Int):Int:=if m=2 then 28 else if m=4\/m=6\/m=9\/m=11 then 30 else 31
def fp(y m:Int):Int:=if m=2 then 28+lp y else q9 m
def ra(y m:Int):28<=fp y m/\fp y m<=31:=by
 have:=q03 y;unfold fp q9;split<;>(try split)<;>(try split)<;>omega
def uo(m:Int):Int:=
 if m<=1 then 0 else if m=2 then 31 else if m=3 then 59 else if m=4 then 90 else if m=5 then 120 else if m=6 then 151 else if m=7 then 181
 else if m=8 then 212 else if m=9 then 243 else if m=10 then 273 else if m=11 then 304 else if m=12 then 334 else 365
def cz(y m:Int):Int:=uo m+if 3<=m then lp y else 0
def qzj(y:Int):cz y 1=0:=by simp[cz,uo]
def qnl(y:Int):cz y 13=365+lp y:=by simp[cz,uo]
def qov(m:Int)(h1:1<=m)(h2:m<=12):m=1\/m=2\/m=3\/m=4\/m=5\/m=6\/m=7\/m=8\/m=9\/m=10\/m=11\/m=12:=oA
def zp(y m:Int)(h1:1<=m:=by omega)(h2:m<=12:=by omega):cz y (m+1)=cz y m+fp y m:=by
 rcases qov m h1 h2 with h|h|h|h|h|h|h|h|h|h|h|h<;>subst h<;>simp[cz,uo,fp,q9]<;>omega
def qnm(y m:Int)(h1:1<=m)(h2:m<=13:=by omega):0<=cz y m/\cz y m<=366:=by
 have:=q03 y;rcases (show m=13\/m<=12 by omega) with h|h
 ·subst h;rw[qnl];omega
 ·rcases qov m h1 h with h|h|h|h|h|h|h|h|h|h|h|h<;>subst h<;>simp[cz,uo]<;>omega
def zn(y a b:Int)(h1:1<=a:=by omega)(hab:a<=b:=by omega)(h2:b<=13:=by omega):cz y a<=cz y b:=by
 obtain⟨n,rfl⟩:∃n:Nat,b=a+n:=⟨(b-a).toNat,oA⟩
 induction n with
 |zero=>simp|succ n ih=>
  have h:=ih oA oA
  have hs:=zp y (a+n)
  have hd:=ra y (a+n);have e:a+((n+1:Nat):Int)=a+n+1:=oA
  rw[e,hs];omega
def zar(y a b:Int)(h1:1<=a)(hab:a<b)(h2:b<=13):cz y a+fp y a<=cz y b:=by
 rw[← zp y a h1];exact zn y _ _ oA oA h2
def cn(y:Int):Int:=365*(y-1)+(y-1)/4-(y-1)/100+(y-1)/400
def q9z:cn 1970=719162:=oF
def qyq(y:Int):cn (y+1)=cn y+365+lp y:=by
 have:=zcp y;unfold cn;rw[show y+1-1=y by omega];omega
def uf(a b:Int)(h:a<=b:=by omega):cn a<=cn b:=by unfold cn;omega
def qyp(y:Int)(h1:1<=y)(h2:y<=4001):0<=cn y/\cn y<=1461000:=by unfold cn;omega
def bc(y m d:Int):Int:=cn y-719162+d-1+cz y m
def zaw(y m d:Int)(h1:1<=y)(h2:y<=4001)(h3:1<=m)(h4:m<=13)(h5 : -1000<=d)(h6:d<=1000) : -720200<=bc y m d/\bc y m d<=743300:=by
 have:=qyp y h1 h2;have:=qnm y m h3 h4;unfold bc;omega
def dt(y m d:Int):Prop:=1<=y/\y<=4000/\1<=m/\m<=12/\1<=d/\d<=fp y m
instance(y m d:Int):Decidable (dt y m d):=by unfold dt;infer_instance
def qd3(y m d:Int)(h:dt y m d):cn y<=bc y m d+719162/\bc y m d+719162<cn (y+1):=by
 obtain⟨_,_,h3,h4,h5,h6⟩:=h;have:=qnm y m h3;have:=zar y m 13 h3 oA oA;have:=qnl y;have:=qyq y
 unfold bc;omega
def qnp(y m d:Int)(h:dt y m d):cz y m<=bc y m d+719162-cn y/\bc y m d+719162-cn y<cz y (m+1):=by
 obtain⟨_,_,h3,h4,h5,h6⟩:=h;have:=zp y m h3 h4;unfold bc;omega
def zax{y m d y' m' d':Int}(h:dt y m d)(h':dt y' m' d')(e:bc y m d=bc y' m' d'):y=y'/\m=m'/\d=d':=by
 have a:=qd3 y m d h;have a':=qd3 y' m' d' h';have hy:y=y':=by
  rcases Int.lt_trichotomy y y' with c|c|c
  ·have:=uf (y+1) y';omega
  ·exact c
  ·have:=uf (y'+1) y;omega
 subst hy;have b:=qnp y m d h;have b':=qnp y m' d' h';obtain⟨_,_,h3,h4,_,_⟩:=h;obtain⟨_,_,h3',h4',_,_⟩:=h';have hm:m=m':=by
  rcases Int.lt_trichotomy m m' with c|c|c
  ·have:=zn y (m+1) m';omega
  ·exact c
  ·have:=zn y (m'+1) m;omega
 subst hm;refine⟨rfl,rfl,?_⟩;unfold bc at e;omega
noncomputable def ib(n:Int):Int×Int×Int:=open Classical in if h:∃p:Int×Int×Int,dt p.1 p.2.1 p.2.2/\bc p.1 p.2.1 p.2.2=n then Classical.choose h else(0,0,0)
def zaf{y m d:Int}(h:dt y m d):ib (bc y m d)=(y,m,d):=by
 have hx:∃p:Int×Int×Int,dt p.1 p.2.1 p.2.2/\bc p.1 p.2.1 p.2.2=bc y m d:=⟨(y,m,d),h,rfl⟩;unfold ib;rw[dif_pos hx];obtain⟨hv,he⟩:=Classical.choose_spec hx;obtain⟨a,b,c⟩:=zax hv h he;exact Prod.ext a (Prod.ext b c)
def zah{n y m d:Int}(h:dt y m d)(e:bc y m d=n):ib n=(y,m,d):=by rw[← e];exact zaf h
def zag(n:Int)(h1 : -719162<=n)(h2:n<=741807):∃y m d:Int,dt y m d/\bc y m d=n:=by
 have hyear:∀k:Nat,k<=4000->n+719162<cn (k+1:Int)->∃y:Int,1<=y/\y<=4000/\cn y<=n+719162/\n+719162<cn (y+1):=by
  intro k
  induction k with
  |zero=>intro _ h;simp[cn]at h;omega|succ k ih=>
   intro hk h;by_cases hc:n+719162<cn (k+1:Int)
   ·exact ih oA hc
   ·exact⟨k+1,oA,oA,oA,by
     have e:((k+1:Nat):Int)+1=(k:Int)+1+1:=oA
     rw[e]at h;exact h⟩
 obtain⟨y,hy1,hy2,hy3,hy4⟩:=hyear 4000 (wF _) (by
  have:cn ((4000:Nat)+1:Int)=1460970:=oF
  omega)
 have hmon:∀k:Nat,k<=12->n+719162-cn y<cz y (k+1:Int)->∃m:Int,1<=m/\m<=12/\cz y m<=n+719162-cn y/\n+719162-cn y<cz y (m+1):=by
  intro k
  induction k with
  |zero=>intro _ h;simp[cz,uo]at h;omega|succ k ih=>
   intro hk h;by_cases hc:n+719162-cn y<cz y (k+1:Int)
   ·exact ih oA hc
   ·exact⟨k+1,oA,oA,oA,by
     have e:((k+1:Nat):Int)+1=(k:Int)+1+1:=oA
     rw[e]at h;exact h⟩
 obtain⟨m,hm1,hm2,hm3,hm4⟩:=hmon 12 (wF _) (by
  have:=qnl y;have:=qyq y;have e:((12:Nat):Int)+1=13:=oA
  rw[e];omega)
 have:=zp y m hm1 hm2;exact⟨y,m,n+719162-cn y-cz y m+1,⟨hy1,hy2,hm1,hm2,oA,oA⟩,by unfold bc;omega⟩
def zaz:bc 4000 12 31=741807:=oF
def za0:bc 1 1 1 = -719162:=oF
def qpy(y m d:Int)(h:dt y m d) : -719162<=bc y m d/\bc y m d<=741807:=by
 have a:=qd3 y m d h;have b:=uf 1 y h.1;have c:=uf (y+1) 4001 (by have:=h.2.1;omega)
 have e1:cn 1=0:=oF
 have e2:cn 4001=1460970:=oF
 omega
def qzb(n:Int)(h1 : -719162<=n:=by omega)(h2:n<=741807:=by omega):dt (ib n).1 (ib n).2.1 (ib n).2.2/\bc (ib n).1 (ib n).2.1 (ib n).2.2=n:=by
 obtain⟨y,m,d,h,e⟩:=zag n h1 h2;rw[zah h e];exact⟨h,e⟩
def mh(n:Int):Int:=(n+4)%7
def q4d(n:Int):0<=mh n/\mh n<=6:=by unfold mh;omega
end Go.Sym.Cal
namespace Go.Sym.Zn
open Go.Sym.Cal
def tx(y mo wd:Int):Int:=(wd-mh (bc y mo 1)+7)%7
def me(y mo wk wd:Int):Int:=if wk=5/\fp y mo<29+tx y mo wd then 22+tx y mo wd else 1+tx y mo wd+7*(wk-1)
def q3v(y mo wk wd mi ah:Int):Int:=bc y mo (me y mo wk wd)*86400+60*(mi-ah)
def TOk(mo wk wd mi:Int):Prop:=1<=mo/\mo<=12/\1<=wk/\wk<=5/\0<=wd/\wd<=6/\0<=mi/\mi<=1439
instance(mo wk wd mi:Int):Decidable (TOk mo wk wd mi):=by unfold TOk;infer_instance
def q31(y mo wd:Int):0<=tx y mo wd/\tx y mo wd<=6:=by unfold tx;omega
def ze7(y mo wk wd:Int)(h1:1<=wk)(h2:wk<=5):1<=me y mo wk wd/\me y mo wk wd<=fp y mo:=by
 have:=q31 y mo wd;have:=ra y mo;unfold me;split
 ·omega
 ·rename_i h;by_cases h5:wk=5
  ·subst h5;simp at h;omega
  ·omega
def za1(y m d:Int):bc y m d=bc y m 1+d-1:=by unfold bc;omega
def pf(y:Int):Int:=86400*(cn y-719162)
structure zpj(B E:Int->Int)(std sm:Int):Prop where
 d1:std+1<=sm
 d2:sm<=std+180
 b1:∀y,pf y<=B y+60*std
 b2:∀y,B y+60*std+60<=pf (y+1)
 e1:∀y,pf y<=E y+60*sm
 e2:∀y,E y+60*sm+60<=pf (y+1)
 bs:∀y,B (y+1)=B y+364*86400\/B (y+1)=B y+371*86400
 es:∀y,E (y+1)=E y+364*86400\/E (y+1)=E y+371*86400
 be:∀y,pf (y+1)-86400<=B y+60*std->E y+60*sm+86400<=pf (y+1)
 eb:∀y,pf (y+1)-86400<=E y+60*sm->B y+60*std+86400<=pf (y+1)
section
variable{B E:Int->Int}{std sm:Int}
def qxq(B E:Int->Int)(lo hi t:Int):Prop:=∃y,lo<=y/\y<=hi/\B y<=t/\∀z,lo<=z->z<=hi->E z<=t->E z<B y
def Inv(B E:Int->Int)(t:Int)(S:Int->Prop)(best:Int)(out has:Bool):Prop:=
 (has=false->out=false/\∀y,S y->t<B y/\t<E y) /\
 (has=true->best<=t/\(∀y,S y->B y<=t->B y<=best)/\(∀y,S y->E y<=t->E y<=best) /\
  (out=true->(∃y,S y/\B y=best)/\∀y,S y->E y<=t->E y<best)/\(out=false->∃y,S y/\E y=best))
def Inv.start(t best:Int):Inv B E t (fun _=>False) best false false:=⟨fun _=>⟨rfl,fun _ h=>h.elim⟩,fun h=>by cases h⟩
def Inv.fin{t lo hi best:Int}{out has:Bool}(h:Inv B E t (fun y=>lo<=y/\y<=hi) best out has):out=true↔qxq B E lo hi t:=by
 constructor
 ·intro ho
  cases has with
  |false=>have:=(h.1 rfl).1;rw[this]at ho;cases ho
  |true=>
   obtain⟨h1,h2,h3,h4,_⟩:=h.2 rfl;obtain⟨⟨y,hy,rfl⟩,hE⟩:=h4 ho;exact⟨y,hy.1,hy.2,h1,fun z z1 z2 hz=>hE z ⟨z1,z2⟩ hz⟩
 ·rintro⟨y,y1,y2,hy,hz⟩
  cases has with
  |false=>have:=(h.1 rfl).2 y ⟨y1,y2⟩;omega|true=>
   obtain⟨h1,h2,h3,_,h5⟩:=h.2 rfl
   cases out with
   |true=>rfl|false=>
    obtain⟨z,hz',he⟩:=h5 rfl;have:=h2 y ⟨y1,y2⟩ hy;have:=hz z hz'.1 hz'.2 oA
    omega
def Inv.next{t k best best1 best2:Int}{S S':Int->Prop}{out has out1 has1 out2 has2:Bool}(h:Inv B E t S best out has)(hS:∀y,S' y↔S y\/y=k)
  (h1:(B k<=t/\(has=false\/best<B k)/\best1=B k/\out1=true/\has1=true)\/(¬(B k<=t/\(has=false\/best<B k))/\best1=best/\out1=out/\has1=has))
  (h2:(E k<=t/\(has1=false\/best1<=E k)/\best2=E k/\out2=false/\has2=true)\/(¬(E k<=t/\(has1=false\/best1<=E k))/\best2=best1/\out2=out1/\has2=has1)) :
  Inv B E t S' best2 out2 has2:=by
 obtain⟨hf,ht⟩:=h;have hk:S' k:=(hS k).2 (.inr rfl);have hsub:∀y,S y->S' y:=fun y hy=>(hS y).2 (.inl hy)
 rcases h1 with⟨a1,a2,rfl,rfl,rfl⟩|⟨a1,rfl,rfl,rfl⟩
 ·rcases h2 with⟨c1,c2,rfl,rfl,rfl⟩|⟨c1,rfl,rfl,rfl⟩
  ·refine⟨fun h=>(by cases h),fun _=>⟨c1,fun y hy hy2 => ?_,fun y hy hy2 => ?_,fun h=>(by cases h),fun _=>⟨k,hk,rfl⟩⟩⟩
   ·rcases (hS y).1 hy with q|rfl
    ·cases has with|false=>have:=(hf rfl).2 y q;omega|true=>have:=(ht rfl).2.1 y q hy2;simp at a2 c2;omega
    ·simp at c2;exact c2
   ·rcases (hS y).1 hy with q|rfl
    ·cases has with|false=>have:=(hf rfl).2 y q;omega|true=>have:=(ht rfl).2.2.1 y q hy2;simp at a2 c2;omega
    ·omega
  ·simp at c1;refine⟨fun h=>(by cases h),fun _=>⟨a1,fun y hy hy2 => ?_,fun y hy hy2 => ?_,fun _=>⟨⟨k,hk,rfl⟩,fun y hy hy2 => ?_⟩,fun h=>(by cases h)⟩⟩
   ·rcases (hS y).1 hy with q|rfl
    ·cases has with|false=>have:=(hf rfl).2 y q;omega|true=>have:=(ht rfl).2.1 y q hy2;simp at a2;omega
    ·omega
   ·rcases (hS y).1 hy with q|rfl
    ·cases has with|false=>have:=(hf rfl).2 y q;omega|true=>have:=(ht rfl).2.2.1 y q hy2;simp at a2;omega
    ·have:=c1 hy2;omega
   ·rcases (hS y).1 hy with q|rfl
    ·cases has with|false=>have:=(hf rfl).2 y q;omega|true=>have:=(ht rfl).2.2.1 y q hy2;simp at a2;omega
    ·exact c1 hy2
 ·rcases h2 with⟨c1,c2,rfl,rfl,rfl⟩|⟨c1,rfl,rfl,rfl⟩
  ·refine⟨fun h=>(by cases h),fun _=>⟨c1,fun y hy hy2 => ?_,fun y hy hy2 => ?_,fun h=>(by cases h),fun _=>⟨k,hk,rfl⟩⟩⟩
   ·rcases (hS y).1 hy with q|rfl
    ·cases has1 with|false=>have:=(hf rfl).2 y q;omega|true=>have:=(ht rfl).2.1 y q hy2;simp at c2;omega
    ·cases has1 with|false=>exact absurd ⟨hy2,.inl rfl⟩ a1|true=>simp at a1 c2;have:=a1 hy2;omega
   ·rcases (hS y).1 hy with q|rfl
    ·cases has1 with|false=>have:=(hf rfl).2 y q;omega|true=>have:=(ht rfl).2.2.1 y q hy2;simp at c2;omega
    ·omega
  ·cases has2 with
   |false=>
    simp at a1 c1;obtain⟨o,hn⟩:=hf rfl;refine⟨fun _=>⟨o,fun y hy => ?_⟩,fun h=>(by cases h)⟩
    rcases (hS y).1 hy with q|rfl
    ·exact hn y q
    ·exact⟨a1,c1⟩
   |true=>
    simp at a1 c1;obtain⟨g1,g2,g3,g4,g5⟩:=ht rfl;refine⟨fun h=>(by cases h),fun _=>⟨g1,fun y hy hy2 => ?_,fun y hy hy2 => ?_,fun ho => ?_,fun ho => ?_⟩⟩
    ·rcases (hS y).1 hy with q|rfl
     ·exact g2 y q hy2
     ·exact a1 hy2
    ·rcases (hS y).1 hy with q|rfl
     ·exact g3 y q hy2
     ·have:=c1 hy2;omega
    ·obtain⟨⟨y,hy,e⟩,hE⟩:=g4 ho;refine⟨⟨y,hsub y hy,e⟩,fun z hz hz2 => ?_⟩
     rcases (hS z).1 hz with q|rfl
     ·exact hE z q hz2
     ·exact c1 hz2
    ·obtain⟨y,hy,e⟩:=g5 ho;exact⟨y,hsub y hy,e⟩
end
end Go.Sym.Zn
namespace Go.Sym
open Cal Zn
abbrev lk:Type:=Int×Int
abbrev iz:Type:=Int×Int×Int×Int×Int×Int×Int
abbrev ov:Type:=Int×Int×Int×Int
abbrev cy:Type:=List UInt8×Int×Int×ov×ov
def bz{x:Int}(h1 : -9223372036854775808<=x:=by omega)(h2:x<9223372036854775808:=by omega):af x=x:=by
 unfold af IntKind.wrap;simp[IntKind.signed,IntKind.bits];omega
def a6{α:Type}{b:Bool}{x y:α}(h:b=true:=by first|rfl|simp;done):(bif b then x else y)=x:=by subst h;rfl
def a7{α:Type}{b:Bool}{x y:α}(h:b=false:=by first|rfl|simp;done):(bif b then x else y)=y:=by subst h;rfl
def zi{α:Type}{p:Prop}[Decidable p]{x y:α}:(bif decide p then x else y)=if p then x else y:=by by_cases h:p<;>simp[h]
@[simp] def dates_within_eq(x a b:Int):jj x a b=some (decide (a<=x/\x<=b)):=by
 unfold jj;by_cases h:a<=x<;>simp[h]
@[simp] def zones_within_eq(x a b:Int):jo x a b=some (decide (a<=x/\x<=b)):=by
 unfold jo;by_cases h:a<=x<;>simp[h]
def zcl(y:Int)(h:0<=y):qb6 y=some (rr y):=by
 unfold qb6 rr;rw[Int.tmod_eq_emod_of_nonneg h,Int.tmod_eq_emod_of_nonneg h,Int.tmod_eq_emod_of_nonneg h];cases h1:(y%4==0)<;>cases h2:(y%100 != 0)<;>simp
def zcr{y:Int}(h:rr y=true):lp y=1:=by unfold lp;rw[qX h]
def zcq{y:Int}(h:rr y=false):lp y=0:=by unfold lp;rw[qW (by rw[h];decide)]
def zc2(m:Int)(h1:1<=m)(h2:m<=12):al ([31,28,31,30,31,30,31,31,30,31,30,31]:List Int) (af (m-1))=some (q9 m):=by
 rw[bz]
 rcases qov m h1 h2 with h|h|h|h|h|h|h|h|h|h|h|h<;>subst h<;>rfl
def q00(y m:Int)(hy:0<=y)(h1:1<=m)(h2:m<=12):xt y m=some (fp y m):=by
 unfold xt;rw[zc2 m h1 h2,qB];by_cases e:m=2
 ·subst e;rw[zcl y hy];cases hl:rr y
  ·simp[fp,q9,zcq hl]
  ·simp[fp,q9,zcr hl];rfl
 ·have e':(m==2)=false:=by simp[e]
  simp[e,e',fp]
def qyr(y:Int)(h1:1<=y:=by omega)(h2:y<=4001:=by omega):xp y=some (cn y):=by
 unfold xp cn;rw[bz (x:=y-1) oA oA]
 rw[Int.tdiv_eq_ediv_of_nonneg oA,Int.tdiv_eq_ediv_of_nonneg oA,Int.tdiv_eq_ediv_of_nonneg oA]
 simp (discharger:=omega) only [bz ?_ ?_]
def zay(fu:Nat)(y m:Int)(hy1:1<=y)(hy2:y<=4001)(hm:m<=12):∀(n:Nat)(a k:Int),1<=k->k<=m->m-k<n -> -10000000<=a-cz y k->a-cz y k<=10000000 ->
  xq fu n y m a k=some (a+cz y m-cz y k):=by
 intro n
 induction n with
 |zero=>intro a k h1 h2 h3;omega|succ n ih=>
  intro a k h1 h2 h3 h4 h5;rw[xq,qh3];by_cases c:k<m
  ·have hc:=zp y k h1
   have hb:=qnm y k h1
   have hd:=ra y k;rw[a6 (by simp[c]),q00 y k oA h1 oA,qB,bz,bz,
    ih _ _ oA oA oA oA oA]
   congr 1;omega
  ·have:k=m:=oA
   subst this;rw[a7];congr 1;omega
def uu(fu:Nat)(hf:20<=fu)(y m d:Int)(hy1:1<=y:=by omega)(hy2:y<=4001:=by omega)(h1:1<=m:=by omega)(h2:m<=12:=by omega)(h3 : -1000<=d:=by omega)(h4:d<=1000:=by omega):lg fu y m d=some (bc y m d):=by
 unfold lg;have hb:=qyp y hy1 hy2;have hc:=qzj y;rw[qyr y hy1 hy2,qB,qyr 1970,qB,q9z]
 simp (discharger:=omega) only [bz ?_ ?_];rw[zay fu y m hy1 hy2 h2 fu _ 1 oA h1 oA oA oA,hc]
 unfold bc;congr 1;omega
def q3h(x b:Int)(hb:0<b:=by omega)(hb2:b<=100000:=by omega)(h1 : -1000000000000<=x:=by omega)(h2:x<=1000000000000:=by omega):xv x b=some (x/b,x%b):=by
 unfold xv;have hb0:decide (b≠0)=true:=decide_eq_true oA
 rw[a6 hb0,a6 hb0,a6 hb0];have e:Int.tmod (af (Int.tmod x b+b)) b=x%b:=by
  have a1:=Int.tmod_lt_of_pos x hb;have a2 : -b<Int.tmod x b:=by
   have:=Int.lt_tmod_of_pos x hb;omega
  rw[bz,Int.tmod_eq_emod_of_nonneg oA]
  rw[Int.add_emod_right];by_cases hx:0<=x
  ·rw[Int.tmod_eq_emod_of_nonneg hx,Int.emod_emod]
  ·rw[Int.tmod_def x b,Int.sub_mul_emod_self_left]
 rw[e];have m1:=Int.emod_nonneg x (show b≠0 by omega)
 have m2:=Int.emod_lt_of_pos x hb;have ed:=Int.mul_ediv_add_emod x b;have e3:x-x%b=b*(x/b):=oA
 rw[bz (x:=x-x%b) oA oA,e3,Int.mul_tdiv_cancel_left _ oA]
 have bd : -1000000000000<=x/b/\x/b<=1000000000000:=by
  constructor
  ·rw[Int.le_ediv_iff_mul_le hb];have : -1000000000000*b <= -1000000000000*1:=oA
   omega
  ·exact Int.le_trans (Int.ediv_le_ediv hb h2) (Int.ediv_le_self _ oA)
 rw[bz]
end Go.Sym
namespace Go.Sym
open Cal Zn
def q3u{x k:Int}(h:0<=x):Int.tdiv x k=x/k:=Int.tdiv_eq_ediv_of_nonneg h
def q3w{x k:Int}(h:0<=x:=by omega):Int.tmod x k=x%k:=Int.tmod_eq_emod_of_nonneg h
@[simp] def none_eq:ce=some ⟨0,0⟩:=rfl
@[simp] def fault_eq(a b:Int):au a b=some ⟨a,b⟩:=rfl
@[simp] def failed_eq(f:lk):cd f=some (f.1 != 0):=rfl
@[simp] def time_eq(t:Int):xj t=some (decide (-68719476736<=t/\t<=68719476736)):=by
 unfold xj;by_cases h : -68719476736<=t<;>simp[h]
noncomputable def qne(n s z:Int):iz:=⟨(ib n).1,(ib n).2.1,(ib n).2.2,s/3600,s/60%60,s%60,z⟩
def zo3{n y m d k:Int}(h:dt y m d)(e:bc y m d=n):bc k 1 1<=n↔k<=y:=by
 have a:=qd3 y m d h;have:bc k 1 1=cn k-719162:=by unfold bc;rw[qzj];omega
 rw[this];constructor
 ·intro hk;by_cases c:k<=y
  ·exact c
  ·have:=uf (y+1) k;omega
 ·intro hk;have:=uf k y hk;omega
def zc1{n y m d k:Int}(h:dt y m d)(e:bc y m d=n)(k1:1<=k)(k2:k<=12):bc y k 1<=n↔k<=m:=by
 have a:=qnp y m d h;have:bc y k 1=cn y-719162+cz y k:=by unfold bc;omega
 rw[this];constructor
 ·intro hk;by_cases c:k<=m
  ·exact c
  ·have:=zn y (m+1) k (by have:=h.2.2.1;omega);omega
 ·intro hk;have:=zn y k m k1 hk (by have:=h.2.2.2.1;omega);omega
def zai(fu:Nat)(hf:20<=fu){N y m d:Int}(s z:Int)(m1:iz)(m2:lk)(h:dt y m d)(e:bc y m d=N)(hs:0<=s)(hs2:s<86400):∀(n:Nat)(k:Int),m<=k->k<=12->k-m<n ->
  xl fu n z N s y k m1 m2=some ((y,m,d,s/3600,s/60%60,s%60,z),(0,0)):=by
 obtain⟨v1,v2,v3,v4,v5,v6⟩:=h;have hd:=ra y m;have hN:=qpy y m d ⟨v1,v2,v3,v4,v5,v6⟩;intro n
 induction n with
 |zero=>intro k h1 h2 h3;omega|succ n ih=>
  intro k h1 h2 h3;rw[xl,qh0,uu fu hf y k 1 v1 oA oA h2,qB]
  have hl:=zc1 (k:=k) ⟨v1,v2,v3,v4,v5,v6⟩ e oA h2
  by_cases c:k<=m
  ·have:k=m:=oA
   subst this;have:=za1 y k d;have b:=zaw y k 1 v1 oA v3 oA oA oA
   rw[a7 (by simp;exact hl.2 c),none_eq]
   simp only[qB];simp (discharger:=omega) only [bz ?_ ?_,q3u,q3w ?_];have e1:N-bc y k 1+1=d:=oA
   rw[e1]
  ·rw[a6 (by simp;have:=mt hl.1 c;omega),bz,ih _ oA oA oA]
def zaj(fu:Nat)(hf:20<=fu){N y m d:Int}(s z:Int)(m1:iz)(m2:lk)(h:dt y m d)(e:bc y m d=N)(hs:0<=s)(hs2:s<86400):∀(j n:Nat)(k:Int),j<=12->1<=k->k<=y->y<k+2 ^ j->j<n ->
  tg fu n z N s k ((2 ^ j/2:Nat):Int) m1 m2=some ((y,m,d,s/3600,s/60%60,s%60,z),(0,0)):=by
 have h':=h;obtain⟨v1,v2,v3,v4,v5,v6⟩:=h';intro j
 induction j with
 |zero=>
  intro n k hj h1 h2 h3 h4;obtain⟨n,rfl⟩:∃q,n=q+1:=⟨n-1,oA⟩
  have:k=y:=by simp at h3;omega
  subst this;rw[tg,qb0,a7,zai fu hf s z m1 m2 h e hs hs2 fu 12 v4 oA oA]
 |succ j ih=>
  intro n k hj h1 h2 h3 h4;obtain⟨n,rfl⟩:∃q,n=q+1:=⟨n-1,oA⟩
  have e2:(2 ^ (j+1)/2:Nat)=2 ^ j:=by rw[Nat.pow_succ];omega
  have e3:(2:Int) ^ (j+1)=2*((2 ^ j:Nat):Int):=by rw[Int.pow_succ];simp;omega
  rw[e3]at h3;have e4:((2:Int) ^ j)=((2 ^ j:Nat):Int):=oC
  have ih':=ih n;rw[e4]at ih';have p1:0<2 ^ j:=Nat.pow_pos oA
  have p2:2 ^ j<=2 ^ 11:=Nat.pow_le_pow_right oA oA
  have ed:((2 ^ j/2:Nat):Int)=((2 ^ j:Nat):Int)/2:=oA
  rw[e2];rw[ed]at ih';generalize 2 ^ j=P at *;rw[tg,qb0,a6 oD]
  simp only[qb2,qb3];simp (discharger:=omega) only [bz ?_ ?_,q3u];by_cases c:k+(P:Int)<=4000
  ·rw[a6 (by simp;exact c),uu fu hf _ 1 1,qB]
   have hl:=zo3 (k:=k+(P:Int)) h e;by_cases c2:k+(P:Int)<=y
   ·rw[a6 (by simp;exact hl.2 c2)]
    exact ih' _ oA oA c2 oA oA
   ·rw[a7 (by simp;have:=mt hl.1 c2;omega)]
    exact ih' _ oA oA h2 oA oA
  ·rw[a7 oD]
   exact ih' _ oA oA h2 oA oA
noncomputable def mq(t z:Int):iz×lk:=
 if ¬(-68719476736<=t/\t<=68719476736) then(⟨0,0,0,0,0,0,0⟩,⟨3,-2⟩) else
 if ¬(-900<=z/\z<=900) then(⟨0,0,0,0,0,0,0⟩,⟨3,-4⟩) else
 if(t+60*z)/86400 < -719162\/741807<(t+60*z)/86400 then(⟨0,0,0,0,0,0,0⟩,⟨3,-3⟩) else
 (qne ((t+60*z)/86400) ((t+60*z)%86400) z,⟨0,0⟩)
def qzc(fu:Nat)(hf:20<=fu)(t z:Int):tf fu t z=some (mq t z):=by
 unfold tf mq;rw[time_eq,qB];by_cases c1 : -68719476736<=t/\t<=68719476736
 ·rw[a7 (by simp[c1]),qW (by simp[c1]),dates_within_eq,qB]
  by_cases c2 : -900<=z/\z<=900
  ·rw[a7 (by simp[c2]),qW (by simp[c2])]
   simp (discharger:=omega) only [bz ?_ ?_];rw[q3h _ _,qB,uu fu hf 1 1 1,qB,za0]
   generalize hN:(t+60*z)/86400=N;generalize hS:(t+60*z)%86400=S;by_cases c3:N < -719162
   ·rw[a6 (by simp;exact c3),qX (.inl c3)];rfl
   ·rw[a7 oD,uu fu hf 4000 12 31,qB,zaz]
    unfold qb1 qh1;by_cases c4:741807<N
    ·rw[a6 (by simp;exact c4),qX (.inr c4)];rfl
    ·rw[a7 oD,qW]
     obtain⟨hv,he⟩:=qzb N
     have:=zaj fu hf S z (0,0,0,0,0,0,0) (0,0) hv he oA oA 12 fu 1 oA oA hv.1 (by have:=hv.2.1;omega) oA
     exact this
  ·rw[a6 oD,qX c2];rfl
 ·rw[a6 oD,qX c1];rfl
def ep(d:iz):Prop:=dt d.1 d.2.1 d.2.2.1/\0<=d.2.2.2.1/\d.2.2.2.1<=23/\0<=d.2.2.2.2.1/\d.2.2.2.2.1<=59/\0<=d.2.2.2.2.2.1/\d.2.2.2.2.2.1<=59 /\ -900<=d.2.2.2.2.2.2/\d.2.2.2.2.2.2<=900
instance(d:iz):Decidable (ep d):=by unfold ep;infer_instance
def qyv{α:Type}{p:Prop}[Decidable p]{x y:α}:(bif !decide p then x else y)=if p then y else x:=by by_cases h:p<;>simp[h]
def qd8(d:iz):qj d=some (if ep d then⟨0,0⟩ else⟨3,-3⟩):=by
 unfold qj;simp only[dates_within_eq,qB,fault_eq,none_eq,zi,qyv];have key:∀(f:lk),(if ep d then(⟨0,0⟩:lk) else⟨3,-3⟩)=f->(ep d->f=⟨0,0⟩)/\(¬ep d->f=⟨3,-3⟩):=fun f h=>⟨fun k=>by rw[← h,qX k],fun k=>by rw[← h,qW k]⟩
 generalize hf:(if ep d then(⟨0,0⟩:lk) else⟨3,-3⟩)=f
 obtain⟨k1,k2⟩:=key f hf;clear key hf;unfold ep dt at k1 k2;by_cases c1:1<=d.1/\d.1<=4000
 ·rw[qX c1];by_cases c2:1<=d.2.1/\d.2.1<=12
  ·have e:(if(12:Int)<(if(1:Int)>d.2.1 then 1 else d.2.1) then 12 else if(1:Int)>d.2.1 then 1 else d.2.1)=d.2.1:=by
    rw[qW (show ¬((1:Int)>d.2.1) by omega),qW]
   rw[qX c2,e,q00 _ _ oA c2.1 c2.2,qB]
   clear e
   repeat' split
   all_goals first|(rw[k1 oA])|(rw[k2 oA])
  ·rw[qW c2,k2 oA]
 ·rw[qW c1,k2 oA]
def qag(d:iz):Int:=bc d.1 d.2.1 d.2.2.1*86400+d.2.2.2.1*3600+(d.2.2.2.2.1-d.2.2.2.2.2.2)*60+d.2.2.2.2.2.1
def qzo{d:iz}(h:ep d) : -719162<=bc d.1 d.2.1 d.2.2.1/\bc d.1 d.2.1 d.2.2.1<=741807:=qpy _ _ _ h.1
def q4e(fu:Nat)(hf:20<=fu)(d:iz)(h:ep d):xn fu d=some (mh (bc d.1 d.2.1 d.2.2.1),⟨0,0⟩):=by
 unfold xn;have hb:=qzo h;have hd:=ra d.1 d.2.1;obtain⟨⟨v1,v2,v3,v4,v5,v6⟩,_⟩:=id h;rw[qd8,qX h,qB,failed_eq,qB,a7,uu fu hf _ _ _ v1 oA v3 v4,qB,bz,
  q3h _ _]
 rfl
def qof(fu:Nat)(hf:20<=fu)(d:iz):qi fu d=some (if ep d then(qag d,⟨0,0⟩) else(0,⟨3,-3⟩)):=by
 unfold qi;rw[qd8,qB,failed_eq,qB];by_cases h:ep d
 ·have hb:=qzo h;have hd:=ra d.1 d.2.1;obtain⟨⟨v1,v2,v3,v4,v5,v6⟩,v7,v8,v9,v10,v11,v12,v13,v14⟩:=id h;rw[qX h,qX h,a7,uu fu hf _ _ _ v1 oA v3 v4,qB,none_eq,qB]
  simp (discharger:=omega) only [bz ?_ ?_];rfl
 ·rw[qW h,qW h];rfl
def fw(u:ov):Prop:=TOk u.1 u.2.1 u.2.2.1 u.2.2.2
instance(u:ov):Decidable (fw u):=by unfold fw;infer_instance
def vv(u:ov)(y ah:Int):Int:=q3v y u.1 u.2.1 u.2.2.1 u.2.2.2 ah
def qd7{y m d:Int}(h:dt y m d):ep ⟨y,m,d,0,0,0,0⟩:=by refine⟨h,?_,?_,?_,?_,?_,?_,?_,?_⟩<;>simp
def za6{y m d:Int}:ep ⟨y,m,d,0,0,0,0⟩↔dt y m d:=⟨fun h=>h.1,qd7⟩
def zb6(y m d:Int):qag ⟨y,m,d,0,0,0,0⟩=bc y m d*86400:=by simp[qag]
def qoe(fu:Nat)(hf:20<=fu){y m d:Int}(h:dt y m d)(mi ah:Int)(h1 : -10000<=mi)(h2:mi<=10000)(h3 : -10000<=ah)(h4:ah<=10000) :
  ((qi fu ⟨y,m,d,0,0,0,0⟩).bind fun x=>some (af (x.1+(af (60*(af (mi-ah)))))))=some (bc y m d*86400+60*(mi-ah)):=by
 have hb:=qpy _ _ _ h;rw[qof fu hf,qX (qd7 h),qB,zb6];simp (discharger:=omega) only [bz ?_ ?_]
def q7m(fu:Nat)(hf:20<=fu)(u:ov)(hu:fw u)(y ah:Int)(hy1:1<=y)(hy2:y<=4000)(h3 : -10000<=ah:=by omega)(h4:ah<=10000:=by omega) :
  yq fu u y ah=some (vv u y ah):=by
 obtain⟨u1,u2,u3,u4,u5,u6,u7,u8⟩:=hu;have hd:=ra y u.1;have htd:=ze7 y u.1 u.2.1 u.2.2.1 u3 u4;have hx:=q31 y u.1 u.2.2.1;unfold yq;have h1:dt y u.1 1:=⟨hy1,hy2,u1,u2,oA,oA⟩
 rw[q4e fu hf _ (qd7 h1),qB];have hw:=q4d (bc y u.1 1);have e:(af ((af (1+(Int.tmod (af ((af (u.2.2.1-mh (bc y u.1 1)))+7)) (7:Int))))+(af (7*(af (u.2.1-1))))))=1+tx y u.1 u.2.2.1+7*(u.2.1-1):=by
  unfold tx;generalize mh (bc y u.1 1)=w at *;rw[bz (x:=u.2.2.1-w) oA oA,bz (x:=u.2.2.1-w+7) oA oA,q3w]
  simp (discharger:=omega) only [bz ?_ ?_]
 simp only[e];unfold qc1;unfold vv q3v;by_cases c:u.2.1=5
 ·rw[a6 (by simp[c]),qd8,qB,failed_eq,qB]
  by_cases c2:fp y u.1<29+tx y u.1 u.2.2.1
  ·have et:me y u.1 u.2.1 u.2.2.1=22+tx y u.1 u.2.2.1:=by unfold me;rw[qX ⟨c,c2⟩]
   rw[qW (by rw[za6];intro hv;have:=hv.2.2.2.2.2;omega),a6]
   unfold qc2;rw[bz (x:=1+tx y u.1 u.2.2.1+7*(u.2.1-1)-7) oA oA,
    show 1+tx y u.1 u.2.2.1+7*(u.2.1-1)-7=22+tx y u.1 u.2.2.1 by omega,← et]
   exact qoe fu hf ⟨hy1,hy2,u1,u2,htd.1,htd.2⟩ _ _ oA oA h3 h4
  ·have et:me y u.1 u.2.1 u.2.2.1=1+tx y u.1 u.2.2.1+7*(u.2.1-1):=by unfold me;rw[qW (fun h=>c2 h.2)]
   rw[← et];rw[qX (qd7 ⟨hy1,hy2,u1,u2,htd.1,htd.2⟩),a7]
   exact qoe fu hf ⟨hy1,hy2,u1,u2,htd.1,htd.2⟩ _ _ oA oA h3 h4
 ·have et:me y u.1 u.2.1 u.2.2.1=1+tx y u.1 u.2.2.1+7*(u.2.1-1):=by unfold me;rw[qW (fun h=>c h.1)]
  rw[a7 (by simp[c]),← et]
  exact qoe fu hf ⟨hy1,hy2,u1,u2,htd.1,htd.2⟩ _ _ oA oA h3 h4
def ki(z:cy):Prop:=z.2.2.2.1.1=0/\z.2.2.2.1.2.1=0/\z.2.2.2.1.2.2.1=0/\z.2.2.2.1.2.2.2=0
instance(z:cy):Decidable (ki z):=by unfold ki;infer_instance
@[simp] def fixed_eq(z:cy):yp z=some (decide (ki z)):=by
 unfold yp;congr 1;rw[Bool.eq_iff_iff,decide_eq_true_iff];simp[ki]
structure ZT(z:cy):Prop where
 s1 : -900<=z.2.1
 s2:z.2.1<=900
 m1 : -900<=z.2.2.1
 m2:z.2.2.1<=900
 d1:z.2.1+1<=z.2.2.1
 d2:z.2.2.1<=z.2.1+180
 b:fw z.2.2.2.1
 e:fw z.2.2.2.2
 ne:z.2.2.2.1.1≠z.2.2.2.2.1
def Bz(z:cy)(y:Int):Int:=vv z.2.2.2.1 y z.2.1
def Ez(z:cy)(y:Int):Int:=vv z.2.2.2.2 y z.2.2.1
def sel(z:cy)(o:Bool):Int:=bif o then z.2.2.1 else z.2.1
def qo4(r0:Int->Int->Int->Int->Bool->Int->cy->Option Int)(fu:Nat)(hf:20<=fu)(z:cy)(h:ZT z)(t Y best k:Int)(o has:Bool)(S S':Int->Prop)
  (hk1:1<=k) (hk2:k<=4000) (hY:k<=Y+1) (hY2:Y<=4000) (hI:Zn.Inv (Bz z) (Ez z) t S best o has) (hS:∀y,S' y↔S y\/y=k) :
  ∃best' o' has',Zn.Inv (Bz z) (Ez z) t S' best' o' has'/\yt fu r0 t Y best (sel z o) has k z=r0 t Y best' (sel z o') has' (k+1) z:=by
 have s1:=h.s1;have s2:=h.s2;have m1:=h.m1;have m2:=h.m2;unfold yt;rw[bz (x:=Y+1) oA oA,a6 (by simp;exact hY)]
 rw[q7m fu hf _ h.b k _ hk1 hk2,qB]
 unfold yu qc3;rw[q7m fu hf _ h.e k _ hk1 hk2]
 simp only[qB];rw[bz (x:=k+1) oA oA]
 have nx:=fun b1 b2 o1 h1 o2 h2=>Zn.Inv.next (best1:=b1) (best2:=b2) (out1:=o1) (has1:=h1) (out2:=o2) (has2:=h2) hI hS
 have eB:vv z.2.2.2.1 k z.2.1=Bz z k:=rfl;have eE:vv z.2.2.2.2 k z.2.2.1=Ez z k:=rfl;rw[eB,eE];generalize Bz z k=B at *;generalize Ez z k=E at *;have sT:z.2.2.1=sel z true:=rfl;have sF:z.2.1=sel z false:=rfl;have fin:∀b1 o1 h1,((B<=t/\(has=false\/best<B)/\b1=B/\o1=true/\h1=true)\/(¬(B<=t/\(has=false\/best<B))/\b1=best/\o1=o/\h1=has)) ->
   ∃best' o' has',Zn.Inv (Bz z) (Ez z) t S' best' o' has' /\
    (bif decide (E<=t) then bif !h1 then r0 t Y E z.2.1 true (k+1) z else bif decide (b1<=E) then r0 t Y E z.2.1 true (k+1) z else r0 t Y b1 (sel z o1) h1 (k+1) z else r0 t Y b1 (sel z o1) h1 (k+1) z)=r0 t Y best' (sel z o') has' (k+1) z:=by
  intro b1 o1 h1 hh;by_cases c:E<=t/\(h1=false\/b1<=E)
  ·refine⟨E,false,true,nx b1 E o1 h1 false true hh (.inl ⟨c.1,c.2,rfl,rfl,rfl⟩),?_⟩;rw[a6 (by simp;exact c.1)]
   cases h1 with|false=>rw[a6];rfl|true=>rw[a7,a6 (by simp;exact c.2.resolve_left oC)];rfl
  ·refine⟨b1,o1,h1,nx b1 b1 o1 h1 o1 h1 hh (.inr ⟨c,rfl,rfl,rfl⟩),?_⟩;by_cases c1:E<=t
   ·rw[a6 (by simp;exact c1)]
    cases h1 with|false=>exact absurd ⟨c1,.inl rfl⟩ c|true=>rw[a7,a7 (by simp;have:¬b1<=E:=fun q=>c ⟨c1,.inr q⟩;omega)]
   ·rw[a7 oD]
 clear nx;by_cases c1:B<=t
 ·by_cases c2:has=false\/best<B
  ·obtain⟨b',o',h',hi,he⟩:=fin B true true (.inl ⟨c1,c2,rfl,rfl,rfl⟩);refine⟨b',o',h',hi,?_⟩;rw[← he,a6 (by simp;exact c1)]
   cases has with
   |false=>rfl|true=>
    simp at c2;rw[a7,a6 (by simp;exact c2)];rfl
  ·obtain⟨b',o',h',hi,he⟩:=fin best o has (.inr ⟨fun q=>c2 q.2,rfl,rfl,rfl⟩)
   refine⟨b',o',h',hi,?_⟩;rw[← he,a6 (by simp;exact c1)]
   cases has with
   |false=>simp at c2|true=>
    simp at c2;rw[a7,a7 (by simp;exact c2)]
 ·obtain⟨b',o',h',hi,he⟩:=fin best o has (.inr ⟨fun q=>c1 q.1,rfl,rfl,rfl⟩)
  refine⟨b',o',h',hi,?_⟩;rw[← he,a7 oD];rfl
open Classical in
noncomputable def qar(z:cy)(lo hi t:Int):Int:=if qxq (Bz z) (Ez z) lo hi t then z.2.2.1 else z.2.1
def zen{z:cy}{lo hi t best:Int}{o has:Bool}(h:Zn.Inv (Bz z) (Ez z) t (fun y=>lo<=y/\y<=hi) best o has):sel z o=qar z lo hi t:=by
 have:=h.fin;unfold sel qar
 cases o with|true=>rw[qX (this.1 rfl)];rfl|false=>rw[qW (fun q=>by have:=this.2 q;cases this)];rfl
def zpf(fu:Nat)(hf:20<=fu)(z:cy)(h:ZT z)(t Y:Int)(h1:2<=Y)(h2:Y<=3999):tu fu z t Y=some (qar z (Y-1) (Y+1) t):=by
 unfold tu;have hnf:¬ki z:=fun q=>by have:=h.b.1;have:=q.1;omega
 rw[fixed_eq,qB,a7 (by simp[hnf]),bz]
 obtain⟨n,rfl⟩:∃n,fu=n+1+1+1+1:=⟨fu-4,oA⟩
 generalize hfu:n+1+1+1+1=fu at hf;have q:jl fu (n+1+1+1+1) t Y 0 z.2.1 false (Y-1) z=some (qar z (Y-1) (Y+1) t):=by
  obtain⟨b1,o1,a1,i1,e1⟩:=qo4 (jl fu (n+1+1+1)) fu hf z h t Y 0 (Y-1) false false _ (fun y=>y=Y-1) oA oA oA oA (Zn.Inv.start t 0) (fun y=>oC)
  rw[jl];refine Eq.trans e1 ?_;obtain⟨b2,o2,a2,i2,e2⟩:=qo4 (jl fu (n+1+1)) fu hf z h t Y b1 (Y-1+1) o1 a1 _ (fun y=>Y-1<=y/\y<=Y) oA oA oA oA i1 (fun y=>oA)
  rw[jl];refine Eq.trans e2 ?_;obtain⟨b3,o3,a3,i3,e3⟩:=qo4 (jl fu (n+1)) fu hf z h t Y b2 (Y-1+1+1) o2 a2 _ (fun y=>Y-1<=y/\y<=Y+1) oA oA oA oA i2 (fun y=>oA)
  rw[jl];refine Eq.trans e3 ?_;rw[jl,yt,bz (x:=Y+1) oA oA,a7 oD,zen i3]
 rw[hfu]at q;exact q
def chB(c:UInt8):Bool:=(decide (97<=c.toNat)&&decide (c.toNat<=122))||(decide (65<=c.toNat)&&decide (c.toNat<=90))||(decide (48<=c.toNat)&&decide (c.toNat<=57))||c.toNat==45||c.toNat==95||c.toNat==46
def zff{p:UInt8->Prop}(h:∀n:_root_.Fin 256,p (UInt8.ofFin n))(c:UInt8):p c:=by
 have:=h c.toFin
 rwa [UInt8.ofFin_toFin]at this
def zc3(c:UInt8):qhc c=some (chB c):=by
 revert c;exact zff (by decide +kernel)
def qam(s:List UInt8):Bool:=decide (1<=s.length)&&decide (s.length<=60)&&s.all chB
def q87(fu:Nat)(s:List UInt8)(hs:(s.length:Int)<9223372036854775808):∀(n:Nat)(k:Nat),k<=s.length->s.length-k<n ->
  xg fu n s s.length k=some ((s.drop k).all chB):=by
 intro n
 induction n with
 |zero=>intro k h1 h2;omega|succ n ih=>
  intro k h1 h2;rw[xg,qg2];by_cases c:k<s.length
  ·have hi:al s (k:Int)=some s[k]:=by unfold al;rw[qX];simp[c]
   rw[a6 (by simp;exact c),hi,qB,zc3,qB,List.drop_eq_getElem_cons c,List.all_cons]
   cases hc:chB s[k]
   ·rfl
   ·rw[a7,bz]
    have:=ih (k+1) oA oA
    rw[Int.natCast_add]at this;exact this
  ·rw[a7 oD,List.drop_eq_nil_of_le oA];rfl
def zc4(fu:Nat)(s:List UInt8)(hs:(s.length:Int)<9223372036854775808)(hf:s.length<fu):qbv fu s=some (qam s):=by
 unfold qbv qam
 cases s with
 |nil=>rfl|cons a l=>
  rw[a6]
  by_cases c:((a::l).length:Int)<=60
  ·rw[a6 (by simp only[decide_eq_true_iff];exact c)]
   unfold qg1;have:=q87 fu (a::l) hs fu 0 oA oA
   rw[show((0:Nat):Int)=0 from rfl]at this
   rw[this,qB];have c':(a::l).length<=60:=oA
   simp only[List.drop_zero];rw[show decide (1<=(a::l).length)=true by simp,decide_eq_true c'];rfl
  ·rw[a7 (by simp only[decide_eq_false_iff_not];exact c)]
   have c':¬(a::l).length<=60:=oA
   rw[decide_eq_false c'];simp
@[simp] def turn_eq(u:ov):yv u=some (decide (fw u)):=by
 unfold yv;simp only[zones_within_eq,qB,zi];have key:∀b:Bool,decide (fw u)=b->(fw u->b=true)/\(¬fw u->b=false):=fun b h=>⟨fun k=>by rw[← h,decide_eq_true k],fun k=>by rw[← h,decide_eq_false k]⟩
 generalize hb:decide (fw u)=b;obtain⟨k1,k2⟩:=key b hb;clear key hb;unfold fw TOk at k1 k2
 repeat' split
 all_goals first|(rw[k2 oA])|skip
 congr 1;rw[Bool.eq_iff_iff,decide_eq_true_iff];constructor
 ·intro q;exact k1 oA
 ·intro q;by_cases c:0<=u.2.2.2/\u.2.2.2<=1439
  ·exact c
  ·have:=k2 oA;rw[this]at q;cases q
def zw(z:cy):Prop:=z.2.2.2.2.1=0/\z.2.2.2.2.2.1=0/\z.2.2.2.2.2.2.1=0/\z.2.2.2.2.2.2.2=0
instance(z:cy):Decidable (zw z):=by unfold zw;infer_instance
def zo6(u:ov):((u.1==(0:Int))&&((u.2.1==(0:Int))&&((u.2.2.1==(0:Int))&&((u.2.2.2==(0:Int))&&true))))=decide (u.1=0/\u.2.1=0/\u.2.2.1=0/\u.2.2.2=0):=by
 rw[Bool.eq_iff_iff,decide_eq_true_iff];simp
def qe(z:cy):lk:=
 if qam z.1=false then⟨10,-3⟩ else if ¬(-900<=z.2.1/\z.2.1<=900) then⟨3,-4⟩ else
 if ki z then(if z.2.2.1≠0 then⟨5,-5⟩ else if ¬zw z then⟨5,-5⟩ else⟨0,0⟩) else
 if ¬(-900<=z.2.2.1/\z.2.2.1<=900) then⟨3,-5⟩ else if ¬(z.2.1+1<=z.2.2.1/\z.2.2.1<=z.2.1+180) then⟨3,-5⟩ else
 if ¬fw z.2.2.2.1 then⟨3,-6⟩ else if ¬fw z.2.2.2.2 then⟨3,-7⟩ else if z.2.2.2.1.1=z.2.2.2.2.1 then⟨5,-7⟩ else⟨0,0⟩
def qdu{α:Type}{a b:Int}{x y:α}:(bif a != b then x else y)=if a≠b then x else y:=by
 by_cases h:a=b
 ·rw[a7 (by simp[h]),qW (by simp[h])]
 ·rw[a6 (by simp[h]),qX h]
def qdt{α:Type}{a b:Int}{x y:α}:(bif a==b then x else y)=if a=b then x else y:=by
 by_cases h:a=b
 ·rw[a6 (by simp[h]),qX h]
 ·rw[a7 (by simp[h]),qW h]
def zpi(fu:Nat)(z:cy)(hs:(z.1.length:Int)<9223372036854775808)(hf:z.1.length<fu):qcy fu z=some (qe z):=by
 unfold qcy qe;rw[zc4 fu _ hs hf];by_cases hn:qam z.1=false
 ·rw[qX hn,qB,a6 (by rw[hn];rfl)];rfl
 ·rw[qW hn,qB,a7 (by simp at hn;rw[hn];rfl),zones_within_eq,qB]
  by_cases c1 : -900<=z.2.1/\z.2.1<=900
  ·rw[a7 (by simp[c1]),qW (by simp[c1])]
   rw[bz (x:=z.2.1+1) oA oA,bz (x:=z.2.1+180) oA oA,zo6]
   rw[show decide (z.2.2.2.2.1=0/\z.2.2.2.2.2.1=0/\z.2.2.2.2.2.2.1=0/\z.2.2.2.2.2.2.2=0)=decide (zw z) from rfl]
   simp only[qcz,qc0,ql4,qT,fixed_eq,qB,fault_eq,none_eq,zones_within_eq,turn_eq,qyv,zi,qdu,qdt]
   repeat' split
   all_goals first|rfl|contradiction|simp_all
  ·rw[a6 oD,qX c1];rfl
def zok(z:cy)(h:(qe z).1=0):qe z=⟨0,0⟩ /\ -900<=z.2.1/\z.2.1<=900/\(ki z\/ZT z):=by
 unfold qe at h ⊢;by_cases hn:qam z.1=false
 ·rw[qX hn]at h;simp at h
 rw[qW hn]at h ⊢;by_cases c1:¬(-900<=z.2.1/\z.2.1<=900)
 ·rw[qX c1]at h;simp at h
 rw[qW c1]at h ⊢;have c1' : -900<=z.2.1/\z.2.1<=900:=oA
 by_cases c2:ki z
 ·rw[qX c2]at h ⊢;by_cases c3:z.2.2.1≠0
  ·rw[qX c3]at h;simp at h
  rw[qW c3]at h ⊢;by_cases c4:¬zw z
  ·rw[qX c4]at h;simp at h
  rw[qW c4];exact⟨rfl,c1'.1,c1'.2,.inl c2⟩
 rw[qW c2]at h ⊢;by_cases c3:¬(-900<=z.2.2.1/\z.2.2.1<=900)
 ·rw[qX c3]at h;simp at h
 rw[qW c3]at h ⊢;by_cases c4:¬(z.2.1+1<=z.2.2.1/\z.2.2.1<=z.2.1+180)
 ·rw[qX c4]at h;simp at h
 rw[qW c4]at h ⊢;by_cases c5:¬fw z.2.2.2.1
 ·rw[qX c5]at h;simp at h
 rw[qW c5]at h ⊢;by_cases c6:¬fw z.2.2.2.2
 ·rw[qX c6]at h;simp at h
 rw[qW c6]at h ⊢;by_cases c7:z.2.2.2.1.1=z.2.2.2.2.1
 ·rw[qX c7]at h;simp at h
 rw[qW c7];exact⟨rfl,c1'.1,c1'.2,.inr ⟨c1'.1,c1'.2,oA,oA,oA,oA,Classical.not_not.1 c5,Classical.not_not.1 c6,c7⟩⟩
noncomputable def qo3(z:cy)(Y t:Int):Int:=if ki z then z.2.1 else qar z (Y-1) (Y+1) t
noncomputable def up(z:cy)(t:Int):Int:=(ib ((t+60*z.2.1)/86400)).1
def vg(z:cy)(t:Int):Prop := -719162<=(t+60*z.2.1)/86400/\(t+60*z.2.1)/86400<=741807
instance(z:cy)(t:Int):Decidable (vg z t):=by unfold vg;infer_instance
noncomputable def ql7(z:cy)(t:Int):Int×lk:=
 if ¬(-68719476736<=t/\t<=68719476736) then(0,⟨3,-2⟩) else
 if ¬vg z t then(0,⟨3,-8⟩) else if ¬(2<=up z t/\up z t<=3999) then(0,⟨3,-8⟩) else(qo3 z (up z t) t,⟨0,0⟩)
noncomputable def ge(z:cy)(t:Int):Int×lk:=if(qe z).1≠0 then(0,qe z) else ql7 z t
def zpe(fu:Nat)(hf:20<=fu)(z:cy)(h:ki z\/ZT z)(t Y:Int)(h1:2<=Y)(h2:Y<=3999):tu fu z t Y=some (qo3 z Y t):=by
 unfold qo3;by_cases c:ki z
 ·rw[qX c];unfold tu;rw[fixed_eq,qB,a6 (by simp[c])]
 ·rw[qW c];exact zpf fu hf z (h.resolve_left c) t Y h1 h2
def zo5(fu:Nat)(hf:20<=fu)(z:cy)(hs:(z.1.length:Int)<9223372036854775808)(hf2:z.1.length<fu)(t:Int):yn fu z t=some (ge z t):=by
 unfold yn ge;rw[zpi fu z hs hf2,qB,failed_eq,qB,qdu];by_cases c:(qe z).1≠0
 ·rw[qX c,qX c]
 ·rw[qW c,qW c];obtain⟨e,s1,s2,hz⟩:=zok z (Classical.not_not.1 c);unfold ql7;rw[time_eq,qB];by_cases c1 : -68719476736<=t/\t<=68719476736
  ·rw[a7 (by simp[c1]),qW (fun q=>q c1),qzc fu hf,qB]
   unfold mq;rw[qW (fun q=>q c1),qW (fun q=>q ⟨s1,s2⟩)]
   by_cases c2:vg z t
   ·rw[qW (by unfold vg at c2;omega),qW (fun q=>q c2),failed_eq,qB,a7,zones_within_eq,qB]
    have ey:(qne ((t+60*z.2.1)/86400) ((t+60*z.2.1)%86400) z.2.1).1=up z t:=rfl;simp only[ey];by_cases c3:2<=up z t/\up z t<=3999
    ·rw[a7 (by simp[c3]),qW (fun q=>q c3),zpe fu hf z hz _ _ c3.1 c3.2];rfl
    ·rw[a6 oD,qX c3];rfl
   ·rw[qX (by unfold vg at c2;omega),qX c2];rfl
  ·rw[a6 oD,qX c1];rfl
end Go.Sym
namespace Go.Sym
def fl{α:Type}{p:Prop}[Decidable p]{x y:α}(h:p:=by first|omega|simp;done|simp;omega):(bif decide p then x else y)=x:=a6 (decide_eq_true h)
def qm5{α:Type}{p:Prop}[Decidable p]{x y:α}(h:¬p):(bif decide p then x else y)=y:=a7 (decide_eq_false h)
def qm6{α:Type}{x y:α}:(bif !true then x else y)=y:=rfl
def q92{α:Type}{a b:UInt8}{x y:α}:(bif a==b then x else y)=if a=b then x else y:=by
 by_cases h:a=b
 ·subst h;simp
 ·rw[a7 (by simpa using h),qW h]
def zb0{α:Type}(ab:List α)(c:α)(aa:List α):al (ab++c::aa) (ab.length:Int)=some c:=by
 unfold al;rw[qX];simp
def zde(k:Nat)(h:k<9223372036854775807:=by omega):af ((k:Int)+1)=((k+1:Nat):Int):=by rw[bz];omega
def kp(c:UInt8):Bool:=decide (48<=c.toNat/\c.toNat<=57)
def dv(acc:Nat)(l:Bs):Nat:=l.foldl (fun a c=>10*a+(c.toNat-48)) acc
def qny(acc:Nat):dv acc []=acc:=rfl
def o7(acc:Nat)(c:UInt8)(r:Bs):dv acc (c::r)=dv (10*acc+(c.toNat-48)) r:=by unfold dv;rw[List.foldl_cons]
def qzt:∀(l:Bs)(acc B:Nat),acc<B->l.all kp=true->dv acc l<B*10 ^ l.length
 |[],acc,B,h,_=>by rw[qny];simpa using h|c::r,acc,B,h,hd=>by
  rw[List.all_cons,qA]at hd;have hc:=of_decide_eq_true hd.1;have:=qzt r (10*acc+(c.toNat-48)) (B*10) oA hd.2
  rw[o7,qL,Nat.pow_succ,Nat.mul_comm (10 ^ r.length),← Nat.mul_assoc];exact this
def q17:∀(l:Bs)(k acc:Nat),l.all kp=true->l.length<=k->acc<10 ^ (15-k)->k<=15->Lib.parseUint10 acc l = .ok (dv acc l)
 |[],_,_,_,_,_,_=>rfl|c::r,k,acc,h,hl,ha,hk=>by
  rw[List.all_cons,qA]at h;have hc:=of_decide_eq_true h.1;simp only[qL]at hl;have hp:10 ^ (15-(k-1))=10 ^ (15-k)*10:=by rw[show 15-(k-1)=15-k+1 by omega,Nat.pow_succ]
  have hle:10 ^ (15-k)<=10 ^ 15:=Nat.pow_le_pow_right oA oA
  have h15:(10:Nat) ^ 15=1000000000000000:=oF
  rw[Lib.parseUint10,qX hc,qW,qW,o7,show acc*10+(c.toNat-48)=10*acc+(c.toNat-48) by omega]
  exact q17 r (k-1) _ h.2 oA (by rw[hp];omega) oA
def q9s(l:Bs)(h:l.all kp=true)(h0:l≠[])(h6:l.length<=6):qm l=some (dv 0 l:Int):=by
 have hu:=q17 l 6 0 h h6 oF oA
 have hlt:=qzt l 0 1 oA h
 have hp:10 ^ l.length<=10 ^ 6:=Nat.pow_le_pow_right oA h6
 have h15:(10:Nat) ^ 6=1000000:=oF
 unfold qm;rw[fl]
 cases l with
 |nil=>exact absurd rfl h0|cons c r=>
  rw[List.all_cons,qA]at h;have hc:=of_decide_eq_true h.1;have:Lib.atoiAll (c::r) = .ok (dv 0 (c::r):Int):=by
   unfold Lib.atoiAll Lib.parseMag;simp only;rw[qW (show ¬(c.toNat=43\/c.toNat=45) by omega),qW (show ¬(c::r=[]) by simp),hu]
   simp only;rw[qW,qW,qW]
  rw[this]
def za4(fu n:Nat):∀(ab aa:Bs),aa.length<n->ab.length+aa.length<100000000->xh fu n (ab++aa) ((ab.length+aa.length:Nat):Int) (ab.length:Int)=some (aa.all kp && !(ab++aa==[])):=by
 induction n with
 |zero=>intro ab aa h;omega|succ n ih=>
  intro ab aa h hb;rw[xh,qg7]
  cases aa with
  |nil=>rw[qm5 oC];rfl|cons c aa=>
   simp only[qL]at h hb;have ih:=ih (ab++[c]) aa oA oD
   simp only[qM,qL,qZ,qS,wM,wO]at ih;have e1:(48:UInt8).toNat=48:=rfl;have e2:(57:UInt8).toNat=57:=rfl;rw[fl (by simp only[qL];omega),zb0,qB,zde _,show ab.length+(c::aa).length=ab.length+1+aa.length by simp only[qL];omega,zi,qB,zi,List.all_cons]
   by_cases h1:c<48
   ·rw[qX h1,show kp c=false from decide_eq_false (by rw[UInt8.lt_iff_toNat_lt]at h1;omega)];rfl
   ·rw[qW h1];by_cases h2:57<c
    ·rw[qX h2,show kp c=false from decide_eq_false (by rw[UInt8.lt_iff_toNat_lt]at h2;omega)];rfl
    ·rw[qW h2,show kp c=true from decide_eq_true (by rw[UInt8.lt_iff_toNat_lt]at h1 h2;omega),ih];rfl
def dg(n:Nat):UInt8:=UInt8.ofNat (48+n)
def two(n:Nat):Bs:=[dg (n/10),dg (n%10)]
def du(n:Nat):Bs:=[dg (n/1000),dg (n/100%10),dg (n/10%10),dg (n%10)]
def nq(n:Nat)(h:n<10:=by omega):(dg n).toNat=48+n:=by
 unfold dg;rw[UInt8.toNat_ofNat'];omega
def ux(n:Nat)(h:n<10):kp (dg n)=true:=decide_eq_true (by rw[nq n h];omega)
def zfd(n:Nat)(h:n<100):dv 0 (two n)=n:=by
 unfold two;rw[o7,o7,qny,nq _,nq _];omega
def zbp(n:Nat)(h:n<10000):dv 0 (du n)=n:=by
 unfold du;rw[o7,o7,o7,o7,qny,nq _,nq _,nq _,nq _];omega
def zfc(n:Nat)(h:n<100):(two n).all kp=true:=by
 unfold two;simp only[List.all_cons,List.all_nil,ux _ (show n/10<10 by omega),ux _ (show n%10<10 by omega),Bool.and_true]
def zbo(n:Nat)(h:n<10000):(du n).all kp=true:=by
 unfold du;simp only[List.all_cons,List.all_nil,ux _ (show n/1000<10 by omega),ux _ (show n/100%10<10 by omega),ux _ (show n/10%10<10 by omega),ux _ (show n%10<10 by omega),Bool.and_true]
def q1s(fu:Nat)(hfu:100<=fu)(l:Bs)(k:Int)(h:l.all kp=true)(h0:l≠[])(h6:l.length<=6)(hk:(l.length:Int)=k):iu fu l k=some ((dv 0 l:Int),true):=by
 have hd:=za4 fu fu [] l oA oD
 simp only[List.nil_append,qZ,wO]at hd;rw[show((0:Nat):Int)=0 from rfl]at hd
 unfold iu qg6;rw[q9s l h h0 h6,qB,qdt,qX hk,hd,qB,h,show(l==[])=false by simpa using h0];rfl
def vl(fu:Nat)(hfu:100<=fu)(n:Nat)(h:n<100:=by omega):iu fu (two n) 2=some ((n:Int),true):=by
 rw[q1s fu hfu _ _ (zfc n h) (by simp[two]) (by simp[two]) (by simp[two]),zfd n h]
def zdb(fu:Nat)(hfu:100<=fu)(n:Nat)(h:n<10000:=by omega):iu fu (du n) 4=some ((n:Int),true):=by
 rw[q1s fu hfu _ _ (zbo n h) (by simp[du]) (by simp[du]) (by simp[du]),zbp n h]
def ng:Nat->(Nat->Bool)->Bool|0,_=>true|n+1,f=>bif f n then ng n f else false
def qu(f:Nat->Bool):∀(n k:Nat),ng n f=true->k<n->f k=true
 |n+1,k,h,hk=>by
  rw[ng]at h;cases q:f n
  ·rw[q]at h;cases h
  ·rw[q]at h;by_cases e:k=n
   ·rw[e];exact q
   ·exact qu f n k h oA
def qfg(a:Option Bs)(b:Bs):Bool:=match a with|some x=>x==b|none=>false
def q1z{a:Option Bs}{b:Bs}(h:qfg a b=true):a=some b:=by
 cases a with
 |none=>cases h
 |some x=>exact congrArg some (by simpa [qfg] using h)
def zdk:ng 100 (fun n=>qfg (iv (n:Int) 2) (two n))=true:=oB
def vm(n:Nat)(h:n<100:=by omega):iv (n:Int) 2=some (two n):=q1z (qu _ 100 n zdk h)
end Go.Sym
