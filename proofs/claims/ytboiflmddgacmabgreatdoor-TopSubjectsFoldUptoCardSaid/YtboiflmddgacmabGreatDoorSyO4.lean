/- What the claim rests on, part 4: gathered texts. -/
import Derived.Shelf.LaysC
import Derived.Shelf.LaysM
import Derived.Shelf.SlGeneric
import Derived.Shelf.SlLaysF0
import Derived.Ground.NamesProg
import Derived.Test.YtboiflmddgacmabGreatDoorProg
import Derived.Below
import Derived.Tactics
import Derived.Tactics2
import Derived.Laws.AppendOwn
import Derived.Shelf.Strconv.Itoa4
import Derived.Shelf.Bytes.SlIndexWhole
import Derived.Shelf.Strconv.AtoiAll
import Derived.Shelf.Strconv.ErrVarAll
import Derived.Shelf.SlicesE.Clone
import Derived.Shelf.SlSortCmp.NoneTotal
import Derived.Shelf.Strings.BuilderCap
import Derived.Shelf.Unicode.DecodeAny
import Derived.Laws.DeepStrings4
import Derived.Deep.LoopGhost
import Derived.Deep.DeepCutAuto
import Derived.Deep.DeepFit
import Derived.Deep.DeepMust
import Derived.Shelf.Unicode.ValidAny
import Derived.Shelf.Strings.Count
import Derived.Deep.OwnRows
import Derived.Laws.CopyRow
import Derived.Laws.IdiomStrings
import Derived.Laws.CopyOwn
import Derived.Lib.SlBytesConst
import Derived.Test.YtboiflmddgacmabGreatDoorRows
import Derived.Defers
import Derived.Laws.Pointers
import Derived.Laws.LoneSync
import Derived.RegionTactic
import Derived.RegionCalls
import Derived.ChangeAlike
import Derived.Laws.NewBlocks
import Derived.Laws.ByValue
import Derived.Shelf.Strings.Repeat
import Derived.Shelf.Strings.Replace
import Derived.Shelf.Strings.BuilderK
import Derived.Shelf.Strings.OnBuilder
import Derived.Shelf.Strings.Search2
import Derived.Test.YtboiflmddgacmabGreatDoorSyO3
set_option maxRecDepth 100000
set_option linter.defProp false
set_option linter.unusedSimpArgs false
set_option linter.unusedVariables false
namespace Go.Proofs
open Go.Sym(oB oE)
open Go.Shelf
def Tryz.lfn{α:Type}{a:Option α}{b c:α}(h:a=some b)(e:b=c:=by kernel_rfl):a=some c:=h.trans (congrArg some e)
def Tryz.uniR:Go.Shelf.Ren:=⟨fun|99=>44|105=>114|115=>42|129=>217|138=>138|143=>82|154=>127|155=>86|156=>21|165=>52|166=>31|167=>30|169=>32|170=>156|171=>79|172=>277|185=>187|187=>103|195=>170|196=>15|197=>94|205=>304|206=>80|212=>155|217=>131|218=>171|219=>92|224=>133|225=>132|240=>67|241=>90|243=>116|244=>283|245=>284|246=>158|247=>288|253=>211|254=>212|255=>141|259=>43|260=>135|263=>188|264=>189|266=>168|267=>134|270=>287|276=>100|277=>128|279=>289|280=>290|281=>291|282=>292|283=>191|284=>192|285=>193|286=>194|287=>302|291=>237|314=>169|316=>303|317=>216|318=>218|319=>219|320=>220|321=>310|322=>311|337=>245|338=>246|n=>n,fun|0=>0|2=>2|3=>3|4=>4|5=>5|9=>9|12=>12|20=>20|21=>21|31=>27|37=>32|46=>85|51=>148|53=>120|70=>60|72=>62|75=>66|76=>68|80=>70|85=>354|105=>133|109=>210|119=>81|127=>102|138=>83|139=>84|143=>377|145=>379|146=>222|148=>256|164=>140|167=>353|168=>356|171=>260|173=>263|175=>366|210=>369|212=>298|213=>299|232=>339|233=>340|n=>n,fun|1=>2|3=>0|4=>1|15=>6|16=>7|17=>3|18=>4|19=>5|n=>n⟩
abbrev Tryz.laysM171_ren:Go.Shelf.Ren:=Tryz.uniR
def Tryz.laysM171:Go.Proofs.LaysM.n171 Tryz.prog Tryz.laysM171_ren:={
 mixed:=oB
 f129:=Tryz.lfn Tryz.func217
 f171:=Tryz.lfn Tryz.func79
 f243:=Tryz.lfn Tryz.func116
 f246:=Tryz.lfn Tryz.func158
 f283:=Tryz.lfn Tryz.func191
 f284:=Tryz.lfn Tryz.func192
 f285:=Tryz.lfn Tryz.func193
 f286:=Tryz.lfn Tryz.func194
 f317:=Tryz.lfn Tryz.func216
 f318:=Tryz.lfn Tryz.func218
 f319:=Tryz.lfn Tryz.func219
 f320:=Tryz.lfn Tryz.func220
 f337:=Tryz.lfn Tryz.func245
 f338:=Tryz.lfn Tryz.func246
 t0:=Tryz.underlying0
 a0:=Tryz.isAgg0
 z0:=Tryz.sizeOf0
 v0:=Tryz.zeroValue0
 t2:=Tryz.underlying2
 a2:=Tryz.isAgg2
 z2:=Tryz.sizeOf2
 v2:=Tryz.zeroValue2
 t3:=Tryz.underlying3
 a3:=Tryz.isAgg3
 z3:=Tryz.sizeOf3
 v3:=Tryz.zeroValue3
 t4:=Tryz.underlying4
 a4:=Tryz.isAgg4
 z4:=Tryz.sizeOf4
 v4:=Tryz.zeroValue4
 t5:=Tryz.underlying5
 a5:=Tryz.isAgg5
 z5:=Tryz.sizeOf5
 v5:=Tryz.zeroValue5
 t9:=Tryz.underlying9
 a9:=Tryz.isAgg9
 z9:=Tryz.sizeOf9
 v9:=Tryz.zeroValue9
 t20:=Tryz.underlying20
 a20:=Tryz.isAgg20
 z20:=Tryz.sizeOf20
 v20:=Tryz.zeroValue20
 t37:=Tryz.underlying32
 a37:=Tryz.isAgg32
 z37:=Tryz.sizeOf32
 v37:=Tryz.zeroValue32
 t46:=Tryz.underlying85
 a46:=Tryz.isAgg85
 z46:=Tryz.sizeOf85
 v46:=Tryz.zeroValue85
 t51:=Tryz.underlying148
 a51:=Tryz.isAgg148
 z51:=Tryz.sizeOf148
 v51:=Tryz.zeroValue148
 t53:=Tryz.underlying120
 a53:=Tryz.isAgg120
 z53:=Tryz.sizeOf120
 v53:=Tryz.zeroValue120
 t171:=Tryz.underlying260
 a171:=Tryz.isAgg260
 z171:=Tryz.sizeOf260
 v171:=Tryz.zeroValue260
 t173:=Tryz.underlying263
 a173:=Tryz.isAgg263
 z173:=Tryz.sizeOf263
 v173:=Tryz.zeroValue263
 t212:=Tryz.underlying298
 a212:=Tryz.isAgg298
 z212:=Tryz.sizeOf298
 v212:=Tryz.zeroValue298
 t213:=Tryz.underlying299
 a213:=Tryz.isAgg299
 z213:=Tryz.sizeOf299
 t232:=Tryz.underlying339
 a232:=Tryz.isAgg339
 z232:=Tryz.sizeOf339
 v232:=Tryz.zeroValue339
 t233:=Tryz.underlying340
 a233:=Tryz.isAgg340
 z233:=Tryz.sizeOf340
 v233:=Tryz.zeroValue340
 g17:=oB
 g18:=oB
 g19:=oB
 i0:=oB
 i2:=oB
 i3:=oB
 i4:=oB
 i5:=oB
 i9:=oB
 i20:=oB
 i37:=oB
 i46:=oB
 i51:=oB
 i53:=oB
 i171:=oB
 i173:=oB
 i212:=oB
 i232:=oB
 i233:=oB
 m17:=oB
 m18:=oB
 m19:=by kernel_rfl }
abbrev Tryz.laysC172_ren:Go.Shelf.Ren:=Tryz.uniR
def Tryz.laysC172:Go.Proofs.LaysC.n172 Tryz.prog Tryz.laysC172_ren:={ Tryz.laysM171 with
 f172:=Tryz.lfn Tryz.func277
 f205:=Tryz.lfn Tryz.func304
 f244:=Tryz.lfn Tryz.func283
 f245:=Tryz.lfn Tryz.func284
 f247:=Tryz.lfn Tryz.func288
 f279:=Tryz.lfn Tryz.func289
 f280:=Tryz.lfn Tryz.func290
 f281:=Tryz.lfn Tryz.func291
 f282:=Tryz.lfn Tryz.func292
 f287:=Tryz.lfn Tryz.func302
 f316:=Tryz.lfn Tryz.func303
 f321:=Tryz.lfn Tryz.func310
 f322:=Tryz.lfn Tryz.func311
 t21:=Tryz.underlying21
 a21:=Tryz.isAgg21
 z21:=Tryz.sizeOf21
 v21:=Tryz.zeroValue21
 t75:=Tryz.underlying66
 a75:=Tryz.isAgg66
 z75:=Tryz.sizeOf66
 v75:=Tryz.zeroValue66
 t76:=Tryz.underlying68
 a76:=Tryz.isAgg68
 z76:=Tryz.sizeOf68
 v76:=Tryz.zeroValue68
 t85:=Tryz.underlying354
 a85:=Tryz.isAgg354
 z85:=Tryz.sizeOf354
 v85:=Tryz.zeroValue354
 t127:=Tryz.underlying102
 a127:=Tryz.isAgg102
 z127:=Tryz.sizeOf102
 v127:=Tryz.zeroValue102
 t143:=Tryz.underlying377
 a143:=Tryz.isAgg377
 z143:=Tryz.sizeOf377
 v143:=Tryz.zeroValue377
 t145:=Tryz.underlying379
 a145:=Tryz.isAgg379
 z145:=Tryz.sizeOf379
 v145:=Tryz.zeroValue379
 t167:=Tryz.underlying353
 a167:=Tryz.isAgg353
 z167:=Tryz.sizeOf353
 v167:=Tryz.zeroValue353
 t168:=Tryz.underlying356
 a168:=Tryz.isAgg356
 z168:=Tryz.sizeOf356
 v168:=Tryz.zeroValue356
 t175:=Tryz.underlying366
 a175:=Tryz.isAgg366
 z175:=Tryz.sizeOf366
 v175:=Tryz.zeroValue366
 t210:=Tryz.underlying369
 a210:=Tryz.isAgg369
 z210:=Tryz.sizeOf369
 v210:=Tryz.zeroValue369
 g15:=oB
 g16:=oB
 t80:=Tryz.underlying70
 a80:=Tryz.isAgg70
 z80:=Tryz.sizeOf70
 v80:=Tryz.zeroValue70
 i21:=oB
 i75:=oB
 i76:=oB
 i80:=oB
 i85:=oB
 i127:=oB
 i143:=oB
 i145:=oB
 i167:=oB
 i168:=oB
 i175:=oB
 i210:=oB
 m15:=oB
 m16:=oB
 c0:=oB
 c2:=oB
 c3:=oB
 c4:=oB
 c5:=oB
 c9:=oB
 c20:=oB
 c21:=oB
 c37:=oB
 c46:=oB
 c51:=oB
 c53:=oB
 c75:=oB
 c76:=oB
 c80:=oB
 c85:=oB
 c127:=oB
 c143:=oB
 c145:=oB
 c167:=oB
 c168:=oB
 c171:=oB
 c173:=oB
 c175:=oB
 c210:=oB
 c212:=oB
 c213:=oB
 c232:=oB
 c233:=by kernel_rfl }
abbrev Tryz.lays185_ren:Go.Shelf.Ren:=Tryz.uniR
def Tryz.lays185:Go.Proofs.Lays.n185 Tryz.prog Tryz.lays185_ren:={ Tryz.laysM171 with
 f115:=Tryz.lfn Tryz.func42
 f185:=Tryz.lfn Tryz.func187
 f187:=Tryz.lfn Tryz.func103
 f224:=Tryz.lfn Tryz.func133
 f253:=Tryz.lfn Tryz.func211
 f254:=Tryz.lfn Tryz.func212
 f255:=Tryz.lfn Tryz.func141
 f291:=Tryz.lfn Tryz.func237
 t146:=Tryz.underlying222
 a146:=Tryz.isAgg222
 z146:=Tryz.sizeOf222
 v146:=Tryz.zeroValue222
 g1:=by kernel_rfl }
abbrev Tryz.lays138_ren:Go.Shelf.Ren:=Tryz.uniR
def Tryz.lays138:Go.Proofs.Lays.n138 Tryz.prog Tryz.lays138_ren:={ Tryz.laysM171,Tryz.lays185 with
 f138:=Tryz.lfn Tryz.func138
 f143:=Tryz.lfn Tryz.func82
 f195:=Tryz.lfn Tryz.func170
 f217:=Tryz.lfn Tryz.func131
 f218:=Tryz.lfn Tryz.func171
 f219:=Tryz.lfn Tryz.func92
 f225:=Tryz.lfn Tryz.func132
 f266:=Tryz.lfn Tryz.func168
 f267:=Tryz.lfn Tryz.func134
 f314:=Tryz.lfn Tryz.func169 }
abbrev Tryz.lays165_ren:Go.Shelf.Ren:=Tryz.uniR
def Tryz.lays165:Go.Proofs.Lays.n165 Tryz.prog Tryz.lays165_ren:={ Tryz.laysM171 with
 f165:=Tryz.lfn Tryz.func52
 f240:=Tryz.lfn Tryz.func67
 f241:=Tryz.lfn Tryz.func90
 f276:=Tryz.lfn Tryz.func100
 f277:=Tryz.lfn Tryz.func128
 t70:=Tryz.underlying60
 a70:=Tryz.isAgg60
 z70:=Tryz.sizeOf60
 v70:=Tryz.zeroValue60
 t72:=Tryz.underlying62
 a72:=Tryz.isAgg62
 z72:=Tryz.sizeOf62
 v72:=Tryz.zeroValue62
 t164:=Tryz.underlying140
 a164:=Tryz.isAgg140
 z164:=Tryz.sizeOf140
 v164:=Tryz.zeroValue140 }
abbrev Tryz.lays169_ren:Go.Shelf.Ren:=Tryz.uniR
def Tryz.lays169:Go.Proofs.Lays.n169 Tryz.prog Tryz.lays169_ren:={ Tryz.laysM171,Tryz.lays165,Tryz.laysC172 with
 f169:=Tryz.lfn Tryz.func32 }
abbrev Tryz.lays196_ren:Go.Shelf.Ren:=Tryz.uniR
def Tryz.lays196:Go.Proofs.Lays.n196 Tryz.prog Tryz.lays196_ren:={ Tryz.laysM171 with
 f196:=Tryz.lfn Tryz.func15
 f259:=Tryz.lfn Tryz.func43
 t12:=Tryz.underlying12
 a12:=Tryz.isAgg12
 z12:=Tryz.sizeOf12
 v12:=Tryz.zeroValue12
 t119:=Tryz.underlying81
 a119:=Tryz.isAgg81
 z119:=Tryz.sizeOf81
 t138:=Tryz.underlying83
 a138:=Tryz.isAgg83
 z138:=Tryz.sizeOf83
 v138:=Tryz.zeroValue83
 t139:=Tryz.underlying84
 a139:=Tryz.isAgg84
 z139:=Tryz.sizeOf84
 v139:=Tryz.zeroValue84
 g3:=oB
 g4:=by kernel_rfl }
abbrev Tryz.lays197_ren:Go.Shelf.Ren:=Tryz.uniR
def Tryz.lays197:Go.Proofs.Lays.n197 Tryz.prog Tryz.lays197_ren:={ Tryz.laysM171,Tryz.laysC172,Tryz.lays196 with
 f197:=Tryz.lfn Tryz.func94
 f260:=Tryz.lfn Tryz.func135
 t105:=Tryz.underlying133
 a105:=Tryz.isAgg133
 z105:=Tryz.sizeOf133
 v105:=Tryz.zeroValue133 }
abbrev Tryz.lays105_ren:Go.Shelf.Ren:=Tryz.uniR
def Tryz.lays105:Go.Proofs.Lays.n105 Tryz.prog Tryz.lays105_ren:={ Tryz.laysM171,Tryz.lays165,Tryz.lays169,Tryz.laysC172,Tryz.lays185 with
 f99:=Tryz.lfn Tryz.func44
 f105:=Tryz.lfn Tryz.func114
 f166:=Tryz.lfn Tryz.func31
 f170:=Tryz.lfn Tryz.func156
 f206:=Tryz.lfn Tryz.func80
 f212:=Tryz.lfn Tryz.func155
 f263:=Tryz.lfn Tryz.func188
 f264:=Tryz.lfn Tryz.func189
 t109:=Tryz.underlying210
 a109:=Tryz.isAgg210
 z109:=Tryz.sizeOf210
 v109:=Tryz.zeroValue210
 t148:=Tryz.underlying256
 a148:=Tryz.isAgg256
 z148:=Tryz.sizeOf256
 v148:=Tryz.zeroValue256 }
abbrev Tryz.lays155_ren:Go.Shelf.Ren:=Tryz.uniR
def Tryz.lays155:Go.Proofs.Lays.n155 Tryz.prog Tryz.lays155_ren:={ Tryz.laysM171,Tryz.lays138,Tryz.lays165,Tryz.lays105,Tryz.lays169,Tryz.lays197,Tryz.lays185,Tryz.laysC172,Tryz.lays196 with
 f154:=Tryz.lfn Tryz.func127
 f155:=Tryz.lfn Tryz.func86 }
abbrev Tryz.lays156_ren:Go.Shelf.Ren:=Tryz.uniR
def Tryz.lays156:Go.Proofs.Lays.n156 Tryz.prog Tryz.lays156_ren:={ Tryz.laysM171,Tryz.lays165,Tryz.lays105,Tryz.lays169,Tryz.laysC172 with
 f156:=Tryz.lfn Tryz.func21
 t31:=Tryz.underlying27
 a31:=Tryz.isAgg27
 z31:=Tryz.sizeOf27
 v31:=Tryz.zeroValue27 }
abbrev Tryz.lays219_ren:Go.Shelf.Ren:=Tryz.uniR
def Tryz.lays219:Go.Proofs.Lays.n219 Tryz.prog Tryz.lays219_ren:={ Tryz.laysM171,Tryz.lays138,Tryz.lays185 with }
def Tryz.sortP_ren:Go.Shelf.Ren:=⟨fun|6=>279|15=>286|14=>285|28=>301|29=>217|20=>293|21=>294|22=>295|23=>296|24=>297|25=>298|26=>299|27=>300|46=>305|47=>306|48=>307|49=>308|50=>309|57=>312|n=>n,fun|22=>326|24=>328|25=>350|3=>3|39=>85|0=>0|53=>148|55=>120|4=>4|46=>361|45=>360|50=>268|5=>5|9=>9|66=>371|70=>375|76=>380|77=>381|n=>n,fun|n=>n⟩
def Tryz.sortP:Go.Proofs.SlLaysF0.n6 Tryz.prog Tryz.sortP_ren:={
 mixed:=oB
 f6:=⟨Tryz.f279.name,oE,Tryz.lfn Tryz.func279⟩
 f14:=⟨Tryz.f285.name,oE,Tryz.lfn Tryz.func285⟩
 f15:=Tryz.lfn Tryz.func286
 f20:=⟨Tryz.f293.name,oE,Tryz.lfn Tryz.func293⟩
 f21:=⟨Tryz.f294.name,oE,Tryz.lfn Tryz.func294⟩
 f22:=⟨Tryz.f295.name,oE,Tryz.lfn Tryz.func295⟩
 f23:=⟨Tryz.f296.name,oE,Tryz.lfn Tryz.func296⟩
 f24:=⟨Tryz.f297.name,oE,Tryz.lfn Tryz.func297⟩
 f25:=⟨Tryz.f298.name,oE,Tryz.lfn Tryz.func298⟩
 f26:=⟨Tryz.f299.name,oE,Tryz.lfn Tryz.func299⟩
 f27:=⟨Tryz.f300.name,oE,Tryz.lfn Tryz.func300⟩
 f28:=Tryz.lfn Tryz.func301
 f29:=Tryz.lfn Tryz.func217
 f46:=⟨Tryz.f305.name,oE,Tryz.lfn Tryz.func305⟩
 f47:=Tryz.lfn Tryz.func306
 f48:=Tryz.lfn Tryz.func307
 f49:=⟨Tryz.f308.name,oE,Tryz.lfn Tryz.func308⟩
 f50:=⟨Tryz.f309.name,oE,Tryz.lfn Tryz.func309⟩
 f57:=⟨Tryz.f312.name,oE,Tryz.lfn Tryz.func312⟩
 t0:=Tryz.underlying0
 a0:=Tryz.isAgg0
 z0:=Tryz.sizeOf0
 v0:=Tryz.zeroValue0
 t3:=Tryz.underlying3
 a3:=Tryz.isAgg3
 z3:=Tryz.sizeOf3
 v3:=Tryz.zeroValue3
 t4:=Tryz.underlying4
 a4:=Tryz.isAgg4
 z4:=Tryz.sizeOf4
 v4:=Tryz.zeroValue4
 t5:=Tryz.underlying5
 a5:=Tryz.isAgg5
 z5:=Tryz.sizeOf5
 v5:=Tryz.zeroValue5
 t9:=Tryz.underlying9
 a9:=Tryz.isAgg9
 z9:=Tryz.sizeOf9
 v9:=Tryz.zeroValue9
 t22:=Tryz.underlying326
 a22:=Tryz.isAgg326
 z22:=Tryz.sizeOf326
 v22:=Tryz.zeroValue326
 t25:=Tryz.underlying350
 a25:=Tryz.isAgg350
 z25:=Tryz.sizeOf350
 v25:=Tryz.zeroValue350
 t39:=Tryz.underlying85
 a39:=Tryz.isAgg85
 z39:=Tryz.sizeOf85
 v39:=Tryz.zeroValue85
 t45:=Tryz.underlying360
 a45:=Tryz.isAgg360
 z45:=Tryz.sizeOf360
 v45:=Tryz.zeroValue360
 t46:=Tryz.underlying361
 a46:=Tryz.isAgg361
 z46:=Tryz.sizeOf361
 v46:=Tryz.zeroValue361
 t50:=Tryz.underlying268
 a50:=Tryz.isAgg268
 z50:=Tryz.sizeOf268
 v50:=Tryz.zeroValue268
 t53:=Tryz.underlying148
 a53:=Tryz.isAgg148
 z53:=Tryz.sizeOf148
 v53:=Tryz.zeroValue148
 t55:=Tryz.underlying120
 a55:=Tryz.isAgg120
 z55:=Tryz.sizeOf120
 v55:=Tryz.zeroValue120
 t66:=Tryz.underlying371
 a66:=Tryz.isAgg371
 z66:=Tryz.sizeOf371
 v66:=Tryz.zeroValue371
 t70:=Tryz.underlying375
 a70:=Tryz.isAgg375
 z70:=Tryz.sizeOf375
 v70:=Tryz.zeroValue375
 t76:=Tryz.underlying380
 a76:=Tryz.isAgg380
 z76:=Tryz.sizeOf380
 v76:=Tryz.zeroValue380
 t77:=Tryz.underlying381
 a77:=Tryz.isAgg381
 z77:=Tryz.sizeOf381
 v77:=Tryz.zeroValue381 }
end Go.Proofs
namespace Go.Sym
open Go.RowKit
variable[LC]
def bu.data{P:Program}{f:FuncId}{xs:List AV}{r:AV}
  (h:∀(w:World)(G:Gh)(vs:List Value),bp G [] w->aj xs G vs->Calls P f vs.toArray w fun e w'=>∃v,e = .returned v/\ai r G v/\bg w w'):bu P f xs [] r []:=by
 intro w G vs hm hr;refine(h w G vs hm hr).mono ?_;rintro e w' ⟨v,rfl,hv,hs⟩
 refine⟨v,G,rfl,?_,hv⟩;exact(rl hm).extend (new:=[]) (Gh.le.refl G) hs (fun _ _ _ h => .inl h) (fun b o v hv=>by
  have hc:=hm.agree b o v hv;have hlt:=World.block_lt_of_cell? _ _ hc;rw[World.cell?_of_block (w:=w) (hs.block b hlt (fun h=>h))];exact hc) hm.one (fun n bx h=>by cases h) (fun n bx h=>by cases h) (fun n m bx bx' b h=>by cases h)
def bg.of_below{w w':World}(h:Below w.heap.size w w'):bg w w':=⟨h.os,h.tape,h.output,h.size,fun k hk _=>h.block k hk⟩
def bg.refl(w:World):bg w w:=⟨rfl,rfl,rfl,wF _,fun _ _ _=>rfl⟩
def bu.fresh{P:Program}{f:FuncId}{xs:List AV}{τ:Ty}{l:List τ.den}{E:TypeId}
  (h:∀(w:World)(G:Gh)(vs:List Value),bp G [] w->aj xs G vs->Calls P f vs.toArray w fun e w'=>∃ad c us,e = .returned (.slice ad l.length c)/\d8 w' E τ.sz ad l.length c us/\aj (l.flatMap τ.enc) G.data us/\(∀b,cf ad=some b->w.heap.size<=b)/\bg w w') :
  bu P f xs [] (.own 0) [(0,.row τ l E)]:=by
 intro w G vs hm hr;refine(h w G vs hm hr).mono ?_;rintro e w' ⟨ad,c,us,rfl,hrow,hus,hb,hs⟩
 let G':Gh:={ imm:=G.imm,box:=fun _=>none,own:=fun m=>bif Nat.beq m 0 then some (ad,l.length,c) else none }
 have hself:(G'.own 0)=some (ad,l.length,c):=rfl;have hag:∀b o v,G.imm b o=some v->w'.cell? ⟨b,o,none⟩=some v:=fun b o v hv=>by
  have hc:=hm.agree b o v hv;have hlt:=World.block_lt_of_cell? _ _ hc;rw[World.cell?_of_block (w:=w) (hs.block b hlt (fun h=>h))];exact hc
 have hlt:∀b o v,G.imm b o=some v->b<w.heap.size:=fun b o v hv=>World.block_lt_of_cell? _ _ (hm.agree b o v hv)
 have hlk:∀m b,ae [(0,ag.row τ l E)] m=some b->m=0/\b = .row τ l E:=fun m b hh=>by
  simp[ae]at hh;cases hb:Nat.beq 0 m
  ·rw[hb]at hh;cases hh
  ·rw[hb]at hh;simp at hh;exact⟨(qN hb).symm,hh.symm⟩
 have hat:G'.at 0 (.row τ l E)=cf ad:=by
  simp[Gh.at,hself];cases ad<;>rfl
 refine⟨.slice ad l.length c,G',rfl,⟨⟨hag,hm.one,fun m b hh => ?_,fun m m' b b' c' h1 h2 _ _ => ?_,LC.mono (fun _ _ _ h=>h) (fun b o v h=>hs.block b (hlt b o v h) fun h=>h) hm.tab⟩,⟨hs.os,hs.tape,hs.output,hs.size,fun k hk _=>hs.block k hk fun h=>h⟩,fun _ _ _ h=>h,fun _ _ _ h => .inl h,fun m b c' h1 h2 => ?_,fun _ _ _ h=>(by cases h),fun _ _ _ h=>(by cases h)⟩,ad,l.length,c,hself,rfl⟩
 ·obtain⟨rfl,rfl⟩:=hlk m b hh;refine ck.row hself hrow (aj.data_le (fun _ _ _ h=>h) hus) fun b hb' o => ?_
  cases hq:G.imm b o with|none=>rfl|some v=>have:=hlt b o v hq;have:=hb b hb';omega
 ·obtain⟨rfl,_⟩:=hlk m b h1;obtain⟨rfl,_⟩:=hlk m' b' h2;rfl
 ·obtain⟨rfl,rfl⟩:=hlk m b h1;rw[hat]at h2;exact .inl (hb c' h2)
def q8t{P:Program}{G:Gh}{w:World}(hm:bp G [] w){τ:Ty}{l:List τ.den}{v:Value}(h:ai (.sl τ l) G v) :
  ∃news,(∀w,(Builtin.lenOf v).run P w = .ok l.length w)/\(∀w',(∀k,k<w.heap.size->w'.heap[k]? = w.heap[k]?)->(Builtin.firstCells τ.sz l.length v).run P w' = .ok news.toArray w')/\aj (l.flatMap τ.enc) G.data news/\∀u∈news,u.oneCell'=true:=by
 let s:St:={ n:=0,fr:=[],hp:=[],nx:=0,df:=[] }
 have hr:ah w G.data [] G.data s { tmps:=#[],defers:=[] } w:=
  ⟨⟨[],rfl,rfl⟩,rfl,fun i x h=>(by cases h),fun _ _ _=>⟨rfl,rfl⟩,rl ⟨hm.agree,hm.one,fun _ _ h=>(by cases h),fun _ _ _ _ _ h=>(by cases h),hm.tab⟩⟩
 rcases qds hr (x := .sl τ l) (v:=v) (flat:=l.flatMap τ.enc) (n:=l.length) h rfl with⟨b,hb,_⟩|⟨ad,c,us,rfl,h1,h2,h3⟩
 ·cases hb
 ·refine⟨us,fun w=>by simp[Builtin.lenOf],fun w' hw' => ?_,h1,h2⟩
  have hul:us.length=l.length*τ.sz:=by rw[← h1.length,jw]
  cases ad with
  |none=>
   have:us=[]:=by
    rcases h3 with h3|⟨_,_,h3,_⟩
    ·exact h3
    ·cases h3
   subst this;simp[Builtin.firstCells]
  |some ad=>
   have h3':us=[]\/∃b o,some ad=some (⟨b,o,none⟩:Addr)/\∀j u,us[j]? = some u->w'.cell? ⟨b,o+j,none⟩=some u:=by
    rcases h3 with h3|⟨b,o,h4,h5⟩
    ·exact .inl h3
    ·refine .inr ⟨b,o,h4,fun j u hu => ?_⟩
     have hc:=h5 j u hu;rw[World.cell?_of_block (w:=w) (hw' _ (World.block_lt_of_cell? _ _ hc))];exact hc
   have:=zb (P:=P) (w:=w') (ad:=ad) h3';rw[hul]at this;simp[Builtin.firstCells,this]
def q9p{P:Program}{ops:Array Oper}{rest:List Oper}{o:Oper}{a:Act}{w:World}{Q:Exit->Act->World->Prop}(hgd:o.guard=none)(s x:Operand)(t:TypeId)
  (ho:o.op = .call { callee := .builtin .append,args:=#[s,x],argTypes:=#[t,t] }) {E:TypeId} {sz:Nat} (ht:P.underlying t=some (.slice E)) (hz:ji P E=true) (hsz:c8 P E=some sz) (ht2:vo P t=true)
  {ad:Option Addr} {n c:Nat} {us:List Value} (hs:a.eval s = .slice ad n c) (hrow:d8 w E sz ad n c us) {v:Value} (hx:a.eval x=v) {m:Nat} {news:List Value}
  (ac:∀w,(Builtin.lenOf v).run P w = .ok m w) (hcells:∀w',w'.heap=w.heap->(Builtin.firstCells sz m v).run P w' = .ok news.toArray w') (hnl:news.length=m*sz) (hn1:∀v∈news,v.oneCell'=true) (hmax:n+m<=aq)
  (h:∀ad' c' w',d8 w' E sz ad' (n+m) c' (us++news)->(cf ad'=cf ad\/∃g,cf ad'=some g/\w.heap.size<=g)->bm (fun b=>cf ad=some b) w w'->wpList P ops Q rest (a.put o.dst (.slice ad' (n+m) c')) w'):wpList P ops Q (o::rest) a w:=by
 obtain⟨i,z,hi,hz',z1,z2,z3,z4,zs⟩:=qek hz hsz;rw[← zs]at hrow hcells hnl h;refine wpList_plain hgd fun _ hK => ?_
 obtain⟨ad',c',w',r1,r2,r3,r4⟩:=q8c (ty:=o.type) ht hi hz' z1 z2 z3 z4 ht2 hrow ac hcells hnl hn1 hmax;unfold Oper.wp execOp;simp only[ho,resolve,invoke,builtin,Sem.run_bind,Sem.run_pure,Result.andThen_ok,List.map_toArray,List.map_cons,List.map_nil,hs,hx,r1];exact hK _ _ (h ad' c' w' r2 r3 r4)
end Go.Sym
namespace Go.Sym
open Go.Proofs Go.RowKit Go.Sort
open Go.Proofs.Tryz
variable[LC]
def bg.below{w w':World}(h:bg w w'):Below w.heap.size w w':=⟨h.os,h.tape,h.output,h.size,fun k hk=>h.block k hk (fun h=>h)⟩
def bp.still{G:Gh}{w w':World}(hm:bp G [] w)(hs:bg w w'):bp G [] w':=
 have hlt:∀b o v,G.imm b o=some v->w'.heap[b]? = w.heap[b]? := fun b o v hv=>hs.block b (World.block_lt_of_cell? _ _ (hm.agree b o v hv)) (fun h=>h)
 ⟨fun b o v hv=>by rw[World.cell?_of_block (w:=w) (hlt b o v hv)];exact hm.agree b o v hv,hm.one,fun n bx h=>(by cases h),fun n m bx bx' b h=>(by cases h),LC.mono (fun _ _ _ h=>h) hlt hm.tab⟩
def zjj{G:Gh}{w:World}(hm:bp G [] w)(hg:LC.glob 3=some ⟨.int .u64,Lib.pow10Tab⟩)(hs:(3,20)∈LC.sizes):∃t fr,w.heap[3]? = some (.cells (Lib.pow10Tab.map fun z=>Value.int .u64 z).toArray t fr):=by
 obtain⟨_,cs,t,fr,hh,hz⟩:=hm.tab.2.2.2 _ hs;refine⟨t,fr,hh.trans ?_⟩;congr 2;apply Array.ext
 ·rw[hz];simp[Lib.pow10Tab]
 ·intro j h1 h2;have hj:j<Lib.pow10Tab.length:=by simpa using h2
  have h3:=hm.agree _ _ _ (hm.tab.1 _ _ _ hg j _ (List.getElem?_eq_getElem hj));rw[show j*(Ty.int .u64).sz=j from Nat.mul_one j]at h3
  simp only[World.cell?,hh]at h3;rw[Array.getElem?_eq_getElem h1]at h3;simp only[List.getElem_toArray,List.getElem_map];exact qJ h3
def q5t{G:Gh}{w:World}(hm:bp G [] w)(hg:LC.glob 3=some ⟨.int .u64,Lib.pow10Tab⟩)(hs:(3,20)∈LC.sizes)(n:Int)(h0 : -9223372036854775808<=n)(h1:n<=9223372036854775807) :
  Calls Tryz.prog 79 #[.int .i64 n] w fun e w'=>e = .returned (.string ⟨(Lib.itoa n).toArray⟩)/\bg w w':=
 (Any.strconv_Itoa Tryz.laysM171 n h0 h1 w (by
  unfold Lib.TabIs World.var?;obtain⟨t,fr,hh⟩:=zjj hm hg hs;rw[show Tryz.prog.globalNamed _=some 3 by kernel_rfl,qB,hh])).mono fun e w'⟨he,k,os,hw⟩=>⟨he,by
   subst hw;refine⟨rfl,rfl,rfl,by simp[grow],fun j hj _ => ?_⟩
   show(w.heap++os)[j]? = _;rw[Array.getElem?_append_left hj]⟩
def qs1:IF:=⟨.fn 79,[.h (.int .i64)],[],_,RS.mk (.h .str) []⟩
def q5u(hg:LC.glob 3=some ⟨.int .u64,Lib.pow10Tab⟩)(hs:(3,20)∈LC.sizes):(qs1.e o5).Sound Tryz.prog:=fun d d' r h=>by
 have h:o5 d.1=some r:=h;unfold o5 at h;cases hd:decide (-9223372036854775808<=(show Int from d.1)/\(show Int from d.1)<=9223372036854775807)<;>rw[hd]at h<;>simp only[qT,qF,reduceCtorEq]at h
 have h:=qJ h;subst h;have hd:=of_decide_eq_true hd;refine⟨call79,bu.data fun w G vs hm hr => ?_⟩
 match vs,hr with
 |[v],⟨h1,_⟩=>
  have h1:v = .int .i64 d.1:=h1;subst h1;exact(q5t hm hg hs _ hd.1 hd.2).mono fun e w'⟨he,hw⟩=>⟨_,he,rfl,hw⟩
def zhl{G:Gh}{w:World}(hm:bp G [] w)(hi:2∈LC.ints){a b:Bs}{u v:Value}(hu:ai (.sl .byte a) G u)(hv:ai (.sl .byte b) G v)(h2:2<=b.length)(hb:b.length<=maxLen)(ha:a.length<4294967281) :
  Calls Tryz.prog 187 #[u,v] w fun e w'=>e = .returned (.int .i64 (Lib.index a b))/\bg w w':=by
 obtain⟨p,c,rfl,hc,hp⟩:gm 1 (Ty.byte.At G.imm) a u:=hu;obtain⟨q,d,rfl,hd,hq⟩:gm 1 (Ty.byte.At G.imm) b v:=hv;by_cases hlt:a.length<b.length
 ·have h:=Any.bytes_Index_longer Tryz.lays185 p q a.length c b.length d w h2 hlt (by unfold maxLen at hb;omega)
  rw[Lib.index_past (i:=0) (by intro e;subst e;simp at h2) (fun j hj=>absurd hj (Nat.not_lt_zero _)) (by simpa using hlt)]
  exact h.mono fun e w'⟨he,hw⟩=>⟨he,by subst hw;exact bg.refl _⟩
 ·rcases hp with rfl|⟨g,o,rfl,hcells⟩
  ·exact absurd (show([]:Bs).length<b.length from by show 0<_;omega) hlt
  rcases hq with rfl|⟨g',o',rfl,hcells'⟩
  ·exact absurd h2 (by show ¬2<=0;omega)
  obtain⟨k,hk⟩:=hm.tab.2.1 _ hi;have hk:=hm.agree _ _ _ hk;have bb:∀l:Bs,Lib.bytesOf (l.map fun x=>(x.toNat:Int))=l:=fun l=>by
   unfold Lib.bytesOf;rw[List.map_map];have:((fun n:Int=>UInt8.ofNat n.toNat) ∘ fun x:UInt8=>(x.toNat:Int))=id:=by funext x;simp
   rw[this,List.map_id]
  have cl:∀(l:Bs)(g o:Nat),(∀(j:Nat)(x:UInt8),l[j]? = some x->Ty.byte.At G.imm x g (o+j*1))->∀i,i<l.length->w.cell? ((⟨g,o,none⟩:Addr).add i)=some (.int .u8 ((l.map fun x=>(x.toNat:Int)).getD i 0)):=fun l g o h i hi=>by
   have h1:G.imm g (o+i*1)=some (.int .u8 l[i].toNat):=h i _ (List.getElem?_eq_getElem hi);have h1:=hm.agree _ _ _ h1;rw[Nat.mul_one]at h1;rw[Lib.add_plain',h1];simp[List.getD_eq_getElem?_getD,hi]
  have rg:∀l:Bs,∀x∈l.map (fun x=>(x.toNat:Int)),0<=x/\x<256:=fun l x hx=>by
   obtain⟨c,_,rfl⟩:=List.mem_map.1 hx;have:=c.toNat_lt;omega
  have h:=Any.bytes_Index_at Tryz.lays185 ⟨g,o,none⟩ ⟨g',o',none⟩ a.length c b.length d (a.map fun x=>(x.toNat:Int)) (b.map fun x=>(x.toNat:Int)) k w oC oC (rg a) (rg b) (cl a g o hcells) (cl b g' o' hcells') hc ha (by unfold maxLen at hb;omega) hk
  rw[bb,bb]at h;exact h.mono fun e w'⟨he,n,hw⟩=>⟨he,by subst hw;exact⟨rfl,rfl,rfl,wF _,fun _ _ _=>rfl⟩⟩
def qrd:IF:=⟨.fn 187,[.h (.list .byte),.h (.list .byte)],[],_,RS.mk (.h (.int .i64)) []⟩
def q23(hi:2∈LC.ints):(qrd.e ua).Sound Tryz.prog:=fun d d' r h=>by
 obtain⟨a,b,_⟩:=d;have h:ua a b=some r:=h;unfold ua at h;cases hd:decide (2<=List.length (α:=UInt8) b/\List.length (α:=UInt8) a<4294967281/\List.length (α:=UInt8) b<=maxLen)<;>rw[hd]at h<;>simp only[qT,qF,reduceCtorEq]at h
 have h:=qJ h;subst h;have hd:=of_decide_eq_true hd;refine⟨call187,bu.data fun w G vs hm hr => ?_⟩
 match vs,hr with
 |[u,v],⟨h1,h2,_⟩=>
  exact(zhl hm hi h1 h2 hd.1 hd.2.2 hd.2.1).mono fun e w'⟨he,hw⟩=>⟨_,he,rfl,hw⟩
end Go.Sym
namespace Go.Sym
open Go.Proofs Go.RowKit Go.Sort
variable[LC]
def bg.trans{w w1 w2:World}(h:bg w w1)(k:bg w1 w2):bg w w2:=
 ⟨k.os.trans h.os,k.tape.trans h.tape,k.output.trans h.output,Nat.le_trans h.size k.size,fun j hj _=>(k.block j (Nat.lt_of_lt_of_le hj h.size) (fun h=>h)).trans (h.block j hj (fun h=>h))⟩
def zem{l:Bs}{v:Int}(h:Lib.atoiAll l = .ok v) : -9223372036854775808<=v/\v<=9223372036854775807:=by
 unfold Lib.atoiAll at h;split at h
 ·cases h
 ·simp only at h;split at h
  ·cases h
  ·cases h
  ·split at h
   ·cases h
   ·split at h
    ·cases h
    ·rename_i h1 h2;injection h with h
     split at h<;>rename_i h3
     ·simp only[h3,not_true_eq_false,false_and,true_and]at h1 h2;omega
     ·simp only[h3,not_false_eq_true,true_and,false_and]at h1 h2;omega
def zit{G:Gh}{w:World}(hm:bp G [] w)(hg:LC.glob 3=some ⟨.int .u64,Lib.pow10Tab⟩)(hs:(3,20)∈LC.sizes)(h1:6∈LC.ifs)(h2:7∈LC.ifs)(s:Bs)(most:Int)(hl:s.length<=281474976710656) :
  Calls Tryz.prog 267 #[.string ⟨s.toArray⟩,.int .i64 most] w fun e w'=>e = .returned (.tuple #[.int .i64 (qiz s most).1,.bool (qiz s most).2])/\bg w w':=by
 have hsz:(⟨s.toArray⟩:ByteArray).size=s.length:=fj s;have hd:(⟨s.toArray⟩:ByteArray).data.toList=s:=oC
 have bw:∀t:ByteArray,bg w (Lib.bytesWorld w 5 t):=fun t=>by
  refine⟨rfl,rfl,rfl,?_,fun j hj _ => ?_⟩
  ·simp[Lib.bytesWorld,World.freeze]
  ·show((w.heap.push _).modify w.heap.size _)[j]? = _;rw[Array.getElem?_modify,qW oA,Array.getElem?_push_lt oA]
   exact(Array.getElem?_eq_getElem hj).symm
 have bad:(Calls Tryz.prog 277 #[.string ⟨s.toArray⟩] w fun e w'=>(∃n t v,e = .returned (.tuple #[.int .i64 n,.iface t v]))/\bg w w') ->
   Calls Tryz.prog 267 #[.string ⟨s.toArray⟩,.int .i64 most] w fun e w'=>e = .returned (.tuple #[.int .i64 0,.bool false])/\bg w w':=fun cA=>by
  clear hg hs hm
  go_enter Tryz.func267,Tryz.ntmps267
  go_wp2_with (go_at_call 277;refine cA.mono ?_;rintro e wa ⟨⟨n,t,v,rfl⟩,sa⟩)
  all_goals (clear cA;go_ret2;exact⟨rfl,sa⟩)
 unfold qiz
 cases hA:Lib.atoiAll s with
 |ok v=>
  obtain⟨b1,b2⟩:=zem hA;have cA:Calls Tryz.prog 277 #[.string ⟨s.toArray⟩] w fun e w'=>e = .returned (.tuple #[.int .i64 v,.nilIface])/\bg w w':=
   (Any.strconv_Atoi_ok Tryz.laysC172 ⟨s.toArray⟩ oA v (by rw[hd];exact hA) w).mono fun e w'⟨he,hw⟩=>⟨he,by
    rcases hw with rfl|⟨t,rfl⟩
    ·exact bg.refl _
    ·exact bw t⟩
  have cI:∀w',bg w w'->Calls Tryz.prog 79 #[.int .i64 v] w' fun e w''=>e = .returned (.string ⟨(Lib.itoa v).toArray⟩)/\bg w' w'':=fun w' h=>q5t (hm.still h) hg hs v b1 b2
  have hse:(⟨(Lib.itoa v).toArray⟩:ByteArray)=⟨s.toArray⟩↔Lib.itoa v=s:=by
   constructor
   ·intro h;have:=congrArg (fun x:ByteArray=>x.data.toList) h;simpa using this
   ·intro h;rw[h]
  show Calls Tryz.prog 267 _ w fun e w'=>e = .returned (.tuple #[.int .i64 (if Lib.itoa v=s/\0<=v/\v<=most then(v,true) else(0,false)).1,.bool (if Lib.itoa v=s/\0<=v/\v<=most then(v,true) else(0,false)).2])/\bg w w'
  generalize Lib.itoa v=t at cI hse ⊢;obtain⟨r,hr⟩:∃r,r=(if t=s/\0<=v/\v<=most then(v,true) else(0,false)):=⟨_,rfl⟩
  rw[← hr];clear hA hg hs hm
  go_enter Tryz.func267,Tryz.ntmps267
  go_wp2_with (first|(go_at_call 277;refine cA.mono ?_;rintro e wa ⟨rfl,sa⟩)|(go_at_call 79;refine(cI _ (by assumption)).mono ?_;rintro e wb ⟨rfl,sb⟩))
  all_goals (clear cA cI;go_ret2)
  all_goals (by_cases q:t=s/\0<=v/\v<=most)
  all_goals first
   |(rw[qX q]at hr;subst hr;first|exact⟨rfl,sa.trans sb⟩|(exfalso;omega)|(exfalso;exact absurd q.1 (by assumption)))
   |(rw[qW q]at hr;subst hr;first|exact⟨rfl,sa.trans sb⟩|(exfalso;exact q ⟨by assumption,oA,oA⟩))
 |range=>
  obtain⟨te,pe,hv⟩:=hm.tab.2.2.1 _ h2;have cA:Calls Tryz.prog 277 #[.string ⟨s.toArray⟩] w fun e w'=>(∃n t v,e = .returned (.tuple #[.int .i64 n,.iface t v]))/\bg w w':=
   (Any.strconv_Atoi_range Tryz.laysC172 ⟨s.toArray⟩ oA (by rw[hd];exact hA) _ w (hm.agree _ _ _ hv) (.inr ⟨_,_,rfl⟩)).mono fun e w'⟨N,he,_,_,hw⟩=>⟨⟨_,_,_,he⟩,bg.of_below hw⟩
  exact bad cA
 |_=>
  obtain⟨te,pe,hv⟩:=hm.tab.2.2.1 _ h1;have cA:Calls Tryz.prog 277 #[.string ⟨s.toArray⟩] w fun e w'=>(∃n t v,e = .returned (.tuple #[.int .i64 n,.iface t v]))/\bg w w':=
   (Any.strconv_Atoi_syntax Tryz.laysC172 ⟨s.toArray⟩ oA (by rw[hd];exact hA) _ w (hm.agree _ _ _ hv) (.inr ⟨_,_,rfl⟩)).mono fun e w'⟨N,he,_,_,hw⟩=>⟨⟨_,_,_,he⟩,bg.of_below hw⟩
  exact bad cA
def q6u:IF:=⟨.fn 267,[.h .str,.h (.int .i64)],[],_,RS.mk (.tup [.h (.int .i64),.h .bool]) []⟩
def ziu(hg:LC.glob 3=some ⟨.int .u64,Lib.pow10Tab⟩)(hs:(3,20)∈LC.sizes)(h1:6∈LC.ifs)(h2:7∈LC.ifs):(q6u.e qaq).Sound Tryz.prog:=fun d d' r h=>by
 obtain⟨s,most,_⟩:=d;have h:qaq s most=some r:=h;unfold qaq at h;cases hd:decide (List.length (α:=UInt8) s<=281474976710656)<;>rw[hd]at h<;>simp only[qT,qF,reduceCtorEq]at h
 have h:=qJ h;subst h;refine⟨Tryz.call267,bu.data fun w G vs hm hr => ?_⟩
 match vs,hr with
 |[u,v],⟨e1,e2,_⟩=>
  have e1:u = .string ⟨List.toArray s⟩:=e1;have e2:v = .int .i64 most:=e2;subst e1 e2;exact(zit hm hg hs h1 h2 s most (of_decide_eq_true hd)).mono fun e w'⟨he,hw⟩=>⟨_,he,⟨_,rfl,rfl,rfl,trivial⟩,hw⟩
end Go.Sym
namespace Go.Sym
open Go.Proofs Go.RowKit
variable[LC]
def qig(w:World)(o:Obj){k:Nat}(hk:k<w.heap.size):(w.alloc o).heap[k]? = w.heap[k]? := by
 show(w.heap.push _)[k]? = _;rw[Array.getElem?_push_lt hk];exact(Array.getElem?_eq_getElem hk).symm
def q74(w:World)(E:TypeId)(sz:Nat):d8 (w.alloc (.cells #[] E)) E sz (some ⟨w.heap.size,0,none⟩) 0 0 []:=
 ⟨oC,.inr ⟨w.heap.size,#[],(0,0),rfl,by show(w.heap.push _)[w.heap.size]? = _;simp,.inl rfl,wF _,by unfold maxLen;omega,oC,oC,oC⟩⟩
def zft(l:List (.prod .str .str:Ty).den)(hd:l.length<=aq):bu Tryz.prog 146 [.sl (.prod .str .str) l] [] (.own 0) [(0,.row (.prod .str .str) l 36)]:=by
 refine bu.fresh fun w G vs hm hr => ?_
 match vs,hr with
 |[v],⟨h1,_⟩=>
  obtain⟨news,k1,k2,k3,k4⟩:=q8t (P:=Tryz.prog) hm h1;have hnl:news.length=l.length*(.prod .str .str:Ty).sz:=by rw[← k3.length];exact jw l
  obtain⟨p,c,rfl,hc,hp⟩:gm (.prod .str .str:Ty).sz ((.prod .str .str:Ty).At G.imm) l v:=h1
  cases p with
  |none=>
   have hl:l=[]:=by
    rcases hp with h|⟨_,_,h,_⟩
    ·exact h
    ·cases h
   subst hl;have e0:news=[]:=List.eq_nil_of_length_eq_zero (by rw[hnl];exact Nat.zero_mul _)
   subst e0;have hg:Calls Tryz.prog 146 #[.slice none 0 c] w fun e w'=>e = .returned (.slice none 0 0)/\w'=w:=by
    clear hp hr k1 k2 hm hnl hc hd k3 k4;have q22:∀(w:World)(a:Option Addr)(n c n' c':Nat),(binOp .eql 37 (.slice a n c) (.slice none n' c')).run Tryz.prog w = .ok (.bool a.isNone) w:=fun w a n c n' c'=>Lib.run_eql_slice_nil w _ _ a n c n' c' Tryz.underlying37
    have u22:∀w,Sem.run Tryz.prog (underlying 37) w = .ok (TypeDesc.slice 36) w:=run_underlying Tryz.underlying37
    go_enter Tryz.func146,Tryz.ntmps146
    go_wp2
    go_ret
    exact⟨rfl,rfl⟩
   exact hg.mono fun e w'⟨he,hw⟩=>⟨none,0,[],he,⟨rfl,.inl ⟨rfl,rfl,rfl⟩⟩,k3,fun b hb=>(by cases hb),by subst hw;exact bg.refl _⟩
  |some ad=>
   generalize hn:l.length=n at *;have hg:Calls Tryz.prog 146 #[.slice (some ad) n c] w fun e w'=>∃ad' c',e = .returned (.slice ad' n c')/\d8 w' 36 (.prod .str .str:Ty).sz ad' n c' news/\(∀b,cf ad'=some b->w.heap.size<=b)/\bg w w':=by
    clear hm k3 hr hp hn;have q22:∀(w:World)(a:Option Addr)(n c n' c':Nat),(binOp .eql 37 (.slice a n c) (.slice none n' c')).run Tryz.prog w = .ok (.bool a.isNone) w:=fun w a n c n' c'=>Lib.run_eql_slice_nil w _ _ a n c n' c' Tryz.underlying37
    have u22:∀w,Sem.run Tryz.prog (underlying 37) w = .ok (TypeDesc.slice 36) w:=run_underlying Tryz.underlying37
    go_enter Tryz.func146,Tryz.ntmps146
    go_wp2_with (at_builtin;refine q9p rfl _ _ 37 rfl (E:=36) (sz:=(.prod .str .str:Ty).sz) oB oB oB oB rfl (q74 w 36 _) rfl k1 ?qc hnl k4 oA ?_)
    case qc=>exact fun w' hw'=>k2 w' fun k hk=>by rw[hw'];exact qig w _ hk
    intro ad' c' w1 hrow hblk hbel
    go_wp2
    go_ret
    refine⟨ad',c',rfl,by simpa using hrow,fun b hb => ?_,⟨hbel.os,hbel.tape,hbel.output,Nat.le_trans (by show w.heap.size<=(w.heap.push _).size;simp) hbel.size,fun k hk _ => ?_⟩⟩
    ·rcases hblk with h|⟨g,h,hg⟩
     ·rw[h]at hb;injection hb with hb;have hb:w.heap.size=b:=hb;omega
     ·rw[h]at hb;injection hb with hb
      have:w.heap.size<=(w.alloc (.cells #[] 36)).heap.size:=by show w.heap.size<=(w.heap.push _).size;simp
      omega
    ·rw[hbel.block k (by show k<(w.heap.push _).size;simp;omega) (fun e=>by injection e with e;have e:w.heap.size=k:=e;omega)]
     exact qig w _ hk
   exact hg.mono fun e w'⟨ad',c',he,hrow,hb,hs⟩=>⟨ad',c',news,he,hrow,k3,hb,hs⟩
def qhe:IF:=⟨.fn 146,[.h (.list (.prod .str .str))],[],_,RS.mk (.own 0) [(0,.row (.prod .str .str) 36)]⟩
def qrp:(qhe.e (jj (α:=(.prod .str .str:Ty).den))).Sound Tryz.prog:=fun d d' r h=>by
 obtain⟨l,_⟩:=d;have h:(bif decide (List.length (α:=(.prod .str .str:Ty).den) l<=aq) then some (show List (.prod .str .str:Ty).den from l) else none)=some r:=h
 cases hd:decide (List.length (α:=(.prod .str .str:Ty).den) l<=aq)<;>rw[hd]at h<;>simp only[qT,qF,reduceCtorEq]at h
 have h:=qJ h;subst h;exact⟨Tryz.call146,zft l (of_decide_eq_true hd)⟩
def zfu(l:List (.byte:Ty).den)(hd:l.length<=aq):bu Tryz.prog 147 [.sl (.byte) l] [] (.own 0) [(0,.row (.byte) l 5)]:=by
 refine bu.fresh fun w G vs hm hr => ?_
 match vs,hr with
 |[v],⟨h1,_⟩=>
  obtain⟨news,k1,k2,k3,k4⟩:=q8t (P:=Tryz.prog) hm h1;have hnl:news.length=l.length*(.byte:Ty).sz:=by rw[← k3.length];exact jw l
  obtain⟨p,c,rfl,hc,hp⟩:gm (.byte:Ty).sz ((.byte:Ty).At G.imm) l v:=h1
  cases p with
  |none=>
   have hl:l=[]:=by
    rcases hp with h|⟨_,_,h,_⟩
    ·exact h
    ·cases h
   subst hl;have e0:news=[]:=List.eq_nil_of_length_eq_zero (by rw[hnl];exact Nat.zero_mul _)
   subst e0;have hg:Calls Tryz.prog 147 #[.slice none 0 c] w fun e w'=>e = .returned (.slice none 0 0)/\w'=w:=by
    clear hp hr k1 k2 hm hnl hc hd k3 k4;have q22:∀(w:World)(a:Option Addr)(n c n' c':Nat),(binOp .eql 32 (.slice a n c) (.slice none n' c')).run Tryz.prog w = .ok (.bool a.isNone) w:=fun w a n c n' c'=>Lib.run_eql_slice_nil w _ _ a n c n' c' Tryz.underlying32
    have u22:∀w,Sem.run Tryz.prog (underlying 32) w = .ok (TypeDesc.slice 5) w:=run_underlying Tryz.underlying32
    go_enter Tryz.func147,Tryz.ntmps147
    go_wp2
    go_ret
    exact⟨rfl,rfl⟩
   exact hg.mono fun e w'⟨he,hw⟩=>⟨none,0,[],he,⟨rfl,.inl ⟨rfl,rfl,rfl⟩⟩,k3,fun b hb=>(by cases hb),by subst hw;exact bg.refl _⟩
  |some ad=>
   generalize hn:l.length=n at *;have hg:Calls Tryz.prog 147 #[.slice (some ad) n c] w fun e w'=>∃ad' c',e = .returned (.slice ad' n c')/\d8 w' 5 (.byte:Ty).sz ad' n c' news/\(∀b,cf ad'=some b->w.heap.size<=b)/\bg w w':=by
    clear hm k3 hr hp hn;have q22:∀(w:World)(a:Option Addr)(n c n' c':Nat),(binOp .eql 32 (.slice a n c) (.slice none n' c')).run Tryz.prog w = .ok (.bool a.isNone) w:=fun w a n c n' c'=>Lib.run_eql_slice_nil w _ _ a n c n' c' Tryz.underlying32
    have u22:∀w,Sem.run Tryz.prog (underlying 32) w = .ok (TypeDesc.slice 5) w:=run_underlying Tryz.underlying32
    go_enter Tryz.func147,Tryz.ntmps147
    go_wp2_with (at_builtin;refine q9p rfl _ _ 32 rfl (E:=5) (sz:=(.byte:Ty).sz) oB oB oB oB rfl (q74 w 5 _) rfl k1 ?qc hnl k4 oA ?_)
    case qc=>exact fun w' hw'=>k2 w' fun k hk=>by rw[hw'];exact qig w _ hk
    intro ad' c' w1 hrow hblk hbel
    go_wp2
    go_ret
    refine⟨ad',c',rfl,by simpa using hrow,fun b hb => ?_,⟨hbel.os,hbel.tape,hbel.output,Nat.le_trans (by show w.heap.size<=(w.heap.push _).size;simp) hbel.size,fun k hk _ => ?_⟩⟩
    ·rcases hblk with h|⟨g,h,hg⟩
     ·rw[h]at hb;injection hb with hb;have hb:w.heap.size=b:=hb;omega
     ·rw[h]at hb;injection hb with hb
      have:w.heap.size<=(w.alloc (.cells #[] 5)).heap.size:=by show w.heap.size<=(w.heap.push _).size;simp
      omega
    ·rw[hbel.block k (by show k<(w.heap.push _).size;simp;omega) (fun e=>by injection e with e;have e:w.heap.size=k:=e;omega)]
     exact qig w _ hk
   exact hg.mono fun e w'⟨ad',c',he,hrow,hb,hs⟩=>⟨ad',c',news,he,hrow,k3,hb,hs⟩
def qrq:IF:=⟨.fn 147,[.h (.list (.byte))],[],_,RS.mk (.own 0) [(0,.row (.byte) 5)]⟩
def q3v:(qrq.e (jj (α:=(.byte:Ty).den))).Sound Tryz.prog:=fun d d' r h=>by
 obtain⟨l,_⟩:=d;have h:(bif decide (List.length (α:=(.byte:Ty).den) l<=aq) then some (show List (.byte:Ty).den from l) else none)=some r:=h
 cases hd:decide (List.length (α:=(.byte:Ty).den) l<=aq)<;>rw[hd]at h<;>simp only[qT,qF,reduceCtorEq]at h
 have h:=qJ h;subst h;exact⟨Tryz.call147,zfu l (of_decide_eq_true hd)⟩
end Go.Sym
namespace Go.Sym
open Go.Proofs Go.RowKit Go.Sort
variable[LC]
def bu.inPlaceA{ys:List AV}{P:Program}{f:FuncId}{τ:Ty}{l l':List τ.den}{E:TypeId}(ac:l'.length=l.length)(h:∀(w:World)(G:Gh)(ad:Option Addr)(c:Nat)(us vs:List Value),d8 w E τ.sz ad l.length c us->aj (l.flatMap τ.enc) G.data us->aj ys G vs ->
  Calls P f (Value.slice ad l.length c::vs).toArray w fun e w'=>e = .returned (.tuple #[])/\∃us',d8 w' E τ.sz ad l.length c us'/\aj (l'.flatMap τ.enc) G.data us'/\bm (fun b=>cf ad=some b) w w') :
  bu P f (.own 0::ys) [(0,.row τ l E)] (.tup []) [(0,.row τ l' E)]:=by
 intro w G vs hm hreps;have hl:ae [(0,ag.row τ l E)] 0=some (.row τ l E):=rfl;obtain⟨ad,c,us,h1,h3,h4,h5⟩:=(hm.holds 0 _ hl).rowAt
 match vs,hreps with
 |v::vs,hreps=>
  obtain⟨⟨a',n',c',q1,rfl⟩,hys⟩:=hreps;rw[h1]at q1;simp at q1;obtain⟨rfl,rfl,rfl⟩:=q1;refine(h w G ad c us vs h3 h4 hys).mono ?_;rintro e w' ⟨rfl,us',r1,r2,r3⟩
  refine⟨_,G,rfl,?_,#[],rfl,trivial⟩;have hself:=rl hm;have hbox:ck G w' 0 (.row τ l' E):=ck.row (by rw[ac];exact h1) (by rw[ac];exact r1) r2 (fun b hb=>h5 b hb)
  cases had:cf ad with
  |none=>
   have hst:bg w w':=⟨r3.os,r3.tape,r3.output,r3.size,fun k hk _=>r3.block k hk (fun e=>by rw[had]at e;cases e)⟩
   have hf:=hself.extend (new:=[]) (Gh.le.refl G) hst (fun _ _ _ h => .inl h) (fun b o v hv=>by
    have hc:=hm.agree b o v hv;have hlt:=World.block_lt_of_cell? _ _ hc;rw[World.cell?_of_block (w:=w) (hst.block b hlt (fun h=>h))];exact hc) hm.one (fun n bx h=>by cases h) (fun n bx h=>by cases h) (fun n m bx bx' b h=>by cases h)
   have hlk:∀m b,ae [(0,ag.row τ l' E)] m=some b->m=0/\b = .row τ l' E:=fun m b hh=>by
    simp[ae]at hh;cases hb:Nat.beq 0 m
    ·rw[hb]at hh;cases hh
    ·rw[hb]at hh;simp at hh;exact⟨(qN hb).symm,hh.symm⟩
   have hat:G.at 0 (.row τ l' E)=none:=by
    simp[Gh.at,h1]
    cases ad with|none=>rfl|some a=>cases had
   refine⟨⟨hf.mem.agree,hf.mem.one,fun m b hh => ?_,fun m m' b b' c h1 h2 h3 _ => ?_,hf.mem.tab⟩,hf.bel,hf.imm_le,hf.imm_new,fun m b c h1 h2 => ?_,hf.keep,hf.keepOwn⟩
   ·obtain⟨rfl,rfl⟩:=hlk m b hh;exact hbox
   ·obtain⟨rfl,_⟩:=hlk m b h1;obtain⟨rfl,_⟩:=hlk m' b' h2;rfl
   ·obtain⟨rfl,rfl⟩:=hlk m b h1;rw[hat]at h2;cases h2
  |some B=>
   have hat:∀l:List τ.den,G.at 0 (.row τ l E)=some B:=fun l=>by
    simp[Gh.at,h1]
    cases ad with
    |none=>cases had
    |some a=>exact had
   have hf:=hself.update (bx' := .row τ l' E) hl (hat l) (hat l') ⟨r3.os,r3.tape,r3.output,r3.size,fun k hk hne=>r3.block k hk (fun e=>by rw[had]at e;injection e with e;exact hne e.symm)⟩ hbox (h5 B had)
   have hlk:∀m b,ae [(0,ag.row τ l' E)] m=some b->ae (oe [(0,ag.row τ l E)] 0 (.row τ l' E)) m=some b:=fun m b hh=>by
    simp[ae]at hh;simp[oe,ae];cases hb:Nat.beq 0 m
    ·rw[hb]at hh;cases hh
    ·rw[hb]at hh;exact hh
   exact⟨⟨hf.mem.agree,hf.mem.one,fun m b hh=>hf.mem.holds m b (hlk m b hh),fun m m' b b' c h1 h2 h3 h4=>hf.mem.apart m m' b b' c (hlk _ _ h1) (hlk _ _ h2) h3 h4,hf.mem.tab⟩,hf.bel,hf.imm_le,hf.imm_new,fun m b c h1 h2=>hf.base m b c (hlk _ _ h1) h2,hf.keep,hf.keepOwn⟩
 |[],hreps=>exact hreps.elim
def zjm(w:World)(n g:Nat)(d:Array Value)(os:Array Obj)(k:Nat)(hk:k<w.heap.size)(hne:k≠g):(grow (putRow id (Sort.ahead w n) g 0 d) os).heap[k]? = w.heap[k]? := by
 show((w.heap.modify g (onCells (putCells id 0 d)))++os)[k]? = _;rw[Array.getElem?_append_left (by simpa using hk),Array.getElem?_modify,qW oA]
def zjn(w:World)(n g:Nat)(d:Array Value)(os:Array Obj){cur:Array Value}{e:TypeId}{fr:Nat×Nat}(hh:w.heap[g]? = some (.cells cur e fr)) :
  (grow (putRow id (Sort.ahead w n) g 0 d) os).heap[g]? = some (.cells (putCells id 0 d cur) e fr):=by
 have hg:g<w.heap.size:=(Array.getElem?_eq_some_iff.1 hh).1;show((w.heap.modify g (onCells (putCells id 0 d)))++os)[g]? = _;rw[Array.getElem?_append_left (by simpa using hg),Array.getElem?_modify,qX rfl,hh]
 rfl
def zjp(zs:List Value)(cur:Array Value)(h:zs.length<=cur.size):(putCells id 0 zs.toArray cur).toList.take zs.length=zs:=by
 apply List.ext_getElem?;intro j;rw[List.getElem?_take];by_cases hj:j<zs.length
 ·rw[qX hj,Array.getElem?_toList];unfold putCells;rw[Array.getElem?_mapIdx,Array.getElem?_eq_getElem oA]
  simp[hj]
 ·rw[qW hj];exact(List.getElem?_eq_none oA).symm
def zjo(w:World)(n g:Nat)(d:Array Value)(os:Array Obj):w.heap.size<=(grow (putRow id (Sort.ahead w n) g 0 d) os).heap.size:=by
 show w.heap.size<=((w.heap.modify g (onCells (putCells id 0 d)))++os).size;simp
def zjl(zs:List Value)(cur:Array Value)(v:Value)(hv:v∈(putCells id 0 zs.toArray cur).toList):v∈cur.toList\/v∈zs:=by
 unfold putCells at hv;rw[Array.mem_toList_iff,Array.mem_mapIdx]at hv;obtain⟨j,hj,rfl⟩:=hv;split
 ·rename_i hj2;have hj3:j<zs.length:=by simpa using hj2
  refine .inr ?_;simp[hj3]
 ·exact .inl oC
end Go.Sym
namespace Go.Sym
open Go.Proofs Go.RowKit Go.Sort
variable[LC]
def q4w{α:Type}[Inhabited α](enc:α->List Value)(k:Nat)(hk:∀x,(enc x).length=k)(l:List α):flatK enc k l.toArray=(l.flatMap enc).toArray:=by
 have key:∀(l:List α)(t:Nat),t<l.length*k->(l.flatMap enc)[t]? = some ((enc l[t/k]!)[t%k]!):=by
  intro l
  induction l with
  |nil=>intro t ht;simp at ht|cons x l ih=>
   intro t ht;have k0:0<k:=by
    rcases Nat.eq_zero_or_pos k with h|h;· subst h;simp at ht
    ·exact h
   rw[List.flatMap_cons];by_cases h:t<k
   ·rw[List.getElem?_append_left (by rw[hk];exact h),Nat.div_eq_of_lt h,Nat.mod_eq_of_lt h,List.getElem?_eq_getElem (by rw[hk];exact h)]
    simp[hk,h]
   ·rw[List.getElem?_append_right (by rw[hk];omega),hk,ih (t-k) (by rw[qL,Nat.add_mul,Nat.one_mul]at ht;omega)]
    obtain⟨u,rfl⟩:∃u,t=u+k:=⟨t-k,oA⟩
    rw[Nat.add_sub_cancel,Nat.add_mod_right,Nat.add_div_right _ k0];simp
 have ac:(l.flatMap enc).length=l.length*k:=by
  clear key
  induction l with|nil=>simp|cons x l ih=>rw[List.flatMap_cons,qM,hk,ih,qL,Nat.add_mul,Nat.one_mul,Nat.add_comm]
 refine ext_get! (by simp[ac]) fun t ht => ?_
 have ht':t<l.length*k:=by simpa using ht
 rw[get_flatK enc k l.toArray t (by simpa using ht')]
 have:=key l t ht';simp only[List.getElem!_toArray];rw[List.getElem!_eq_getElem?_getD (l:=l.flatMap enc),this];rfl
def dp(x:Pq):List Value:=[.string ⟨x.1.1.toArray⟩,.int .i64 x.1.2.1,.bool x.1.2.2.1,.string ⟨x.1.2.2.2.toArray⟩]
def q86:SWO (ltOf mb):=by
 have e:∀x y:Pq,ltOf mb x y=decide (x.1.2.1<y.1.2.1):=fun x y=>by
  have:=x.2;have:=y.2;unfold ltOf mb;have h:af (x.1.2.1-y.1.2.1)=x.1.2.1-y.1.2.1:=by unfold af;simp[IntKind.wrap,IntKind.bits,IntKind.signed];omega
  rw[h];by_cases q:x.1.2.1<y.1.2.1<;>simp[q]<;>omega
 exact⟨fun x=>by rw[e];simp,fun x y z h1 h2=>by rw[e]at *;simp at *;omega,fun x y z h1 h2=>by rw[e]at *;simp at *;omega⟩
set_option maxHeartbeats 1000000 in
def zfw(x y:Pq)(W:World):Calls Tryz.prog 280 #[.agg (dp x).toArray,.agg (dp y).toArray] W fun e w'=>e = .returned (.int .i64 (mb x y))/\∃q os',w'=grow (W.drewN q) os':=by
 unfold dp mb;obtain⟨⟨a,n,s,v⟩,hx⟩:=x;obtain⟨⟨a',n',s',v'⟩,hy⟩:=y;simp only;have hw:af (n-n')=wrap64 (n-n'):=by show IntKind.i64.wrap (n-n')=_;rw[IntKind.wrap_i64];unfold Go.RowKit.wrap64;rfl
 rw[hw];clear hx hy hw
 go_enter Tryz.func280,Tryz.ntmps280
 go_wp2
 go_ret
 exact⟨rfl,0,_,by rw[alloc_eq_grow,alloc_eq_grow,grow_grow];rfl⟩
abbrev τQ:Ty := .prod .str (.prod (.int .i64) (.prod .bool .str))
def q7v{G:Gh}:∀{l:List Pq}{us:List Value},aj (List.flatMap (β:=AV) τQ.enc (l.map (·.1))) G us->us=l.flatMap dp
 |[],[],_=>rfl|[],_::_,h=>h.elim|x::l,us,h=>by
  match us,h with
  |a::b::c::d::us,h=>
   have h1:a = .string ⟨x.1.1.toArray⟩:=h.1;have h2:b = .int .i64 x.1.2.1:=h.2.1;have h3:c = .bool x.1.2.2.1:=h.2.2.1;have h4:d = .string ⟨x.1.2.2.2.toArray⟩:=h.2.2.2.1;have h5:=q7v (l:=l) h.2.2.2.2;rw[h1,h2,h3,h4,h5];rfl
  |[],h=>exact h.elim|[_],h=>exact h.2.elim|[_,_],h=>exact h.2.2.elim|[_,_,_],h=>exact h.2.2.2.elim
def q7w{G:Gh}:∀(l:List Pq),aj (List.flatMap (β:=AV) τQ.enc (l.map (·.1))) G (l.flatMap dp)
 |[]=>trivial|_::l=>⟨rfl,rfl,rfl,rfl,q7w l⟩
def q9a:∀(l:List Pc)(q:List Pq),toQ l=some q->l=q.map (·.1)
 |[],_,h=>by cases h;rfl
 |x::l,q,h=>by
  unfold toQ at h;split at h
  ·split at h
   ·rename_i r hr;cases h;rw[q9a l r hr];rfl
   ·cases h
  ·cases h
def quf(l:List Pq):(il l).length=l.length:=by
 have h:=(pdq_sorts (ltOf mb) q86 l.toArray 0 l.length (Lib.bitLen l.length) true true (Nat.zero_le _) oC (Or.inl rfl)).1.1
 unfold il;rw[Array.length_toList,h];simp
def qhp(x:Pq):(dp x).length=4:=rfl
def q4i(l:List Pq):(l.flatMap dp).length=l.length*4:=by
 induction l with|nil=>rfl|cons x l ih=>rw[List.flatMap_cons,qM,qhp,ih,qL];omega
def zg8{w:World}{g:Nat}{vs:Array Value}{fz:Nat×Nat}{E:TypeId}{l:List Pq}(h2:w.heap[g]? = some (.cells vs E fz))(h3:fz=(0,0)\/vs.size<=fz.1)(h4:l.length*4<=vs.size)(h7:vs.toList.take (l.length*4)=l.flatMap dp):HoldsK dp 4 w g 0 l.toArray:=by
 unfold HoldsK;rw[q4w dp 4 qhp];intro j hj;have hl:=q4i l;have hj':j<(l.flatMap dp).length:=by simpa using hj
 have hjv:j<vs.size:=oA
 refine⟨?_,?_⟩
 ·have hc:(vs.toList.take (l.length*4))[j]? = some ((l.flatMap dp)[j]):=by
   rw[h7,List.getElem?_eq_getElem hj']
  rw[List.getElem?_take,qX]at hc
  simp only[World.cell?,h2,wO];have hg:(l.flatMap dp).toArray[j]! = (l.flatMap dp)[j]:=by rw[getElem!_pos _ j hj];rfl
  rw[hg];simpa using hc
 ·simp only[World.frozen?,h2];rcases h3 with rfl|h3
  ·simp
  ·simp;omega
set_option maxHeartbeats 1000000 in
def zkw(q:List Pq)(ac:q.length<=aq):bu Tryz.prog 279 [.own 0,.fn (.func 280) [] []] [(0,.row τQ (q.map (·.1)) 328)] (.tup []) [(0,.row τQ ((il q).map (·.1)) 328)]:=by
 unfold aq at ac
 refine bu.inPlaceA (by show((il q).map (·.1)).length=(q.map (·.1)).length;rw[wC,wC,quf]) (fun w G ad c us fvs hrow hreps hfv => ?_)
 have hus:=q7v hreps;have hfv:fvs=[.func (.func 280) #[] #[]]:=by
  match fvs,hfv with
  |[v],⟨h,_⟩=>
   obtain⟨us1,us2,k1,k2,k3⟩:=h;have e1:us1=#[]:=Array.eq_empty_of_size_eq_zero k2.length.symm;have e2:us2=#[]:=Array.eq_empty_of_size_eq_zero k3.length.symm;subst e1;subst e2;rw[k1]
 subst hfv;have hml:(q.map (fun x=>x.1)).length=q.length:=wC ..
 obtain⟨hul,hrow⟩:=hrow
 have hnone:q=[]->Calls Tryz.prog 279 (Value.slice ad (q.map (fun x=>x.1)).length c::[.func (.func 280) #[] #[]]).toArray w fun e w'=>e = .returned (.tuple #[])/\∃us',d8 w' 328 τQ.sz ad (q.map (fun x=>x.1)).length c us'/\aj (List.flatMap (β:=AV) τQ.enc ((il q).map (·.1))) G.data us'/\bm (fun b=>cf ad=some b) w w':=fun hq=>by
  subst hq;refine(AnyF.slices_SortFunc_none Tryz.sortP ad c (.func (.func 280) #[] #[]) w).mono ?_;rintro e w' ⟨rfl,rfl⟩
  refine⟨rfl,us,⟨hul,hrow⟩,?_,⟨rfl,rfl,rfl,wF _,fun _ _ _=>rfl⟩⟩
  rw[hus];have e:il []=[]:=List.eq_nil_of_length_eq_zero (quf []);rw[e];exact trivial
 by_cases hq:q=[]
 ·exact hnone hq
 rcases hrow with⟨rfl,h2,rfl⟩|⟨g,vs,fz,rfl,h2,h3,h4,h5,h6,h7,h8⟩
 ·exact absurd (List.eq_nil_of_length_eq_zero (by rw[← hml];exact h2)) hq
 ·have hlt:g<w.heap.size:=(Array.getElem?_eq_some_iff.1 h2).1;have hs4:τQ.sz=4:=rfl;rw[hs4]at h6 h7 hul;have h4':q.length<=c:=by rw[← hml];exact h4
  have hH:=zg8 (l:=q) h2 h3 oA (by rw[← hus];have h7':=h7;rw[show(List.length (α:=τQ.den) (q.map fun x=>x.1))=q.length from hml]at h7';exact h7')
  have hcmp:CmpLays Tryz.prog 280 #[] dp 4 mb g 0 q.toArray.size w:=fun m os dk _ x y=>zfw x y _
  have key:=AnyQ.slices_SortFunc_eq (P:=Tryz.prog) Tryz.sortP 4 Tryz.isAgg328 Tryz.sizeOf328 dp qhp (by intro x v hv;simp only[dp,wE,List.not_mem_nil,or_false]at hv;rcases hv with rfl|rfl|rfl|rfl<;>rfl) mb q86 280 #[] g 0 c q.toArray w Tryz.call280 hcmp hH hlt oD
  have hargs:#[Value.slice (some ⟨g,0,none⟩) (List.length (α:=τQ.den) (List.map (β:=τQ.den) (fun x:Pq=>x.1) q)) c,Value.func (.func 280) #[] #[]]=#[.slice (some ⟨g,0,none⟩) q.toArray.size c,.func (.func 280) #[] #[]]:=by
   rw[show List.length (α:=τQ.den) (List.map (β:=τQ.den) (fun x:Pq=>x.1) q)=q.toArray.size from hml.trans oC]
  refine Eq.mpr (congrArg (fun a=>Calls _ _ a _ _) hargs) (key.mono ?_)
  rintro e w' ⟨rfl,n,os,rfl⟩
  have hsl:=quf q;have hw:sortWorldK dp 4 w g 0 n (pdq (ltOf mb) q.toArray 0 q.toArray.size (Lib.bitLen q.toArray.size) true true) os=grow (putRow id (Sort.ahead w n) g 0 ((il q).flatMap dp).toArray) os:=by
   unfold sortWorldK putRowK;rw[show pdq (ltOf mb) q.toArray 0 q.toArray.size (Lib.bitLen q.toArray.size) true true=(il q).toArray from by unfold il;simp,q4w dp 4 qhp]
  rw[hw];have hzl:((il q).flatMap dp).length=q.length*4:=by rw[q4i,hsl]
  refine⟨rfl,(il q).flatMap dp,⟨?_,.inr ⟨g,putCells id 0 ((il q).flatMap dp).toArray vs,fz,rfl,zjn w n g _ os h2,?_,h4,h5,?_,?_,?_⟩⟩,q7w _,⟨rfl,rfl,rfl,zjo w n g _ os,fun k hk hne=>zjm w n g _ os k hk (fun e=>hne (by subst e;rfl))⟩⟩
  ·rw[hzl];show q.length*4=(q.map (fun x=>x.1)).length*4;rw[hml]
  ·have:(putCells id 0 ((il q).flatMap dp).toArray vs).size=vs.size:=by unfold putCells;rw[Array.size_mapIdx]
   rw[this];exact h3
  ·unfold putCells;rw[Array.size_mapIdx];exact h6
  ·rw[show List.length (α:=τQ.den) (q.map (fun x=>x.1))*τQ.sz=((il q).flatMap dp).length from by rw[hzl];show(q.map (fun x=>x.1)).length*4=_;rw[hml]]
   exact zjp _ vs (by rw[hzl];omega)
  ·intro v hv;rcases zjl _ _ _ hv with h|h
   ·exact h8 v h
   ·obtain⟨x,_,hx⟩:=List.mem_flatMap.1 h;simp only[dp,wE,List.not_mem_nil,or_false]at hx;rcases hx with rfl|rfl|rfl|rfl<;>rfl
def q8v:IF:=⟨.fn 279,[.own 0,.fn 280 []],[(0,.row τQ 328)],_,RS.mk (.tup []) [(0,.row τQ 328)]⟩
def zkx:(q8v.e qbh).Sound Tryz.prog:=fun d d' r h=>by
 obtain⟨l,_⟩:=d';have h:qbh l=some r:=h;unfold qbh at h;cases hd:decide (List.length (α:=Pc) l<=aq)<;>rw[hd]at h<;>simp only[qT,qF,reduceCtorEq]at h
 cases hq:toQ l with
 |none=>rw[hq]at h;cases h
 |some q=>
  rw[hq]at h;have h:=qJ h;subst h;have hl:=q9a l q hq;subst hl;refine⟨Tryz.call279,zkw q ?_⟩;have:=of_decide_eq_true hd
  rwa [wC]at this
end Go.Sym
set_option linter.unusedVariables false
namespace Go.Proofs.ToValid
open Go.Shelf Go.RowKit Go.Lib Go.Sym
def bx:Builder.Extra Tryz.prog Tryz.uniR:={
 sizeBuilder:=oB
 liesBuilder:=oB
 t5:=Tryz.laysM171.t5
 a5:=Tryz.laysM171.a5
 z5:=Tryz.laysM171.z5
 v5:=Tryz.laysM171.v5
 infoByte:=oB
 cellsByte:=oB
 sizeByte:=oB
 neB5:=by decide }
def zhz:Lays.n166 Tryz.prog Tryz.uniR:={ Tryz.lays165,Tryz.lays169,Tryz.laysC172 with f166:=Tryz.func31.trans (congrArg some oB) }
def zh0:Lays.n167 Tryz.prog Tryz.uniR:={ Tryz.lays165,Tryz.lays169,Tryz.laysC172 with f167:=Tryz.func30.trans (congrArg some oB) }
def q3l(b:Nat)(p:Option Addr)(n cap:Nat)(w:World)(c1:w.cell? ⟨b,1,none⟩=some (.slice p n cap)) :
  Calls Tryz.prog 287 #[.pointer (some ⟨b,0,none⟩)] w fun e w'=>e = .returned (.int .i64 cap)/\w'=w:=by
 go_enter Tryz.func287,Tryz.ntmps287
 go_wp2
 go_ret
 exact⟨rfl,rfl⟩
def zg4(b n:Nat)(w:World)(hbk:w.heap[b]? = some (.cells #[.pointer none,.slice none 0 0] 62 (0,0)))(hBw:b<=w.heap.size)(hn:n<=281474976710656) :
  Calls Tryz.prog 52 #[.pointer (some ⟨b,0,none⟩),.int .i64 n] w fun e w'=>e = .returned (.tuple #[])/\(Lib.BuilderAt 62 5 b b (.pointer (some ⟨b,0,none⟩)) [] w'/\Below b w w')/\∃p cap,w'.cell? ⟨b,1,none⟩=some (.slice p 0 cap)/\n<=cap:=
 Any.Builder_Grow_fresh_cap Tryz.lays165 bx b b n w (wF _) hbk hBw hn
def qu5(b:Nat)(bs:List Value)(s:ByteArray)(w:World)(h:Lib.IsBuilderF 62 5 b b bs w)(ac:bs.length+s.size<=140737488355328)(hBw:b<=w.heap.size) :
  Calls Tryz.prog 31 #[.pointer (some ⟨b,0,none⟩),.string s] w fun e w'=>e = .returned (.tuple #[.int .i64 s.size,.nilIface])/\(Lib.BuilderAtF 62 5 b b (.pointer (some ⟨b,0,none⟩)) (bs++Lib.strCells s) w'/\Below b w w'/\Lib.OthersKept 5 (some b) w w')/\∀v0,w.cell? ⟨b,1,none⟩=some v0->∃v1,w'.cell? ⟨b,1,none⟩=some v1/\v0.capOf<=v1.capOf:=
 Any.Builder_WriteString_kc zhz bx b b bs s w h ac hBw
def zme(b:Nat)(bs:List Value)(c:Int)(w:World)(h:Lib.IsBuilderF 62 5 b b bs w)(ac:bs.length+1<=140737488355328)(hBw:b<=w.heap.size) :
  Calls Tryz.prog 30 #[.pointer (some ⟨b,0,none⟩),.int .u8 c] w fun e w'=>e = .returned .nilIface/\(Lib.BuilderAtF 62 5 b b (.pointer (some ⟨b,0,none⟩)) (bs++[.int .u8 c]) w'/\Below b w w'/\Lib.OthersKept 5 (some b) w w'):=
 Any.Builder_WriteByte_k zh0 bx b b bs c w h ac hBw
def zle(b:Nat)(l:List UInt8)(w:World)(h:Lib.IsBuilderF 62 5 b b (Lib.byteCells l) w)(hBw:b<=w.heap.size) :
  Calls Tryz.prog 32 #[.pointer (some ⟨b,0,none⟩)] w fun e w'=>e = .returned (.string ⟨l.toArray⟩)/\(Lib.IsBuilderF 62 5 b b (Lib.byteCells l) w'/\Below b w w'):=
 Any.Builder_String_any_f Tryz.lays169 bx b b l w h hBw
def decC(s:ByteArray)(w:World)(hT:Lib.Utf8Tabs 0 1 w) :
  Calls Tryz.prog 94 #[.string s] w fun e w'=>e = .returned (.tuple #[.int .i32 (Lib.decodeGo s).1,.int .i64 (Lib.decodeGo s).2])/\Below w.heap.size w w':=
 Any.utf8_DecodeRuneInString Tryz.lays197 s w hT
def q4d(s:ByteArray)(pos:Nat)(h:pos<s.size):decodeGo (s.extract pos s.size)=Utf8.decode s pos:=by
 have hx:(s.extract pos s.size).data.toList=s.data.toList.drop pos:=by
  rw[extract_data,List.take_of_length_le (by rw[List.length_drop,← size_eq];omega)]
 have hsz:(s.extract pos s.size).size≠0:=by rw[size_eq,hx,List.length_drop,← size_eq];omega
 unfold decodeGo;rw[qW hsz,← decodeL_drop s pos,← hx];rfl
def q9q(n:Int)(h0:0<=n:=by omega)(h1:n<=4000000:=by omega):wrap64 n=n:=by unfold wrap64;omega
def zmh(p n:Nat)(h:p+n<=4000000):wrap64 ((p:Int)+(n:Int))=(p:Int)+(n:Int):=q9q _
def zmi(p:Nat)(h:p+1<=4000000):wrap64 ((p:Int)+1)=(p:Int)+1:=q9q _
def vI(p k:Nat):Value.int .i64 ((p:Int)+(k:Int)) = .int .i64 ((p+k:Nat):Int):=by rw[Int.natCast_add]
def m0(p:Nat):Value.int .i64 ((p:Int)+1) = .int .i64 ((p+1:Nat):Int):=by rw[Int.natCast_add];rfl
def quy(rep:Bs)(n:Nat)(inv:Bool)(l:Bs)(hne:l≠[])(h:(Lib.decodeL l).1=65533/\(Lib.decodeL l).2=1):vu rep (n+1) inv l=(if inv then[] else rep)++vu rep n true (l.drop 1):=by
 cases l with|nil=>exact absurd rfl hne|cons c l=>rw[vu,qX h];rfl
def qju(rep:Bs)(n:Nat)(inv:Bool)(l:Bs)(hne:l≠[])(h:¬((Lib.decodeL l).1=65533/\(Lib.decodeL l).2=1)):vu rep (n+1) inv l=l.take (Lib.decodeL l).2++vu rep n false (l.drop (Lib.decodeL l).2):=by
 cases l with|nil=>exact absurd rfl hne|cons c l=>rw[vu,qW h]
def tk(rep:Bs)(n:Nat)(inv:Bool):vu rep n inv []=[]:=by cases n<;>rfl
def qd0(rep:Bs):∀(n m:Nat)(inv:Bool)(l:Bs),l.length<=n->l.length<=m->vu rep n inv l=vu rep m inv l
 |0,m,inv,l,h1,_=>by
  have:l=[]:=by cases l with|nil=>rfl|cons c l=>simp at h1
  subst this;rw[tk,tk]
 |n+1,0,inv,l,_,h2=>by
  have:l=[]:=by cases l with|nil=>rfl|cons c l=>simp at h2
  subst this;rw[tk,tk]
 |n+1,m+1,inv,l,h1,h2=>by
  cases l with
  |nil=>rw[tk,tk]|cons c l=>
   have hw:=Lib.decodeL_width (c::l);simp only[qL]at h1 h2;by_cases h:(Lib.decodeL (c::l)).1=65533/\(Lib.decodeL (c::l)).2=1
   ·rw[quy rep n inv _ oC h,quy rep m inv _ oC h,qd0 rep n m true _ oD oD]
   ·rw[qju rep n inv _ oC h,qju rep m inv _ oC h,qd0 rep n m false _ (by simp only[List.length_drop,qL];omega) (by simp only[List.length_drop,qL];omega)]
def zgb(s:ByteArray)(pos:Nat)(h:pos<s.size)(hc:(s.get! pos).toNat<128):Utf8.decode s pos=((s.get! pos).toNat,1):=by
 unfold Utf8.decode;simp only[Nat.add_zero,hc,if_true]
def zga(s:ByteArray)(pos:Nat)(h:pos<s.size)(hc:¬(s.get! pos).toNat<128)(h1:(Utf8.decode s pos).2=1):(Utf8.decode s pos).1=65533:=by
 revert h1;unfold Utf8.decode;simp only[Nat.add_zero,hc,if_false]
 repeat' split
 all_goals first|(intro _;rfl)|(intro h1;exact absurd h1 oC)
def qre{T e:TypeId}{B b:Nat}{bs:List Value}{W W':World}(h:Lib.IsBuilderF T e B b bs W)(hb:Below W.heap.size W W'):Lib.IsBuilderF T e B b bs W':=by
 have k:∀p,Lib.BuilderAtF T e B b p bs W->Lib.BuilderAtF T e B b p bs W':=fun p h=>by
  have hlt:=h.lt;obtain⟨hB,v,hv,hown,hne⟩:=h;exact⟨hB,v,(hb.block b hlt).trans hv,hown.kept (row:=none) ⟨hb.os,hb.tape,hb.output,hb.size,fun k hk _=>hb.block k hk⟩ (Classical.em _),hne⟩
 exact h.elim (fun x => .inl (k _ x)) (fun x => .inr (k _ x))
set_option maxHeartbeats 4000000 in
set_option maxRecDepth 1000000 in
def tovalid(s rep:ByteArray)(w:World)(hs:s.size<=1000000)(hr:rep.size<=1000)(hT:Lib.Utf8Tabs 0 1 w) :
  Calls Tryz.prog 282 #[.string s,.string rep] w fun e w'=>e = .returned (.string ⟨(vu rep.data.toList s.size false s.data.toList).toArray⟩)/\Below w.heap.size w w':=by
 obtain⟨ANS,hANS⟩:∃ANS,vu rep.data.toList s.size false s.data.toList=ANS:=⟨_,rfl⟩;rw[hANS];have ac:s.data.toList.length=s.size:=(Lib.size_eq s).symm
 go_enter Tryz.func282,Tryz.ntmps282
 go_wp2
 go_loopg [0] s.size (fun gk s0 wx=>s0 = .string s/\∃pos:Nat,wx.heap[w.heap.size]? = some (.cells #[.pointer none,.slice none 0 0] 62 (0,0))/\wx.heap[w.heap.size+1]? = some (.stringIter s pos)/\Below w.heap.size w wx /\
  s.data.toList.take pos++vu rep.data.toList (s.size-pos) false (s.data.toList.drop pos)=ANS/\s.size<=pos+gk/\pos<=s.size)
 case atStart=>
  refine⟨rfl,0,?_,?_,((Below.refl _ w).alloc (wF _) _).alloc oC _,by simpa using hANS,oA,oA⟩
  ·have h1:=heap_alloc_new w (.cells #[.pointer none,.slice none 0 0] 62);exact(Below.heap_alloc _ _ _ oC).trans h1
  ·have:=World.iter_heap (w.alloc (.cells #[.pointer none,.slice none 0 0] 62)) s 0;simpa using this
 case round=>
  obtain⟨rfl,pos,hfr,hit,hbw,hsp,hfu,hps⟩:=hrel;by_cases hlt:pos<s.size
  ·obtain⟨g',rfl⟩:∃g',gk=g'+1:=⟨gk-1,oA⟩
   have hnx:∀ty,(Instr.next (.pointer (some ⟨w.heap.size+1,0,none⟩)) true ty).run Tryz.prog wr=_:=fun ty=>Lib.run_next_any_at wr (w.heap.size+1) s pos ty hit hlt
   have hne:s.data.toList.drop pos≠[]:=by
    intro h0;have:=congrArg List.length h0;rw[List.length_drop,ac]at this;simp at this;omega
   have hwd:=Lib.width_pos s pos;have hwn:pos+(Utf8.decode s pos).2<=s.size:=by
    have:=Lib.decodeL_le _ hne;rw[Lib.decodeL_drop,List.length_drop,ac]at this;omega
   have hgood:=qju rep.data.toList (s.size-pos-1) false _ hne;have hdg:=q4d s pos hlt;rw[Lib.decodeL_drop]at hgood;obtain⟨R,hR⟩:∃R,(Utf8.decode s pos).1=R:=⟨_,rfl⟩;obtain⟨K,hK⟩:∃K,(Utf8.decode s pos).2=K:=⟨_,rfl⟩;rw[hR,hK]at hnx hgood;rw[hK]at hwd hwn;rw[List.drop_drop,show s.size-pos-1+1=s.size-pos by omega]at hgood
   have hit2:=Lib.iterAt_heap wr (w.heap.size+1) s pos (pos+K) hit;have hbw2:=Lib.below_iterAt hbw (k:=w.heap.size+1) oA s (pos+K)
   have hfr2:(wr.iterAt (w.heap.size+1) s (pos+K)).heap[w.heap.size]? = _:=(Lib.iterAt_other wr (w.heap.size+1) w.heap.size s (pos+K) oA).trans hfr
   obtain⟨W,hWd⟩:∃W,wr.iterAt (w.heap.size+1) s (pos+K)=W:=⟨_,rfl⟩;rw[hWd]at hnx hit2 hbw2 hfr2;clear hit hbw hfr hWd;have HS:Aside (¬(R=65533/\K=1)->s.data.toList.take (pos+K)++vu rep.data.toList (s.size-(pos+K)) false (s.data.toList.drop (pos+K))=ANS):=by
    intro h;rw[← hsp,hgood h,← qS,← List.take_add];congr 1;exact qd0 _ _ _ _ _ (by rw[List.length_drop,ac];omega) (by rw[List.length_drop,ac];omega)
   have HP:Aside (s.data.toList.take pos++vu rep.data.toList (s.size-pos) false (s.data.toList.drop pos)=ANS):=hsp;clear hgood hsp;have hszW:w.heap.size+1<W.heap.size:=(Array.getElem?_eq_some_iff.1 hit2).1;by_cases h5:R=65533
   ·have h5z:(R:Int)=65533:=oA
    have cD:=decC (s.extract pos s.size) W (Utf8Tabs_below hT hbw2);rw[hdg,hR,hK]at cD;by_cases hk:K=1
    ·
     have hkz:(K:Int)=1:=oA
     have hkb:((K:Int)==1)=true:=by simp[hkz]
     go_wp2_with (go_at_call 94;go_must (refine cD.mono ?_;rintro e W3 ⟨rfl,b3⟩))
     have hfr3:=(b3.block _ (show w.heap.size<W.heap.size by omega)).trans hfr2
     have hbw3:=hbw2.trans (b3.mono (show w.heap.size<=W.heap.size by omega))
     have hs0:=HP.out;clear cD hnx hit2 hfr2 hbw2 hdg HS hszW HP;have cG:=zg4 w.heap.size (s.size+rep.size) W3 hfr3 hbw3.size oA
     go_fit cG
     rintro e W4 ⟨rfl,⟨h4,b4⟩,p4,cap4,hc4,hcap4⟩
     have hxs:(s.extract 0 pos).size=pos:=by rw[Lib.size_eq,Lib.extract_data,List.length_take,List.length_drop,ac];omega
     have hxd:(s.extract 0 pos).data.toList=s.data.toList.take pos:=by rw[Lib.extract_data];simp
     have cW:=qu5 w.heap.size [] (s.extract 0 pos) W4 (Lib.IsBuilderF.of (Or.inr h4)) (by rw[hxs];simp;omega) (Nat.le_trans hbw3.size b4.size)
     go_wp2_with (go_at_call 31;go_must (refine cW.mono ?_;rintro e W5 ⟨rfl,⟨h5w,b5,-⟩,hcp⟩))
     have hb5:Below w.heap.size w W5:=(hbw3.trans b4).trans b5;have hcells:[]++Lib.strCells (s.extract 0 pos)=Lib.byteCells (s.data.toList.take pos):=by
      rw[List.nil_append,Lib.strCells_eq,hxd]
     rw[hcells]at h5w;obtain⟨p5,n5,cap5,hc5,hcap5⟩:∃p5 n5 cap5,W5.cell? ⟨w.heap.size,1,none⟩=some (.slice p5 n5 cap5)/\1<=cap5:=by
      obtain⟨v1,hv1,hle⟩:=hcp _ hc4;obtain⟨_,v6,hv6,hown6,_⟩:=h5w;have hv:W5.cell? ⟨w.heap.size,1,none⟩=some v6:=by rw[Lib.cell_of_heap hv6];rfl
      rw[hv1]at hv;have:=qJ hv;subst this;have hle:cap4<=v1.capOf:=hle;rcases hown6.2 with⟨rfl,h0⟩|⟨g6,cap6,_,_,rfl,_⟩
      ·have:cap4<=0:=hle;omega
      ·have:cap4<=cap6:=hle;exact⟨_,_,cap6,hv1,oA⟩
     clear hcp hc4;have hcapz:¬((cap5:Int)=0):=oA
     have hcapb:((cap5:Int)==0)=false:=by simp;omega
     have cC:=q3l w.heap.size p5 n5 cap5 W5 hc5;obtain⟨s2,hs2⟩:∃s2,s.extract pos s.size=s2:=⟨_,rfl⟩;have hl2:s2.data.toList=s.data.toList.drop pos:=by
      rw[← hs2,Lib.extract_data,List.take_of_length_le (by rw[List.length_drop,ac];omega)]
     have hz2:s2.size=s.size-pos:=by rw[Lib.size_eq,hl2,List.length_drop,ac]
     go_wp2_with (go_at_call 287;go_must (refine cC.mono ?_;rintro e W6 ⟨rfl,rfl⟩))
     have hrl:rep.data.toList.length=rep.size:=(Lib.size_eq rep).symm
     go_loopg [10,11] s2.size (fun gk s10 s11 wx=>∃(p2:Nat)(acc:List UInt8)(inv:Bool),s10 = .bool inv/\s11 = .int .i64 p2/\Lib.IsBuilderF 62 5 w.heap.size w.heap.size (Lib.byteCells acc) wx/\Below w.heap.size w wx /\
      acc++vu rep.data.toList (s2.size-p2) inv (s2.data.toList.drop p2)=ANS/\s2.size<=p2+gk/\p2<=s2.size/\acc.length<=pos+1001*p2)
     case atStart=>
      refine⟨0,s.data.toList.take pos,false,rfl,rfl,Or.inr h5w,hb5,?_,oA,oA,?_⟩
      ·rw[List.drop_zero,hl2,hz2];exact hs0
      ·rw[List.length_take,ac];omega
     case round=>
      obtain⟨p2,acc,inv,rfl,rfl,hI,hbw,hacc,hfu2,hp2,hal⟩:=hrel;have hbs:w.heap.size<=wr.heap.size:=hbw.size;by_cases hlt2:p2<s2.size
      ·obtain⟨g2,rfl⟩:∃g2,gk=g2+1:=⟨gk-1,oA⟩
       have hne2:s2.data.toList.drop p2≠[]:=by
        intro h0;have:=congrArg List.length h0;rw[List.length_drop,← Lib.size_eq,qZ]at this;omega
       have hwd2:=Lib.width_pos s2 p2;have hwn2:p2+(Utf8.decode s2 p2).2<=s2.size:=by
        have:=Lib.decodeL_le _ hne2;rw[Lib.decodeL_drop,List.length_drop,← Lib.size_eq]at this;omega
       have hgood:=qju rep.data.toList (s2.size-p2-1) inv _ hne2;have hbad:=quy rep.data.toList (s2.size-p2-1) inv _ hne2;have hdg:=q4d s2 p2 hlt2;have hlow:=zgb s2 p2 hlt2;have hhigh:=zga s2 p2 hlt2;rw[Lib.decodeL_drop,List.drop_drop,show s2.size-p2-1+1=s2.size-p2 by omega]at hgood hbad
       have hl3:s2.data.toList.length=s2.size:=(Lib.size_eq s2).symm;obtain⟨c,hc⟩:∃c,s2[p2]'hlt2=c:=⟨_,rfl⟩;have hd2:p2<s2.data.size:=hlt2;have hcd:s2.data[p2]'hd2=c:=hc;have hcg:s2.get! p2=c:=by
        show s2.data[p2]! = c;rw[getElem!_pos s2.data p2 hd2];exact hcd
       rw[hcg]at hlow hhigh;obtain⟨R2,hR2⟩:∃R2,(Utf8.decode s2 p2).1=R2:=⟨_,rfl⟩;obtain⟨K2,hK2⟩:∃K2,(Utf8.decode s2 p2).2=K2:=⟨_,rfl⟩;rw[hK2]at hwd2 hwn2;have HG:Aside (¬(R2=65533/\K2=1)->(acc++(s2.data.toList.drop p2).take K2)++vu rep.data.toList (s2.size-(p2+K2)) false (s2.data.toList.drop (p2+K2))=ANS):=by
        intro h;rw[← hacc,hgood (by rw[hR2,hK2];exact h),hK2,qS]
        congr 2;exact qd0 _ _ _ _ _ (by rw[List.length_drop,hl3];omega) (by rw[List.length_drop,hl3];omega)
       have HB:Aside (R2=65533/\K2=1->(acc++(if inv then[] else rep.data.toList))++vu rep.data.toList (s2.size-(p2+1)) true (s2.data.toList.drop (p2+1))=ANS):=by
        intro h;rw[← hacc,hbad (by rw[hR2,hK2];exact h),qS]
        congr 2
       have hxl:(s2.extract p2 (p2+K2)).data.toList=(s2.data.toList.drop p2).take K2:=by
        rw[Lib.extract_data,Nat.add_sub_cancel_left]
       have hxz:(s2.extract p2 (p2+K2)).size=K2:=by rw[Lib.size_eq,hxl,List.length_take,List.length_drop,hl3];omega
       have hcl:acc.length<=1001000000:=oA
       have hbl:(Lib.byteCells acc).length=acc.length:=Lib.byteCells_length acc;clear hgood hbad hacc hs0;have H1:Aside (s2.data.toList.length=s2.size/\(s2.extract p2 (p2+K2)).data.toList=(s2.data.toList.drop p2).take K2/\(Lib.byteCells acc).length=acc.length/\rep.data.toList.length=rep.size):=⟨hl3,hxl,hbl,hrl⟩;have H2:Aside (c.toNat<128->R2=c.toNat/\K2=1):=fun h=>by
        have hd:=hlow h;rw[hd]at hR2 hK2;exact⟨hR2.symm,hK2.symm⟩
       have H3:Aside (¬c.toNat<128->K2=1->R2=65533):=fun h hk=>by
        have:=hhigh h (by rw[hK2];exact hk)
        rw[← hR2];exact this
       have H4:Aside ((List.drop p2 s2.data.toList).take 1=[c]):=by
        show _=_;have hlt':p2<s2.data.toList.length:=by rw[hl3];exact hlt2
        rw[List.drop_eq_getElem_cons hlt',List.take_succ_cons,List.take_zero,Array.getElem_toList,hcd]
       have cD:=decC (s2.extract p2 s2.size) wr (Utf8Tabs_below hT hbw);rw[hdg,hR2,hK2]at cD;have hsz2:s2.size<=s.size:=by rw[hz2];exact Nat.sub_le _ _
       have HW1:Aside (wrap64 ((p2:Int)+1)=(p2:Int)+1):=zmi _ (Nat.le_trans hlt2 (Nat.le_trans hsz2 (Nat.le_trans hs oE)))
       have HWK:Aside (wrap64 ((p2:Int)+(K2:Int))=(p2:Int)+(K2:Int)):=zmh _ _ (Nat.le_trans hwn2 (Nat.le_trans hsz2 (Nat.le_trans hs oE)))
       have HM:Aside (s2.size<=p2+1+g2/\s2.size<=p2+K2+g2/\acc.length+1<=pos+1001*(p2+1)/\acc.length+rep.size<=pos+1001*(p2+1)/\acc.length+K2<=pos+1001*(p2+K2)/\acc.length<=pos+1001*(p2+1)/\acc.length+1<=140737488355328/\acc.length+rep.size<=140737488355328/\acc.length+K2<=140737488355328):=by
        refine⟨?_,?_,?_,?_,?_,?_,?_,?_,?_⟩<;>omega
       clear hal hcl hfu2;clear hcd hcg hlow hhigh hdg hR2 hK2 hl3 hxl hbl hrl hs2 hl2 ac hne2 hz2 hxs hxd hcells hne hR hK;by_cases h128:c.toNat<128
       ·
        obtain⟨_,hk1⟩:=H2.out h128;subst hk1;have H5:Aside (acc++[c]++vu rep.data.toList (s2.size-(p2+1)) false (List.drop (p2+1) s2.data.toList)=ANS):=by
         have:=HG.out oA
         rw[H4.out]at this;exact this
        have cB:=zme w.heap.size (Lib.byteCells acc) c.toNat wr hI (by rw[H1.out.2.2.1];exact HM.out.2.2.2.2.2.2.1) hbs
        clear HG HB H2 H3 H4 cD;have h128z:(c.toNat:Int)<128:=oA
        go_wp2_with (go_at_call 30;go_must (refine cB.mono ?_;rintro e W7 ⟨rfl,h7,b7,k7⟩))
        go_roundg g2
        case measure=>exact Nat.lt_succ_self _
        case rel=>
         refine⟨p2+1,acc++[c],false,rfl,by first|exact m0 p2|exact(congrArg (Value.int .i64) HW1.out).trans (m0 p2),Or.inr ?_,hbw.trans b7,H5.out,HM.out.1,hlt2,by rw[qM];exact HM.out.2.2.1⟩
         rw[Lib.byteCells_append];exact h7
       ·have h128z:¬((c.toNat:Int)<128):=oA
        by_cases hk:K2=1
        ·have hr2:=H3.out h128 hk;have H5:Aside ((acc++(if inv then[] else rep.data.toList))++vu rep.data.toList (s2.size-(p2+1)) true (List.drop (p2+1) s2.data.toList)=ANS):=HB.out ⟨hr2,hk⟩
         have hkz:(K2:Int)=1:=oA
         have hkb:((K2:Int)==1)=true:=by simp[hkz]
         clear HG HB H2 H3 H4
         cases inv with
         |true=>
          go_wp2_with (go_at_call 94;go_must (refine cD.mono ?_;rintro e W7 ⟨rfl,b7⟩))
          go_roundg g2
          case measure=>exact Nat.lt_succ_self _
          case rel=>
           refine⟨p2+1,acc,true,rfl,by first|exact m0 p2|exact(congrArg (Value.int .i64) HW1.out).trans (m0 p2),qre hI b7,hbw.trans (b7.mono hbs),?_,HM.out.1,hlt2,HM.out.2.2.2.2.2.1⟩
           have h:(acc++[])++vu rep.data.toList (s2.size-(p2+1)) true (List.drop (p2+1) s2.data.toList)=ANS:=H5.out;rw[List.append_nil]at h;exact h
         |false=>
          go_wp2_with (go_at_call 94;go_must (refine cD.mono ?_;rintro e W7 ⟨rfl,b7⟩))
          have cW:=qu5 w.heap.size (Lib.byteCells acc) rep W7 (qre hI b7) (by rw[H1.out.2.2.1];exact HM.out.2.2.2.2.2.2.2.1) (Nat.le_trans hbs b7.size)
          go_wp2_with (go_at_call 31;go_must (refine cW.mono ?_;rintro e W8 ⟨rfl,⟨h8,b8,-⟩,-⟩))
          go_roundg g2
          case measure=>exact Nat.lt_succ_self _
          case rel=>
           refine⟨p2+1,acc++rep.data.toList,true,rfl,by first|exact m0 p2|exact(congrArg (Value.int .i64) HW1.out).trans (m0 p2),Or.inr ?_,(hbw.trans (b7.mono hbs)).trans b8,?_,HM.out.1,hlt2,by rw[qM,H1.out.2.2.2];exact HM.out.2.2.2.1⟩
           ·rw[Lib.byteCells_append,← Lib.strCells_eq];exact h8
           ·have h:(acc++rep.data.toList)++vu rep.data.toList (s2.size-(p2+1)) true (List.drop (p2+1) s2.data.toList)=ANS:=H5.out;exact h
        ·have hkz:¬((K2:Int)=1):=oA
         have hkb:((K2:Int)==1)=false:=by simp;omega
         have H5:=HG.out (fun h=>hk h.2)
         go_wp2_with (go_at_call 94;go_must (refine cD.mono ?_;rintro e W7 ⟨rfl,b7⟩))
         have cW:=qu5 w.heap.size (Lib.byteCells acc) (s2.extract p2 (p2+K2)) W7 (qre hI b7) (by rw[H1.out.2.2.1,hxz];exact HM.out.2.2.2.2.2.2.2.2) (Nat.le_trans hbs b7.size)
         go_wp2_with (go_at_call 31;go_must (refine cW.mono ?_;rintro e W8 ⟨rfl,⟨h8,b8,-⟩,-⟩))
         go_roundg g2
         case measure=>exact Nat.lt_succ_self _
         case rel=>
          refine⟨p2+K2,acc++(s2.data.toList.drop p2).take K2,false,rfl,by first|exact vI p2 K2|exact(congrArg (Value.int .i64) HWK.out).trans (vI p2 K2),Or.inr ?_,(hbw.trans (b7.mono hbs)).trans b8,H5,HM.out.2.1,hwn2,?_⟩
          ·rw[Lib.byteCells_append,← H1.out.2.1,← Lib.strCells_eq];exact h8
          ·rw[qM,← H1.out.2.1,← Lib.size_eq,hxz];exact HM.out.2.2.2.2.1
      ·
       obtain rfl:p2=s2.size:=oA
       have cS:=zle w.heap.size acc wr hI hbs
       go_wp2_with (go_at_call 32;go_must (refine cS.mono ?_;rintro e W8 ⟨rfl,_,b8⟩))
       go_ret
       refine⟨?_,hbw.trans b8⟩;rw[Lib.size_eq,List.drop_length,tk,List.append_nil]at hacc;subst hacc;rfl
    ·have hkz:¬((K:Int)=1):=oA
     have hkb:((K:Int)==1)=false:=by simp;omega
     have hs3:=HS.out (fun h=>hk h.2)
     go_wp2_with (go_at_call 94;go_must (refine cD.mono ?_;rintro e W3 ⟨rfl,b3⟩))
     go_roundg g'
     case measure=>omega
     case rel=>exact⟨rfl,pos+K,(b3.block _ (by show _<W.heap.size;omega)).trans hfr2,(b3.block _ (by show _<W.heap.size;omega)).trans hit2,hbw2.trans (b3.mono (by show _<=W.heap.size;omega)),hs3,oA,hwn⟩
   ·have h5':¬((R:Int)=65533):=oA
    have hs3:=HS.out (fun h=>h5 h.1)
    go_wp2
    go_roundg g'
    case measure=>omega
    case rel=>exact⟨rfl,pos+K,hfr2,hit2,hbw2,hs3,oA,hwn⟩
  ·
   obtain rfl:pos=s.size:=oA
   have hnx:∀ty,(Instr.next (.pointer (some ⟨w.heap.size+1,0,none⟩)) true ty).run Tryz.prog wr=_:=fun ty=>Lib.run_next_end_at wr (w.heap.size+1) s s.size ty hit hlt
   have cC:=q3l w.heap.size none 0 0 wr (by rw[Lib.cell_of_heap hfr];rfl)
   go_wp2_with (go_at_call 287;go_must (refine cC.mono ?_;rintro e W' ⟨rfl,rfl⟩))
   go_ret
   refine⟨?_,hbw⟩;rw[← hsp,← ac,List.drop_length,List.take_length,tk,List.append_nil];rfl
end Go.Proofs.ToValid
namespace Go.Sym
open Go.Proofs Go.RowKit
open Go.Proofs.Tryz
variable[LC]
def rr(t:List UInt8):Bool:=(List.range 256).all fun c=>match t[c]? with|some x=>Nat.beq x.toNat (Lib.firstT c)|none=>false
def rt(t:List (UInt8×UInt8)):Bool:=(List.range 16).all fun c=>match t[c]? with|some x=>Nat.beq x.1.toNat (Lib.accLo c)&&Nat.beq x.2.toNat (Lib.accHi c)|none=>false
def quu{G:Gh}{w:World}(hm:bp G [] w){t0:List UInt8}{t1:List (UInt8×UInt8)}(h0:LC.glob 0=some ⟨.byte,t0⟩)(h1:LC.glob 1=some ⟨.prod .byte .byte,t1⟩)(e0:rr t0=true)(e1:rt t1=true):Lib.Utf8Tabs 0 1 w:=by
 refine⟨fun c hc => ?_,fun i hi => ?_⟩
 ·have h:=List.all_eq_true.1 e0 c (List.mem_range.2 hc)
  cases hx:t0[c]? with
  |none=>rw[hx]at h;cases h
  |some x=>
   rw[hx]at h;have ha:G.imm 0 (c*1)=some (.int .u8 x.toNat):=hm.tab.1 _ _ _ h0 c x hx;rw[Nat.mul_one]at ha;rw[hm.agree _ _ _ ha,qN h]
 ·have h:=List.all_eq_true.1 e1 i (List.mem_range.2 hi)
  cases hx:t1[i]? with
  |none=>rw[hx]at h;cases h
  |some x=>
   rw[hx]at h;simp only[qA]at h;have ha:G.imm 1 (i*2)=some (.int .u8 x.1.toNat)/\G.imm 1 (i*2+1)=some (.int .u8 x.2.toNat):=hm.tab.1 _ _ _ h1 i x hx;rw[Nat.mul_comm]at ha;exact⟨by rw[hm.agree _ _ _ ha.1,qN h.1],by rw[hm.agree _ _ _ ha.2,qN h.2]⟩
def zlp{G:Gh}{w:World}(hm:bp G [] w){t0:List UInt8}{t1:List (UInt8×UInt8)}(h0:LC.glob 0=some ⟨.byte,t0⟩)(h1:LC.glob 1=some ⟨.prod .byte .byte,t1⟩)(e0:rr t0=true)(e1:rt t1=true)(s o:Bs)(d1:s.length<=1000000)(d2:o.length<=1000) :
  Calls Tryz.prog 282 #[.string ⟨s.toArray⟩,.string ⟨o.toArray⟩] w fun e w'=>e = .returned (.string ⟨(vu o s.length false s).toArray⟩)/\bg w w':=by
 refine(ToValid.tovalid ⟨s.toArray⟩ ⟨o.toArray⟩ w (by rw[fj];exact d1) (by rw[fj];exact d2) (quu hm h0 h1 e0 e1)).mono ?_
 rintro e w' ⟨rfl,hw⟩
 exact⟨by rw[fj],bg.of_below hw⟩
def q9b:IF:=⟨.fn 282,[.h .str,.h .str],[],_,RS.mk (.h .str) []⟩
def zlq{t0:List UInt8}{t1:List (UInt8×UInt8)}(h0:LC.glob 0=some ⟨.byte,t0⟩)(h1:LC.glob 1=some ⟨.prod .byte .byte,t1⟩)(e0:rr t0=true)(e1:rt t1=true):(q9b.e qbp).Sound Tryz.prog:=fun d d' r h=>by
 obtain⟨s,o,_⟩:=d;have h:qbp s o=some r:=h;unfold qbp at h;cases hd:decide (List.length (α:=UInt8) s<=1000000/\List.length (α:=UInt8) o<=1000)<;>rw[hd]at h<;>simp only[qT,qF,reduceCtorEq]at h
 have h:=qJ h;subst h;obtain⟨d1,d2⟩:=of_decide_eq_true hd;refine⟨call282,bu.data fun w G vs hm hr => ?_⟩
 match vs,hr with
 |[u,v],⟨h1',h2',_⟩=>
  have h1':u = .string ⟨s.toArray⟩:=h1';have h2':v = .string ⟨o.toArray⟩:=h2';subst h1' h2';exact(zlp hm h0 h1 e0 e1 s o d1 d2).mono fun e w'⟨he,hw⟩=>⟨_,he,rfl,hw⟩
def zl7{G:Gh}{w:World}(hm:bp G [] w){t0:List UInt8}{t1:List (UInt8×UInt8)}(h0:LC.glob 0=some ⟨.byte,t0⟩)(h1:LC.glob 1=some ⟨.prod .byte .byte,t1⟩)(e0:rr t0=true)(e1:rt t1=true)(s:Bs)(d1:s.length<=9223372036854775807) :
  Calls Tryz.prog 15 #[.string ⟨s.toArray⟩] w fun e w'=>e = .returned (.bool (Lib.validD s))/\bg w w':=by
 refine(Any.utf8_ValidString Tryz.lays196 ⟨s.toArray⟩ w (by rw[fj];exact d1) (quu hm h0 h1 e0 e1)).mono ?_
 rintro e w' ⟨rfl,hw⟩
 exact⟨rfl,bg.of_below hw⟩
def qjt:IF:=⟨.fn 15,[.h .str],[],_,RS.mk (.h .bool) []⟩
def quv{t0:List UInt8}{t1:List (UInt8×UInt8)}(h0:LC.glob 0=some ⟨.byte,t0⟩)(h1:LC.glob 1=some ⟨.prod .byte .byte,t1⟩)(e0:rr t0=true)(e1:rt t1=true):(qjt.e gy).Sound Tryz.prog:=fun d d' r h=>by
 obtain⟨s,_⟩:=d;have h:gy s=some r:=h;unfold gy at h;cases hd:decide (List.length (α:=UInt8) s<=9223372036854775807)<;>rw[hd]at h<;>simp only[qT,qF,reduceCtorEq]at h
 have h:=qJ h;subst h;have d1:=of_decide_eq_true hd;refine⟨call15,bu.data fun w G vs hm hr => ?_⟩
 match vs,hr with
 |[u],⟨h1',_⟩=>
  have h1':u = .string ⟨s.toArray⟩:=h1';subst h1';exact(zl7 hm h0 h1 e0 e1 s d1).mono fun e w'⟨he,hw⟩=>⟨_,he,rfl,hw⟩
end Go.Sym
namespace Go.Sym
open Go.RowKit
variable[LC]
section
variable{P:Program}{zw0:World}{zwv:Gh}{zwx:List (Nat×ag)}{G:Gh}{s:St}{a:Act}{w:World}
def ah.drewOk(hr:ah zw0 zwv zwx G s a w):ah zw0 zwv zwx G s a w.drew:=
 ⟨hr.defers,hr.size,hr.frame,hr.fresh,⟨⟨hr.fin.mem.agree,hr.fin.mem.one,hr.fin.mem.holds,hr.fin.mem.apart,LC.mono (fun _ _ _ h=>h) (fun _ _ _ _=>rfl) hr.fin.mem.tab⟩,⟨hr.fin.bel.os,hr.fin.bel.tape,hr.fin.bel.output,hr.fin.bel.size,hr.fin.bel.block⟩,hr.fin.imm_le,hr.fin.imm_new,hr.fin.base,hr.fin.keep,hr.fin.keepOwn⟩⟩
def aj.setAt{G:Gh}{x:AV}{v:Value}(hx:ai x G v):∀{xs:List AV}{vs:List Value}{i:Nat},aj xs G vs->aj (xs.set i x) G (vs.set i v)|[],[],_,_=>trivial|_::_,_::_,0,h=>⟨hx,h.2⟩|_::_,_::_,_+1,h=>⟨h.1,aj.setAt hx h.2⟩|[],_::_,_,h=>h.elim|_::_,[],_,h=>h.elim
def ah.setCellAt(hr:ah zw0 zwv zwx G s a w){n B i:Nat}{cs:List AV}{T:TypeId}{x:AV}{v:Value}(hn:ae s.hp n=some (.cells cs T))(hB:G.box n=some B)(hx:ai x G v)(h1:v.oneCell'=true) :
  ah zw0 zwv zwx G { s with hp:=(n,.cells (cs.set i x) T)::s.hp } a (w.setCell ⟨B,i,none⟩ v):=by
 obtain⟨B',vs,k1,k2,k3,k4,k5⟩:=hr.fin.mem.holds n _ hn;rw[hB]at k1;cases k1;have hheap:(w.setCell ⟨B,i,none⟩ v).heap[B]? = some (.cells (vs.setIfInBounds i v) T (0,0)):=by
  simp[World.setCell,Array.getElem?_modify,k2]
 have hbel:bm (fun b=>b=B) w (w.setCell ⟨B,i,none⟩ v):=
  ⟨rfl,rfl,rfl,by simp[World.setCell],fun k _ hne=>by
   simp only[World.setCell,Array.getElem?_modify];rw[qW (fun e=>hne e.symm)]⟩
 have hat:∀cs',G.at n (.cells cs' T)=some B:=fun _=>hB
 refine⟨hr.defers,hr.size,hr.frame,fun m hm hl=>hr.fresh m hm (by
  simp only[ae]at hl;cases hb:Nat.beq n m
  ·rw[hb]at hl;exact hl
  ·rw[hb]at hl;cases hl),hr.fin.update hn (hat cs) (hat _) hbel ⟨B,_,hB,hheap,?_,?_,k5⟩ k5⟩
 ·rw[Array.toList_setIfInBounds];exact aj.setAt hx k3
 ·intro u hu;rw[Array.toList_setIfInBounds]at hu;rcases List.mem_or_eq_of_mem_set hu with hu|hu
  ·exact k4 u hu
  ·rw[hu];exact h1
def ah.cellAt(hr:ah zw0 zwv zwx G s a w){n B i:Nat}{cs:List AV}{T:TypeId}{x:AV}(hn:ae s.hp n=some (.cells cs T))(hB:G.box n=some B)(hx:cs[i]? = some x) :
  ∃v,w.cell? ⟨B,i,none⟩=some v/\ai x G v/\w.frozen? ⟨B,i,none⟩=false:=by
 obtain⟨B',vs,k1,k2,k3,k4,k5⟩:=hr.fin.mem.holds n _ hn;rw[hB]at k1;cases k1;obtain⟨v,v1,v2⟩:=gw k3 hx;refine⟨v,cell_of_heap k2 v1,v2,?_⟩;simp only[World.frozen?,k2];simp
def ah.start{G:Gh}{hp:List (Nat×ag)}{w:World}{N:NM}(hm:bp G hp w)(h:∀n b,ae hp n=some b->ap N n=some n/\cw (ap N) b=b)(hN:∀n,ae hp n=none->ar N n=none)(k:Nat) :
  ah w (G.view N) hp (G.view N) { n:=k,fr:=[],hp:=hp,nx:=64,df:=[] } { tmps:=Array.replicate k undef,defers:=[] } w:=by
 refine⟨⟨[],rfl,rfl⟩,oC,fun i x hx=>(by cases hx),fun m _ hl => ?_,rl (hm.only h)⟩
 have:=hN m hl;simp[Gh.view,this]
end
end Go.Sym
set_option linter.unusedVariables false
namespace Go.Proofs.Repl
open Go.Shelf Go.RowKit Go.Lib Go.Sym
def rv(a b:UInt8)(ga gb ca cb:Nat)(c:UInt8):Value:=if c=a then .slice (some ⟨ga,0,none⟩) 2 ca else if c=b then .slice (some ⟨gb,0,none⟩) 2 cb else .slice none 0 0
structure ip(R:Nat)(a b a1 a2 b1 b2:UInt8)(w:World):Prop where
 ex:∃ga gb gt ca cb ct,(∀c:UInt8,w.cell? ⟨R,c.toNat,none⟩=some (rv a b ga gb ca cb c))/\w.cell? ⟨R,256,none⟩=some (.slice (some ⟨gt,0,none⟩) 2 ct) /\
  w.cell? ⟨gt,0,none⟩=some (.string ⟨#[b]⟩)/\w.cell? ⟨gt,1,none⟩=some (.string ⟨#[a]⟩) /\
  w.cell? ⟨ga,0,none⟩=some (.int .u8 a1.toNat)/\w.cell? ⟨ga,1,none⟩=some (.int .u8 a2.toNat)/\w.cell? ⟨gb,0,none⟩=some (.int .u8 b1.toNat)/\w.cell? ⟨gb,1,none⟩=some (.int .u8 b2.toNat)
def ip.below{R:Nat}{a b a1 a2 b1 b2:UInt8}{w w':World}(h:ip R a b a1 a2 b1 b2 w)(hb:Below w.heap.size w w'):ip R a b a1 a2 b1 b2 w':=by
 have k:∀{p:Addr}{v:Value},w.cell? p=some v->w'.cell? p=some v:=fun{p v} hc=>(hb.cell (World.block_lt_of_cell? _ _ hc)).trans hc
 obtain⟨ga,gb,gt,ca,cb,ct,h1,h2,h3,h4,h5,h6,h7,h8⟩:=h.ex;exact⟨ga,gb,gt,ca,cb,ct,fun c=>k (h1 c),k h2,k h3,k h4,k h5,k h6,k h7,k h8⟩
def q31(s:ByteArray)(c:UInt8)(w:World) :
  Calls Tryz.prog 138 #[.string s,.string ⟨#[c]⟩] w fun e w'=>e = .returned (.int .i64 (Lib.countByte s.data.toList c))/\w'=w:=
 Any.strings_Count_one Tryz.lays138 s c w
def zka{w:World}{g:Nat}{t:TypeId}{N:Nat}{f:Nat->Value}{cur:Array Value}(hg:w.heap[g]? = some (.cells cur t (0,0)))(hz:cur.size=N)(hc:∀i,i<N->cur[i]? = some (f i)){j:Nat}(hj:j+2<=N)(v1 v2:Value) :
  (w.setRow g (cur.toList.take j++[v1,v2]++cur.toList.drop (j+2)).toArray).rowIs g t N (fun i=>if i=j then v1 else if i=j+1 then v2 else f i):=by
 have hl:cur.toList.length=N:=by simpa using hz
 refine⟨_,setRow_heap w g cur _ t _ hg,oD,fun i hi => ?_⟩
 simp only[List.getElem?_toArray];rw[qS];by_cases h1:i<j
 ·rw[List.getElem?_append_left oD,List.getElem?_take,qX h1,qW oA,qW oA,← hc i hi];simp
 ·rw[List.getElem?_append_right oD,show(cur.toList.take j).length=j by simp;omega]
  by_cases h2:i=j
  ·subst h2;simp
  ·by_cases h3:i=j+1
   ·subst h3;rw[qW h2,qX rfl,show j+1-j=1 by omega];rfl
   ·rw[qW h2,qW h3,List.getElem?_append_right oD,List.getElem?_drop,← hc i hi]
    simp;congr 1;omega
def qqq(b o n:Nat):(⟨b,o,none⟩:Addr).add n=⟨b,o+n,none⟩:=by unfold Addr.add;split<;>simp_all
def q30{w:World}{G ga j M c:Nat}{f:Nat->Value}{x1 x2:UInt8}(hrow:w.rowIs G 5 M f)(hj:j+2<=M)(h0:w.cell? ⟨ga,0,none⟩=some (.int .u8 x1.toNat))(h1:w.cell? ⟨ga,1,none⟩=some (.int .u8 x2.toNat)) :
  ∃ROW,(Builtin.copy_ #[32,32] 3 #[.slice (some ⟨G,j,none⟩) (M-j) (M-j),.slice (some ⟨ga,0,none⟩) 2 c]).run Tryz.prog w = .ok (.int .i64 2) (w.setRow G ROW) /\
   (w.setRow G ROW).rowIs G 5 M (fun i=>if i=j then .int .u8 x1.toNat else if i=j+1 then .int .u8 x2.toNat else f i):=by
 obtain⟨cur,k1,k2,k3⟩:=hrow;refine⟨_,?_,zka k1 k2 k3 hj _ _⟩;exact run_copy_row (P:=Tryz.prog) w 32 32 3 5 G j (M-j) (M-j) ⟨ga,0,none⟩ 2 c cur 5 [.int .u8 x1.toNat,.int .u8 x2.toNat] Tryz.underlying32 oB k1
  (by show 2=Nat.min 2 (M-j);exact(Nat.min_eq_left oA).symm)
  (fun i v hv=>by
   rw[qqq]
   match i,hv with
   |0,hv=>cases hv;exact h0
   |1,hv=>cases hv;exact h1
   | i+2,hv=>cases hv)
  (by show j+2<=cur.size;omega) (fun v hv=>by
   rcases List.mem_cons.1 hv with rfl|hv
   ·rfl
   ·rcases List.mem_cons.1 hv with rfl|hv
    ·rfl
    ·cases hv)
def bv(l:Bs)(j:Nat):Value := .int .u8 (l.getD j 0).toNat
def q3e(l m:Bs)(j:Nat)(h:j<l.length):bv (l++m) j=bv l j:=by unfold bv;rw[List.getD_eq_getElem?_getD,List.getD_eq_getElem?_getD,List.getElem?_append_left h]
def q3d(l m:Bs)(c:UInt8):bv (l++c::m) l.length = .int .u8 c.toNat:=by unfold bv;rw[List.getD_eq_getElem?_getD,List.getElem?_append_right (wF _),Nat.sub_self];rfl
def zfd(l m:Bs)(c d:UInt8):bv (l++c::d::m) (l.length+1) = .int .u8 d.toNat:=by unfold bv;rw[List.getD_eq_getElem?_getD,List.getElem?_append_right oA,show l.length+1-l.length=1 by omega];rfl
def qcn(l:Bs)(j:Nat)(h:l.length<=j:=by omega):bv l j = .int .u8 0:=by unfold bv;rw[List.getD_eq_getElem?_getD,List.getElem?_eq_none h];rfl
def q3f(l:Bs)(c d:UInt8)(i:Nat):(if i=l.length then Value.int .u8 c.toNat else if i=l.length+1 then .int .u8 d.toNat else bv l i)=bv (l++[c,d]) i:=by
 by_cases h:i<l.length
 ·rw[qW oA,qW oA,q3e _ _ _ h]
 ·by_cases h1:i=l.length
  ·subst h1;rw[qX rfl,q3d]
  ·by_cases h2:i=l.length+1
   ·subst h2;rw[qW h1,qX rfl,zfd]
   ·rw[qW h1,qW h2,qcn _ _,qcn _ _ oD]
def zfe(l:Bs)(c:UInt8)(i:Nat):(if i=l.length then Value.int .u8 c.toNat else bv l i)=bv (l++[c]) i:=by
 by_cases h:i<l.length
 ·rw[qW oA,q3e _ _ _ h]
 ·by_cases h1:i=l.length
  ·subst h1;rw[qX rfl,q3d]
  ·rw[qW h1,qcn _ _,qcn _ _ oD]
def vI2(p:Nat):Value.int .i64 ((p:Int)+2) = .int .i64 ((p+2:Nat):Int):=by rw[Int.natCast_add];rfl
def m0(p:Nat):Value.int .i64 ((p:Int)+1) = .int .i64 ((p+1:Nat):Int):=by rw[Int.natCast_add];rfl
def q9r(n:Nat)(h:n<=4000000:=by omega):wrap64 (n:Int)=(n:Int):=by unfold wrap64;omega
def zim(p:Addr)(n c:Nat)(w:World):(binOp .neq 32 (.slice (some p) n c) (.slice none 0 0)).run Tryz.prog w = .ok (.bool true) w:=oB
def zil(w:World):(binOp .neq 32 (.slice none 0 0) (.slice none 0 0)).run Tryz.prog w = .ok (.bool false) w:=oB
def zgv(p:Addr)(n c:Nat)(w:World):(binOp .eql 32 (.slice (some p) n c) (.slice none 0 0)).run Tryz.prog w = .ok (.bool false) w:=oB
def zgu(w:World):(binOp .eql 32 (.slice none 0 0) (.slice none 0 0)).run Tryz.prog w = .ok (.bool true) w:=oB
set_option maxHeartbeats 4000000 in
set_option maxRecDepth 1000000 in
def zfb(R:Nat)(a b a1 a2 b1 b2:UInt8)(s:ByteArray)(w:World)(hab:a≠b)(hs:s.size<=1000000)(hB:ip R a b a1 a2 b1 b2 w) :
  Calls Tryz.prog 338 #[.pointer (some ⟨R,0,none⟩),.string s] w fun e w'=>e = .returned (.string ⟨(d5 a b [a1,a2] [b1,b2] s.data.toList).toArray⟩)/\Below w.heap.size w w':=by
 obtain⟨ga,gb,gt,ca,cb,ct,-,hT,ht0,ht1,-⟩:=hB.ex;obtain⟨L,hL⟩:∃L,s.data.toList=L:=⟨_,rfl⟩;have ac:L.length=s.size:=by rw[← hL];exact(Lib.size_eq s).symm
 rw[hL];have HB:Aside (ip R a b a1 a2 b1 b2 w):=hB;clear hB;have cBc:=fun w=>q31 s b w
 have cAc:=fun w=>q31 s a w
 rw[hL]at cBc cAc;obtain⟨Z,hZ⟩:∃Z,g7 a b L=Z:=⟨_,rfl⟩;have HZ:Aside (g7 a b L=Z):=hZ;have hZ2:Z<=2000000:=by
  rw[← hZ];unfold g7;have h1:=List.count_le_length (a:=a) (l:=L);have h2:=List.count_le_length (a:=b) (l:=L);omega
 clear hZ;obtain⟨M,hM⟩:∃M,s.size+Z=M:=⟨_,rfl⟩;have HM:Aside (s.size+Z=M):=hM;have hMb:M<=3000000:=oA
 clear hM;have hn1:=zim;have hn2:=zil
 go_enter Tryz.func338,Tryz.ntmps338
 go_upto_if 26 with(fail)
 go_cut [5,6] (fun s5 s6 wx=>s5 = .int .i64 (M:Nat)/\s6 = .bool (decide (0<Z))/\Below w.heap.size w wx)
 case first=>
  obtain⟨X,hX⟩:∃X,L.count b=X:=⟨_,rfl⟩;obtain⟨Y,hY⟩:∃Y,L.count a=Y:=⟨_,rfl⟩;have HXY:Aside (Z=Y+X):=by show Z=Y+X;rw[← HZ.out];unfold g7;rw[hX,hY]
  have hXl:X<=s.size:=by rw[← hX,← ac];exact List.count_le_length
  have hYl:Y<=s.size:=by rw[← hY,← ac];exact List.count_le_length
  have cBc:∀w,Calls Tryz.prog 138 #[.string s,.string ⟨#[b]⟩] w fun e w'=>e = .returned (.int .i64 (X:Nat))/\w'=w:=fun w=>by rw[← hX];exact cBc w
  have cAc:∀w,Calls Tryz.prog 138 #[.string s,.string ⟨#[a]⟩] w fun e w'=>e = .returned (.int .i64 (Y:Nat))/\w'=w:=fun w=>by rw[← hY];exact cAc w
  clear hX hY
  go_wp2
  ·rename_i h16;clear h16
   go_loopg [5,6,32] 2 (fun gk s5 s6 s32 wx=>Below w.heap.size w wx/\((s32 = .int .i64 0/\s5 = .int .i64 (s.size:Nat)/\s6 = .bool false/\gk=2)\/(s32 = .int .i64 1/\s5 = .int .i64 ((s.size+X:Nat):Int)/\s6 = .bool (decide (0<X))/\gk=1)\/(s32 = .int .i64 2/\s5 = .int .i64 ((s.size+(Y+X):Nat):Int)/\s6 = .bool (decide (0<Y+X))/\gk=0)))
   case atStart=>exact⟨Below.refl _ _,Or.inl ⟨rfl,rfl,rfl,rfl⟩⟩
   case round=>
    obtain⟨hbw,h⟩:=hrel;have ht0':wr.cell? ⟨gt,0,none⟩=some (.string ⟨#[b]⟩):=(hbw.cell (World.block_lt_of_cell? _ _ ht0)).trans ht0;have ht1':wr.cell? ⟨gt,1,none⟩=some (.string ⟨#[a]⟩):=(hbw.cell (World.block_lt_of_cell? _ _ ht1)).trans ht1;clear ht0 ht1;rcases h with⟨rfl,rfl,rfl,rfl⟩|⟨rfl,rfl,rfl,rfl⟩|⟨rfl,rfl,rfl,rfl⟩
    ·have cX:=cBc wr;by_cases h0:X=0
     ·subst h0
      go_wp2_with (go_at_call 138;go_must (refine cX.mono ?_;rintro e W1 ⟨rfl,rfl⟩))
      go_roundg 1
      case measure=>omega
      case rel=>exact⟨hbw,Or.inr (Or.inl ⟨rfl,rfl,rfl,rfl⟩)⟩
     ·have hz:¬((X:Int)=0):=oA
      obtain⟨ga',gb',gt',ca',cb',ct',hR,-⟩:=(HB.out.below hbw).ex;have hRb:wr.cell? ⟨R,b.toNat,none⟩=some (.slice (some ⟨gb',0,none⟩) 2 cb'):=by rw[hR b];unfold rv;rw[qW (fun h=>hab h.symm),qX rfl]
      clear hR;have g0:∀h,(⟨#[b]⟩:ByteArray)[0]'h=b:=fun _=>rfl
      have g1:(b.toNat:Int)<256:=by have:=b.toNat_lt;omega
      go_wp2_with (go_at_call 138;go_must (refine cX.mono ?_;rintro e W1 ⟨rfl,rfl⟩))
      go_region
      all_goals go_wp2
      go_roundg 1
      case measure=>omega
      case rel=>exact⟨hbw.drew,Or.inr (Or.inl ⟨rfl,congrArg _ oA,by rw[decide_eq_true (Nat.pos_of_ne_zero h0)],rfl⟩)⟩
    ·have cX:=cAc wr;by_cases h0:Y=0
     ·subst h0
      go_wp2_with (go_at_call 138;go_must (refine cX.mono ?_;rintro e W1 ⟨rfl,rfl⟩))
      go_roundg 0
      case measure=>omega
      case rel=>exact⟨hbw,Or.inr (Or.inr ⟨rfl,congrArg _ oA,by rw[wO],rfl⟩)⟩
     ·have hz:¬((Y:Int)=0):=oA
      obtain⟨ga',gb',gt',ca',cb',ct',hR,-⟩:=(HB.out.below hbw).ex;have hRb:wr.cell? ⟨R,a.toNat,none⟩=some (.slice (some ⟨ga',0,none⟩) 2 ca'):=by rw[hR a];unfold rv;rw[qX rfl]
      clear hR;have g0:∀h,(⟨#[a]⟩:ByteArray)[0]'h=a:=fun _=>rfl
      have g1:(a.toNat:Int)<256:=by have:=a.toNat_lt;omega
      go_wp2_with (go_at_call 138;go_must (refine cX.mono ?_;rintro e W1 ⟨rfl,rfl⟩))
      go_region
      all_goals go_wp2
      go_roundg 0
      case measure=>omega
      case rel=>exact⟨hbw.drew,Or.inr (Or.inr ⟨rfl,congrArg _ oA,by rw[decide_eq_true (show 0<Y+X by omega)],rfl⟩)⟩
    ·go_wp2
     go_meet
     case rel=>exact⟨by rw[← HM.out,HXY.out],by rw[HXY.out],hbw⟩
  ·rename_i h16;clear h16
   go_loopg [5,6,10] s.size (fun gk s5 s6 s10 wx=>wx=w/\∃k C:Nat,s10 = .int .i64 k/\s5 = .int .i64 ((s.size+C:Nat):Int)/\s6 = .bool (decide (0<C))/\k<=s.size/\s.size<=k+gk/\Aside (g7 a b (L.take k)=C)/\C<=2000000)
   case atStart=>exact⟨rfl,0,0,rfl,rfl,rfl,Nat.zero_le _,oA,rfl,oA⟩
   case round=>
    obtain⟨rfl,k,C,rfl,rfl,rfl,hk,hgk,HC,hC⟩:=hrel;by_cases hk2:k<s.size
    ·obtain⟨g,rfl⟩:∃g,gk=g+1:=⟨gk-1,oA⟩
     obtain⟨c,hc⟩:∃c,s[k]'hk2=c:=⟨_,rfl⟩;have hstep:Aside (g7 a b (L.take (k+1))=C+(if c=a then 1 else if c=b then 1 else 0)):=by
      have h1:k<L.length:=by rw[ac];exact hk2
      have h2:L[k]'h1=c:=by subst hL;exact hc
      show _=_;rw[q89 L k h1,qrs,HC.out,qrt hab,h2]
     have hC3:Aside (g7 a b (L.take (k+1))<=2000000):=by
      show _<=_;unfold g7;have h1:=List.count_le_length (a:=a) (l:=L.take (k+1));have h2:=List.count_le_length (a:=b) (l:=L.take (k+1));rw[List.length_take]at h1 h2;omega
     obtain⟨ga',gb',gt',ca',cb',ct',hR,-⟩:=HB.out.ex;have hRc:=hR c;unfold rv at hRc;clear hR;have g1:(c.toNat:Int)<256:=by have:=c.toNat_lt;omega
     by_cases h1:c=a
     ·rw[qX h1]at hRc;rw[qX h1]at hstep;clear h1
      go_wp2
      go_roundg g
      case measure=>omega
      case rel=>exact⟨rfl,k+1,C+1,congrArg _ oA,congrArg _ oA,by rw[decide_eq_true (Nat.succ_pos C)],oA,oA,hstep,by have:=hC3.out;rw[hstep.out]at this;exact this⟩
     ·rw[qW h1]at hRc;rw[qW h1]at hstep;by_cases h2:c=b
      ·rw[qX h2]at hRc;rw[qX h2]at hstep;clear h1 h2
       go_wp2
       go_roundg g
       case measure=>omega
       case rel=>exact⟨rfl,k+1,C+1,congrArg _ oA,congrArg _ oA,by rw[decide_eq_true (Nat.succ_pos C)],oA,oA,hstep,by have:=hC3.out;rw[hstep.out]at this;exact this⟩
      ·rw[qW h2]at hRc;rw[qW h2]at hstep;clear h1 h2
       go_wp2
       go_roundg g
       case measure=>omega
       case rel=>exact⟨rfl,k+1,C,congrArg _ oA,congrArg _ oA,rfl,oA,oA,hstep,hC⟩
    ·obtain rfl:k=s.size:=oA
     have HC2:C=Z:=by rw[← HC.out,← ac,List.take_length,HZ.out]
     subst HC2
     go_wp2
     go_meet
     case rel=>exact⟨by rw[HM.out],rfl,Below.refl _ _⟩
 case rest=>
  obtain⟨rfl,hs6,hbw⟩:=hcut;cases h0:decide (0<Z)<;>rw[h0]at hs6<;>subst hs6
  ·have hz0:=of_decide_eq_false h0;have hid:=q4n hab [a1,a2] [b1,b2] L (by rw[HZ.out];omega)
   clear h0 hz0;have HI:Aside (d5 a b [a1,a2] [b1,b2] L=L):=hid;clear hid
   go_wp2
   go_ret
   exact⟨by rw[HI.out,← hL];rfl,hbw⟩
  ·clear h0;have hmk:∀w:World,(Instr.makeSlice 32 (.int .i64 (M:Int)) (.int .i64 (M:Int))).run Tryz.prog w = .ok (.slice (some ⟨w.heap.size,0,none⟩) M M) (w.alloc (.cells (madeCells #[.int .u8 0] M) 5)):=fun w=>
    run_make_row' (P:=Tryz.prog) 32 5 (.int .u8 0) 1 Tryz.underlying32 oB rfl .i64 .i64 M oA oA w
   go_wp2
   obtain⟨G,hG⟩:∃G,wc.heap.size=G:=⟨_,rfl⟩;have hrow0:=World.rowIs_made wc (.int .u8 0) M 5;have hGle:w.heap.size<=G:=by rw[← hG];exact hbw.size
   have hbw1:=hbw.alloc hbw.size (Obj.cells (madeCells #[.int .u8 0] M) 5);rw[hG]at hrow0 ⊢;have hLM:Aside (∀k,(d5 a b [a1,a2] [b1,b2] (L.take k)).length<=M):=fun k=>by
    have h1:d5 a b [a1,a2] [b1,b2] L=d5 a b [a1,a2] [b1,b2] (L.take k)++d5 a b [a1,a2] [b1,b2] (L.drop k):=by rw[← qhv,List.take_append_drop]
    have h2:=congrArg List.length h1;rw[qsf hab,ac,HZ.out,HM.out,qM]at h2;omega
   go_loopg [13,14] s.size (fun gk s13 s14 wx=>∃k j:Nat,s13 = .int .i64 j/\s14 = .int .i64 k/\k<=s.size/\s.size<=k+gk/\j<=M/\Aside ((d5 a b [a1,a2] [b1,b2] (L.take k)).length=j)/\Aside (wx.rowIs G 5 M (bv (d5 a b [a1,a2] [b1,b2] (L.take k))))/\Below w.heap.size w wx)
   case atStart=>exact⟨0,0,rfl,rfl,Nat.zero_le _,oA,Nat.zero_le _,rfl,hrow0.congr (fun i _=>(qcn [] i (Nat.zero_le _)).symm),hbw1⟩
   case round=>
    obtain⟨k,j,rfl,rfl,hk,hgk,hjM,HJ,hrow,hbx⟩:=hrel;clear hrow0 hbw1;by_cases hk2:k<s.size
    ·obtain⟨g,rfl⟩:∃g,gk=g+1:=⟨gk-1,oA⟩
     have HG:Aside (s.size<=k+1+g):=by show _<=_;omega
     clear hgk hk;obtain⟨c,hc⟩:∃c,s[k]'hk2=c:=⟨_,rfl⟩;have hk1:k<L.length:=by rw[ac];exact hk2
     have hLk:L[k]'hk1=c:=by subst hL;exact hc
     have hstep:Aside (d5 a b [a1,a2] [b1,b2] (L.take (k+1))=d5 a b [a1,a2] [b1,b2] (L.take k)++pq a b [a1,a2] [b1,b2] c):=by
      show _=_;rw[q89 L k hk1,qhv,hLk];show _++(pq a b [a1,a2] [b1,b2] c++[])=_;rw[List.append_nil]
     have hfit:Aside (j+(pq a b [a1,a2] [b1,b2] c).length<=M):=by
      have:=hLM.out (k+1);rw[hstep.out,qM,HJ.out]at this;exact this
     clear hLk hk1;obtain⟨ga',gb',gt',ca',cb',ct',hR,hT',ht0',ht1',ha0,ha1,hb0,hb1⟩:=(HB.out.below hbx).ex;have hRc:=hR c;unfold rv at hRc;clear hR hT' ht0' ht1';have g1:(c.toNat:Int)<256:=by have:=c.toNat_lt;omega
     unfold pq at hstep hfit;by_cases h1:c=a
     ·rw[qX h1]at hRc hstep hfit;have hf2:j+2<=M:=hfit.out;clear h1;have hMj:¬M=j:=oA
      obtain⟨ROW,hcp,hnew⟩:=q30 (w:=wr.drew) (c:=ca') hrow.out.drew hf2 (by rw[World.cell?_drew];exact ha0) (by rw[World.cell?_drew];exact ha1)
      have HN:Aside (_):=hnew;have HW:Aside (wrap64 ((j:Int)+2)=(j:Int)+2):=by have:=q9r (j+2);rw[Int.natCast_add]at this;exact this
      clear hnew
      go_wp2
      go_region
      all_goals go_wp2
      go_roundg g
      case measure=>exact Nat.lt_succ_self _
      case rel=>exact⟨k+1,j+2,by first|exact vI2 j|exact(congrArg (Value.int .i64) HW.out).trans (vI2 j),m0 k,hk2,HG.out,hf2,by show _=_;rw[hstep.out,qM,HJ.out];rfl,World.rowIs.congr HN.out (fun i _=>by rw[hstep.out,← q3f,HJ.out]),below_setRow hbx.drew hGle _⟩
     ·rw[qW h1]at hRc hstep hfit;by_cases h2:c=b
      ·rw[qX h2]at hRc hstep hfit;have hf2:j+2<=M:=hfit.out;clear h1 h2;have hMj:¬M=j:=oA
       obtain⟨ROW,hcp,hnew⟩:=q30 (w:=wr.drew) (c:=cb') hrow.out.drew hf2 (by rw[World.cell?_drew];exact hb0) (by rw[World.cell?_drew];exact hb1)
       have HN:Aside (_):=hnew;have HW:Aside (wrap64 ((j:Int)+2)=(j:Int)+2):=by have:=q9r (j+2);rw[Int.natCast_add]at this;exact this
       clear hnew
       go_wp2
       go_region
       all_goals go_wp2
       go_roundg g
       case measure=>exact Nat.lt_succ_self _
       case rel=>exact⟨k+1,j+2,by first|exact vI2 j|exact(congrArg (Value.int .i64) HW.out).trans (vI2 j),m0 k,hk2,HG.out,hf2,by show _=_;rw[hstep.out,qM,HJ.out];rfl,World.rowIs.congr HN.out (fun i _=>by rw[hstep.out,← q3f,HJ.out]),below_setRow hbx.drew hGle _⟩
      ·rw[qW h2]at hRc hstep hfit;have hf1:j+1<=M:=hfit.out;clear h1 h2;have hcell:wr.cell? ⟨G,j,none⟩=some (bv (d5 a b [a1,a2] [b1,b2] (L.take k)) j):=hrow.out.cell oA
       have hfroz:wr.frozen? ⟨G,j,none⟩=false:=hrow.out.frozen j
       go_wp2
       go_roundg g
       case measure=>exact Nat.lt_succ_self _
       case rel=>exact⟨k+1,j+1,m0 j,m0 k,hk2,HG.out,hf1,by show _=_;rw[hstep.out,qM,HJ.out];rfl,World.rowIs.congr (World.rowIs.set hrow.out j _) (fun i _=>by rw[hstep.out,← zfe,HJ.out]),hbx.setCell hGle _⟩
    ·obtain rfl:k=s.size:=oA
     have HT:Aside (L.take s.size=L):=by show _=_;rw[← ac,List.take_length]
     have HE:Aside (∃l,l=d5 a b [a1,a2] [b1,b2] L/\l.length=M):=⟨_,rfl,by rw[qsf hab,ac,HZ.out,HM.out]⟩
     obtain⟨E,hE,hEl⟩:=HE.out;have hcv:(convert 32 9 (.slice (some ⟨G,0,none⟩) M M)).run Tryz.prog wr = .ok (.string ⟨E.toArray⟩) wr:=by
      have h:=run_convert_bytes_back (P:=Tryz.prog) wr 32 9 5 ⟨G,0,none⟩ M E Tryz.underlying32 Tryz.underlying5 Tryz.underlying9 (fun i hi=>by
       rw[qqq,wO,hrow.out.cell oA,HT.out,← hE]
       unfold bv;rw[List.getD_eq_getElem?_getD,List.getElem?_eq_getElem hi];rfl)
      rw[hEl]at h;exact h
     have HEq:Aside (E=d5 a b [a1,a2] [b1,b2] L):=hE;clear hE hEl
     go_wp2
     go_ret
     exact⟨by rw[← HEq.out];rfl,hbx⟩
end Go.Proofs.Repl
set_option linter.unusedVariables false
namespace Go.Proofs.Repl
open Go.Shelf Go.RowKit Go.Lib Go.Sym
def zhm:(Tryz.prog.info? 9).map (fun i=>(i.zero,i.size,i.bytes))=some (some (Value.string ⟨#[]⟩),1,16):=oB
def mk2(w:World):(Instr.makeSlice 27 (.int .i64 0) (.int .i64 2)).run Tryz.prog w = .ok (.slice (some ⟨w.heap.size,0,none⟩) 0 2) (w.alloc (.cells #[.string ⟨#[]⟩,.string ⟨#[]⟩] 9)):=by
 obtain⟨i,hi,hzz⟩:=Option.map_eq_some_iff.1 zhm;simp only[qP]at hzz;obtain⟨hz,hs,hb⟩:=hzz;have h:=run_make (P:=Tryz.prog) w 27 9 i (.string ⟨#[]⟩) Tryz.underlying27 hi hz .i64 .i64 0 2 oE oE (by rw[hb];decide) oE
 rw[hs,show madeCells (Value.string ⟨#[]⟩).cells (Int.toNat 2*1)=#[.string ⟨#[]⟩,.string ⟨#[]⟩] from oB]at h
 exact h
def zr(V:Value)(j:Nat):Value:=if j=256 then V else .slice none 0 0
def z1(b:UInt8)(g c:Nat)(V:Value)(j:Nat):Value:=if j=b.toNat then .slice (some ⟨g,0,none⟩) 2 c else zr V j
def zwu:Tryz.zeroCells237.toList.length=257:=oB
def zwr:Tryz.zeroCells237.toList.all (fun v=>v.oneCell')=true:=oB
def jb:Option Value->Bool|some (.slice none n c)=>Nat.beq n 0&&Nat.beq c 0|_=>false
def zhs{v:Option Value}(h:jb v=true):v=some (.slice none 0 0):=by
 unfold jb at h;split at h
 ·simp only[qA]at h;rw[qN h.1,qN h.2]
 ·cases h
def zws:(List.range 257).all (fun j=>jb Tryz.zeroCells237.toList[j]?)=true:=oB
def zk4(w:World)(T:Nat):∃ROW,(storeCells ⟨w.heap.size,0,none⟩ (Tryz.zeroCells237.toList.set 256 (.slice (some ⟨T,0,none⟩) 0 2))).run Tryz.prog (w.alloc (.cells Tryz.zeroCells237 237)) = .ok () ((w.alloc (.cells Tryz.zeroCells237 237)).setRow w.heap.size ROW) /\
  ((w.alloc (.cells Tryz.zeroCells237 237)).setRow w.heap.size ROW).rowIs w.heap.size 237 257 (zr (.slice (some ⟨T,0,none⟩) 0 2)):=by
 have hnew:(w.alloc (.cells Tryz.zeroCells237 237)).heap[w.heap.size]? = some (.cells Tryz.zeroCells237 237):=heap_alloc_new w _;have hz:=zwu;have h:=run_storeCells_at Tryz.prog w.heap.size 0 237 (Tryz.zeroCells237.toList.set 256 (.slice (some ⟨T,0,none⟩) 0 2)) 0 _ _ hnew (by rw[List.length_set,hz,← Array.length_toList,hz];decide) (fun v hv=>by
  rcases List.mem_or_eq_of_mem_set hv with hv|rfl
  ·exact List.all_eq_true.1 zwr v hv
  ·rfl)
 refine⟨_,h,?_⟩;refine⟨_,setRow_heap _ _ _ _ _ _ hnew,?_,fun i hi => ?_⟩
 ·simp only[List.size_toArray,qM,List.length_set,List.length_take,List.length_drop,hz];decide
 ·rw[List.getElem?_toArray,List.length_set,hz,List.drop_eq_nil_of_le (by rw[hz];decide),List.append_nil]
  show([]++_)[i]? = _;rw[List.nil_append,List.getElem?_set];unfold zr;by_cases h2:256=i
  ·subst h2;rw[qX rfl,qX rfl,hz];rfl
  ·rw[qW h2,qW (fun e=>h2 e.symm)]
   exact zhs (List.all_eq_true.1 zws i (List.mem_range.2 hi))
def ye(w:World)(x y:UInt8):Obj := .cells (bytesRow ⟨#[x,y]⟩ (grownCap w 2 0 5)) 5 ((bytesRow ⟨#[x,y]⟩ (grownCap w 2 0 5)).size,(bytesRow ⟨#[x,y]⟩ (grownCap w 2 0 5)).size+1)
def yc(w:World):Nat:=grownCap w 2 0 5
def cv2(w:World)(x y:UInt8):(convert 9 32 (.string ⟨#[x,y]⟩)).run Tryz.prog w = .ok (.slice (some ⟨w.heap.size,0,none⟩) 2 (yc w)) (w.drew.alloc (ye w x y)):=
 run_bytes_of_string (P:=Tryz.prog) w 9 32 5 ⟨#[x,y]⟩ Tryz.underlying9 Tryz.underlying32 Tryz.underlying5
def zfc(w W:World)(x y:UInt8):(W.alloc (ye w x y)).cell? ⟨W.heap.size,0,none⟩=some (.int .u8 x.toNat)/\(W.alloc (ye w x y)).cell? ⟨W.heap.size,1,none⟩=some (.int .u8 y.toNat):=by
 unfold ye;rw[World.cell?_alloc_mark,World.cell?_alloc_mark];exact⟨bytesRow_at ⟨#[x,y]⟩ _ 0 (by show 0<2;decide),bytesRow_at ⟨#[x,y]⟩ _ 1 (by show 1<2;decide)⟩
def cv1(w:World)(x:UInt8):(convert 32 9 (.slice (some ⟨w.heap.size,0,none⟩) 1 1)).run Tryz.prog (w.alloc (.cells #[.int .u8 x.toNat] 5)) = .ok (.string ⟨#[x]⟩) (w.alloc (.cells #[.int .u8 x.toNat] 5)):=
 run_convert_bytes_back (P:=Tryz.prog) _ 32 9 5 ⟨w.heap.size,0,none⟩ 1 [x] Tryz.underlying32 Tryz.underlying5 Tryz.underlying9 (fun i hi=>by
  have:i=0:=by simpa using hi
  subst this;rw[qqq];show World.cell? _ ⟨w.heap.size,0,none⟩=_;unfold World.cell?;rw[show(w.alloc (.cells #[.int .u8 (x.toNat:Int)] 5)).heap[w.heap.size]? = _ from heap_alloc_new w _]
  rfl)
def w4(wr:World)(T k n:Nat)(c:UInt8):World:=(((wr.alloc (.cells #[.int .u8 c.toNat] 5)).alloc (.cells #[.string ⟨#[c]⟩] 9)).setCell ⟨T,k,none⟩ (.string ⟨#[c]⟩)).setCell ⟨T+1,256,none⟩ (.slice (some ⟨T,0,none⟩) n 2)
def w5(wr:World)(T k n:Nat)(c x y:UInt8):World:=(((w4 wr T k n c).alloc (ye (w4 wr T k n c) x y)).setCell ⟨T+1,c.toNat,none⟩ (.slice (some ⟨wr.heap.size+1+1,0,none⟩) 2 (yc (w4 wr T k n c)))).drew
def q82(wr:World)(T k n:Nat)(c x y:UInt8)(hT:T+2<=wr.heap.size){f h:Nat->Value}(hR:wr.rowIs (T+1) 237 257 f)(hTr:wr.rowIs T 9 2 h) :
  (w5 wr T k n c x y).rowIs (T+1) 237 257 (fun j=>if j=c.toNat then .slice (some ⟨wr.heap.size+1+1,0,none⟩) 2 (yc (w4 wr T k n c)) else if j=256 then .slice (some ⟨T,0,none⟩) n 2 else f j)/\(w5 wr T k n c x y).rowIs T 9 2 (fun i=>if i=k then .string ⟨#[c]⟩ else h i) /\
   (w5 wr T k n c x y).cell? ⟨wr.heap.size+1+1,0,none⟩=some (.int .u8 x.toNat)/\(w5 wr T k n c x y).cell? ⟨wr.heap.size+1+1,1,none⟩=some (.int .u8 y.toNat)/\(∀p:Addr,T+2<=p.block->p.block<wr.heap.size->(w5 wr T k n c x y).cell? p=wr.cell? p)/\Below T wr (w5 wr T k n c x y)/\T+2<=(w5 wr T k n c x y).heap.size:=by
 unfold w5;generalize hWb:ye (w4 wr T k n c) x y=B;generalize (Value.slice (some ⟨wr.heap.size+1+1,0,none⟩) 2 (yc (w4 wr T k n c)))=V3;have hbc0:=fun W=>zfc (w4 wr T k n c) W x y
 rw[hWb]at hbc0;unfold w4;clear hWb;generalize (Obj.cells #[.int .u8 c.toNat] 5)=o1;generalize (Obj.cells #[.string ⟨#[c]⟩] 9)=o2;generalize (Value.string ⟨#[c]⟩)=S;generalize (Value.slice (some ⟨T,0,none⟩) n 2)=V2;have hsz:((((wr.alloc o1).alloc o2).setCell ⟨T,k,none⟩ S).setCell ⟨T+1,256,none⟩ V2).heap.size=wr.heap.size+1+1:=by simp[World.setCell]
 have hbc:=hbc0 ((((wr.alloc o1).alloc o2).setCell ⟨T,k,none⟩ S).setCell ⟨T+1,256,none⟩ V2);rw[hsz]at hbc;refine⟨?_,?_,?_,?_,fun p h1 h2 => ?_,?_,?_⟩
 ·exact(((((hR.alloc o1).alloc o2).setOther (a:=⟨T,k,none⟩) oC S).set 256 V2).alloc _).set _ V3
 ·exact(((((hTr.alloc o1).alloc o2).set k S).setOther (a:=⟨T+1,256,none⟩) oC V2).alloc _).setOther (a:=⟨T+1,c.toNat,none⟩) oC V3
 ·rw[World.cell?_drew,World.cell?_setCell_other _ _ _ _ (by intro h;have:=congrArg Addr.block h;simp at this;omega)];exact hbc.1
 ·rw[World.cell?_drew,World.cell?_setCell_other _ _ _ _ (by intro h;have:=congrArg Addr.block h;simp at this;omega)];exact hbc.2
 ·refine World.cell?_of_block (w:=wr) ?_;show(World.setCell _ _ _).heap[p.block]? = _;rw[Below.heap_setCell _ _ _ _ oD,Below.heap_alloc _ _ _ (by rw[hsz];omega),Below.heap_setCell _ _ _ _ oD,Below.heap_setCell _ _ _ _ oD,Below.heap_alloc _ _ _ oD,Below.heap_alloc _ _ _ h2]
 ·have hsz2:wr.heap.size+1+1=((((wr.alloc o1).alloc o2).setCell ⟨T,k,none⟩ S).setCell ⟨T+1,256,none⟩ V2).heap.size:=hsz.symm;exact(((((((Below.refl T wr).alloc oA o1).alloc oD o2).setCell (p:=⟨T,k,none⟩) (wF _) S).setCell (p:=⟨T+1,256,none⟩) (Nat.le_succ _) V2).alloc oA _).setCell (p:=⟨T+1,c.toNat,none⟩) (Nat.le_succ _) V3).drew
 ·show _<=(World.setCell _ _ _).heap.size;simp[World.setCell];omega
set_option maxHeartbeats 4000000 in
set_option maxRecDepth 1000000 in
def ze6(q ro cap:Nat)(a b a1 a2 b1 b2:UInt8)(w:World)(hab:a≠b)
  (hc:w.cell? ⟨q,4,none⟩=some (.slice (some ⟨ro,0,none⟩) 4 cap)) (h0:w.cell? ⟨ro,0,none⟩=some (.string ⟨#[a]⟩)) (h1:w.cell? ⟨ro,1,none⟩=some (.string ⟨#[a1,a2]⟩)) (h2:w.cell? ⟨ro,2,none⟩=some (.string ⟨#[b]⟩)) (h3:w.cell? ⟨ro,3,none⟩=some (.string ⟨#[b1,b2]⟩)) :
  Calls Tryz.prog 145 #[.pointer (some ⟨q,0,none⟩)] w fun e w'=>∃R,e = .returned (.iface 238 (.pointer (some ⟨R,0,none⟩)))/\ip R a b a1 a2 b1 b2 w'/\Below w.heap.size w w':=by
 go_enter Tryz.func145,Tryz.ntmps145
 go_wp2
 go_loopg [4,5] 2 (fun gk s4 s5 wx=>wx=w/\((s5 = .int .i64 0/\s4 = .bool true/\gk=2)\/(s5 = .int .i64 2/\s4 = .bool false/\gk=1)\/(s5 = .int .i64 4/\s4 = .bool false/\gk=0)))
 case atStart=>exact⟨rfl,Or.inl ⟨rfl,rfl,rfl⟩⟩
 case round=>
  obtain⟨rfl,⟨rfl,rfl,rfl⟩|⟨rfl,rfl,rfl⟩|⟨rfl,rfl,rfl⟩⟩:=hrel
  ·go_wp2
   go_roundg 1
   case measure=>exact Nat.lt_succ_self _
   case rel=>exact⟨rfl,Or.inr (Or.inl ⟨rfl,rfl,rfl⟩)⟩
  ·go_wp2
   go_roundg 0
   case measure=>exact Nat.lt_succ_self _
   case rel=>exact⟨rfl,Or.inr (Or.inr ⟨rfl,rfl,rfl⟩)⟩
  ·have hmk:=mk2;obtain⟨W1,hW1⟩:∃W1,wr.alloc (.cells #[.string ⟨#[]⟩,.string ⟨#[]⟩] 9)=W1:=⟨_,rfl⟩;have hz1:W1.heap.size=wr.heap.size+1:=by rw[← hW1];simp
   have hT1:W1.rowIs wr.heap.size 9 2 (fun _ => .string ⟨#[]⟩):=by rw[← hW1];exact World.rowIs_alloc wr _ _ _ (fun i hi=>by match i,hi with|0,_=>rfl|1,_=>rfl)
   have hb1:Below wr.heap.size wr W1:=by rw[← hW1];exact(Below.refl _ _).alloc (wF _) _
   obtain⟨ROW,hst,hrow⟩:=zk4 W1 wr.heap.size;rw[hz1]at hst hrow;have hT2:=(hT1.alloc (.cells Tryz.zeroCells237 237)).of_block (setRow_other (W1.alloc (.cells Tryz.zeroCells237 237)) (wr.heap.size+1) wr.heap.size ROW oA)
   have hb2:=below_setRow (hb1.alloc hb1.size (.cells Tryz.zeroCells237 237)) (Nat.le_succ wr.heap.size) ROW;obtain⟨W2,hW2⟩:∃W2,(W1.alloc (.cells Tryz.zeroCells237 237)).setRow (wr.heap.size+1) ROW=W2:=⟨_,rfl⟩;rw[hW2]at hst hrow hT2 hb2;have HB2:Aside (W2.rowIs (wr.heap.size+1) 237 257 (zr (.slice (some ⟨wr.heap.size,0,none⟩) 0 2))/\W2.rowIs wr.heap.size 9 2 (fun _ => .string ⟨#[]⟩)/\Below wr.heap.size wr W2):=⟨hrow,hT2,hb2⟩
   clear hrow hT2 hb2 hT1 hb1 hW2
   go_wp2
   obtain⟨T,hT⟩:∃T,wr.heap.size=T:=⟨_,rfl⟩;rw[hT]at HB2 ⊢;have hS:Aside (wr.heap.size=T):=hT;clear hst hmk hz1 hW1 hT
   go_loopg [12] 2 (fun gk s12 wx=>Below T wr wx/\T+2<=wx.heap.size/\(
    (s12 = .int .i64 2/\gk=2/\Aside (wx.rowIs (T+1) 237 257 (zr (.slice (some ⟨T,0,none⟩) 0 2))/\wx.rowIs T 9 2 (fun _ => .string ⟨#[]⟩))) \/
    (s12 = .int .i64 0/\gk=1/\∃gb cb,T+2<=gb/\gb<wx.heap.size/\Aside (wx.rowIs (T+1) 237 257 (fun j=>if j=b.toNat then .slice (some ⟨gb,0,none⟩) 2 cb else if j=256 then .slice (some ⟨T,0,none⟩) 1 2 else .slice none 0 0)/\wx.rowIs T 9 2 (fun i=>if i=0 then .string ⟨#[b]⟩ else .string ⟨#[]⟩)/\wx.cell? ⟨gb,0,none⟩=some (.int .u8 b1.toNat)/\wx.cell? ⟨gb,1,none⟩=some (.int .u8 b2.toNat))) \/
    (s12 = .int .i64 (-2)/\gk=0/\Aside (ip (T+1) a b a1 a2 b1 b2 wx))))
   case atStart=>exact⟨HB2.out.2.2,by have:=HB2.out.1.lt;omega,Or.inl ⟨rfl,rfl,HB2.out.1,HB2.out.2.1⟩⟩
   case round=>
    obtain⟨hbx,hsz,h⟩:=hrel;have k0:=(hbx.cell (p:=⟨ro,0,none⟩) (by rw[← hS.out];exact World.block_lt_of_cell? _ _ h0)).trans h0
    have k1:=(hbx.cell (p:=⟨ro,1,none⟩) (by rw[← hS.out];exact World.block_lt_of_cell? _ _ h1)).trans h1
    have k2:=(hbx.cell (p:=⟨ro,2,none⟩) (by rw[← hS.out];exact World.block_lt_of_cell? _ _ h2)).trans h2
    have k3:=(hbx.cell (p:=⟨ro,3,none⟩) (by rw[← hS.out];exact World.block_lt_of_cell? _ _ h3)).trans h3
    clear h0 h1 h2 h3 hc HB2;have e1:=zgv;have e2:=zgu;have e3:=cv1;have e4:=cv2;rcases h with⟨rfl,rfl,hr⟩|⟨rfl,rfl,gb,cb,hgb,hgs,hr⟩|⟨rfl,rfl,hr⟩
    ·have g0:∀h,(⟨#[b]⟩:ByteArray)[0]'h=b:=fun _=>rfl
     have g1:(b.toNat:Int)<256:=by have:=b.toNat_lt;omega
     have g2:b.toNat<256:=b.toNat_lt;have hRb:wr.cell? ⟨T+1,b.toNat,none⟩=some (.slice none 0 0):=by
      rw[hr.out.1.cell oA];unfold zr;rw[qW (by have:=b.toNat_lt;omega)]
     have hR2:wr.cell? ⟨T+1,256,none⟩=some (.slice (some ⟨T,0,none⟩) 0 2):=by rw[hr.out.1.cell oE];rfl
     have hT0:∀o1 o2,((wr.alloc o1).alloc o2).cell? ⟨T,0,none⟩=some (.string ⟨#[]⟩):=fun o1 o2=>((hr.out.2.alloc o1).alloc o2).cell oE
     have hTf:∀o1 o2,((wr.alloc o1).alloc o2).frozen? ⟨T,0,none⟩=false:=fun o1 o2=>((hr.out.2.alloc o1).alloc o2).frozen _
     have hR3:∀o1 o2,((wr.alloc o1).alloc o2).cell? ⟨T+1,256,none⟩=some (.slice (some ⟨T,0,none⟩) 0 2):=fun o1 o2=>by rw[((hr.out.1.alloc o1).alloc o2).cell oE];rfl
     have hRf:∀o1 o2,((wr.alloc o1).alloc o2).frozen? ⟨T+1,256,none⟩=false:=fun o1 o2=>((hr.out.1.alloc o1).alloc o2).frozen _
     have hR4:∀o1 o2 v1 v2 o3,(((((wr.alloc o1).alloc o2).setCell ⟨T,0,none⟩ v1).setCell ⟨T+1,256,none⟩ v2).alloc o3).cell? ⟨T+1,b.toNat,none⟩=some (.slice none 0 0):=fun o1 o2 v1 v2 o3=>by
      rw[((((((hr.out.1.alloc o1).alloc o2).setOther (a:=⟨T,0,none⟩) oC v1).set 256 v2)).alloc o3).cell oA]
      rw[qW oA];unfold zr;rw[qW (by have:=b.toNat_lt;omega)]
     have hRg:∀o1 o2 v1 v2 o3,(((((wr.alloc o1).alloc o2).setCell ⟨T,0,none⟩ v1).setCell ⟨T+1,256,none⟩ v2).alloc o3).frozen? ⟨T+1,b.toNat,none⟩=false:=fun o1 o2 v1 v2 o3=>
      ((((((hr.out.1.alloc o1).alloc o2).setOther (a:=⟨T,0,none⟩) oC v1).set 256 v2)).alloc o3).frozen _
     clear g2
     go_wp2
     go_roundg 1
     case measure=>exact Nat.lt_succ_self _
     case rel=>
      have HS:=q82 wr T 0 1 b b1 b2 hsz hr.out.1 hr.out.2;obtain⟨q1,q2,q3,q4,q5,q6,q7⟩:=HS;have q8:=World.block_lt_of_cell? _ _ q3;refine⟨hbx.trans q6,q7,Or.inr (Or.inl ⟨rfl,rfl,wr.heap.size+1+1,yc (w4 wr T 0 1 b),oA,q8,(?_:_/\_/\_/\_)⟩)⟩
      refine⟨q1.congr (fun j _ => ?_),q2,q3,q4⟩
      ·show(if _ then _ else if _ then _ else zr _ j)=_
       unfold zr;by_cases h1:j=b.toNat
       ·rw[qX h1,qX h1]
       ·by_cases h2:j=256
        ·rw[qW h1,qX h2,qW h1,qX h2]
        ·rw[qW h1,qW h2,qW h2,qW h1,qW h2]
    ·have g0:∀h,(⟨#[a]⟩:ByteArray)[0]'h=a:=fun _=>rfl
     have g1:(a.toNat:Int)<256:=by have:=a.toNat_lt;omega
     have g2:a.toNat<256:=a.toNat_lt;have hne:¬a.toNat=b.toNat:=fun h=>hab (UInt8.toNat_inj.1 h)
     have HNE:Aside (¬a.toNat=b.toNat):=hne;have hRb:wr.cell? ⟨T+1,a.toNat,none⟩=some (.slice none 0 0):=by
      rw[hr.out.1.cell oA];rw[qW oA,qW oA]
     have hR2:wr.cell? ⟨T+1,256,none⟩=some (.slice (some ⟨T,0,none⟩) 1 2):=by rw[hr.out.1.cell oE];rw[qW (by have:=b.toNat_lt;omega),qX rfl]
     have hT0:∀o1 o2,((wr.alloc o1).alloc o2).cell? ⟨T,1,none⟩=some (.string ⟨#[]⟩):=fun o1 o2=>((hr.out.2.1.alloc o1).alloc o2).cell oE
     have hTf:∀o1 o2,((wr.alloc o1).alloc o2).frozen? ⟨T,1,none⟩=false:=fun o1 o2=>((hr.out.2.1.alloc o1).alloc o2).frozen _
     have hR3:∀o1 o2,((wr.alloc o1).alloc o2).cell? ⟨T+1,256,none⟩=some (.slice (some ⟨T,0,none⟩) 1 2):=fun o1 o2=>by rw[((hr.out.1.alloc o1).alloc o2).cell oE];rw[qW (by have:=b.toNat_lt;omega),qX rfl]
     have hRf:∀o1 o2,((wr.alloc o1).alloc o2).frozen? ⟨T+1,256,none⟩=false:=fun o1 o2=>((hr.out.1.alloc o1).alloc o2).frozen _
     have hR4:∀o1 o2 v1 v2 o3,(((((wr.alloc o1).alloc o2).setCell ⟨T,1,none⟩ v1).setCell ⟨T+1,256,none⟩ v2).alloc o3).cell? ⟨T+1,a.toNat,none⟩=some (.slice none 0 0):=fun o1 o2 v1 v2 o3=>by
      rw[((((((hr.out.1.alloc o1).alloc o2).setOther (a:=⟨T,1,none⟩) oC v1).set 256 v2)).alloc o3).cell oA]
      rw[qW oA];rw[qW oA,qW oA]
     have hRg:∀o1 o2 v1 v2 o3,(((((wr.alloc o1).alloc o2).setCell ⟨T,1,none⟩ v1).setCell ⟨T+1,256,none⟩ v2).alloc o3).frozen? ⟨T+1,a.toNat,none⟩=false:=fun o1 o2 v1 v2 o3=>
      ((((((hr.out.1.alloc o1).alloc o2).setOther (a:=⟨T,1,none⟩) oC v1).set 256 v2)).alloc o3).frozen _
     clear g2 hne
     go_wp2
     go_roundg 0
     case measure=>exact Nat.lt_succ_self _
     case rel=>
      have HS:=q82 wr T 1 2 a a1 a2 hsz hr.out.1 hr.out.2.1;obtain⟨q1,q2,q3,q4,q5,q6,q7⟩:=HS;have hgbR:=(q5 ⟨gb,0,none⟩ hgb hgs).trans hr.out.2.2.1;have hgbS:=(q5 ⟨gb,1,none⟩ hgb hgs).trans hr.out.2.2.2;have hB:ip (T+1) a b a1 a2 b1 b2 (w5 wr T 1 2 a a1 a2):=by
       refine⟨wr.heap.size+1+1,gb,T,yc (w4 wr T 1 2 a),cb,2,fun d => ?_,?_,?_,?_,q3,q4,hgbR,hgbS⟩
       ·rw[q1.cell (by have:=d.toNat_lt;omega)]
        unfold rv;by_cases h1:d=a
        ·rw[qX (congrArg _ h1),qX h1]
        ·rw[qW (fun h=>h1 (UInt8.toNat_inj.1 h)),qW h1,qW (by have:=d.toNat_lt;omega)]
         by_cases h2:d=b
         ·rw[qX (congrArg _ h2),qX h2]
         ·rw[qW (fun h=>h2 (UInt8.toNat_inj.1 h)),qW h2,qW (by have:=d.toNat_lt;omega)]
       ·rw[q1.cell oE,qW (by have:=a.toNat_lt;omega),qX rfl]
       ·rw[q2.cell oE];rfl
       ·rw[q2.cell oE];rfl
      exact⟨hbx.trans q6,q7,Or.inr (Or.inr ⟨rfl,rfl,hB⟩)⟩
    ·go_wp2
     go_ret
     exact⟨T+1,rfl,hr.out,by rw[hS.out];exact hbx⟩
end Go.Proofs.Repl
namespace Go.Proofs.YtboiflmddgacmabGreatDoor.Once
open Go.Sym(oB)
def disable(w:World):(callFunc 221 #[]).run Tryz.prog w = .ok (.value (.tuple #[])) w:=run_call_mark0 Tryz.func221 oB oB oB .disable oB w
def enable(w:World):(callFunc 223 #[]).run Tryz.prog w = .ok (.value (.tuple #[])) w:=run_call_mark0 Tryz.func223 oB oB oB .enable oB w
def acquire(a:Addr)(w:World):(callFunc 224 #[.pointer (some a)]).run Tryz.prog w = .ok (.value (.tuple #[])) w:=run_call_marked Tryz.func224 oB oB oB .acquire oB a w
def releaseMerge(a:Addr)(w:World):(callFunc 226 #[.pointer (some a)]).run Tryz.prog w = .ok (.value (.tuple #[])) w:=run_call_marked Tryz.func226 oB oB oB .releaseMerge oB a w
set_option maxHeartbeats 1600000 in
def zk9(a:Addr)(x:Value)(u:FrameMode)(w:World)(hc:w.cell? a=some x)(hz:w.frozen? a=false) :
  CallsD Tryz.prog 175 #[.pointer (some a),.bool true] u w fun e u' w'=>u'=u/\(e = .returned (.tuple #[])/\w'=w.drew.setCell a (.int .u32 1)):=by
 have hc':w.drew.cell? a=some x:=by go_simp
 have hz':w.drew.frozen? a=false:=by go_simp
 have hst:=run_call_store (P:=Tryz.prog) Tryz.func198 oB oB oB oB (k := .u32) (y:=1) hc' hz'
 go_enter_d Tryz.func175,Tryz.ntmps175
 go_wp2
 go_region_calls
 all_goals (go_end0;exact⟨rfl,rfl⟩)
set_option maxHeartbeats 1600000 in
def zl4(a:Addr)(u:FrameMode)(w:World)(hc:w.cell? a=some (.int .i32 1))(hz:w.frozen? a=false) :
  CallsD Tryz.prog 174 #[.pointer (some a)] u w fun e u' w'=>u'=u/\(e = .returned (.tuple #[])/\w'=w.setCell a (.int .i32 0)):=by
 have hd:=disable;have he:=enable;have hr:=releaseMerge;have hadd:=run_call_add (P:=Tryz.prog) Tryz.func227 oB oB oB .i32 oB (y := -1) (s:=0) hc hz (by simp[go_sem];rfl)
 have hcv:=run_convert_to_unsafe (P:=Tryz.prog) (src:=301) (dst:=140) Tryz.underlying301 Tryz.underlying140 oB hc
 go_enter_d Tryz.func174,Tryz.ntmps174
 go_wp2
 go_end0
 go_wp2
 go_end0
 exact⟨rfl,rfl⟩
set_option maxHeartbeats 1600000 in
def zib(a:Addr)(w:World)(hc:w.cell? a=some (.int .i32 0))(hz:w.frozen? a=false) :
  Calls Tryz.prog 173 #[.pointer (some a)] w fun e w'=>e = .returned (.tuple #[])/\w'=w.setCell a (.int .i32 1):=by
 have hd:=disable;have he:=enable;have ha:=acquire;have hcas:=run_call_cas_hit (P:=Tryz.prog) Tryz.func222 oB oB oB .i32 oB (y:=1) hc hz
 have hc':(w.setCell a (.int .i32 1)).cell? a=some (.int .i32 1):=World.cell?_setCell_same w a _ hc;have hcv:=run_convert_to_unsafe (P:=Tryz.prog) (src:=301) (dst:=140) Tryz.underlying301 Tryz.underlying140 oB hc'
 go_enter Tryz.func173,Tryz.ntmps173
 go_wp2
 first|go_end0|(simp only[Exit.inBlock,Exit.then];refine bodyPost_ret (results_none rfl _ _ _) rfl ?_)|refine bodyPost_ret (results_none rfl _ _ _) rfl ?_
 go_wp2
 go_end0
 exact⟨rfl,rfl⟩
end Go.Proofs.YtboiflmddgacmabGreatDoor.Once
namespace Go.Proofs.YtboiflmddgacmabGreatDoor.Once
open Go.Sym(oB oC)
set_option maxHeartbeats 1600000 in
def zkv(b:Nat)(w:World)(R:World->Prop)
  (h0:w.cell? ⟨b,0,none⟩=some (.int .u32 0)) (h1:w.cell? ⟨b,0+1,none⟩=some (.int .i32 0)) (f0:w.frozen? ⟨b,0,none⟩=false) (f1:w.frozen? ⟨b,0+1,none⟩=false)
  (hf:Calls Tryz.prog 108 #[.pointer (some ⟨b,0,none⟩)] (w.setCell ⟨b,0+1,none⟩ (.int .i32 1)) fun e w'=>e = .returned (.tuple #[])/\R w')
  (hR:∀w',R w'->w'.cell? ⟨b,0,none⟩=some (.int .u32 0)/\w'.frozen? ⟨b,0,none⟩=false/\w'.cell? ⟨b,0+1,none⟩=some (.int .i32 1)/\w'.frozen? ⟨b,0+1,none⟩=false) :
  Calls Tryz.prog 144 #[.pointer (some ⟨b,0,none⟩),.func (.func 108) #[.pointer (some ⟨b,0,none⟩)] #[]] w fun e w'=>e = .returned (.tuple #[])/\∃w1,R w1/\w'=(w1.drew.setCell ⟨b,0,none⟩ (.int .u32 1)).setCell ⟨b,0+1,none⟩ (.int .i32 0):=by
 have hl:=run_call_load (P:=Tryz.prog) Tryz.func172 oB oB oB .u32 oB (w:=w.setCell ⟨b,0+1,none⟩ (.int .i32 1)) (a:=⟨b,0,none⟩) (x:=0) ((World.cell?_setCell_other _ ⟨b,0+1,none⟩ ⟨b,0,none⟩ _ oC).trans h0)
 have hnot:∀(x:Bool)(w:World),(Op.unary .not (.bool x)).run Tryz.prog w = .ok (.bool (!x)) w:=fun _ _=>rfl
 go_enter_defers Tryz.func144,Tryz.ntmps144
 go_wp2_with (first|(go_at_call 173;refine(zib ⟨b,0+1,none⟩ _ (by go_simp) (by go_simp)).mono ?_;rintro e w' ⟨rfl,rfl⟩)|(go_at_call 143;go_in)|(go_at_call 108;refine hf.mono ?_;rintro e w' ⟨rfl,hw⟩))
 obtain⟨r0,rf0,r1,rf1⟩:=hR w' hw
 first|go_end0|skip
 first|go_wp2|skip
 refine leaves_cons (f:=175) (args:=#[.pointer (some ⟨b,0,none⟩),.bool true]) oC (by simp[go_sem]) ?_
 refine(zk9 ⟨b,0,none⟩ (.int .u32 0) .returning _ r0 rf0).mono ?_;rintro e u' w'' ⟨rfl,rfl,rfl⟩
 refine leaves_cons (f:=174) (args:=#[.pointer (some ⟨b,0+1,none⟩)]) (by simp[settle]) (by simp[go_sem]) ?_
 have r1':(w'.drew.setCell ⟨b,0,none⟩ (.int .u32 1)).cell? ⟨b,0+1,none⟩=some (.int .i32 1):=by
  refine(World.cell?_setCell_other _ ⟨b,0,none⟩ ⟨b,0+1,none⟩ _ oC).trans ?_
  rw[World.cell?_drew];exact r1
 refine(zl4 ⟨b,0+1,none⟩ _ _ r1' (by simp[rf1])).mono ?_
 rintro e u' w'' ⟨rfl,rfl,rfl⟩
 simp[Leaves,settle,results,Tryz.results144];exact⟨w',hw,rfl⟩
set_option maxHeartbeats 1600000 in
def q4f(b:Nat)(w:World)(R:World->Prop)
  (h0:w.cell? ⟨b,0,none⟩=some (.int .u32 0)) (h1:w.cell? ⟨b,0+1,none⟩=some (.int .i32 0)) (f0:w.frozen? ⟨b,0,none⟩=false) (f1:w.frozen? ⟨b,0+1,none⟩=false)
  (hf:Calls Tryz.prog 108 #[.pointer (some ⟨b,0,none⟩)] (w.setCell ⟨b,0+1,none⟩ (.int .i32 1)) fun e w'=>e = .returned (.tuple #[])/\R w')
  (hR:∀w',R w'->w'.cell? ⟨b,0,none⟩=some (.int .u32 0)/\w'.frozen? ⟨b,0,none⟩=false/\w'.cell? ⟨b,0+1,none⟩=some (.int .i32 1)/\w'.frozen? ⟨b,0+1,none⟩=false) :
  Calls Tryz.prog 107 #[.pointer (some ⟨b,0,none⟩),.func (.func 108) #[.pointer (some ⟨b,0,none⟩)] #[]] w fun e w'=>e = .returned (.tuple #[])/\∃w1,R w1/\w'=(w1.drew.setCell ⟨b,0,none⟩ (.int .u32 1)).setCell ⟨b,0+1,none⟩ (.int .i32 0):=by
 have hl:=run_call_load (P:=Tryz.prog) Tryz.func172 oB oB oB .u32 oB h0
 have hnot:∀(x:Bool)(w:World),(Op.unary .not (.bool x)).run Tryz.prog w = .ok (.bool (!x)) w:=fun _ _=>rfl
 go_enter Tryz.func107,Tryz.ntmps107
 go_wp2_with (first|(go_at_call 143;go_in)|(go_at_call 144;refine(zkv b w R h0 h1 f0 f1 hf hR).mono ?_;rintro e w' ⟨rfl,w1,hw1,rfl⟩))
 go_end0
 exact⟨rfl,w1,hw1,rfl⟩
set_option maxHeartbeats 1600000 in
def zgg(a:Addr)(d:Int)(hd:¬d=0)(fv:Value)(w:World)(h0:w.cell? a=some (.int .u32 d)) :
  Calls Tryz.prog 107 #[.pointer (some a),fv] w fun e w'=>e = .returned (.tuple #[])/\w'=w:=by
 have hl:=run_call_load (P:=Tryz.prog) Tryz.func172 oB oB oB .u32 oB h0
 have hnot:∀(x:Bool)(w:World),(Op.unary .not (.bool x)).run Tryz.prog w = .ok (.bool (!x)) w:=fun _ _=>rfl
 have hd':(d != 0)=true:=by simp[hd]
 go_enter Tryz.func107,Tryz.ntmps107
 go_wp2
 go_end0
 exact⟨rfl,rfl⟩
end Go.Proofs.YtboiflmddgacmabGreatDoor.Once
namespace Go.Proofs.YtboiflmddgacmabGreatDoor.Once
open Go.Sym(oC)
set_option maxHeartbeats 1600000 in
def replace_first(b:Nat)(s:ByteArray)(w:World)(R:World->Prop)(Q:Value->World->Prop)
  (h0:w.cell? ⟨b,0,none⟩=some (.int .u32 0)) (h1:w.cell? ⟨b,0+1,none⟩=some (.int .i32 0)) (f0:w.frozen? ⟨b,0,none⟩=false) (f1:w.frozen? ⟨b,0+1,none⟩=false)
  (hf:Calls Tryz.prog 108 #[.pointer (some ⟨b,0,none⟩)] (w.setCell ⟨b,0+1,none⟩ (.int .i32 1)) fun e w'=>e = .returned (.tuple #[])/\R w')
  (hR:∀w',R w'->w'.cell? ⟨b,0,none⟩=some (.int .u32 0)/\w'.frozen? ⟨b,0,none⟩=false/\w'.cell? ⟨b,0+1,none⟩=some (.int .i32 1)/\w'.frozen? ⟨b,0+1,none⟩=false)
  (hg:∀w',R w'->∃g,w'.cell? ⟨b,3,none⟩=some (.iface 234 (.pointer (some ⟨g,0,none⟩))) /\
   Calls Tryz.prog 336 #[.pointer (some ⟨g,0,none⟩),.string s] ((w'.drew.setCell ⟨b,0,none⟩ (.int .u32 1)).setCell ⟨b,0+1,none⟩ (.int .i32 0)) fun e w''=>∃v,e = .returned v/\Q v w'') :
  Calls Tryz.prog 74 #[.pointer (some ⟨b,0,none⟩),.string s] w fun e w'=>∃v,e = .returned v/\Q v w':=by
 have hme : ∀ (g : Nat) (w : World), (method 507 234 (.pointer (some ⟨g, 0, none⟩)) "Replace").run Tryz.prog w = .ok (336, .pointer (some ⟨g, 0, none⟩)) w := fun _ _ => by kernel_rfl
 go_enter Tryz.func74,Tryz.ntmps74
 go_wp2_with (first|(go_at_call 107;refine(q4f b w R h0 h1 f0 f1 hf hR).mono ?_;rintro e w' ⟨rfl,w1,hw1,rfl⟩;obtain⟨g,hg1,hg2⟩:=hg w1 hw1;have hc3:((w1.drew.setCell ⟨b,0,none⟩ (.int .u32 1)).setCell ⟨b,0+1,none⟩ (.int .i32 0)).cell? ⟨b,3,none⟩=some (.iface 234 (.pointer (some ⟨g,0,none⟩))):=((World.cell?_setCell_other _ ⟨b,0+1,none⟩ ⟨b,3,none⟩ _ oC).trans ((World.cell?_setCell_other _ ⟨b,0,none⟩ ⟨b,3,none⟩ _ oC).trans (by rw[World.cell?_drew];exact hg1))))|(go_at_call 336;refine hg2.mono ?_;rintro e w' ⟨v,rfl,hq⟩))
 go_ret
 exact⟨_,rfl,hq⟩
set_option maxHeartbeats 1600000 in
def replace_done(b g:Nat)(s:ByteArray)(w:World)(Q:Value->World->Prop)(d:Int)(hd:¬d=0)
  (h0:w.cell? ⟨b,0,none⟩=some (.int .u32 d)) (hc3:w.cell? ⟨b,3,none⟩=some (.iface 234 (.pointer (some ⟨g,0,none⟩))))
  (hg2:Calls Tryz.prog 336 #[.pointer (some ⟨g,0,none⟩),.string s] w fun e w''=>∃v,e = .returned v/\Q v w'') :
  Calls Tryz.prog 74 #[.pointer (some ⟨b,0,none⟩),.string s] w fun e w'=>∃v,e = .returned v/\Q v w':=by
 have hme : ∀ (g : Nat) (w : World), (method 507 234 (.pointer (some ⟨g, 0, none⟩)) "Replace").run Tryz.prog w = .ok (336, .pointer (some ⟨g, 0, none⟩)) w := fun _ _ => by kernel_rfl
 go_enter Tryz.func74,Tryz.ntmps74
 go_wp2_with (first|(go_at_call 107;refine(zgg ⟨b,0,none⟩ d hd _ w h0).mono ?_;rintro e w' ⟨rfl,rfl⟩)|(go_at_call 336;refine hg2.mono ?_;rintro e w' ⟨v,rfl,hq⟩))
 go_ret
 exact⟨_,rfl,hq⟩
set_option maxHeartbeats 1600000 in
def replaceS_first(b:Nat)(s:ByteArray)(w:World)(R:World->Prop)(Q:Value->World->Prop)
  (h0:w.cell? ⟨b,0,none⟩=some (.int .u32 0)) (h1:w.cell? ⟨b,0+1,none⟩=some (.int .i32 0)) (f0:w.frozen? ⟨b,0,none⟩=false) (f1:w.frozen? ⟨b,0+1,none⟩=false)
  (hf:Calls Tryz.prog 108 #[.pointer (some ⟨b,0,none⟩)] (w.setCell ⟨b,0+1,none⟩ (.int .i32 1)) fun e w'=>e = .returned (.tuple #[])/\R w')
  (hR:∀w',R w'->w'.cell? ⟨b,0,none⟩=some (.int .u32 0)/\w'.frozen? ⟨b,0,none⟩=false/\w'.cell? ⟨b,0+1,none⟩=some (.int .i32 1)/\w'.frozen? ⟨b,0+1,none⟩=false)
  (hg:∀w',R w'->∃g,w'.cell? ⟨b,3,none⟩=some (.iface 238 (.pointer (some ⟨g,0,none⟩))) /\
   Calls Tryz.prog 338 #[.pointer (some ⟨g,0,none⟩),.string s] ((w'.drew.setCell ⟨b,0,none⟩ (.int .u32 1)).setCell ⟨b,0+1,none⟩ (.int .i32 0)) fun e w''=>∃v,e = .returned v/\Q v w'') :
  Calls Tryz.prog 74 #[.pointer (some ⟨b,0,none⟩),.string s] w fun e w'=>∃v,e = .returned v/\Q v w':=by
 have hme : ∀ (g : Nat) (w : World), (method 507 238 (.pointer (some ⟨g, 0, none⟩)) "Replace").run Tryz.prog w = .ok (338, .pointer (some ⟨g, 0, none⟩)) w := fun _ _ => by kernel_rfl
 go_enter Tryz.func74,Tryz.ntmps74
 go_wp2_with (first|(go_at_call 107;refine(q4f b w R h0 h1 f0 f1 hf hR).mono ?_;rintro e w' ⟨rfl,w1,hw1,rfl⟩;obtain⟨g,hg1,hg2⟩:=hg w1 hw1;have hc3:((w1.drew.setCell ⟨b,0,none⟩ (.int .u32 1)).setCell ⟨b,0+1,none⟩ (.int .i32 0)).cell? ⟨b,3,none⟩=some (.iface 238 (.pointer (some ⟨g,0,none⟩))):=((World.cell?_setCell_other _ ⟨b,0+1,none⟩ ⟨b,3,none⟩ _ oC).trans ((World.cell?_setCell_other _ ⟨b,0,none⟩ ⟨b,3,none⟩ _ oC).trans (by rw[World.cell?_drew];exact hg1))))|(go_at_call 338;refine hg2.mono ?_;rintro e w' ⟨v,rfl,hq⟩))
 go_ret
 exact⟨_,rfl,hq⟩
end Go.Proofs.YtboiflmddgacmabGreatDoor.Once
namespace Go.Sym
open Go.RowKit
variable[LC]
def bp.blocks_none{G:Gh}{hp:List (Nat×ag)}{w:World}(hm:bp G hp w){b:Nat}(h:l9 G hp b)(o:Nat):G.imm b o=none:=by
 obtain⟨n,bx,hl,ha⟩:=h;have hb:=hm.holds n bx hl
 cases bx with
 |cells cs T=>obtain⟨B,vs,h1,_,_,_,h5⟩:=hb;simp only[Gh.at,h1,qI]at ha;subst ha;exact h5 o
 |row τ l E=>
  obtain⟨a,c,h1,h2⟩:=hb;rcases h2 with⟨rfl,_⟩|⟨g,vs,fz,rfl,_,_,_,_,_,_,_,h9⟩
  ·simp only[Gh.at,h1]at ha;cases ha
  ·simp only[Gh.at,h1,qI]at ha;subst ha;exact h9 o
 |loop st pe f m fr ps tag D=>obtain⟨B,tmps,DB,h1,_,_,_,_,h5⟩:=hb;simp only[Gh.at,h1,qI]at ha;subst ha;exact h5 o
 |dfr=>obtain⟨B,h1,_,h5⟩:=hb;simp only[Gh.at,h1,qI]at ha;subst ha;exact h5 o
 |it s p=>obtain⟨B,h1,_,h5⟩:=hb;simp only[Gh.at,h1,qI]at ha;subst ha;exact h5 o
 |dead=>cases ha
def bu.gone{P:Program}{f:FuncId}{xs:List AV}{hp:List (Nat×ag)}{r:AV}
  (h:∀(w:World)(G:Gh)(vs:List Value),bp G hp w->aj xs G vs->Calls P f vs.toArray w fun e w'=>∃v,e = .returned v/\ai r G v/\bm (l9 G hp) w w'):bu P f xs hp r []:=by
 intro w G vs hm hr;refine(h w G vs hm hr).mono ?_;rintro e w' ⟨v,rfl,hv,hs⟩
 have hblk:∀b o v,G.imm b o=some v->w'.heap[b]? = w.heap[b]? := fun b o v hv=>hs.block b (World.block_lt_of_cell? _ _ (hm.agree b o v hv)) fun hb=>by
  rw[hm.blocks_none hb o]at hv;cases hv
 refine⟨v,G,rfl,⟨⟨fun b o v hv=>by rw[World.cell?_of_block (w:=w) (hblk b o v hv)];exact hm.agree b o v hv,hm.one,fun n bx h=>(by cases h),fun n m bx bx' b h=>(by cases h),LC.mono (fun _ _ _ h=>h) hblk hm.tab⟩,hs,fun _ _ _ h=>h,fun _ _ _ h => .inl h,fun n bx b h=>(by cases h),fun _ _ _ _ h=>h,fun _ _ _ _ h=>h⟩,hv⟩
end Go.Sym
set_option linter.unusedVariables false
namespace Go.Proofs.Repl
open Go.Shelf Go.RowKit Go.Lib Go.Sym
def ip.setCell{R q n:Nat}{u:Int}{a b a1 a2 b1 b2:UInt8}{w:World}(h:ip R a b a1 a2 b1 b2 w)(hq:w.cell? ⟨q,0,none⟩=some (.int .u32 u))(v:Value):ip R a b a1 a2 b1 b2 (w.setCell ⟨q,n,none⟩ v):=by
 obtain⟨ga,gb,gt,ca,cb,ct,h1,h2,h3,h4,h5,h6,h7,h8⟩:=h.ex;have kR:¬R=q:=fun e=>by
  have:=h1 0;subst e;rw[show(0:UInt8).toNat=0 from rfl,hq]at this
  unfold rv at this;split at this
  ·cases this
  ·split at this<;>cases this
 have kt:¬gt=q:=fun e=>by subst e;rw[hq]at h3;cases h3
 have ka:¬ga=q:=fun e=>by subst e;rw[hq]at h5;cases h5
 have kb:¬gb=q:=fun e=>by subst e;rw[hq]at h7;cases h7
 have k:∀{p:Nat}{o:Nat}{x:Value},¬p=q->w.cell? ⟨p,o,none⟩=some x->(w.setCell ⟨q,n,none⟩ v).cell? ⟨p,o,none⟩=some x:=fun{p o x} hp hx=>by
  rw[World.cell?_of_block (w:=w) (Below.heap_setCell w ⟨q,n,none⟩ v p hp)];exact hx
 exact⟨ga,gb,gt,ca,cb,ct,fun c=>k kR (h1 c),k kR h2,k kt h3,k kt h4,k ka h5,k ka h6,k kb h7,k kb h8⟩
structure Once(q:Nat)(w w':World):Prop where
 bel:bm (fun k=>k=q) w w'
 c0:w'.cell? ⟨q,0,none⟩=some (.int .u32 0)
 c1:w'.cell? ⟨q,0+1,none⟩=some (.int .i32 1)
 f0:w'.frozen? ⟨q,0,none⟩=false
 f1:w'.frozen? ⟨q,0+1,none⟩=false
def zev(S:Nat->Prop)(w:World):bm S w w.drew:=⟨rfl,rfl,rfl,wF _,fun _ _ _=>rfl⟩
def qra{S:Nat->Prop}{w w':World}(h:Below w.heap.size w w'):bm S w w':=⟨h.os,h.tape,h.output,h.size,fun k hk _=>h.block k hk⟩
def qci{q:Nat}{w w':World}(h:bm (fun k=>k=q) w w')(n:Nat)(v:Value):bm (fun k=>k=q) w (w'.setCell ⟨q,n,none⟩ v):=
 ⟨h.os,h.tape,h.output,by simp[World.setCell];exact h.size,fun k hk hn=>(Below.heap_setCell w' ⟨q,n,none⟩ v k hn).trans (h.block k hk hn)⟩
def qrb{S:Nat->Prop}{a b c:World}(h:bm S a b)(k:bm S b c):bm S a c:=
 ⟨k.os.trans h.os,k.tape.trans h.tape,k.output.trans h.output,Nat.le_trans h.size k.size,fun i hi hn=>(k.block i (Nat.lt_of_lt_of_le hi h.size) hn).trans (h.block i hi hn)⟩
set_option maxHeartbeats 1600000 in
def ze8(q ro cap:Nat)(v3:Value)(a b a1 a2 b1 b2:UInt8)(w:World)(hab:a≠b)
  (c0:w.cell? ⟨q,0,none⟩=some (.int .u32 0)) (c1:w.cell? ⟨q,0+1,none⟩=some (.int .i32 1)) (hf:∀j,w.frozen? ⟨q,j,none⟩=false) (c3:w.cell? ⟨q,3,none⟩=some v3)
  (hc:w.cell? ⟨q,4,none⟩=some (.slice (some ⟨ro,0,none⟩) 4 cap)) (h0:w.cell? ⟨ro,0,none⟩=some (.string ⟨#[a]⟩)) (h1:w.cell? ⟨ro,1,none⟩=some (.string ⟨#[a1,a2]⟩)) (h2:w.cell? ⟨ro,2,none⟩=some (.string ⟨#[b]⟩)) (h3:w.cell? ⟨ro,3,none⟩=some (.string ⟨#[b1,b2]⟩)) :
  Calls Tryz.prog 108 #[.pointer (some ⟨q,0,none⟩)] w fun e w'=>e = .returned (.tuple #[])/\Once q w w'/\∃R,w'.cell? ⟨q,3,none⟩=some (.iface 238 (.pointer (some ⟨R,0,none⟩)))/\ip R a b a1 a2 b1 b2 w':=by
 have hqlt:q<w.heap.size:=World.block_lt_of_cell? _ _ c0;have hB:=ze6 q ro cap a b a1 a2 b1 b2 w hab hc h0 h1 h2 h3
 go_enter Tryz.func108,Tryz.ntmps108
 go_wp2_with (go_at_call 145;go_must (refine hB.mono ?_;rintro e W ⟨R,rfl,hBu,hbe⟩;have k0:∀{j:Nat}{v:Value},w.cell? ⟨q,j,none⟩=some v->W.cell? ⟨q,j,none⟩=some v:=(fun hj=>(hbe.cell (World.block_lt_of_cell? _ _ hj)).trans hj);have kf:∀j,W.frozen? ⟨q,j,none⟩=false:=(fun j=>(hbe.frozen (p:=⟨q,j,none⟩) hqlt).trans (hf j));have d0:=k0 c0;have d1:=k0 c1;have d3:=k0 c3;have d4:=k0 hc;clear hB hf k0))
 have d0':(W.setCell ⟨q,3,none⟩ (.iface 238 (.pointer (some ⟨R,0,none⟩)))).cell? ⟨q,0,none⟩=some (.int .u32 0):=by rw[World.cell?_setCell_other _ _ _ _ oC];exact d0
 have d1':(W.setCell ⟨q,3,none⟩ (.iface 238 (.pointer (some ⟨R,0,none⟩)))).cell? ⟨q,0+1,none⟩=some (.int .i32 1):=by rw[World.cell?_setCell_other _ _ _ _ oC];exact d1
 have d3':=World.cell?_setCell_same W ⟨q,3,none⟩ (.iface 238 (.pointer (some ⟨R,0,none⟩))) d3
 go_end0
 refine⟨rfl,⟨qci (qci (qra hbe) 3 _) 4 _,?_,?_,?_,?_⟩,R,?_,(hBu.setCell d0 _).setCell d0' _⟩
 ·rw[World.cell?_setCell_other _ _ _ _ oC];exact d0'
 ·rw[World.cell?_setCell_other _ _ _ _ oC];exact d1'
 ·simp[kf]
 ·simp[kf]
 ·rw[World.cell?_setCell_other _ _ _ _ oC];exact d3'
def replS(q ro cap:Nat)(v3:Value)(a b a1 a2 b1 b2:UInt8)(s:ByteArray)(w:World)(hab:a≠b)(hs:s.size<=1000000)
  (c0:w.cell? ⟨q,0,none⟩=some (.int .u32 0)) (c1:w.cell? ⟨q,0+1,none⟩=some (.int .i32 0)) (hf:∀j,w.frozen? ⟨q,j,none⟩=false) (c3:w.cell? ⟨q,3,none⟩=some v3)
  (hc:w.cell? ⟨q,4,none⟩=some (.slice (some ⟨ro,0,none⟩) 4 cap)) (h0:w.cell? ⟨ro,0,none⟩=some (.string ⟨#[a]⟩)) (h1:w.cell? ⟨ro,1,none⟩=some (.string ⟨#[a1,a2]⟩)) (h2:w.cell? ⟨ro,2,none⟩=some (.string ⟨#[b]⟩)) (h3:w.cell? ⟨ro,3,none⟩=some (.string ⟨#[b1,b2]⟩)) :
  Calls Tryz.prog 74 #[.pointer (some ⟨q,0,none⟩),.string s] w fun e w'=>∃v,e = .returned v/\v = .string ⟨(d5 a b [a1,a2] [b1,b2] s.data.toList).toArray⟩/\bm (fun k=>k=q) w w':=by
 have hne:¬ro=q:=fun e=>by subst e;rw[c0]at h0;cases h0
 have k:∀{p:Addr}{x:Value},p≠⟨q,0+1,none⟩->w.cell? p=some x->(w.setCell ⟨q,0+1,none⟩ (.int .i32 1)).cell? p=some x:=fun{p x} hp hx=>by
  rw[World.cell?_setCell_other _ _ _ _ (fun e=>hp e.symm)];exact hx
 have kb:bm (fun k=>k=q) w (w.setCell ⟨q,0+1,none⟩ (.int .i32 1)):=qci (qra (Below.refl _ _)) _ _
 refine Go.Proofs.YtboiflmddgacmabGreatDoor.Once.replaceS_first q s w (fun w'=>Once q (w.setCell ⟨q,0+1,none⟩ (.int .i32 1)) w'/\∃R,w'.cell? ⟨q,3,none⟩=some (.iface 238 (.pointer (some ⟨R,0,none⟩)))/\ip R a b a1 a2 b1 b2 w') (fun v w'=>v = .string ⟨(d5 a b [a1,a2] [b1,b2] s.data.toList).toArray⟩/\bm (fun k=>k=q) w w') c0 c1 (hf _) (hf _) ?_ ?_ ?_
 ·exact ze8 q ro cap v3 a b a1 a2 b1 b2 _ hab (k oC c0) (World.cell?_setCell_same w _ _ c1) (fun j=>by simp[hf]) (k oC c3) (k oC hc) (k (by intro h;exact hne (congrArg Addr.block h)) h0) (k (by intro h;exact hne (congrArg Addr.block h)) h1) (k (by intro h;exact hne (congrArg Addr.block h)) h2) (k (by intro h;exact hne (congrArg Addr.block h)) h3)
 ·rintro w' ⟨ho,_⟩
  exact⟨ho.c0,ho.f0,ho.c1,ho.f1⟩
 ·rintro w' ⟨ho,R,hR,hBu⟩
  refine⟨R,hR,?_⟩;have e0:w'.drew.cell? ⟨q,0,none⟩=some (.int .u32 0):=by rw[World.cell?_drew];exact ho.c0
  have e1:=World.cell?_setCell_same w'.drew ⟨q,0,none⟩ (.int .u32 1) e0;have hB2:ip R a b a1 a2 b1 b2 ((w'.drew.setCell ⟨q,0,none⟩ (.int .u32 1)).setCell ⟨q,0+1,none⟩ (.int .i32 0)):=
   ((hBu.below (Below.refl _ w').drew).setCell e0 _).setCell e1 _
  have hBel:bm (fun k=>k=q) w ((w'.drew.setCell ⟨q,0,none⟩ (.int .u32 1)).setCell ⟨q,0+1,none⟩ (.int .i32 0)):=
   qci (qci (qrb (qrb kb ho.bel) (zev _ _)) 0 _) (0+1) _
  refine(zfb R a b a1 a2 b1 b2 s _ hab hs hB2).mono ?_;rintro e w2 ⟨rfl,hb2⟩
  exact⟨_,rfl,rfl,qrb hBel (qra hb2)⟩
end Go.Proofs.Repl
namespace Go.Sym
open Go.Proofs Go.RowKit
variable[LC]
def zj0(a b a1 a2 b1 b2:UInt8)(s:Bs)(p2:Int)(hab:a≠b)(hs:s.length<=1000000) :
  bu Tryz.prog 74 [.ptr 0 0,.str s] [(0,.cells [.int .u32 0,.int .i32 0,.int .u32 p2,.val .nilIface,.own 1] 160),(1,.row .str [[a],[a1,a2],[b],[b1,b2]] 9)] (.str (d5 a b [a1,a2] [b1,b2] s)) []:=by
 refine bu.gone fun w G vs hm hr => ?_
 match vs,hr with
 |[v1,v2],hr=>
 obtain⟨⟨q,hG,rfl⟩,r2,_⟩:=hr;have r2:v2 = .string ⟨s.toArray⟩:=r2;subst r2;obtain⟨B,cs,g1,g2,g3,g4,g5⟩:=hm.holds 0 _ rfl;rw[show G.box 0=some q from hG]at g1
 cases g1
 obtain⟨ad,c,us,o1,o2,o3,o4⟩:=(hm.holds 1 (.row .str [[a],[a1,a2],[b],[b1,b2]] 9) rfl).rowAt;obtain⟨u0,c0,x0⟩:=gw g3 (i:=0) rfl;obtain⟨u1,c1,x1⟩:=gw g3 (i:=1) rfl;obtain⟨u3,c3,x3⟩:=gw g3 (i:=3) rfl;obtain⟨u4,c4,x4⟩:=gw g3 (i:=4) rfl;have x0:u0 = .int .u32 0:=x0;have x1:u1 = .int .i32 0:=x1;obtain⟨ad',n',c',x5,x4⟩:=x4;rw[o1]at x5;cases x5
 subst x0 x1 x4;have k:∀{i:Nat}{v:Value},cs.toList[i]? = some v->w.cell? ⟨q,i,none⟩=some v:=fun{i v} h=>cell_of_heap g2 h
 obtain⟨ho1,ho2⟩:=o2;rcases ho2 with⟨_,h0,_⟩|⟨g,vr,fz,rfl,e1,_,e3,e4,e5,e6,_⟩
 ·cases h0
 ·have hus:us=[.string ⟨#[a]⟩,.string ⟨#[a1,a2]⟩,.string ⟨#[b]⟩,.string ⟨#[b1,b2]⟩]:=by
   match us,o3 with
   |[y0,y1,y2,y3],⟨z0,z1,z2,z3,_⟩=>
    have z0:y0 = .string ⟨#[a]⟩:=z0;have z1:y1 = .string ⟨#[a1,a2]⟩:=z1;have z2:y2 = .string ⟨#[b]⟩:=z2;have z3:y3 = .string ⟨#[b1,b2]⟩:=z3;rw[z0,z1,z2,z3]
  have kr:∀{i:Nat}{v:Value},us[i]? = some v->w.cell? ⟨g,i,none⟩=some v:=fun{i v} h=>by
   rw[← e6,List.getElem?_take]at h;split at h
   ·exact cell_of_heap e1 h
   ·cases h
  subst hus;refine(Go.Proofs.Repl.replS q g c u3 a b a1 a2 b1 b2 ⟨s.toArray⟩ w hab (by rw[fj];exact hs) (k c0) (k c1) (fun j=>by simp[World.frozen?,g2]) (k c3) (k c4) (kr (i:=0) rfl) (kr (i:=1) rfl) (kr (i:=2) rfl) (kr (i:=3) rfl)).mono ?_
  rintro e w' ⟨v,rfl,rfl,hb⟩
  refine⟨_,rfl,rfl,⟨hb.os,hb.tape,hb.output,hb.size,fun k hk hn=>hb.block k hk (fun e=>hn ?_)⟩⟩
  subst e;exact⟨0,_,rfl,hG⟩
def q7r:IF:=⟨.fn 74,[.ptr 0 0,.h .str],[(0,.cells [.h (.int .u32),.h (.int .i32),.h (.int .u32),.c .nilIface,.own 1] 160),(1,.row .str 9)],_,RS.mk (.h .str) []⟩
def zj1:(q7r.e xe).Sound Tryz.prog:=fun d d' r h=>by
 obtain⟨_,s,_⟩:=d;obtain⟨⟨p0,p1,p2,_,_,_⟩,on,_⟩:=d';have h:xe s p0 p1 p2 on=some r:=h;obtain⟨a,a1,a2,b,b1,b2,rfl,rfl,rfl,hab,hs,rfl⟩:=zj4 h;exact⟨Tryz.call74,zj0 a b a1 a2 b1 b2 s p2 hab hs⟩
end Go.Sym
namespace Go.Sym
open Go.Proofs Go.RowKit
open Go.Proofs.Tryz
variable[LC]
def q2x:Builder.Extra Tryz.prog Tryz.lays105_ren:={
 sizeBuilder:=oB
 liesBuilder:=oB
 t5:=Tryz.lays105.t5
 a5:=Tryz.lays105.a5
 z5:=Tryz.lays105.z5
 v5:=Tryz.lays105.v5
 infoByte:=oB
 cellsByte:=oB
 sizeByte:=oB
 neB5:=by decide }
def zjw{w:World}(s:Bs)(n:Int)(d1:0<=n)(d2:n<=9223372036854775807)(d3:s.length*n.toNat<=140737488355328) :
  Calls Tryz.prog 114 #[.string ⟨s.toArray⟩,.int .i64 n] w fun e w'=>e = .returned (.string ⟨(Lib.repeatL s n.toNat).toArray⟩)/\bg w w':=by
 have hn:n=((n.toNat:Nat):Int):=oA
 have key:=Any.strings_Repeat Tryz.lays105 q2x ⟨s.toArray⟩ n.toNat w oA (by rw[fj];exact d3)
 rw[← hn]at key;exact key.mono fun e w'⟨he,hw⟩=>⟨he,bg.of_below hw⟩
def q7n:IF:=⟨.fn 114,[.h .str,.h (.int .i64)],[],_,RS.mk (.h .str) []⟩
def zjx:(q7n.e qbo).Sound Tryz.prog:=fun d d' r h=>by
 obtain⟨s,n,_⟩:=d;have h:qbo s n=some r:=h;unfold qbo at h;cases hd:decide (0<=(show Int from n)/\(show Int from n)<=9223372036854775807/\List.length (α:=UInt8) s*(show Int from n).toNat<=140737488355328)<;>rw[hd]at h<;>simp only[qT,qF,reduceCtorEq]at h
 have h:=qJ h;subst h;obtain⟨d1,d2,d3⟩:=of_decide_eq_true hd;refine⟨call114,bu.data fun w G vs hm hr => ?_⟩
 match vs,hr with
 |[u,v],⟨h1,h2,_⟩=>
  have h1:u = .string ⟨s.toArray⟩:=h1;have h2:v = .int .i64 n:=h2;subst h1 h2;exact(zjw s n d1 d2 d3).mono fun e w'⟨he,hw⟩=>⟨_,he,rfl,hw⟩
def ze0:Builder.Extra Tryz.prog Tryz.lays155_ren:={
 sizeBuilder:=oB
 liesBuilder:=oB
 t5:=Tryz.lays155.t5
 a5:=Tryz.lays155.a5
 z5:=Tryz.lays155.z5
 v5:=Tryz.lays155.v5
 infoByte:=oB
 cellsByte:=oB
 sizeByte:=oB
 neB5:=by decide }
def zjy{G:Gh}{w:World}(hm:bp G [] w)(hi:2∈LC.ints)(s o n:Bs)(d1:1<=o.length)(d2:s.length<4294967281)(d3:s.length+s.length*n.length<=140737488355328) :
  Calls Tryz.prog 86 #[.string ⟨s.toArray⟩,.string ⟨o.toArray⟩,.string ⟨n.toArray⟩] w fun e w'=>e = .returned (.string ⟨(Lib.replaceAll s o n).toArray⟩)/\bg w w':=by
 obtain⟨k,hk⟩:=hm.tab.2.1 _ hi;have hk:=hm.agree _ _ _ hk;have hc:Lib.countB ⟨s.toArray⟩ ⟨o.toArray⟩<=s.length:=by
  have:=Lib.countB_mul_le (⟨o.toArray⟩:ByteArray) (by rw[fj];exact d1) _ (⟨s.toArray⟩:ByteArray) (wF _)
  rw[fj,fj]at this;exact Nat.le_trans (Nat.le_mul_of_pos_right _ d1) this
 exact(Any.strings_ReplaceAll Tryz.lays155 ze0 ⟨s.toArray⟩ ⟨o.toArray⟩ ⟨n.toArray⟩ k w (by rw[fj];exact d2) hk (by rw[fj];exact d1) (by
  rw[fj,fj];exact Nat.le_trans (Nat.add_le_add_left (Nat.mul_le_mul_right _ hc) _) d3)).mono fun e w'⟨he,hw⟩=>⟨he,bg.of_below hw⟩
def q7o:IF:=⟨.fn 86,[.h .str,.h .str,.h .str],[],_,RS.mk (.h .str) []⟩
def zjz(hi:2∈LC.ints):(q7o.e xh).Sound Tryz.prog:=fun d d' r h=>by
 obtain⟨s,o,n,_⟩:=d;have h:xh s o n=some r:=h;unfold xh at h;cases hd:decide (1<=List.length (α:=UInt8) o/\List.length (α:=UInt8) s<4294967281/\List.length (α:=UInt8) s+List.length (α:=UInt8) s*List.length (α:=UInt8) n<=140737488355328)<;>rw[hd]at h<;>simp only[qT,qF,reduceCtorEq]at h
 have h:=qJ h;subst h;obtain⟨d1,d2,d3⟩:=of_decide_eq_true hd;refine⟨call86,bu.data fun w G vs hm hr => ?_⟩
 match vs,hr with
 |[u,v,x],⟨h1,h2,h3,_⟩=>
  have h1:u = .string ⟨s.toArray⟩:=h1;have h2:v = .string ⟨o.toArray⟩:=h2;have h3:x = .string ⟨n.toArray⟩:=h3;subst h1 h2 h3;exact(zjy hm hi s o n d1 d2 d3).mono fun e w'⟨he,hw⟩=>⟨_,he,rfl,hw⟩
end Go.Sym
namespace Go.Sym
open Go.Proofs Go.RowKit Go.Shelf
def bm.refl(S:Nat->Prop)(w:World):bm S w w:=⟨rfl,rfl,rfl,wF _,fun _ _ _=>rfl⟩
def bm.drew(S:Nat->Prop)(w:World):bm S w w.drew:=⟨rfl,rfl,rfl,wF _,fun _ _ _=>rfl⟩
def bm.freeze{S:Nat->Prop}(w:World)(p:Addr)(n:Nat)(h:S p.block):bm S w (w.drew.freeze p n):=by
 unfold World.freeze;split
 ·exact bm.drew S w
 ·exact⟨rfl,rfl,rfl,oC,fun k hk hS=>by
   simp[Array.getElem?_modify];rw[qW (fun e=>hS (by rw[← e];exact h))];rfl⟩
def bm.drew_alloc(S:Nat->Prop)(w:World)(o:Obj):bm S w (w.drew.alloc o):=⟨rfl,rfl,rfl,oC,fun k hk _=>Below.heap_alloc w.drew _ k hk⟩
def q3j{G:Gh}:∀{l:List UInt8}{us:List Value},aj (l.flatMap Ty.byte.enc) G us->us=Lib.byteCells l
 |[],[],_=>rfl|c::l,u::us,⟨h1,h2⟩=>by
  have h1:u = .int .u8 c.toNat:=h1;rw[h1,q3j (l:=l) h2];rfl
 |[],_::_,h=>h.elim|_::_,[],h=>h.elim
section
variable{P:Program}{ρ:Ren}
set_option maxHeartbeats 2000000 in
def zla(L:Lays.n169 P ρ)(X:Builder.Extra P ρ)(b:Nat)(p:Value)(l:List UInt8)(g cap:Nat)(w:World)(hbk:w.heap[b]? = some (.cells #[p,.slice (some ⟨g,0,none⟩) l.length cap] (ρ.t 72) (0,0)))
  (cur:Array Value) (fz:Nat×Nat) (hg:w.heap[g]? = some (.cells cur (ρ.t 5) fz)) (hnc:l.length<=cap) (hcm:cap<=maxLen) (hcs:cur.size=cap*1) (htake:cur.toList.take (l.length*1)=Lib.byteCells l) (h0:l≠[]) :
  Calls P (ρ.f 169) #[.pointer (some ⟨b,0,none⟩)] w fun e w'=>e = .returned (.string ⟨l.toArray⟩)/\bm (fun k=>k=g) w w':=by
 have jy:l.length≠0:=by simpa using h0
 have c1:w.drew.cell? ⟨b,1,none⟩=some (.slice (some ⟨g,0,none⟩) l.length cap):=by
  have:w.drew.heap[b]? = some (.cells #[p,.slice (some ⟨g,0,none⟩) l.length cap] (ρ.t 72) (0,0)):=hbk;rw[Lib.cell_of_heap this];rfl
 have hSD:(Builtin.unsafeSliceData_ #[(ρ.t 37)] (ρ.t 127) #[.slice (some ⟨g,0,none⟩) l.length cap]).run P w.drew = .ok (.pointer (some ⟨g,0,none⟩)) w.drew:=
  Lib.run_unsafeSliceData_row _ _ _ _ _ _ oA
 have hUS:(Builtin.unsafeString_ #[(ρ.t 127),(ρ.t 3)] (ρ.t 9) #[.pointer (some ⟨g,0,none⟩),.int .i64 l.length]).run P w.drew = .ok (.string ⟨l.toArray⟩) (w.drew.freeze ⟨g,0,none⟩ l.length):=by
  refine Lib.run_unsafeString_row w.drew (ρ.t 127) (ρ.t 3) (ρ.t 9) (ρ.t 5) L.t127 X.cellsByte g cur.size (by have hg':w.drew.heap[g]? = some (.cells cur (ρ.t 5) fz):=hg;simp[World.shape?,hg']) l h0 oA (by unfold maxLen at hcm;omega) ?_
  intro j x hx;have hj:(cur.toList.take (l.length*1))[j]? = some (.int .u8 x.toNat):=by rw[htake];simp[Lib.byteCells,hx]
  have hj2:cur[j]? = some (.int .u8 x.toNat):=by
   rw[List.getElem?_take]at hj;split at hj
   ·simpa using hj
   ·cases hj
  have hg':w.drew.heap[g]? = some (.cells cur (ρ.t 5) fz):=hg;by_cases hj0:j=0
  ·subst hj0;simp[World.cell?,Addr.add,hg',hj2]
  ·simp[World.cell?,Addr.add,hj0,hg',hj2]
 have mixed:=L.mixed;have t72:=L.t72;have a72:=L.a72;have z72:=L.z72;have v72:=L.v72;have u72:=run_underlying L.t72;have t70:=L.t70;have a70:=L.a70;have z70:=L.z70;have v70:=L.v70;have u70:=run_underlying L.t70;have t37:=L.t37;have a37:=L.a37;have z37:=L.z37;have v37:=L.v37;have u37:=run_underlying L.t37;have t127:=L.t127;have a127:=L.a127;have z127:=L.z127;have v127:=L.v127;have u127:=run_underlying L.t127;have t3:=L.t3;have a3:=L.a3;have z3:=L.z3;have v3:=L.v3;have u3:=run_underlying L.t3;have t9:=L.t9;have a9:=L.a9;have z9:=L.z9;have v9:=L.v9;have u9:=run_underlying L.t9;have t5:=X.t5;have a5:=X.a5;have z5:=X.z5;have v5:=X.v5;have u5:=run_underlying X.t5;clear hcs htake hnc hcm hg
 go_enter L.f169,Body.n169_ntmps ρ
 go_wp2
 go_region_o
 all_goals (go_wp2;go_ret;exact⟨rfl,bm.freeze w ⟨g,0,none⟩ _ rfl⟩)
set_option maxHeartbeats 2000000 in
def zlb(L:Lays.n169 P ρ)(X:Builder.Extra P ρ)(b:Nat)(p:Value)(w:World)(hbk:w.heap[b]? = some (.cells #[p,.slice none 0 0] (ρ.t 72) (0,0))) :
  Calls P (ρ.f 169) #[.pointer (some ⟨b,0,none⟩)] w fun e w'=>e = .returned (.string ⟨#[]⟩)/\bm (fun _=>False) w w':=by
 have hUS:=Any.unsafeString_none L X;have c1:w.drew.cell? ⟨b,1,none⟩=some (.slice none 0 0):=by
  have:w.drew.heap[b]? = some (.cells #[p,.slice none 0 0] (ρ.t 72) (0,0)):=hbk;rw[Lib.cell_of_heap this];rfl
 have hSD:(Builtin.unsafeSliceData_ #[(ρ.t 37)] (ρ.t 127) #[.slice none 0 0]).run P w.drew = .ok (.pointer none) w.drew:=rfl;have mixed:=L.mixed;have t72:=L.t72;have a72:=L.a72;have z72:=L.z72;have v72:=L.v72;have u72:=run_underlying L.t72;have t70:=L.t70;have a70:=L.a70;have z70:=L.z70;have v70:=L.v70;have u70:=run_underlying L.t70;have t37:=L.t37;have a37:=L.a37;have z37:=L.z37;have v37:=L.v37;have u37:=run_underlying L.t37;have t127:=L.t127;have a127:=L.a127;have z127:=L.z127;have v127:=L.v127;have u127:=run_underlying L.t127;have t3:=L.t3;have a3:=L.a3;have z3:=L.z3;have v3:=L.v3;have u3:=run_underlying L.t3;have t9:=L.t9;have a9:=L.a9;have z9:=L.z9;have v9:=L.v9;have u9:=run_underlying L.t9;have t5:=X.t5;have a5:=X.a5;have z5:=X.z5;have v5:=X.v5;have u5:=run_underlying X.t5
 go_enter L.f169,Body.n169_ntmps ρ
 go_wp2
 go_region_o
 all_goals (go_wp2;go_ret;exact⟨rfl,bm.drew _ w⟩)
set_option maxHeartbeats 2000000 in
def zlc(L:Lays.n169 P ρ)(X:Builder.Extra P ρ)(b g:Nat)(p:Value)(cur:Array Value)(w:World)(hbk:w.heap[b]? = some (.cells #[p,.slice (some ⟨g,0,none⟩) 0 0] (ρ.t 72) (0,0)))(fz:Nat×Nat)(hg:w.heap[g]? = some (.cells cur (ρ.t 5) fz)) :
  Calls P (ρ.f 169) #[.pointer (some ⟨b,0,none⟩)] w fun e w'=>e = .returned (.string ⟨#[]⟩)/\bm (fun _=>False) w w':=by
 have hUS:=Any.unsafeString_none L X;have hlt:b<w.heap.size:=by
  rcases Nat.lt_or_ge b w.heap.size with h'|h'
  ·exact h'
  ·simp[Array.getElem?_eq_none h']at hbk
 have c1:w.drew.cell? ⟨b,1,none⟩=some (.slice (some ⟨g,0,none⟩) 0 0):=by
  have:w.drew.heap[b]? = some (.cells #[p,.slice (some ⟨g,0,none⟩) 0 0] (ρ.t 72) (0,0)):=hbk;rw[Lib.cell_of_heap this];rfl
 have hSD:(Builtin.unsafeSliceData_ #[(ρ.t 37)] (ρ.t 127) #[.slice (some ⟨g,0,none⟩) 0 0]).run P w.drew = .ok (.pointer (some ⟨w.drew.heap.size,0,none⟩)) (w.drew.alloc (.view ⟨g,0,none⟩ (ρ.t 5))):=
  Lib.run_unsafeSliceData_zero w.drew _ _ (ρ.t 5) L.t127 ⟨g,0,none⟩ 0 ((ρ.t 5),cur.size) (by have hg':w.drew.heap[g]? = some (.cells cur (ρ.t 5) fz):=hg;simp[World.shape?,hg'])
 have c2:(w.drew.alloc (.view ⟨g,0,none⟩ (ρ.t 5))).cell? ⟨b,1,none⟩=some (.slice (some ⟨g,0,none⟩) 0 0):=by
  have:(w.drew.alloc (.view ⟨g,0,none⟩ (ρ.t 5))).heap[b]? = _:=(Lib.alloc_old w.drew _ b hlt).trans hbk;rw[Lib.cell_of_heap this];rfl
 have c3:(w.alloc (.view ⟨g,0,none⟩ (ρ.t 5))).drew.cell? ⟨b,1,none⟩=some (.slice (some ⟨g,0,none⟩) 0 0):=c2;have c0:w.cell? ⟨b,1,none⟩=some (.slice (some ⟨g,0,none⟩) 0 0):=c1;have mixed:=L.mixed;have t72:=L.t72;have a72:=L.a72;have z72:=L.z72;have v72:=L.v72;have u72:=run_underlying L.t72;have t70:=L.t70;have a70:=L.a70;have z70:=L.z70;have v70:=L.v70;have u70:=run_underlying L.t70;have t37:=L.t37;have a37:=L.a37;have z37:=L.z37;have v37:=L.v37;have u37:=run_underlying L.t37;have t127:=L.t127;have a127:=L.a127;have z127:=L.z127;have v127:=L.v127;have u127:=run_underlying L.t127;have t3:=L.t3;have a3:=L.a3;have z3:=L.z3;have v3:=L.v3;have u3:=run_underlying L.t3;have t9:=L.t9;have a9:=L.a9;have z9:=L.z9;have v9:=L.v9;have u9:=run_underlying L.t9;have t5:=X.t5;have a5:=X.a5;have z5:=X.z5;have v5:=X.v5;have u5:=run_underlying X.t5
 go_enter L.f169,Body.n169_ntmps ρ
 go_wp2
 go_region_o
 all_goals (go_wp2;go_ret;exact⟨rfl,bm.drew_alloc _ w _⟩)
set_option maxHeartbeats 2000000 in
def zld(L:Lays.n169 P ρ)(X:Builder.Extra P ρ)(b g cap:Nat)(p:Value)(w:World)(hc0:cap≠0)(hbk:w.heap[b]? = some (.cells #[p,.slice (some ⟨g,0,none⟩) 0 cap] (ρ.t 72) (0,0))) :
  Calls P (ρ.f 169) #[.pointer (some ⟨b,0,none⟩)] w fun e w'=>e = .returned (.string ⟨#[]⟩)/\bm (fun _=>False) w w':=by
 have hUS:=Any.unsafeString_none L X;have c1:w.drew.cell? ⟨b,1,none⟩=some (.slice (some ⟨g,0,none⟩) 0 cap):=by
  have:w.drew.heap[b]? = some (.cells #[p,.slice (some ⟨g,0,none⟩) 0 cap] (ρ.t 72) (0,0)):=hbk;rw[Lib.cell_of_heap this];rfl
 have hSD:(Builtin.unsafeSliceData_ #[(ρ.t 37)] (ρ.t 127) #[.slice (some ⟨g,0,none⟩) 0 cap]).run P w.drew = .ok (.pointer (some ⟨g,0,none⟩)) w.drew:=
  Lib.run_unsafeSliceData_row _ _ _ _ _ _ hc0
 clear hc0;have mixed:=L.mixed;have t72:=L.t72;have a72:=L.a72;have z72:=L.z72;have v72:=L.v72;have u72:=run_underlying L.t72;have t70:=L.t70;have a70:=L.a70;have z70:=L.z70;have v70:=L.v70;have u70:=run_underlying L.t70;have t37:=L.t37;have a37:=L.a37;have z37:=L.z37;have v37:=L.v37;have u37:=run_underlying L.t37;have t127:=L.t127;have a127:=L.a127;have z127:=L.z127;have v127:=L.v127;have u127:=run_underlying L.t127;have t3:=L.t3;have a3:=L.a3;have z3:=L.z3;have v3:=L.v3;have u3:=run_underlying L.t3;have t9:=L.t9;have a9:=L.a9;have z9:=L.z9;have v9:=L.v9;have u9:=run_underlying L.t9;have t5:=X.t5;have a5:=X.a5;have z5:=X.z5;have v5:=X.v5;have u5:=run_underlying X.t5
 go_enter L.f169,Body.n169_ntmps ρ
 go_wp2
 go_region_o
 all_goals (go_wp2;go_ret;exact⟨rfl,bm.drew _ w⟩)
end
open Go.Proofs.Tryz
variable[LC]
def zew{q:Nat}(w:World)(n:Nat)(v:Value):bm (fun k=>k=q) w (w.setCell ⟨q,n,none⟩ v):=
 ⟨rfl,rfl,rfl,by simp[World.setCell],fun k hk hS=>by simp only[World.setCell,Array.getElem?_modify];rw[qW (fun e=>hS e.symm)]⟩
def bm.mono{S S':Nat->Prop}{w w':World}(h:bm S w w')(hS:∀k,S k->S' k):bm S' w w':=⟨h.os,h.tape,h.output,h.size,fun k hk hn=>h.block k hk fun q=>hn (hS k q)⟩
def Fin.same{zw0 w:World}{zwv G:Gh}{zwx hp hp':List (Nat×ag)}(hf:Fin zw0 zwv zwx G hp' w)(h:∀n,ae hp n=ae hp' n):Fin zw0 zwv zwx G hp w:=
 ⟨⟨hf.mem.agree,hf.mem.one,fun n bx hl=>hf.mem.holds n bx (by rw[← h];exact hl),fun n m bx bx' b h1 h2=>hf.mem.apart n m bx bx' b (by rw[← h];exact h1) (by rw[← h];exact h2),hf.mem.tab⟩,
  hf.bel,hf.imm_le,hf.imm_new,fun n bx b hl=>hf.base n bx b (by rw[← h];exact hl),hf.keep,hf.keepOwn⟩
abbrev bxB:List (Nat×aw):=[(0,.cells [.pn 0,.own 1] 62),(1,.row .byte 5)]
def qhg:IF:=⟨.fn 67,[.ptr 0 0],bxB,_,RS.mk (.tup []) bxB⟩
def qrg:IF:=⟨.fn 32,[.ptr 0 0],bxB,_,RS.mk (.h .str) []⟩
abbrev bxh(l:Bs):List (Nat×ag):=[(0,.cells [.pn 0,.own 1] 62),(1,.row .byte l 5)]
def q3g{G:Gh}{w:World}{l:Bs}{vs:List Value}(hm:bp G (bxh l) w)(hr:aj [AV.ptr 0 0] G vs) :
  ∃B p ad c,vs=[.pointer (some ⟨B,0,none⟩)]/\G.box 0=some B/\G.own 1=some (ad,l.length,c)/\(p = .pointer none\/p = .pointer (some ⟨B,0,none⟩)) /\
   w.heap[B]? = some (.cells #[p,.slice ad l.length c] 62 (0,0))/\(∀o,G.imm B o=none):=by
 match vs,hr with
 |[v],⟨⟨B,h1,h2⟩,_⟩=>
  obtain⟨B',arr,k1,k2,k3,_,k5⟩:=hm.holds 0 _ rfl;rw[h1]at k1;injection k1 with k1;subst k1
  match arr,k2,k3 with
  |⟨[]⟩,_,h=>exact h.elim|⟨[_]⟩,_,h=>exact h.2.elim|⟨_::_::_::_⟩,_,h=>exact h.2.2.elim|⟨[p,x]⟩,k2,⟨⟨B2,q1,q2⟩,⟨a,n,c,q3,q4⟩,_⟩=>
   rw[h1]at q1;injection q1 with q1;subst q1
   obtain⟨a',c',r1,_⟩:=hm.holds 1 _ rfl;rw[r1]at q3;simp only[qI,qP]at q3;obtain⟨rfl,rfl,rfl⟩:=q3;subst q4 h2;exact⟨B,p,a',c',rfl,h1,r1,q2,k2,k5⟩
def qrw:(qhg.e lj).Sound Tryz.prog:=fun d d' r h=>by
 obtain⟨d0,l,_⟩:=d';have h:lj l=some r:=h;have h:=qJ h;subst h;refine⟨call67,?_⟩;show bu _ _ [.ptr 0 0] (bxh l) (.tup []) (bxh l);intro w G vs hm hr;obtain⟨B,p,ad,c,rfl,h1,h2,h3,h4,h5⟩:=q3g hm hr;rcases h3 with rfl|rfl
 ·refine(Any.Builder_copyCheck_fresh { Tryz.lays165 with } ToValid.bx.toX72 B w (by rw[Lib.cell_of_heap h4];rfl) (by have q:w.shape? B=some (62,2):=by{ simp[World.shape?,h4] };exact q) (Lib.frozen_of_heap h4 0)).mono ?_
  rintro e w' ⟨rfl,rfl⟩
  refine⟨_,G,rfl,?_,#[],rfl,trivial⟩;refine((rl hm).update (n:=0) (bx := .cells [.pn 0,.own 1] 62) (bx' := .cells [.pn 0,.own 1] 62) (B:=B) rfl h1 h1 (zew w 0 _) ?_ h5).same (fun n => ?_)
  ·exact⟨B,#[.pointer (some ⟨B,0,none⟩),.slice ad l.length c],h1,by simp[World.setCell,Array.getElem?_modify,h4];rfl,⟨⟨B,h1,.inr rfl⟩,⟨ad,l.length,c,h2,rfl⟩,trivial⟩,by intro v hv;simp at hv;rcases hv with rfl|rfl<;>rfl,h5⟩
  ·cases n<;>rfl
 ·refine(Any.Builder_copyCheck_used { Tryz.lays165 with } ToValid.bx.toX72 B w (by rw[Lib.cell_of_heap h4];rfl)).mono ?_
  rintro e w' ⟨rfl,rfl⟩
  exact⟨_,G,rfl,rl hm,#[],rfl,trivial⟩
def q3b:(qrg.e t7).Sound Tryz.prog:=fun d d' r h=>by
 obtain⟨d0,l,_⟩:=d';have h:t7 l=some r:=h;have h:=qJ h;subst h;refine⟨call32,bu.gone fun w G vs hm hr => ?_⟩
 have hm:bp G (bxh l) w:=hm;obtain⟨B,p,ad,c,rfl,h1,h2,h3,h4,h5⟩:=q3g hm hr;obtain⟨a',c',k1,k2⟩:=hm.holds 1 _ rfl;rw[h2]at k1;simp only[qI,qP]at k1;obtain⟨rfl,-,rfl⟩:=k1;rcases k2 with⟨rfl,rfl,rfl⟩|⟨g,cs,fz,rfl,hg,_,hnc,hcm,hcs,hrep,_,_⟩
 ·refine(zlb Tryz.lays169 ToValid.bx B p w h4).mono ?_;rintro e w' ⟨rfl,hb⟩
  exact⟨_,rfl,rfl,hb.mono fun _ q=>q.elim⟩
 ·by_cases h0:l=[]
  ·subst h0;by_cases hc0:c=0
   ·subst hc0;refine(zlc Tryz.lays169 ToValid.bx B g p cs w h4 fz hg).mono ?_;rintro e w' ⟨rfl,hb⟩
    exact⟨_,rfl,rfl,hb.mono fun _ q=>q.elim⟩
   ·refine(zld Tryz.lays169 ToValid.bx B g c p w hc0 h4).mono ?_;rintro e w' ⟨rfl,hb⟩
    exact⟨_,rfl,rfl,hb.mono fun _ q=>q.elim⟩
  ·refine(zla Tryz.lays169 ToValid.bx B p l g c w h4 cs fz hg hnc hcm hcs (q3j hrep) h0).mono ?_;rintro e w' ⟨rfl,hb⟩
   refine⟨_,rfl,rfl,hb.mono fun k q => ?_⟩
   subst q;exact⟨1,.row .byte l 5,rfl,by simp only[Gh.at,h2]⟩
end Go.Sym
namespace Go.Sym
open Go.Proofs Go.RowKit Go.Sort
open Go.Proofs.Tryz
variable[LC]
end Go.Sym
namespace Go.Sym
open Go.Proofs Go.RowKit
open Go.Proofs.Tryz
variable[LC]
def q2y:Builder.Extra Tryz.prog Tryz.lays156_ren:=q2x
def zhx{G:Gh}{w:World}(hm:bp G [] w){l:List Bs}{u:Value}(sep:Bs)(hu:ai (.sl .str l) G u)(d1:l.length<=140737488355328)(d2:(Lib.join l sep).length<=140737488355328) :
  Calls Tryz.prog 21 #[u,.string ⟨sep.toArray⟩] w fun e w'=>e = .returned (.string ⟨(Lib.join l sep).toArray⟩)/\bg w w':=by
 obtain⟨p,c,rfl,hc,hp⟩:gm 1 (Ty.str.At G.imm) l u:=hu;by_cases hl:l=[]
 ·subst hl;exact(Any.strings_Join_none Tryz.lays156 q2y p c ⟨sep.toArray⟩ w).mono fun e w'⟨he,hw⟩=>⟨he,hw▸bg.refl _⟩
 ·rcases hp with h|⟨g,o,rfl,hcells⟩
  ·exact absurd h hl
  have e:(l.map fun s:Bs=>(⟨s.toArray⟩:ByteArray)).map (·.data.toList)=l:=by
   rw[List.map_map];exact(List.map_congr_left fun s _=>rfl).trans (List.map_id l)
  have hcl:∀(j:Nat) x,(l.map fun s:Bs=>(⟨s.toArray⟩:ByteArray))[j]? = some x->w.cell? ⟨g,o+j,none⟩=some (.string x):=fun j x hx=>by
   rw[List.getElem?_map]at hx;obtain⟨s,hs,rfl⟩:=Option.map_eq_some_iff.1 hx;have h1:G.imm g (o+j*1)=some (.string ⟨s.toArray⟩):=hcells j s hs;rw[Nat.mul_one]at h1;exact hm.agree _ _ _ h1
  have hlt:g<w.heap.size:=by
   obtain⟨x,t,rfl⟩:=List.exists_cons_of_ne_nil hl;exact World.block_lt_of_cell? _ _ (hcl 0 ⟨x.toArray⟩ rfl)
  have key:=Any.strings_Join Tryz.lays156 q2y g o c (l.map fun s:Bs=>(⟨s.toArray⟩:ByteArray)) ⟨sep.toArray⟩ w hcl hlt (by rw[wC];exact d1) (by rw[wC];exact hc) (by rw[e];exact d2)
  rw[e,wC]at key;exact key.mono fun e w'⟨he,hw⟩=>⟨he,bg.of_below hw⟩
def qs3:IF:=⟨.fn 21,[.h (.list .str),.h .str],[],_,RS.mk (.h .str) []⟩
def q5y:(qs3.e o6).Sound Tryz.prog:=fun d d' r h=>by
 obtain⟨l,s,_⟩:=d;have h:o6 l s=some r:=h;unfold o6 at h;cases hd:decide (List.length (α:=Bs) l<=140737488355328/\List.length (Lib.join l s)<=140737488355328)<;>rw[hd]at h<;>simp only[qT,qF,reduceCtorEq]at h
 have h:=qJ h;subst h;obtain⟨d1,d2⟩:=of_decide_eq_true hd;refine⟨call21,bu.data fun w G vs hm hr => ?_⟩
 match vs,hr with
 |[u,v],⟨h1,h2,_⟩=>
  have h2:v = .string ⟨s.toArray⟩:=h2;subst h2;exact(zhx hm s h1 d1 d2).mono fun e w'⟨he,hw⟩=>⟨_,he,rfl,hw⟩
def szl(a:Bs)(h:a.length<4294967281):(⟨a.toArray⟩:ByteArray).size<4294967281:=by rw[fj];exact h
def que:IF:=⟨.fn 92,[.h .str,.h .str],[],_,RS.mk (.h (.int .i64)) []⟩
def q8s(hi:2∈LC.ints):(que.e nf).Sound Tryz.prog:=fun d d' r h=>by
 obtain⟨a,b,_⟩:=d;have h:nf a b=some r:=h;unfold nf at h;cases hd:decide (List.length (α:=UInt8) a<4294967281)<;>rw[hd]at h<;>simp only[qT,qF,reduceCtorEq]at h
 have h:=qJ h;subst h;have hd:=of_decide_eq_true hd;refine⟨call92,bu.data fun w G vs hm hr => ?_⟩
 match vs,hr with
 |[u,v],⟨h1,h2,_⟩=>
  have h1:u = .string ⟨a.toArray⟩:=h1;have h2:v = .string ⟨b.toArray⟩:=h2;subst h1 h2;obtain⟨k,hk⟩:=hm.tab.2.1 _ hi;have hk:=hm.agree _ _ _ hk;exact(Any.stringslite_Index Tryz.lays219 ⟨a.toArray⟩ ⟨b.toArray⟩ k w (szl a hd) hk).mono fun e w'⟨he,hw⟩=>⟨_,he,rfl,hw▸bg.refl _⟩
def zge(s:Bs):Lib.decodeGo ⟨s.toArray⟩=uz s:=by
 unfold Lib.decodeGo uz
 cases s with|nil=>rfl|cons c s=>rw[qW (by simp[ByteArray.size]),qW oC,← Lib.decodeL_drop];rfl
def zgf{G:Gh}{w:World}(hm:bp G [] w){t0:List UInt8}{t1:List (UInt8×UInt8)}(h0:LC.glob 0=some ⟨.byte,t0⟩)(h1:LC.glob 1=some ⟨.prod .byte .byte,t1⟩)(e0:rr t0=true)(e1:rt t1=true)(s:Bs) :
  Calls Tryz.prog 94 #[.string ⟨s.toArray⟩] w fun e w'=>e = .returned (.tuple #[.int .i32 (uz s).1,.int .i64 (uz s).2])/\bg w w':=by
 have k:=ToValid.decC ⟨s.toArray⟩ w (quu hm h0 h1 e0 e1);rw[zge]at k;exact k.mono fun e w'⟨he,hw⟩=>⟨he,bg.of_below hw⟩
def qct:IF:=⟨.fn 94,[.h .str],[],_,RS.mk (.tup [.h (.int .i32),.h (.int .i64)]) []⟩
def qhk{t0:List UInt8}{t1:List (UInt8×UInt8)}(h0:LC.glob 0=some ⟨.byte,t0⟩)(h1:LC.glob 1=some ⟨.prod .byte .byte,t1⟩)(e0:rr t0=true)(e1:rt t1=true):(qct.e jl).Sound Tryz.prog:=fun d d' r h=>by
 obtain⟨s,_⟩:=d;have h:jl s=some r:=h;unfold jl at h;have h:=qJ h;subst h;refine⟨call94,bu.data fun w G vs hm hr => ?_⟩
 match vs,hr with
 |[u],⟨h1',_⟩=>
  have h1':u = .string ⟨s.toArray⟩:=h1';subst h1';exact(zgf hm h0 h1 e0 e1 s).mono fun e w'⟨he,hw⟩=>⟨_,he,⟨_,rfl,rfl,rfl,trivial⟩,hw⟩
end Go.Sym
namespace Go.Sym
noncomputable section
open Go.Proofs
set_option linter.unusedVariables false
set_option maxRecDepth 100000
set_option maxHeartbeats 2000000
open Tryz
abbrev wT : Ty := .tree (.prod (.list (.prod .str .str)) (.list .byte))
abbrev wL : Ty := .list (.prod .str .str)
abbrev wP : Ty := .prod .str .str
abbrev wH : Pt := .h (.int .i64)
abbrev wI : Ty := .int .i64
abbrev wB : Ty := .list .byte
abbrev wN : Pt := .c .nilS
abbrev wS : Pt := .h .str
abbrev wG : Program := Tryz.prog
section
variable(fu:Nat)
def qsu:Nat->Option ((τ:Ty)×List τ.den)|0=>some ⟨.byte,qjm⟩|1=>some ⟨.prod .byte .byte,qjn⟩|3=>some ⟨.int .u64,zlj⟩|_=>none
abbrev qa(f:Nat)(p:List Nat):Option (Code×Code):=some (pm 0 (sub (rn (n7 wG f)) p),pm 1 (sub (rn (n7 wG f)) p))
def zh3:Nat->Option (Code×Code)|0=>qa 179 [0,1,0,1,1,1]|1=>qa 110 [0,1,0,1,1]|2=>qa 110 [0,1,0,1,1,1,1]|3=>qa 41 [0,1,0,1,1,1,1]|4=>qa 111 [0,1,1]|5=>qa 77 [0,1,0,1,1,1]|6=>qa 5 [0,1,0,1,1,1,1,1,1,1]|7=>qa 48 [0,1,0,1,1]|8=>qa 85 [0,1,0,1,1,1,1]|_=>none
instance:LC:=⟨zh3,qsu,[2],[6,7],[(0,256),(1,32),(3,20)]⟩
def q11:wG.follows .mixedOrders=true:=oB
def etys:List (Nat×Ty):=[(4,.bool),(5,.byte),(9,.str),(21,.int .i32),(32,.list .byte),(36,.prod .str .str),(112,.tree (.prod wL wB)),(248,.prod .str .str),(328,.prod .str (.prod wI (.prod .bool .str)))]
abbrev fx{i:IF}(calls:List (EP wG):=[])(ls:List LB:=[])(sub:Bool:=false)(tags:List (List Nat×Nat):=[])(ht:∀p t,ke p tags=some t->∀g ps x y,Sym.sub (rn (n7 wG (qh9 i.key))) p = .rangeFunc g ps x y->LC.lc t=some (x,y):=by exact fk)(hf:wG.funcs[qh9 i.key]? = some (n7 wG (qh9 i.key)):=by kernel_rfl):Fx wG i:=Fx.at etys q11 (qh9 i.key) calls ls sub tags ht hf
abbrev fy{i:IF}(f:FuncId)(calls:List (EP wG):=[])(ls:List LB:=[])(sub:Bool:=false)(tags:List (List Nat×Nat):=[])(ht:∀p t,ke p tags=some t->∀g ps x y,Sym.sub (rn (n7 wG f)) p = .rangeFunc g ps x y->LC.lc t=some (x,y):=by exact fk)(hf:wG.funcs[f]? = some (n7 wG f):=by kernel_rfl):Fx wG i:=Fx.at etys q11 f calls ls sub tags ht hf
def zci:(qk6 141 qq).Sound wG:=zch func141 oB oB oB oB
def zcg:(qk5 168 qq).Sound wG:=zcf func168 oB oB oB oB
def zce:(qk4 171 qet).Sound wG:=zcd func171 oB oB oB oB
def d7:EI wG ⟨.fn 14,[wH,wH],[],_,RS.mk (.h (.prod wI wI)) []⟩:=(fx).fi ay
def x1s:EI wG ⟨.fn 54,[.h .byte],[],_,RS.mk (.h .bool) []⟩:=(fx).fi qe5
def x2(fu:Nat):Fx wG ⟨.fn 53,[wS,.fn 54 []],[],_,RS.mk (.h .bool) []⟩:=fx [x1s.p] [lb 104 [(0,wS),(1,.fn 54 []),(7,wH),(8,wH)]]
def zs4:Nat->(x2 fu).L 0:=Fx.lq (qap fu) (qkv fu) (fun r0=>[r0.s])
def x2s:=(x2 fu).fi (qku fu) [(zs4 fu fu).s]
def x3s:EI wG ⟨.fn 22,[wS],[],_,RS.mk (.h .bool) []⟩:=(fx [(x2s fu).p]).fi (w3 fu)
def x4s:EI wG ⟨.fn 130,[wH],[],_,RS.mk (.h .bool) []⟩:=(fx).fi qo7
def x5(fu:Nat):Fx wG ⟨.fn 59,[wS],[],_,RS.mk (.tup [.arr .bool,.h .bool]) []⟩:=fx [] [lb 208 [(0,wS),(2,.el 32 1),(4,wH)] [(32,.row .bool 93)]]
def zuq:Nat->(x5 fu).L 0:=Fx.lq (qo6 fu) (q1a fu) (fun r0=>[r0.s])
def x5s:=(x5 fu).fi (xl fu) [(zuq fu fu).s]
def x6s:EI wG ⟨.fn 131,[wS,.h .byte],[],_,RS.mk (wH) []⟩:=(fx [⟨qk5 168 qq,zcg⟩]).fi qyb
def x7s:EI wG ⟨.fn 166,[wS,.h .byte],[],_,RS.mk (wH) []⟩:=(fx [x6s.p]).fi qbl
def x8s:EI wG ⟨.fn 167,[.h (.int .i32)],[],_,RS.mk (.h .bool) []⟩:=(fx).fi qf5
def x9(fu:Nat):Fx wG ⟨.fn 129,[wS,.h (.int .i32)],[],_,RS.mk (wH) []⟩:=fx [x7s.p,x8s.p] [lb 3528 [(175,.ptr 32 0)] [(32,.it)],lb 117301840 [(0,wS),(7,wS),(8,wH),(9,wH),(12,wH)],lb 7331364 [(0,wS),(7,wS),(8,wH),(9,wH)],lb 458208 [(0,wS),(7,wS),(8,wH),(9,wH)],lb 13 [(0,wS),(1,.h (.int .i32)),(160,.h .bool)]]
def zwk:Nat->(x9 fu).L 0:=Fx.lq (qbn fu) (qog fu) (fun r1=>[r1.s])
def zwn(r2:(x9 fu).L 3):Nat->(x9 fu).L 1:=Fx.lq (qoj fu r2.f) (q0t fu r2.f) (fun r4=>[r4.s])
def zwm(r2:(x9 fu).L 3):(x9 fu).L 2:=Fx.jm (qoi fu r2.f) [(zwn fu r2 fu).s]
def zwl:Nat->(x9 fu).L 3:=Fx.lq (qfu fu) (qoh fu) (fun r2=>[(zwm fu r2).s])
def zwj:(x9 fu).L 4:=Fx.jm (qbm fu) [(zwk fu fu).s,(zwl fu fu).s]
def x9s:=(x9 fu).fi (qu fu) [(zwj fu).s]
def qvb:EI wG ⟨.fn 93,[.el 0 1,.h .byte],[(0,.row .bool 93)],_,RS.mk (.h .bool) [(0,.row .bool 93)]⟩:=(fx).fi xj
def x11:Fx wG ⟨.fn 91,[wS,wS],[],_,RS.mk (wH) []⟩:=fx [x4s.p,(x5s fu).p,(x9s fu).p,qvb.p] [lb 470 [(0,wS),(5,.h (.int .i32))],lb 62864 [(0,wS),(6,.el 32 1),(8,wH)] [(32,.row .bool 93)],lb 1000 [(1,wS),(45,.ptr 32 0)] [(32,.it)],lb 124 [(0,wS),(1,wS)]]
def znj:(x11 fu).L 0:=Fx.jm (qof fu)
def znk:Nat->(x11 fu).L 1:=Fx.lq (qbj fu) (qod fu) (fun r1=>[r1.s])
def znm:Nat->(x11 fu).L 2:=Fx.lq (qbk fu) (qoe fu) (fun r3=>[r3.s])
def znl:(x11 fu).L 3:=Fx.jm (qft fu) [(znm fu fu).s]
def znn:=(x11 fu).fi (qfs fu) [(znj fu).s,(znk fu fu).s,(znl fu).s]
def znz:EI wG ⟨.fn 55,[wS,wS],[],_,RS.mk (.h .bool) []⟩:=(fx [(znn fu).p]).fi (qfq fu)
def zag:EI wG ⟨.fn 25,[wS],[],_,RS.mk (.h .bool) []⟩:=(fx [(znz fu).p]).fi (wz fu)
def zw:EI wG ⟨.fn 26,[.h .byte],[],_,RS.mk (.h .bool) []⟩:=(fx).fi gl
def zpo:EI wG ⟨.fn 23,[wS],[],_,RS.mk (.h .bool) []⟩:=(fx [(zag fu).p,zw.p]).fi (qe8 fu)
def x16(fu:Nat):Fx wG ⟨.fn 24,[wS,wH],[],_,RS.mk (wH) []⟩:=fx [zw.p] [lb 3729 [(0,wS),(5,wH),(6,wH),(26,.h .bool)],lb 464 [(0,wS),(5,wH),(6,wH)]]
def zp3(r0:(x16 fu).L 1):(x16 fu).L 0:=Fx.jm (qe7 fu r0.f) [r0.s]
def zp2:Nat->(x16 fu).L 1:=Fx.lq (qa5 fu) (ql7 fu) (fun r0=>[(zp3 fu r0).s])
def zp4:=(x16 fu).fi (qe6 fu) [(zp2 fu fu).s]
def dx:EI wG ⟨.fn 17,[],[],_,RS.mk (.h (.prod wI wI)) []⟩:=(fx).fi bq
def x18:Fx wG ⟨.fn 6,[wS,wS],[],_,RS.mk (.tup [.own 0,.h (.prod wI wI)]) [(0,.row .str 9)]⟩:=fx [(x3s fu).p,d7.p,(zpo fu).p,(zp4 fu).p,dx.p] [lb 4072 [(5,.ptr 32 0),(8,.own 33),(55,.own 33),(56,wH),(57,wH)] [(32,.dat (.prod wI wI) 24),(33,.row .str 9)],lb 126 [(5,.ptr 32 0),(6,wS),(8,.own 33)] [(32,.dat (.prod wI wI) 24),(33,.row .str 9)],lb 992 [(5,.ptr 32 0),(6,wS),(7,wH),(8,.own 33)] [(32,.dat (.prod wI wI) 24),(33,.row .str 9)]]
def zq6:Nat->(x18 fu).L 0:=Fx.lq (qa3 fu) (ql2 fu) (fun r2=>[r2.s])
def zq5:(x18 fu).L 1:=Fx.jm (qa2 fu) [(zq6 fu fu).s]
def zq4:Nat->(x18 fu).L 2:=Fx.lq (qa1 fu) (ql1 fu) (fun r0=>[(zq5 fu).s,r0.s])
def qj9:=(x18 fu).fi (qr fu) [(zq4 fu fu).s]
def fp:EI wG ⟨.fn 34,[.h (.prod wI wI)],[],_,RS.mk (.h .bool) []⟩:=(fx).fi cy
def x20:Fx wG ⟨.fn 33,[.h wL],[],_,RS.mk (.h (.prod wI wI)) []⟩:=fx [d7.p,(qj9 fu).p,fp.p,dx.p] [lb 232 [(2,.ptr 32 0),(11,.h wL),(12,wH),(13,wH)] [(32,.dat (.prod wI wI) 24)]]
def zsg:Nat->(x20 fu).L 0:=Fx.lq (qba fu) (qmk fu) (fun r0=>[r0.s])
def qv5:=(x20 fu).fi (w8 fu) [(zsg fu fu).s]
def x21:Fx wG ⟨.fn 38,[.h (.prod wL wB)],[],_,RS.mk (.own 0) [(0,.row .byte 5)]⟩:=fx [(qj9 fu).p] [lb 119608 [(1,.ptr 32 0),(3,.own 34),(11,.h wL),(12,wH),(13,wH),(25,.own 33),(26,wH),(27,wH)] [(32,.dat (.prod wL wB) 41),(33,.row .str 9),(34,.row .byte 5)],lb 232 [(1,.ptr 32 0),(3,.own 33),(11,.h wL),(12,wH),(13,wH)] [(32,.dat (.prod wL wB) 41),(33,.row .byte 5)]]
def zsy(r0:(x21 fu).L 1):Nat->(x21 fu).L 0:=Fx.lq (qnh fu r0.f) (qzh fu r0.f) (fun r1=>[r1.s,r0.s])
def zsx:Nat->(x21 fu).L 1:=Fx.lq (qng fu) (qzg fu) (fun r0=>[(zsy fu r0 fu).s])
def zaz:=(x21 fu).fi (qnf fu) [(zsx fu fu).s]
def x22(fu:Nat):Fx wG ⟨.fn 102,[.h wB],[],_,RS.mk (wH) []⟩:=fx [] [lb 14924 [(0,.h wB),(3,wH),(4,wH),(5,.h .byte)],lb 7461 [(0,.h wB),(3,wH),(4,wH),(5,.h .byte),(32,.h .bool)],lb 464 [(0,.h wB),(3,wH),(4,wH)]]
def zs1(r0:(x22 fu).L 2):(x22 fu).L 0:=Fx.jm (qxb fu r0.f) [r0.s]
def zs0(r0:(x22 fu).L 2):(x22 fu).L 1:=Fx.jm (qer fu r0.f) [r0.s,(zs1 fu r0).s]
def zsz:Nat->(x22 fu).L 2:=Fx.lq (qk0 fu) (qxa fu) (fun r0=>[(zs0 fu r0).s])
def za0:=(x22 fu).fi (qkz fu) [(zsz fu fu).s]
def zs2:EI wG ⟨.fn 70,[.h wB],[],_,RS.mk (.h (.prod wI wI)) []⟩:=(fx [(za0 fu).p,d7.p,dx.p]).fi (qzd fu)
def qv9:EI wG ⟨.fn 37,[.h (.prod wL wB)],[],_,RS.mk (.h (.prod wI wI)) []⟩:=(fx [(qv5 fu).p,fp.p,(zaz fu).p,d7.p,(zs2 fu).p]).fi (qfj fu)
def zs3:EI wG ⟨.fn 11,[.h (.prod wL wB)],[],_,RS.mk (.tup [.own 0,.h (.prod wI wI)]) [(0,.row .byte 5)]⟩:=(fx [(qv9 fu).p,fp.p,(zaz fu).p,dx.p]).fi (qzc fu)
def qwa:EI wG ⟨.fn 103,[.h wB,.h .byte],[],_,RS.mk (wH) []⟩:=(fx [⟨qk6 141 qq,zci⟩]).fi qar
def za1:EI wG ⟨.fn 42,[.h wB,.h wB],[],_,RS.mk (.h .bool) []⟩:=(fx).fi qk7
def za2:EI wG ⟨.fn 142,[.h wB,.h wB],[],_,RS.mk (.h .bool) []⟩:=(fx [za1.p]).fi qk8
def za3:EI wG ⟨.fn 104,[.h wB,.h wB],[],_,RS.mk (.h wB) []⟩:=(fx [za2.p]).fi qeu
def zs6:EI wG ⟨.fn 71,[.h wB],[],_,RS.mk (.tup [wS,wH]) []⟩:=(fx [qwa.p,za3.p]).fi qx8
def za4:EI wG ⟨.fn 73,[.own 0],[(0,.row .str 9)],_,RS.mk (.ptr 1 0) [(0,.dead),(1,.cells [.h (.int .u32),.h (.int .i32),.h (.int .u32),.c .nilIface,.own 2] 160),(2,.row .str 9)]⟩:=(fx [] [] true).fi qok
def zs7:EI wG ⟨.fn 56,[wS,wS],[],_,RS.mk (.tup [wS,wS,.h .bool]) []⟩:=(fx [⟨que.e nf,q8s oE⟩]).fi qml
def qwb:EI wG ⟨.fn 27,[wS,wS],[],_,RS.mk (.tup [wS,wS,.h .bool]) []⟩:=(fx [zs7.p]).fi ug
def x34(fu:Nat):Fx wG ⟨.fn 58,[wS,.h .byte],[],_,RS.mk (wS) []⟩:=fx [] [lb 96 [(0,wS),(1,.h .byte)]]
def zs8:Nat->(x34 fu).L 0:=Fx.lq (qpf fu) (q1d fu) (fun r0=>[r0.s])
def za6:=(x34 fu).fi (qpe fu) [(zs8 fu fu).s]
def x35(fu:Nat):Fx wG ⟨.fn 61,[wS,.el 0 1],[(0,.row .bool 93)],_,RS.mk (wS) [(0,.row .bool 93)]⟩:=fx [qvb.p] [lb 96 [(0,wS),(1,.el 0 1)] [(0,.row .bool 93)]]
def zs9:Nat->(x35 fu).L 0:=Fx.lq (qbr fu) (qpd fu) (fun r0=>[r0.s])
def za8:=(x35 fu).fi (qf3 fu) [(zs9 fu fu).s]
def za9:EI wG ⟨.fn 136,[.h .byte],[],_,RS.mk (.h .bool) []⟩:=(fx).fi qpu
def sf:LC.glob 0=some ⟨.byte,qjm⟩:=rfl
def ra:LC.glob 1=some ⟨.prod .byte .byte,qjn⟩:=rfl
def se:rr qjm=true:=oB
def q9:rt qjn=true:=oB
def x37(fu:Nat):Fx wG ⟨.fn 96,[wS],[],_,RS.mk (.tup [.h (.int .i32),wH]) []⟩:=fx [za9.p,⟨qct.e jl,qhk sf ra se q9⟩] [lb 2046 [(0,wS),(4,wH),(5,wH)],lb 2044 [(0,wS),(4,wH),(5,wH)],lb 16336 [(0,wS),(4,wH),(5,wH),(6,wH)]]
def ztc:(x37 fu).L 0:=Fx.jm (qpm fu)
def ztb:(x37 fu).L 1:=Fx.jm (qpl fu) [(ztc fu).s]
def zta:Nat->(x37 fu).L 2:=Fx.lq (qpk fu) (q1k fu) (fun r0=>[(ztb fu).s,r0.s])
def ztd:=(x37 fu).fi (q1j fu) [(zta fu fu).s]
def zba:EI wG ⟨.fn 95,[wS,.h (.int .i32)],[],_,RS.mk (.h .bool) []⟩:=(fx [(x9s fu).p]).fi (qfr fu)
def x39:Fx wG ⟨.fn 63,[wS,wS],[],_,RS.mk (wS) []⟩:=fx [(ztd fu).p,(zba fu).p] [lb 96 [(0,wS),(1,wS)]]
def zte:Nat->(x39 fu).L 0:=Fx.lq (qph fu) (q1e fu) (fun r0=>[r0.s])
def zbc:=(x39 fu).fi (qpg fu) [(zte fu fu).s]
def x40:Fx wG ⟨.fn 105,[wS,wS],[],_,RS.mk (wS) []⟩:=fx [(za6 fu).p,(x5s fu).p,(za8 fu).p,(zbc fu).p] [lb 60 [(0,wS),(1,wS)],lb 29 [(0,wS),(1,wS),(21,.h .bool)],lb 28 [(0,wS),(1,wS)],lb 13 [(0,wS),(1,wS),(12,.h .bool)]]
def zti:(x40 fu).L 0:=Fx.jm (q04 fu)
def zth:(x40 fu).L 1:=Fx.jm (qow fu) [(zti fu).s]
def ztg:(x40 fu).L 2:=Fx.jm (q03 fu) [(zth fu).s]
def ztf:(x40 fu).L 3:=Fx.jm (qov fu) [(ztg fu).s]
def zbe:=(x40 fu).fi (qou fu) [(ztf fu).s]
def ztj:EI wG ⟨.fn 106,[wS],[],_,RS.mk (.h .bool) []⟩:=(fx [(qj9 fu).p,fp.p]).fi (qx9 fu)
def ztk:EI wG ⟨.fn 72,[wS],[],_,RS.mk (.tup [.h wP,.h .bool]) []⟩:=(fx [qwb.p,(zbe fu).p,(ztj fu).p]).fi (qx7 fu)
def ql(fu:Nat):Fx wG ⟨.fn 145,[.ptr 0 0],[(0,.cells [.h (.int .u32),.h (.int .i32),.h (.int .u32),.c .nilIface,.own 1] 160),(1,.row .str 9)],_,RS.mk (.iel 234 2 1) [(0,.cells [.h (.int .u32),.h (.int .i32),.h (.int .u32),.c .nilIface,.own 3] 160),(1,.dead),(2,.row .byte 233),(3,.row .str 9)]⟩:=fx [] [lb 2003 [(3,.own 32),(4,.h .bool),(5,wH)] [(0,.cells [.h (.int .u32),.h (.int .i32),.h (.int .u32),.c .nilIface,.own 32] 160),(1,.dead),(32,.row .str 9)],lb 129744 [(3,.own 32),(6,.el 33 1),(8,wH)] [(0,.cells [.h (.int .u32),.h (.int .i32),.h (.int .u32),.c .nilIface,.own 32] 160),(1,.dead),(32,.row .str 9),(33,.row .byte 233)],lb 32424 [(3,.own 32),(6,.el 33 1),(61,wH)] [(0,.cells [.h (.int .u32),.h (.int .i32),.h (.int .u32),.c .nilIface,.own 32] 160),(1,.dead),(32,.row .str 9),(33,.row .byte 233)],lb 16336 [(3,.own 32),(11,.ptr 33 0),(12,wH)] [(0,.cells [.h (.int .u32),.h (.int .i32),.h (.int .u32),.c .nilIface,.own 32] 160),(1,.dead),(32,.row .str 9),(33,.cells [wN,wN,wN,wN,wN,wN,wN,wN,wN,wN,wN,wN,wN,wN,wN,wN,wN,wN,wN,wN,wN,wN,wN,wN,wN,wN,wN,wN,wN,wN,wN,wN,wN,wN,wN,wN,wN,wN,wN,wN,wN,wN,wN,wN,wN,wN,wN,wN,wN,wN,wN,wN,wN,wN,wN,wN,wN,wN,wN,wN,wN,wN,wN,wN,wN,wN,wN,wN,wN,wN,wN,wN,wN,wN,wN,wN,wN,wN,wN,wN,wN,wN,wN,wN,wN,wN,wN,wN,wN,wN,wN,wN,wN,wN,wN,wN,wN,wN,wN,wN,wN,wN,wN,wN,wN,wN,wN,wN,wN,wN,wN,wN,wN,wN,wN,wN,wN,wN,wN,wN,wN,wN,wN,wN,wN,wN,wN,wN,wN,wN,wN,wN,wN,wN,wN,wN,wN,wN,wN,wN,wN,wN,wN,wN,wN,wN,wN,wN,wN,wN,wN,wN,wN,wN,wN,wN,wN,wN,wN,wN,wN,wN,wN,wN,wN,wN,wN,wN,wN,wN,wN,wN,wN,wN,wN,wN,wN,wN,wN,wN,wN,wN,wN,wN,wN,wN,wN,wN,wN,wN,wN,wN,wN,wN,wN,wN,wN,wN,wN,wN,wN,wN,wN,wN,wN,wN,wN,wN,wN,wN,wN,wN,wN,wN,wN,wN,wN,wN,wN,wN,wN,wN,wN,wN,wN,wN,wN,wN,wN,wN,wN,wN,wN,wN,wN,wN,wN,wN,wN,wN,wN,wN,wN,wN,wN,wN,wN,wN,wN,wN,wN,wN,wN,wN,wN,wN,.own 34] 237),(34,.row .str 9)],lb 2000 [(3,.own 32),(4,.h .bool),(5,wH)] [(0,.cells [.h (.int .u32),.h (.int .i32),.h (.int .u32),.c .nilIface,.own 32] 160),(1,.dead),(32,.row .str 9)],lb 30 [(3,.own 32)] [(0,.cells [.h (.int .u32),.h (.int .i32),.h (.int .u32),.c .nilIface,.own 32] 160),(1,.dead),(32,.row .str 9)],lb 29 [(3,.own 32),(28,.h .bool)] [(0,.cells [.h (.int .u32),.h (.int .i32),.h (.int .u32),.c .nilIface,.own 32] 160),(1,.dead),(32,.row .str 9)]]
def zto(r2:(ql fu).L 4):(ql fu).L 0:=Fx.jm (qoo fu r2.f) [r2.s]
def ztr:Nat->(ql fu).L 1:=Fx.lq (qor fu) (q0y fu) (fun r6=>[r6.s])
def ztp:Nat->(ql fu).L 2:=Fx.lq (qop fu) (q0w fu) (fun r4=>[r4.s,(ztr fu fu).s])
def ztq:Nat->(ql fu).L 3:=Fx.lq (qoq fu) (q0x fu) (fun r5=>[])
def ztn:Nat->(ql fu).L 4:=Fx.lq (qon fu) (q0v fu) (fun r2=>[(zto fu r2).s,(ztp fu fu).s,(ztq fu fu).s])
def ztm:(ql fu).L 5:=Fx.jm (q0z fu) [(ztn fu fu).s]
def ztl:(ql fu).L 6:=Fx.jm (qom fu) [(ztm fu).s]
def zts:=(ql fu).fi (q0u fu) [(ztl fu).s]
def qwd:IF:=⟨.fn 108,[.ptr 0 0],[(0,.cells [.h (.int .u32),.h (.int .i32),.h (.int .u32),.c .nilIface,.own 1] 160),(1,.row .str 9)],_,RS.mk (.tup []) [(0,.cells [.h (.int .u32),.h (.int .i32),.h (.int .u32),.iel 234 2 1,.own 3] 160),(1,.dead),(2,.row .byte 233),(3,.row .str 9)]⟩
def x44:Fx wG qwd:=fx [(zts fu).p]
def ztu:EI wG qwd:=(x44 fu).fi (qol fu)
def zcp:(qwd.e (qol fu)).Sound wG:=(ztu fu).h
def qwe:IF:=⟨.fn 336,[.el 0 1,wS],[(0,.row .byte 233)],_,RS.mk (wS) [(0,.row .byte 233)]⟩
def x45(fu:Nat):Fx wG qwe:=fx [] [lb 14925 [(0,.el 0 1),(1,wS),(5,.own 32),(6,wH),(7,.h .byte)] [(0,.row .byte 233),(32,.row .byte 5)],lb 464 [(0,.el 0 1),(1,wS),(5,.own 32),(6,wH)] [(0,.row .byte 233),(32,.row .byte 5)],lb 464 [(0,.el 0 1),(1,wS),(5,wN),(6,wH)] [(0,.row .byte 233)]]
def zbf(r2:(x45 fu).L 1):(x45 fu).L 0:=Fx.jm (qo0 fu r2.f) [r2.s]
def ztw:Nat->(x45 fu).L 1:=Fx.lq (qo1 fu) (q06 fu) (fun r2=>[(zbf fu r2).s,r2.s])
def ztv:Nat->(x45 fu).L 2:=Fx.lq (qoz fu) (q05 fu) (fun r0=>[r0.s,(zbf fu (ztw fu fu)).s])
def ztx:EI wG qwe:=(x45 fu).fi (qfz fu) [(ztv fu fu).s]
def q07:(qwe.e (qfz fu)).Sound wG:=(ztx fu).h
def q7p:IF:=⟨.fn 74,[.ptr 0 0,wS],[(0,.cells [.h (.int .u32),.h (.int .i32),.h (.int .u32),.c .nilIface,.own 1] 160),(1,.row .str 9)],_,RS.mk (wS) [(0,.cells [.h (.int .u32),.h (.int .i32),.h (.int .u32),.iel 234 2 1,.u] 160),(1,.dead),(2,.row .byte 233)]⟩
def q7q:IF:=⟨.fn 74,[.ptr 0 0,wS],[(0,.cells [.h (.int .u32),.h (.int .i32),.h (.int .u32),.iel 234 1 1,.u] 160),(1,.row .byte 233)],_,RS.mk (wS) [(0,.cells [.h (.int .u32),.h (.int .i32),.h (.int .u32),.iel 234 1 1,.u] 160),(1,.row .byte 233)]⟩
def zcn(s:Bs)(p0 p1 p2:Int)(on:List Bs)(r:Bs×Int×Int×Int×Bs)(hr:qbf fu s p0 p1 p2 on=some r) :
  bu wG 74 [.ptr 0 0,.str s] [(0,.cells [.int .u32 p0,.int .i32 p1,.int .u32 p2,.val .nilIface,.own 1] 160),(1,.row .str on 9)] (.str r.1) [(0,.cells [.int .u32 r.2.1,.int .i32 r.2.2.1,.int .u32 r.2.2.2.1,.iface 234 (.oel 2 1 0 0),.undef] 160),(1,.dead),(2,.row .byte r.2.2.2.2 233)]:=by
 unfold qbf at hr;cases hc:decide (p0=0)&&decide (p1=0)<;>rw[hc]at hr<;>simp only[qT,qF,reduceCtorEq]at hr
 simp only[qA,decide_eq_true_eq]at hc;obtain⟨rfl,rfl⟩:=hc;obtain⟨x,hx,hr⟩:=Option.bind_eq_some_iff.1 hr;obtain⟨x0,x1,x2,tab,on'⟩:=x;simp only at hr;cases hc2:decide (x0=0)&&decide (x1=1)<;>rw[hc2]at hr<;>simp only[qT,qF,reduceCtorEq]at hr
 simp only[qA,decide_eq_true_eq]at hc2;obtain⟨rfl,rfl⟩:=hc2;obtain⟨y,hy,hr⟩:=Option.bind_eq_some_iff.1 hr;obtain⟨out,tab'⟩:=y;simp only[qI]at hr;subst hr;have hB:bu wG 108 [.ptr 0 0] [(0,.cells [.int .u32 0,.int .i32 1,.int .u32 p2,.val .nilIface,.own 1] 160),(1,.row .str on 9)] (.tup []) [(0,.cells [.int .u32 0,.int .i32 1,.int .u32 x2,.iface 234 (.oel 2 1 0 0),.own 3] 160),(1,.dead),(2,.row .byte tab 233),(3,.row .str on' 9)]:=
  (zcp fu ((),()) (((0:Int),((1:Int),(p2,((),((),()))))),(on,())) ((0:Int),(1:Int),x2,tab,on') hx).2
 have hP:bu wG 336 [.oel 0 1 0 0,.str s] [(0,.row .byte tab 233)] (.str out) [(0,.row .byte tab' 233)]:=
  (q07 fu ((),(s,())) (tab,()) (out,tab') hy).2
 intro w G vs hm hv;show Calls _ _ _ _ (kp w G [(0,.cells [.int .u32 0,.int .i32 0,.int .u32 p2,.val .nilIface,.own 1] 160),(1,.row .str on 9)] (.str out) [(0,.cells [.int .u32 1,.int .i32 0,.int .u32 x2,.iface 234 (.oel 2 1 0 0),.undef] 160),(1,.dead),(2,.row .byte tab' 233)]);have hm:bp G [(0,.cells [.int .u32 0,.int .i32 0,.int .u32 p2,.val .nilIface,.own 1] 160),(1,.row .str on 9)] w:=hm;have hv:aj [.ptr 0 0,.str s] G vs:=hv
 match vs,hv with
 |[v1,v2],hv=>
 obtain⟨⟨B,hGB,rfl⟩,rfl,_⟩:=hv;have hid:∀n b,ae ([(0,.cells [.int .u32 0,.int .i32 0,.int .u32 p2,.val .nilIface,.own 1] 160),(1,.row .str on 9)]:List (Nat×ag)) n=some b->ap [(0,0),(1,1)] n=some n/\cw (ap [(0,0),(1,1)]) b=b:=by
  intro n b h
  match n,h with
  |0,h=>cases h;exact⟨rfl,rfl⟩
  |1,h=>cases h;exact⟨rfl,rfl⟩
  |n+2,h=>cases h
 have hr0:=ah.start (N:=[(0,0),(1,1)]) hm hid (fun n h=>by
  match n,h with
  |0,h=>cases h
  |1,h=>cases h
  | n+2,h=>rfl) 4
 have hGB0:(G.view [(0,0),(1,1)]).box 0=some B:=hGB;obtain⟨c0,e0,r0,z0⟩:=hr0.cellAt (i:=0) rfl hGB0 rfl;obtain⟨c1,e1,r1,z1⟩:=hr0.cellAt (i:=1) rfl hGB0 rfl;have r0:c0 = .int .u32 0:=r0;have r1:c1 = .int .i32 0:=r1;subst r0 r1;have hr1:=hr0.setCellAt (i:=1) (x := .int .i32 1) (v := .int .i32 1) rfl hGB0 rfl rfl
 -- the building
 have hmB:bp ((G.view [(0,0),(1,1)]).view [(0,0),(1,1)]) [(0,.cells [.int .u32 0,.int .i32 1,.int .u32 p2,.val .nilIface,.own 1] 160),(1,.row .str on 9)] (w.setCell ⟨B,1,none⟩ (.int .i32 1)):=
  hr1.fin.mem.view (names:=[(0,0),(1,1)]) rfl (fun m m' n h1 h2=>by
   match m,m',h1,h2 with
   |0,0,_,_=>rfl|1,1,_,_=>rfl|0,1,h1,h2=>cases h1;cases h2
   |1,0,h1,h2=>cases h1;cases h2
   |0,m'+2,_,h2=>cases h2
   |1,m'+2,_,h2=>cases h2
   | m+2,_,h1,_=>cases h1)
 have hcB:=hB (w.setCell ⟨B,1,none⟩ (.int .i32 1)) ((G.view [(0,0),(1,1)]).view [(0,0),(1,1)]) [.pointer (some ⟨B,0,none⟩)] hmB ⟨⟨B,hGB,rfl⟩,trivial⟩
 let s2:St:={ n:=4,fr:=[(0,.tup [])],hp:=[(0,.cells [.int .u32 0,.int .i32 1,.int .u32 x2,.iface 234 (.oel 66 1 0 0),.own 67] 160),(1,.dead),(66,.row .byte tab 233),(67,.row .str on' 9),(0,.dead),(1,.dead),(0,.cells [.int .u32 0,.int .i32 1,.int .u32 p2,.val .nilIface,.own 1] 160),(0,.cells [.int .u32 0,.int .i32 0,.int .u32 p2,.val .nilIface,.own 1] 160),(1,.row .str on 9)],nx:=64,df:=[] }
 let hp0:List (Nat×ag):=[(0,.cells [.int .u32 0,.int .i32 0,.int .u32 p2,.val .nilIface,.own 1] 160),(1,.row .str on 9)]
 let R:World->Prop:=fun w'=>∃G2 a2,ah w (G.view [(0,0),(1,1)]) hp0 G2 s2 a2 w'
 have hBw:∀{w':World}{G2:Gh}{a2:Act},ah w (G.view [(0,0),(1,1)]) hp0 G2 s2 a2 w'->G2.box 0=some B:=fun h=>h.fin.keep 0 _ B rfl hGB0
 refine(Go.Proofs.YtboiflmddgacmabGreatDoor.Once.replace_first B ⟨s.toArray⟩ w R (fun v w'=>∃G4,Fin w G hp0 G4 [(0,.cells [.int .u32 1,.int .i32 0,.int .u32 x2,.iface 234 (.oel 2 1 0 0),.undef] 160),(1,.dead),(2,.row .byte tab' 233)] w'/\ai (.str out) G4 v) e0 e1 z0 z1 ?_ ?_ ?_).mono ?_
 ·refine hcB.mono ?_;intro e w' hpost;obtain⟨G2,v,he,hr2⟩:=qdd hr1 (t:=0) (names:=[(0,0),(1,1)]) (hpv:=[(0,.cells [.int .u32 0,.int .i32 1,.int .u32 p2,.val .nilIface,.own 1] 160),(1,.row .str on 9)]) (hp:=[(0,.cells [.int .u32 0,.int .i32 1,.int .u32 p2,.val .nilIface,.own 1] 160),(1,.row .str on 9)]) rfl rfl (show 0<4 by decide) rfl rfl (by repeat (first|trivial|refine⟨rfl,?_⟩)) hpost
  obtain⟨u,u1,u2⟩:=hr2.frame 0 _ rfl;have u3:u=v:=by simpa [Act.put] using u1.symm
  obtain⟨us,h1,h2⟩:=u2;have:us=#[]:=by
   cases hq:us.toList with|nil=>simpa using hq|cons _ _=>rw[hq]at h2;exact h2.elim
  subst this;subst u3;exact⟨by rw[he,h1],G2,_,hr2⟩
 ·rintro w' ⟨G2,a2,hr2⟩
  obtain⟨d0,f0,q0,y0⟩:=hr2.cellAt (i:=0) rfl (hBw hr2) rfl;obtain⟨d1,f1,q1,y1⟩:=hr2.cellAt (i:=1) rfl (hBw hr2) rfl;have q0:d0 = .int .u32 0:=q0;have q1:d1 = .int .i32 1:=q1;subst q0 q1;exact⟨f0,y0,f1,y1⟩
 ·rintro w' ⟨G2,a2,hr2⟩
  obtain⟨d3,f3,q3,_⟩:=hr2.cellAt (i:=3) rfl (hBw hr2) rfl;obtain⟨u3,rfl,g,n3,c3,o3,rfl⟩:=q3;refine⟨g,by simpa using f3,?_⟩
  have hr3:=(hr2.drewOk.setCellAt (i:=0) (x := .int .u32 1) (v := .int .u32 1) rfl (hBw hr2) rfl rfl).setCellAt (i:=0+1) (x := .int .i32 0) (v := .int .i32 0) rfl (hBw hr2) rfl rfl;have hmP:bp (G2.view [(0,66)]) [(0,.row .byte tab 233)] ((w'.drew.setCell ⟨B,0,none⟩ (.int .u32 1)).setCell ⟨B,0+1,none⟩ (.int .i32 0)):=
   hr3.fin.mem.view (names:=[(0,66)]) rfl (fun m m' n h1 h2=>by
    cases m with
    |zero=>cases m' with|zero=>rfl|succ m'=>cases h2
    | succ m=>cases h1)
  have hcP:=hP _ (G2.view [(0,66)]) [.pointer (some ⟨g,0,none⟩),.string ⟨s.toArray⟩] hmP ⟨⟨g,n3,c3,o3,oC⟩,rfl,trivial⟩
  refine hcP.mono ?_;intro e w4 hpost;obtain⟨G4,v,he,hr4⟩:=qdd hr3 (t:=1) (names:=[(0,66)]) (hpv:=[(0,.row .byte tab 233)]) (hp:=[(0,.row .byte tab 233)]) rfl rfl (show 1<4 by decide) rfl rfl ⟨rfl,trivial⟩ hpost
  obtain⟨u,u1,u2⟩:=hr4.frame 1 _ rfl;have u3:u=v:=by
   have hs:=hr3.size;have hlt:1<a2.tmps.size:=by rw[hs];exact(show 1<4 by decide)
   simp only[Act.put]at u1;rw[Array.getElem?_setIfInBounds]at u1;simp[hlt]at u1;exact u1.symm
  subst u3;obtain⟨G5,k1,k2⟩:=qh3 hr4 (ids:=[(0,0),(1,1)]) (fun n bx h=>by
   match n,h with
   |0,h=>rfl|1,h=>rfl| n+2,h=>cases h) (v := .str out) (p := wS) (hp:=[(0,.cells [.h (.int .u32),.h (.int .i32),.h (.int .u32),.iel 234 2 1,.u] 160),(1,.dead),(2,.row .byte 233)]) (y:=(out,(((1:Int),((0:Int),(x2,((),((),()))))),((),(tab',()))))) (by rfl)
  exact⟨u,he,G5,k1.only hid,k2 u u2⟩
 ·rintro e w4 ⟨v,rfl,G4,k1,k2⟩
  exact⟨v,G4,rfl,k1,k2⟩
def zj2:(q7p.e (qbf fu)).Sound wG:=fun d d' r hr=>
 ⟨call74,zcn fu d.2.1 d'.1.1 d'.1.2.1 d'.1.2.2.1 d'.2.1 r hr⟩
def zco(s:Bs)(p0 p1 p2:Int)(tab:Bs)(r:Bs×Int×Int×Int×Bs)(hr:qbg fu s p0 p1 p2 tab=some r) :
  bu wG 74 [.ptr 0 0,.str s] [(0,.cells [.int .u32 p0,.int .i32 p1,.int .u32 p2,.iface 234 (.oel 1 1 0 0),.undef] 160),(1,.row .byte tab 233)] (.str r.1) [(0,.cells [.int .u32 r.2.1,.int .i32 r.2.2.1,.int .u32 r.2.2.2.1,.iface 234 (.oel 1 1 0 0),.undef] 160),(1,.row .byte r.2.2.2.2 233)]:=by
 unfold qbg at hr;cases hc : !decide (p0=0)<;>rw[hc]at hr<;>simp only[qT,qF,reduceCtorEq]at hr
 simp only[Bool.not_eq_true',decide_eq_false_iff_not]at hc;obtain⟨y,hy,hr⟩:=Option.bind_eq_some_iff.1 hr;obtain⟨out,tab'⟩:=y;simp only[qI]at hr;subst hr;have hP:bu wG 336 [.oel 0 1 0 0,.str s] [(0,.row .byte tab 233)] (.str out) [(0,.row .byte tab' 233)]:=
  (q07 fu ((),(s,())) (tab,()) (out,tab') hy).2
 intro w G vs hm hv
 let hp0:List (Nat×ag):=[(0,.cells [.int .u32 p0,.int .i32 p1,.int .u32 p2,.iface 234 (.oel 1 1 0 0),.undef] 160),(1,.row .byte tab 233)]
 show Calls _ _ _ _ (kp w G hp0 (.str out) [(0,.cells [.int .u32 p0,.int .i32 p1,.int .u32 p2,.iface 234 (.oel 1 1 0 0),.undef] 160),(1,.row .byte tab' 233)]);have hm:bp G hp0 w:=hm;have hv:aj [.ptr 0 0,.str s] G vs:=hv
 match vs,hv with
 |[v1,v2],hv=>
 obtain⟨⟨B,hGB,rfl⟩,rfl,_⟩:=hv;have hid:∀n b,ae hp0 n=some b->ap [(0,0),(1,1)] n=some n/\cw (ap [(0,0),(1,1)]) b=b:=by
  intro n b h
  match n,h with
  |0,h=>cases h;exact⟨rfl,rfl⟩
  |1,h=>cases h;exact⟨rfl,rfl⟩
  |n+2,h=>cases h
 have hr0:=ah.start (N:=[(0,0),(1,1)]) hm hid (fun n h=>by
  match n,h with
  |0,h=>cases h
  |1,h=>cases h
  | n+2,h=>rfl) 4
 have hGB0:(G.view [(0,0),(1,1)]).box 0=some B:=hGB;obtain⟨c0,e0,r0,_⟩:=hr0.cellAt (i:=0) rfl hGB0 rfl;have r0:c0 = .int .u32 p0:=r0;subst r0;obtain⟨d3,f3,q3,_⟩:=hr0.cellAt (i:=3) rfl hGB0 rfl;obtain⟨u3,rfl,g,n3,c3,o3,rfl⟩:=q3;have hmP:bp ((G.view [(0,0),(1,1)]).view [(0,1)]) [(0,.row .byte tab 233)] w:=
  hr0.fin.mem.view (names:=[(0,1)]) rfl (fun m m' n h1 h2=>by
   cases m with
   |zero=>cases m' with|zero=>rfl|succ m'=>cases h2
   | succ m=>cases h1)
 have hcP:=hP w ((G.view [(0,0),(1,1)]).view [(0,1)]) [.pointer (some ⟨g,0,none⟩),.string ⟨s.toArray⟩] hmP ⟨⟨g,n3,c3,o3,oC⟩,rfl,trivial⟩
 refine(Go.Proofs.YtboiflmddgacmabGreatDoor.Once.replace_done B g ⟨s.toArray⟩ w (fun v w'=>∃G4,Fin w G hp0 G4 [(0,.cells [.int .u32 p0,.int .i32 p1,.int .u32 p2,.iface 234 (.oel 1 1 0 0),.undef] 160),(1,.row .byte tab' 233)] w'/\ai (.str out) G4 v) p0 hc e0 (by simpa using f3) ?_).mono ?_
 ·refine hcP.mono ?_;intro e w4 hpost;obtain⟨G4,v,he,hr4⟩:=qdd hr0 (t:=1) (names:=[(0,1)]) (hpv:=[(0,.row .byte tab 233)]) (hp:=[(0,.row .byte tab 233)]) rfl rfl (show 1<4 by decide) rfl rfl ⟨rfl,trivial⟩ hpost
  obtain⟨u,u1,u2⟩:=hr4.frame 1 _ rfl;have u3:u=v:=by simpa [Act.put] using u1.symm
  subst u3;obtain⟨G5,k1,k2⟩:=qh3 hr4 (ids:=[(0,0),(1,1)]) (fun n bx h=>by
   match n,h with
   |0,h=>rfl|1,h=>rfl| n+2,h=>cases h) (v := .str out) (p := wS) (hp:=[(0,.cells [.h (.int .u32),.h (.int .i32),.h (.int .u32),.iel 234 1 1,.u] 160),(1,.row .byte 233)]) (y:=(out,((p0,(p1,(p2,((),((),()))))),(tab',())))) (by rfl)
  exact⟨u,he,G5,k1.only hid,k2 u u2⟩
 ·rintro e w4 ⟨v,rfl,G4,k1,k2⟩
  exact⟨v,G4,rfl,k1,k2⟩
def zj3:(q7q.e (qbg fu)).Sound wG:=fun d d' r hr=>
 ⟨call74,zco fu d.2.1 d'.1.1 d'.1.2.1 d'.1.2.2.1 d'.2.1 r hr⟩
def x46(fu:Nat):Fx wG ⟨.fn 57,[wS,.h .byte],[],_,RS.mk (wS) []⟩:=fx [] [lb 96 [(0,wS),(1,.h .byte)]]
def zty:Nat->(x46 fu).L 0:=Fx.lq (qpa fu) (q1b fu) (fun r0=>[r0.s])
def zbh:=(x46 fu).fi (qo9 fu) [(zty fu fu).s]
def x47(fu:Nat):Fx wG ⟨.fn 60,[wS,.el 0 1],[(0,.row .bool 93)],_,RS.mk (wS) [(0,.row .bool 93)]⟩:=fx [qvb.p] [lb 96 [(0,wS),(1,.el 0 1)] [(0,.row .bool 93)]]
def ztz:Nat->(x47 fu).L 0:=Fx.lq (qbq fu) (qo8 fu) (fun r0=>[r0.s])
def zbj:=(x47 fu).fi (qf2 fu) [(ztz fu fu).s]
def x48:Fx wG ⟨.fn 62,[wS,wS],[],_,RS.mk (wS) []⟩:=fx [⟨qct.e jl,qhk sf ra se q9⟩,(zba fu).p] [lb 96 [(0,wS),(1,wS)]]
def zt0:Nat->(x48 fu).L 0:=Fx.lq (qpc fu) (q1c fu) (fun r0=>[r0.s])
def zbl:=(x48 fu).fi (qpb fu) [(zt0 fu fu).s]
def x49:Fx wG ⟨.fn 28,[wS,wS],[],_,RS.mk (wS) []⟩:=fx [(za6 fu).p,(zbh fu).p,(x5s fu).p,(za8 fu).p,(zbj fu).p,(zbc fu).p,(zbl fu).p] [lb 60 [(0,wS),(1,wS)],lb 29 [(0,wS),(1,wS),(21,.h .bool)],lb 28 [(0,wS),(1,wS)],lb 13 [(0,wS),(1,wS),(12,.h .bool)]]
def zt4:(x49 fu).L 0:=Fx.jm (qoy fu)
def zt3:(x49 fu).L 1:=Fx.jm (qfy fu) [(zt4 fu).s]
def zt2:(x49 fu).L 2:=Fx.jm (qox fu) [(zt3 fu).s]
def zt1:(x49 fu).L 3:=Fx.jm (qfx fu) [(zt2 fu).s]
def zbm:=(x49 fu).fi (xi fu) [(zt1 fu).s]
def qm:Fx wG ⟨.fn 39,[.h wB],[],_,RS.mk (.tup [.own 0,wH,.h (.prod wI wI)]) [(0,.row wP 36)]⟩:=fx [d7.p,zs6.p,zw.p,za4.p,⟨q7p.e (qbf fu),zj2 fu⟩,(zbm fu).p,dx.p,(ztk fu).p,⟨q7q.e (qbg fu),zj3 fu⟩] [lb 8168 [(4,.ptr 32 0),(5,.own 33),(6,wH),(11,.ptr 34 0),(77,wH),(78,wH)] [(32,.dat (.prod wI wI) 24),(33,.row wP 36),(34,.cells [.h (.int .u32),.h (.int .i32),.h (.int .u32),.iel 234 35 1,.u] 160),(35,.row .byte 233)],lb 8168 [(4,.ptr 32 0),(5,.own 35),(6,wH),(11,.ptr 33 0),(77,wH),(78,.c (.int .i64 0))] [(32,.dat (.prod wI wI) 24),(33,.cells [.h (.int .u32),.h (.int .i32),.h (.int .u32),.c .nilIface,.own 34] 160),(34,.row .str 9),(35,.row wP 36)],lb 252 [(4,.ptr 32 0),(5,.own 33),(6,wH)] [(32,.dat (.prod wI wI) 24),(33,.row wP 36)],lb 15918 [(0,.h wB),(4,.ptr 32 0),(5,.own 33),(6,wH),(7,wS),(8,wH)] [(32,.dat (.prod wI wI) 24),(33,.row wP 36)],lb 15917 [(0,.h wB),(4,.ptr 32 0),(5,.own 33),(6,wH),(7,wS),(8,wH),(41,.h .bool)] [(32,.dat (.prod wI wI) 24),(33,.row wP 36)],lb 992 [(0,.h wB),(4,.ptr 32 0),(5,.own 33),(6,wH)] [(32,.dat (.prod wI wI) 24),(33,.row wP 36)]]
def zua:Nat->(qm fu).L 0:=Fx.lq (qmj fu) (qx5 fu) (fun r5=>[r5.s])
def zt8:Nat->(qm fu).L 1:=Fx.lq (qmi fu) (qx4 fu) (fun r3=>[(zua fu fu).s])
def zbn:(qm fu).L 2:=Fx.jm (qff fu) [(zt8 fu fu).s]
def zt9(r0:(qm fu).L 5):(qm fu).L 3:=Fx.jm (qx6 fu r0.f) [(zbn fu).s,r0.s]
def zt7(r0:(qm fu).L 5):(qm fu).L 4:=Fx.jm (qmh fu r0.f) [r0.s,(zt9 fu r0).s]
def zt6:Nat->(qm fu).L 5:=Fx.lq (qmg fu) (qx3 fu) (fun r0=>[(zbn fu).s,(zt7 fu r0).s])
def zbo:=(qm fu).fi (qmf fu) [(zt6 fu fu).s]
def x51(fu:Nat):Fx wG ⟨.fn 40,[.h wB],[],_,RS.mk (.own 0) [(0,.row .byte 5)]⟩:=fx [] [lb 14919 [(0,.h wB),(3,.own 32),(4,wH),(44,.h .bool)] [(32,.row .byte 5)],lb 3729 [(0,.h wB),(3,.own 32),(4,wH),(18,.h .bool)] [(32,.row .byte 5)],lb 464 [(0,.h wB),(3,.own 32),(4,wH)] [(32,.row .byte 5)]]
def zud(r0:(x51 fu).L 2):(x51 fu).L 0:=Fx.jm (qne fu r0.f) [r0.s]
def zuc(r0:(x51 fu).L 2):(x51 fu).L 1:=Fx.jm (qfk fu r0.f) [r0.s,(zud fu r0).s]
def zub:Nat->(x51 fu).L 2:=Fx.lq (qnd fu) (qzf fu) (fun r0=>[(zuc fu r0).s])
def zue:=(x51 fu).fi (qze fu) [(zub fu fu).s]
def zuf:EI wG ⟨.fn 12,[.h wB],[],_,RS.mk (.tup [.h (.prod wL wB),.h (.prod wI wI)]) []⟩:=(fx [(zbo fu).p,fp.p,(zue fu).p,(qv9 fu).p,dx.p]).fi (qzb fu)
def x53(fu:Nat):Fx wG ⟨.fn 68,[wS],[],_,RS.mk (wS) []⟩:=fx [] [lb 232 [(3,.own 32),(8,.own 32),(9,wH),(10,wH)] [(32,.row .byte 5)]]
def zug:Nat->(x53 fu).L 0:=Fx.lq (ox fu) (wv fu) (fun r0=>[r0.s])
def zbr:=(x53 fu).fi (qp fu) [(zug fu fu).s]
def ki:EI wG ⟨.fn 35,[wS,wS],[],_,RS.mk (.h .bool) []⟩:=(fx [(zbr fu).p]).fi (dj fu)
def x55:Fx wG ⟨.fn 268,[wS,wS],[],_,RS.mk (wS) []⟩:=fx [(zbh fu).p,(x5s fu).p,(zbj fu).p,(zbl fu).p] [lb 60 [(0,wS),(1,wS)],lb 29 [(0,wS),(1,wS),(21,.h .bool)],lb 28 [(0,wS),(1,wS)],lb 13 [(0,wS),(1,wS),(12,.h .bool)]]
def zuk:(x55 fu).L 0:=Fx.jm (q02 fu)
def zuj:(x55 fu).L 1:=Fx.jm (qot fu) [(zuk fu).s]
def zui:(x55 fu).L 2:=Fx.jm (q01 fu) [(zuj fu).s]
def zuh:(x55 fu).L 3:=Fx.jm (qos fu) [(zui fu).s]
def zul:=(x55 fu).fi (q00 fu) [(zuh fu).s]
def qeh:EI wG ⟨.fn 258,[.ptr 0 0],[(0,.cells [wS] 324)],_,RS.mk (.tup []) [(0,.cells [wS] 324)]⟩:=(fx [(zul fu).p]).fi (xc fu)
def qei:EI wG ⟨.fn 255,[.h .byte],[],_,RS.mk (.h .bool) []⟩:=(fx [x7s.p]).fi xd
def x58:Fx wG ⟨.fn 254,[.ptr 0 0,.fn 255 []],[(0,.cells [wS] 324)],_,RS.mk (wS) [(0,.cells [wS] 324)]⟩:=fx [(qeh fu).p,qei.p] [lb 482 [(0,.ptr 0 0),(1,.fn 255 []),(5,wH)] [(0,.cells [wS] 324)],lb 481 [(0,.ptr 0 0),(1,.fn 255 []),(5,wH),(25,.h .bool)] [(0,.cells [wS] 324)],lb 480 [(0,.ptr 0 0),(1,.fn 255 []),(5,wH)] [(0,.cells [wS] 324)]]
def zuo(r0:(x58 fu).L 2):(x58 fu).L 0:=Fx.jm (qy1 fu r0.f) [r0.s]
def zun(r0:(x58 fu).L 2):(x58 fu).L 1:=Fx.jm (qm7 fu r0.f) [(zuo fu r0).s]
def zum:Nat->(x58 fu).L 2:=Fx.lq (qm6 fu) (qy0 fu) (fun r0=>[(zun fu r0).s])
def zup:=(x58 fu).fi (qm5 fu) [(zum fu fu).s]
def qwk:EI wG ⟨.fn 256,[.ptr 0 0,.h .byte],[(0,.cells [wS] 324)],_,RS.mk (.h .bool) [(0,.cells [wS] 324)]⟩:=(fx [(qeh fu).p]).fi (qbc fu)
def zur:EI wG ⟨.fn 264,[.h .byte],[],_,RS.mk (.h .bool) []⟩:=(fx [qei.p]).fi qyz
def x61:Fx wG ⟨.fn 254,[.ptr 0 0,.fn 264 []],[(0,.cells [wS] 324)],_,RS.mk (wS) [(0,.cells [wS] 324)]⟩:=fx [(qeh fu).p,zur.p] [lb 482 [(0,.ptr 0 0),(1,.fn 264 []),(5,wH)] [(0,.cells [wS] 324)],lb 481 [(0,.ptr 0 0),(1,.fn 264 []),(5,wH),(25,.h .bool)] [(0,.cells [wS] 324)],lb 480 [(0,.ptr 0 0),(1,.fn 264 []),(5,wH)] [(0,.cells [wS] 324)]]
def zuu(r0:(x61 fu).L 2):(x61 fu).L 0:=Fx.jm (qy4 fu r0.f) [r0.s]
def zut(r0:(x61 fu).L 2):(x61 fu).L 1:=Fx.jm (qm9 fu r0.f) [(zuu fu r0).s]
def zus:Nat->(x61 fu).L 2:=Fx.lq (qm8 fu) (qy3 fu) (fun r0=>[(zut fu r0).s])
def zuv:=(x61 fu).fi (qy2 fu) [(zus fu fu).s]
def zuw:EI wG ⟨.fn 275,[.h .byte],[],_,RS.mk (.h .bool) []⟩:=(fx [qei.p]).fi qy9
def x63:Fx wG ⟨.fn 254,[.ptr 0 0,.fn 275 []],[(0,.cells [wS] 324)],_,RS.mk (wS) [(0,.cells [wS] 324)]⟩:=fx [(qeh fu).p,zuw.p] [lb 482 [(0,.ptr 0 0),(1,.fn 275 []),(5,wH)] [(0,.cells [wS] 324)],lb 481 [(0,.ptr 0 0),(1,.fn 275 []),(5,wH),(25,.h .bool)] [(0,.cells [wS] 324)],lb 480 [(0,.ptr 0 0),(1,.fn 275 []),(5,wH)] [(0,.cells [wS] 324)]]
def zuz(r0:(x63 fu).L 2):(x63 fu).L 0:=Fx.jm (qy7 fu r0.f) [r0.s]
def zuy(r0:(x63 fu).L 2):(x63 fu).L 1:=Fx.jm (qnb fu r0.f) [(zuz fu r0).s]
def zux:Nat->(x63 fu).L 2:=Fx.lq (qna fu) (qy6 fu) (fun r0=>[(zuy fu r0).s])
def zu0:=(x63 fu).fi (qy5 fu) [(zux fu fu).s]
def x64:Fx wG ⟨.fn 265,[.ptr 0 0],[(0,.cells [wS] 324)],_,RS.mk (.tup [wS,.h .bool]) [(0,.cells [wS] 324)]⟩:=fx [(qwk fu).p,(zu0 fu).p] [lb 976 [(0,.ptr 0 0),(4,.own 32),(5,wH)] [(0,.cells [wS] 324),(32,.row .byte 5)]]
def zu1:Nat->(x64 fu).L 0:=Fx.lq (qnc fu) (qza fu) (fun r0=>[r0.s])
def zu2:=(x64 fu).fi (qy8 fu) [(zu1 fu fu).s]
def qwm:EI wG ⟨.fn 81,[wS,wS],[],_,RS.mk (.h .bool) []⟩:=(fx).fi xa
def zu3:EI wG ⟨.fn 276,[wS,wS],[],_,RS.mk (.tup [wS,.h .bool]) []⟩:=(fx [qwm.p]).fi qya
def zu4:EI wG ⟨.fn 266,[wS,wS],[],_,RS.mk (.tup [wS,.h .bool]) []⟩:=(fx [zu3.p]).fi q0s
def qtt:LC.glob 3=some ⟨.int .u64,Lib.pow10Tab⟩:=rfl
def qtu:(3,20)∈LC.sizes:=oE
def zu5:EI wG ⟨.fn 257,[.ptr 0 0],[(0,.cells [wS] 324)],_,RS.mk (.tup [.h (.prod .str (.prod wI (.prod .bool .str))),.h .bool]) [(0,.cells [wS] 324)]⟩:=(fx [(zuv fu).p,(qwk fu).p,(zu2 fu).p,qwb.p,zu4.p,⟨q6u.e qaq,ziu qtt qtu oE oE⟩]).fi (qyy fu)
def zbt:EI wG ⟨.fn 269,[.h (.prod .str (.prod wI (.prod .bool .str))),.ptr 0 0],[(0,.dat (.prod .str (.prod wI (.prod .bool .str))) 328)],_,RS.mk (.h .bool) [(0,.dat (.prod .str (.prod wI (.prod .bool .str))) 328)]⟩:=(fx [(ki fu).p]).fi (qmw fu)
def x70:Fx wG ⟨.fn 278,[.h (.list (.prod .str (.prod wI (.prod .bool .str)))),.fn 269 [.ptr 0 0]],[(0,.dat (.prod .str (.prod wI (.prod .bool .str))) 328)],_,RS.mk (wH) [(0,.dat (.prod .str (.prod wI (.prod .bool .str))) 328)]⟩:=fx [(zbt fu).p] [lb 104 [(0,.h (.list (.prod .str (.prod wI (.prod .bool .str))))),(1,.fn 269 [.ptr 0 0]),(7,wH),(8,wH)] [(0,.dat (.prod .str (.prod wI (.prod .bool .str))) 328)]]
def zu7:Nat->(x70 fu).L 0:=Fx.lq (qoa fu) (q0p fu) (fun r0=>[r0.s])
def zu8:=(x70 fu).fi (q0o fu) [(zu7 fu fu).s]
def zu9:EI wG ⟨.fn 270,[.h (.list (.prod .str (.prod wI (.prod .bool .str)))),.fn 269 [.ptr 0 0]],[(0,.dat (.prod .str (.prod wI (.prod .bool .str))) 328)],_,RS.mk (.h .bool) [(0,.dat (.prod .str (.prod wI (.prod .bool .str))) 328)]⟩:=(fx [(zu8 fu).p]).fi (q0g fu)
def x73:Fx wG ⟨.fn 139,[.h .byte],[],_,RS.mk (.tup [.h .byte,.h .bool]) []⟩:=fx [] [lb 103 [(0,.h .byte),(13,.h .bool)],lb 25 [(0,.h .byte),(4,.h .bool)]]
def zvb:x73.L 0:=Fx.jm qk3
def zva:x73.L 1:=Fx.jm qk2 [(zvb).s]
def zvc:=x73.fi qk1 [(zva).s]
def qwp:EI wG ⟨.fn 99,[wS],[],_,RS.mk (.tup [.h .byte,.h .bool]) []⟩:=(fx [zvc.p]).fi oy
def x75:Fx wG ⟨.fn 281,[.h (.prod .str (.prod wI (.prod .bool .str)))],[],_,RS.mk (wS) []⟩:=fx [(ki fu).p,qwp.p] [lb 4048 [(3,wS),(4,.own 32),(5,wH)] [(32,.row .byte 5)],lb 62 [(3,wS)],lb 61 [(3,wS),(26,.h .bool)]]
def zvf:Nat->(x75 fu).L 0:=Fx.lq (qm2 fu) (qyv fu) (fun r2=>[r2.s])
def zve:(x75 fu).L 1:=Fx.jm (qm1 fu) [(zvf fu fu).s]
def zvd:(x75 fu).L 2:=Fx.jm (qfi fu) [(zve fu).s]
def zvg:=(x75 fu).fi (qyu fu) [(zvd fu).s]
def x76:Fx wG ⟨.fn 271,[.own 0],[(0,.row (.prod .str (.prod wI (.prod .bool .str))) 328)],_,RS.mk (.tup [.h wP,.h .bool]) [(0,.dead)]⟩:=fx [⟨q8v.e qbh,zkx⟩,(zvg fu).p,⟨q9b.e qbp,zlq sf ra se q9⟩] [lb 2024 [(2,.ptr 32 0),(4,.ptr 33 0),(28,.own 34),(29,wH),(30,wH)] [(0,.dead),(32,.dat wP 248),(33,.dat wP 248),(34,.row (.prod .str (.prod wI (.prod .bool .str))) 328)]] true
def zvh:Nat->(x76 fu).L 0:=Fx.lq (qmt fu) (qyj fu) (fun r0=>[r0.s])
def zvi:=(x76 fu).fi (qyi fu) [(zvh fu fu).s]
def wn:Fx wG ⟨.fn 259,[.h (.list (.prod .str (.prod wI (.prod .bool .str))))],[],_,RS.mk (.tup [.own 0,.h .bool]) [(0,.row wP 248)]⟩:=fx [(zu9 fu).p,(zbt fu).p,(zvi fu).p] [lb 3827623 [(0,.h (.list (.prod .str (.prod wI (.prod .bool .str))))),(4,.own 34),(6,.ptr 32 0),(7,.fn 269 [.ptr 32 0]),(8,.own 33),(13,.h (.list (.prod .str (.prod wI (.prod .bool .str))))),(14,wH),(15,wH),(26,.h (.list (.prod .str (.prod wI (.prod .bool .str))))),(27,wH),(28,wH)] [(32,.dat (.prod .str (.prod wI (.prod .bool .str))) 328),(33,.row (.prod .str (.prod wI (.prod .bool .str))) 328),(34,.row wP 248)],lb 956904 [(0,.h (.list (.prod .str (.prod wI (.prod .bool .str))))),(4,.own 33),(6,.ptr 32 0),(7,.fn 269 [.ptr 32 0]),(8,.own 34),(13,.h (.list (.prod .str (.prod wI (.prod .bool .str))))),(14,wH),(15,wH),(26,.h (.list (.prod .str (.prod wI (.prod .bool .str))))),(27,wH),(28,wH)] [(32,.dat (.prod .str (.prod wI (.prod .bool .str))) 328),(33,.row wP 248),(34,.row (.prod .str (.prod wI (.prod .bool .str))) 328)],lb 232 [(0,.h (.list (.prod .str (.prod wI (.prod .bool .str))))),(4,.own 32),(13,.h (.list (.prod .str (.prod wI (.prod .bool .str))))),(14,wH),(15,wH)] [(32,.row wP 248)]]
def zvl(r0:(wn fu).L 2)(r1:(wn fu).L 1):(wn fu).L 0:=Fx.jm (qmz fu r0.f r1.f) [r1.s]
def zvk(r0:(wn fu).L 2):Nat->(wn fu).L 1:=Fx.lq (qmy fu r0.f) (qyq fu r0.f) (fun r1=>[(zvl fu r0 r1).s,r0.s])
def zvj:Nat->(wn fu).L 2:=Fx.lq (qmx fu) (qyp fu) (fun r0=>[r0.s,(zvk fu r0 fu).s])
def zvm:=(wn fu).fi (qyo fu) [(zvj fu fu).s]
def x78:Fx wG ⟨.fn 231,[wS],[],_,.two (RS.mk (.tup [.agg [wS,wS,wN],.h .bool]) []) (RS.mk (.tup [.agg [wS,wS,.own 0],.h .bool]) [(0,.row wP 248)])⟩:=fx [(zup fu).p,(qwk fu).p,(zu5 fu).p,(qeh fu).p,(zvm fu).p] [lb 16352 [(2,.ptr 32 0),(4,.ptr 33 0),(5,.ptr 34 0),(7,.own 35)] [(32,.cells [wS,wS,wN] 244),(33,.cells [wS] 324),(34,.cells [wS,wS,wN] 244),(35,.row (.prod .str (.prod wI (.prod .bool .str))) 328)],lb 510 [(2,.ptr 32 0),(4,.ptr 33 0),(5,.ptr 34 0)] [(32,.cells [wS,wS,wN] 244),(33,.cells [wS] 324),(34,.cells [wS,wS,wN] 244)],lb 509 [(2,.ptr 32 0),(4,.ptr 33 0),(5,.ptr 34 0),(33,.h .bool)] [(32,.cells [wS,wS,wN] 244),(33,.cells [wS] 324),(34,.cells [wS,wS,wN] 244)]]
def zvp:Nat->(x78 fu).L 0:=Fx.lq (qm0 fu) (qys fu) (fun r2=>[r2.s])
def zvo:(x78 fu).L 1:=Fx.jm (qyt fu) [(zvp fu fu).s]
def zvn:(x78 fu).L 2:=Fx.jm (qfh fu) [(zvo fu).s]
def zvq:=(x78 fu).fi (qyr fu) [(zvn fu).s]
def x79(fu:Nat):Fx wG ⟨.fn 53,[wS,.fn 255 []],[],_,RS.mk (.h .bool) []⟩:=fx [qei.p] [lb 104 [(0,wS),(1,.fn 255 []),(7,wH),(8,wH)]]
def zvr:Nat->(x79 fu).L 0:=Fx.lq (qkw fu) (qw5 fu) (fun r0=>[r0.s])
def zvs:=(x79 fu).fi (qw4 fu) [(zvr fu fu).s]
def zbz:EI wG ⟨.fn 232,[wS],[],_,RS.mk (.h .bool) []⟩:=(fx [(zvs fu).p]).fi (qbd fu)
def zvt:EI wG ⟨.fn 234,[.h wP,.ptr 0 0],[(0,.dat wP 248)],_,RS.mk (.h .bool) [(0,.dat wP 248)]⟩:=(fx [(ki fu).p]).fi (qyf fu)
def x82:Fx wG ⟨.fn 207,[.h wL,.fn 234 [.ptr 0 0]],[(0,.dat wP 248)],_,RS.mk (wH) [(0,.dat wP 248)]⟩:=fx [(zvt fu).p] [lb 104 [(0,.h wL),(1,.fn 234 [.ptr 0 0]),(7,wH),(8,wH)] [(0,.dat wP 248)]]
def zvu:Nat->(x82 fu).L 0:=Fx.lq (qn7 fu) (q0m fu) (fun r0=>[r0.s])
def zvv:=(x82 fu).fi (q0l fu) [(zvu fu fu).s]
def zvw:EI wG ⟨.fn 233,[.h wL,.fn 234 [.ptr 0 0]],[(0,.dat wP 248)],_,RS.mk (.h .bool) [(0,.dat wP 248)]⟩:=(fx [(zvv fu).p]).fi (q0f fu)
def x84:Fx wG ⟨.fn 208,[.h (.prod .str (.prod .str wL))],[],_,RS.mk (.h (.prod wI wI)) []⟩:=fx [(zbz fu).p,d7.p,dx.p,(zvw fu).p,⟨qjt.e gy,quv sf ra se q9⟩] [lb 31333 [(1,.ptr 32 0),(2,.ptr 33 0),(3,wH),(4,.ptr 34 0),(22,.h wL),(23,wH),(24,wH),(29,.h .bool)] [(32,.dat (.prod .str (.prod .str wL)) 244),(33,.dat (.prod wI wI) 24),(34,.dat wP 248)],lb 488 [(1,.ptr 32 0),(2,.ptr 33 0),(22,.h wL),(23,wH),(24,wH)] [(32,.dat (.prod .str (.prod .str wL)) 244),(33,.dat (.prod wI wI) 24)],lb 28 [(1,.ptr 32 0),(2,.ptr 33 0)] [(32,.dat (.prod .str (.prod .str wL)) 244),(33,.dat (.prod wI wI) 24)],lb 13 [(1,.ptr 32 0),(2,.ptr 33 0),(14,.h .bool)] [(32,.dat (.prod .str (.prod .str wL)) 244),(33,.dat (.prod wI wI) 24)]]
def zv0(r2:(x84 fu).L 1):(x84 fu).L 0:=Fx.jm (qms fu r2.f) [r2.s]
def zvz:Nat->(x84 fu).L 1:=Fx.lq (qmr fu) (qyg fu) (fun r2=>[(zv0 fu r2).s])
def zvy:(x84 fu).L 2:=Fx.jm (qyh fu) [(zvz fu fu).s]
def zvx:(x84 fu).L 3:=Fx.jm (qmq fu) [(zvy fu).s]
def qwt:=(x84 fu).fi (qbb fu) [(zvx fu).s]
end
end
noncomputable section
open Go.Proofs
set_option linter.unusedVariables false
set_option maxRecDepth 100000
set_option maxHeartbeats 2000000
open Tryz
section
variable(fu:Nat)
def zv1:EI wG ⟨.fn 206,[wS],[],_,.two (RS.mk (.tup [.agg [wS,wS,wN],.agg [wH,wH]]) []) (RS.mk (.tup [.agg [wS,wS,.own 0],.agg [wH,wH]]) [(0,.row wP 248)])⟩:=(fx [d7.p,(zvq fu).p,(qwt fu).p,fp.p,dx.p]).fi (qyd fu)
def x86:Fx wG ⟨.fn 180,[.h wL],[],_,.two (RS.mk (.tup [.agg [wS,wS,wN],wH,.h .bool]) []) (RS.mk (.tup [.agg [wS,wS,.own 0],wH,.h .bool]) [(0,.row wP 248)])⟩:=fx [(ki fu).p,(zv1 fu).p,fp.p] [lb 935 [(0,.h wL),(2,.ptr 32 0),(5,wH),(10,.h wL),(11,wH),(12,wH)] [(32,.cells [wS,wS,wN] 244)],lb 232 [(0,.h wL),(2,.ptr 32 0),(5,wH),(10,.h wL),(11,wH),(12,wH)] [(32,.cells [wS,wS,wN] 244)]]
def zv3(r0:(x86 fu).L 1):(x86 fu).L 0:=Fx.jm (qnj fu r0.f) [r0.s]
def zv2:Nat->(x86 fu).L 1:=Fx.lq (qni fu) (qzm fu) (fun r0=>[(zv3 fu r0).s])
def qwu:=(x86 fu).fi (qfl fu) [(zv2 fu fu).s]
def x87:Fx wG ⟨.fn 202,[.h (.prod .str (.prod .str wL)),wS],[],_,RS.mk (.tup [wS,.h .bool,.h (.prod wI wI)]) []⟩:=fx [(qwt fu).p,fp.p,(ki fu).p,dx.p] [lb 232 [(1,wS),(6,.ptr 32 0),(16,.h wL),(17,wH),(18,wH)] [(32,.dat (.prod wI wI) 24)]]
def zv4:Nat->(x87 fu).L 0:=Fx.lq (qmo fu) (qyc fu) (fun r0=>[r0.s])
def zb2:=(x87 fu).fi (qmn fu) [(zv4 fu fu).s]
def zv5:EI wG ⟨.fn 203,[.h .byte],[],_,RS.mk (.h .bool) []⟩:=(fx).fi qzr
def x89(fu:Nat):Fx wG ⟨.fn 53,[wS,.fn 203 []],[],_,RS.mk (.h .bool) []⟩:=fx [zv5.p] [lb 104 [(0,wS),(1,.fn 203 []),(7,wH),(8,wH)]]
def zv6:Nat->(x89 fu).L 0:=Fx.lq (qkx fu) (qw7 fu) (fun r0=>[r0.s])
def zv7:=(x89 fu).fi (qw6 fu) [(zv6 fu fu).s]
def zb4:EI wG ⟨.fn 45,[wS,wS],[],_,RS.mk (.h .bool) []⟩:=(fx [qwm.p]).fi qbi
def x91:Fx wG ⟨.fn 178,[.h wL],[],_,RS.mk (.tup [wS,.h .bool]) []⟩:=fx [(qwu fu).p,(ki fu).p,(zb2 fu).p,(zv7 fu).p,zb4.p] [lb 30 [(4,.ptr 32 0)] [(32,.cells [wS,wS,.own 33] 244),(33,.row wP 248)],lb 29 [(4,.ptr 32 0),(24,.h .bool)] [(32,.cells [wS,wS,.own 33] 244),(33,.row wP 248)]]
def zwa:(x91 fu).L 0:=Fx.jm (qzs fu)
def zv9:(x91 fu).L 1:=Fx.jm (qbe fu) [(zwa fu).s]
def zwb:=(x91 fu).fi (qzq fu) [(zv9 fu).s]
def zwc:EI wG ⟨.fn 204,[.h wB],[],_,RS.mk (.fn 230 [.ptr 0 0]) [(0,.cells [.h wB] 32)]⟩:=(fx).fi qz2
def zwd:EI wG ⟨.fn 205,[wS,wS],[],_,RS.mk (wH) []⟩:=(fx [(zbe fu).p]).fi (qz1 fu)
def zwe:EI wG ⟨.yld 0,[wH,wS],[(0,.loop .ready none 179 51 [(2,.ptr 1 0),(3,.ptr 2 0),(4,.ptr 3 0),(5,.ptr 4 0),(6,.ptr 5 0)] [12,13] 0 6),(1,.cells [.h wB] 32),(2,.cells [wS] 9),(3,.cells [.own 7] 201),(4,.cells [.own 8] 201),(5,.cells [wH] 3),(6,.dfr),(7,.row wB 32),(8,.row wB 32)],_,.two (RS.mk (.c (.bool true)) [(0,.loop .ready none 179 51 [(2,.ptr 1 0),(3,.ptr 2 0),(4,.ptr 3 0),(5,.ptr 4 0),(6,.ptr 5 0)] [12,13] 0 6),(1,.cells [.h wB] 32),(2,.cells [wS] 9),(3,.cells [.own 9] 201),(4,.cells [.own 10] 201),(5,.cells [wH] 3),(6,.dfr),(7,.dead),(8,.dead),(9,.row wB 32),(10,.row wB 32)]) (RS.mk (.c (.bool false)) [(0,.loop .done (some .ret) 179 51 [(2,.ptr 1 0),(3,.ptr 2 0),(4,.ptr 3 0),(5,.ptr 4 0),(6,.ptr 5 0)] [12,13] 0 6),(1,.cells [.h wB] 32),(2,.cells [wS] 9),(3,.cells [.own 9] 201),(4,.cells [.own 9] 201),(5,.cells [wH] 3),(6,.dfr),(7,.dead),(8,.dead),(9,.row wB 32)])⟩:=(fy 179 [(zwd fu).p] [] false [([0,1,0,1,1,1],0)] (ge rfl fk)).fo (qnl fu) [] 0 [0,1,0,1,1,1]
def x95:Fx wG ⟨.fn 230,[.yld 0,.ptr 1 0],[(0,.loop .ready none 179 51 [(2,.ptr 2 0),(3,.ptr 3 0),(4,.ptr 4 0),(5,.ptr 5 0),(6,.ptr 6 0)] [12,13] 0 7),(1,.cells [.h wB] 32),(2,.cells [.h wB] 32),(3,.cells [wS] 9),(4,.cells [.own 8] 201),(5,.cells [.own 9] 201),(6,.cells [wH] 3),(7,.dfr),(8,.row wB 32),(9,.row wB 32)],_,.two (RS.mk (.tup []) [(0,.loop .done (some .ret) 179 51 [(2,.ptr 2 0),(3,.ptr 3 0),(4,.ptr 4 0),(5,.ptr 5 0),(6,.ptr 6 0)] [12,13] 0 7),(1,.cells [.h wB] 32),(2,.cells [.h wB] 32),(3,.cells [wS] 9),(4,.cells [.own 10] 201),(5,.cells [.own 10] 201),(6,.cells [wH] 3),(7,.dfr),(8,.dead),(9,.dead),(10,.row wB 32)]) (RS.mk (.tup []) [(0,.loop .ready none 179 51 [(2,.ptr 2 0),(3,.ptr 3 0),(4,.ptr 4 0),(5,.ptr 5 0),(6,.ptr 6 0)] [12,13] 0 7),(1,.cells [.h wB] 32),(2,.cells [.h wB] 32),(3,.cells [wS] 9),(4,.cells [.own 10] 201),(5,.cells [.own 11] 201),(6,.cells [wH] 3),(7,.dfr),(8,.dead),(9,.dead),(10,.row wB 32),(11,.row wB 32)])⟩:=fx [⟨qrd.e ua,q23 oE⟩,(zwe fu).p] [lb 48 [(0,.yld 0),(1,.ptr 1 0),(3,wH)] [(0,.loop .ready none 179 51 [(2,.ptr 2 0),(3,.ptr 3 0),(4,.ptr 4 0),(5,.ptr 5 0),(6,.ptr 6 0)] [12,13] 0 7),(1,.cells [.h wB] 32),(2,.cells [.h wB] 32),(3,.cells [wS] 9),(4,.cells [.own 32] 201),(5,.cells [.own 33] 201),(6,.cells [wH] 3),(7,.dfr),(8,.dead),(9,.dead),(32,.row wB 32),(33,.row wB 32)]]
def zwf:Nat->(x95 fu).L 0:=Fx.lq (qnv fu) (qz4 fu) (fun r0=>[r0.s])
def zwg:=(x95 fu).fi (qz3 fu) [(zwf fu fu).s]
def zwh:EI wG ⟨.fn 179,[.h wB,wS],[],_,RS.mk (.own 0) [(0,.row wB 32)]⟩:=(fx [zwc.p,(zwg fu).p] [] false [([0,1,0,1,1,1],0)] (ge rfl fk)).fi (qzu fu)
def qwy:EI wG ⟨.fn 148,[.h wL,.h wB,wH],[],_,RS.mk (.own 0) [(0,.row wB 32)]⟩:=(fx [(zwb fu).p,(zwh fu).p]).fi (qfo fu)
def qwz:EI wG ⟨.fn 182,[.h wP],[],_,RS.mk (.h .bool) []⟩:=(fx [(ki fu).p]).fi (qfm fu)
def x99:Fx wG ⟨.fn 207,[.h wL,.fn 182 []],[],_,RS.mk (wH) []⟩:=fx [(qwz fu).p] [lb 104 [(0,.h wL),(1,.fn 182 []),(7,wH),(8,wH)]]
def zwi:Nat->(x99 fu).L 0:=Fx.lq (qn9 fu) (q0n fu) (fun r0=>[r0.s])
def zb7:=(x99 fu).fi (qn8 fu) [(zwi fu fu).s]
def q9u:Fx wG ⟨.fn 181,[.h wL,.fn 182 []],[],_,RS.mk (.h wL) []⟩:=fx [(zb7 fu).p,(qwz fu).p] [lb 976 [(0,.h wL),(1,.fn 182 []),(5,wH),(6,wH)]] true
def zmk:Nat->(q9u fu).L 0:=Fx.lq (qn5 fu) (q0i fu) (fun r0=>[r0.s])
def zml:=(q9u fu).fi (q0h fu) [(zmk fu fu).s]
def zmm:EI wG ⟨.fn 235,[.h .byte],[],_,RS.mk (.h .bool) []⟩:=(fx).fi qyl
def q9v(fu:Nat):Fx wG ⟨.fn 53,[wS,.fn 235 []],[],_,RS.mk (.h .bool) []⟩:=fx [zmm.p] [lb 104 [(0,wS),(1,.fn 235 []),(7,wH),(8,wH)]]
def zmn:Nat->(q9v fu).L 0:=Fx.lq (qky fu) (qw9 fu) (fun r0=>[r0.s])
def zmo:=(q9v fu).fi (qw8 fu) [(zmn fu fu).s]
def q9w:EI wG ⟨.fn 89,[.h .byte],[],_,RS.mk (.h .byte) []⟩:=(fx).fi ow
def qjz(fu:Nat):Fx wG ⟨.fn 236,[wS],[],_,RS.mk (.own 0) [(0,.row .str 9)]⟩:=fx [qei.p,q9w.p] [lb 29902 [(0,wS),(3,.own 32),(5,wS),(9,wH),(10,wH)] [(32,.row .str 9)],lb 232 [(0,wS),(3,.own 32),(9,wH),(10,wH)] [(32,.row .str 9)]]
def zmq(r0:(qjz fu).L 1):(qjz fu).L 0:=Fx.jm (qm4 fu r0.f) [r0.s]
def zmp:Nat->(qjz fu).L 1:=Fx.lq (qm3 fu) (qyx fu) (fun r0=>[(zmq fu r0).s])
def zmr:=(qjz fu).fi (qyw fu) [(zmp fu fu).s]
def qj0:Fx wG ⟨.fn 209,[.h wP],[],_,RS.mk (wS) []⟩:=fx [(zbz fu).p,(zmo fu).p,za4.p,⟨q7r.e xe,zj1⟩,(zmr fu).p,⟨qs1.e o5,q5u qtt qtu⟩] [lb 1000 [(1,.ptr 32 0),(3,wS),(38,.own 33),(39,wH),(40,wH)] [(32,.dat wP 248),(33,.row .str 9)],lb 30 [(1,.ptr 32 0)] [(32,.dat wP 248)],lb 29 [(1,.ptr 32 0),(24,.h .bool)] [(32,.dat wP 248)]]
def zmu:Nat->(qj0 fu).L 0:=Fx.lq (qmv fu) (qym fu) (fun r2=>[r2.s])
def zmt:(qj0 fu).L 1:=Fx.jm (qyn fu) [(zmu fu fu).s]
def zms:(qj0 fu).L 2:=Fx.jm (qmu fu) [(zmt fu).s]
def zmv:=(qj0 fu).fi (qyk fu) [(zms fu).s]
def q9x:Fx wG ⟨.fn 183,[.h (.prod .str (.prod .str wL))],[],_,RS.mk (.tup [wS,.h (.prod wI wI)]) []⟩:=fx [(qwt fu).p,fp.p,(zmv fu).p,d7.p,dx.p] [lb 488 [(3,.ptr 32 0),(5,wS),(20,.h wL),(21,wH),(22,wH)] [(32,.dat (.prod wI wI) 24)]]
def zmw:Nat->(q9x fu).L 0:=Fx.lq (qmp fu) (qye fu) (fun r0=>[r0.s])
def q9y:=(q9x fu).fi (qfg fu) [(zmw fu fu).s]
def q9z:Fx wG ⟨.fn 181,[.own 0,.fn 182 []],[(0,.row wP 248)],_,RS.mk (.own 1) [(0,.dead),(1,.row wP 248)]⟩:=fx [(zb7 fu).p,(qwz fu).p] [lb 976 [(0,.own 32),(1,.fn 182 []),(5,wH),(6,wH)] [(0,.dead),(32,.row wP 248)]] true
def zmx:Nat->(q9z fu).L 0:=Fx.lq (qn6 fu) (q0k fu) (fun r0=>[r0.s])
def zmy:=(q9z fu).fi (q0j fu) [(zmx fu fu).s]
def q90:EI wG ⟨.fn 149,[.h wL],[],_,RS.mk (.tup [.own 0,.h .bool]) [(0,.row wP 36)]⟩:=(fx [(qwu fu).p,(zml fu).p,(q9y fu).p,fp.p,⟨qhe.e jj,qrp⟩,(zmy fu).p]).fi (qnk fu)
def tn:IF:=⟨.fn 150,[.ptr 0 0,.h wB,wH],[(0,.dat (.prod wI (.prod wI wI)) 164)],_,RS.mk (.tup [.h wT,.h .bool]) [(0,.dat (.prod wI (.prod wI wI)) 164)]⟩
def q91(s116:EI wG tn)(fu:Nat):Fx wG ⟨.fn 109,[.ptr 0 0,.own 1,.h wB,wH],[(0,.dat (.prod wI (.prod wI wI)) 164),(1,.row wP 36)],_,RS.mk (.tup [.h wT,.h .bool]) [(0,.dat (.prod wI (.prod wI wI)) 164),(1,.dead)]⟩:=fx [⟨qhe.e jj,qrp⟩,⟨qrq.e jj,q3v⟩,(qwy fu).p,(q90 fu).p,s116.p] [lb 16360 [(0,.ptr 0 0),(3,wH),(8,.ptr 32 0),(10,.ptr 33 0),(48,.own 34),(49,wH),(50,wH)] [(0,.dat (.prod wI (.prod wI wI)) 164),(1,.dead),(32,.cells [wN,wN,wN] 112),(33,.cells [.own 35,wN,.own 36] 112),(34,.row wB 32),(35,.row wP 36),(36,.row wT 112)]]
def zmz(s116:EI wG tn)(fu:Nat):Nat->(q91 s116 fu).L 0:=Fx.lq (qnx s116.f fu) (qz8 s116.f fu) (fun r0=>[r0.s])
def zm0(s116:EI wG tn)(fu:Nat):=(q91 s116 fu).fi (qz7 s116.f fu) [(zmz s116 fu fu).s]
def zm1(s116:EI wG tn)(fu:Nat):Fx wG tn:=fx [(zbo fu).p,fp.p,d7.p,(zm0 s116 fu).p]
def zm2(s116:EI wG tn)(fu:Nat):EI wG tn:=(zm1 s116 fu).fi (qny s116.f fu)
def zm3:EI wG tn := .rc (qnz fu) (fun r=>qny r fu) (fun _ _=>rfl) (fun _=>rfl) (fun s116=>zm2 s116 fu) (fun _=>rfl) fu
def q92:Fx wG ⟨.fn 109,[.ptr 0 0,.h wL,.h wB,wH],[(0,.dat (.prod wI (.prod wI wI)) 164)],_,RS.mk (.tup [.h wT,.h .bool]) [(0,.dat (.prod wI (.prod wI wI)) 164)]⟩:=fx [⟨qhe.e jj,qrp⟩,⟨qrq.e jj,q3v⟩,(qwy fu).p,(q90 fu).p,(zm3 fu).p] [lb 16360 [(0,.ptr 0 0),(3,wH),(8,.ptr 32 0),(10,.ptr 33 0),(48,.own 34),(49,wH),(50,wH)] [(0,.dat (.prod wI (.prod wI wI)) 164),(32,.cells [wN,wN,wN] 112),(33,.cells [.own 35,wN,.own 36] 112),(34,.row wB 32),(35,.row wP 36),(36,.row wT 112)]]
def zm4:Nat->(q92 fu).L 0:=Fx.lq (qnw fu) (qz6 fu) (fun r0=>[r0.s])
def zm5:=(q92 fu).fi (qz5 fu) [(zm4 fu fu).s]
def q93:EI wG ⟨.fn 112,[.h wT],[],_,RS.mk (.fn 152 [.ptr 0 0]) [(0,.dat wT 112)]⟩:=(fx).fi qfn
def zm6:EI wG ⟨.yld 0,[wH,.agg [.h wL,.h wB,.h (.list wT),wH]],[(0,.loop .ready none 110 36 [(2,.ptr 1 0),(3,.ptr 2 0)] [11,12] 1 3),(1,.dat (.prod wI wI) 24),(2,.cells [.h .bool] 4),(3,.dfr)],_,.two (RS.mk (.c (.bool false)) [(0,.loop .done (some .ret) 110 36 [(2,.ptr 1 0),(3,.ptr 2 0)] [11,12] 1 3),(1,.dat (.prod wI wI) 24),(2,.cells [.h .bool] 4),(3,.dfr)]) (RS.mk (.c (.bool true)) [(0,.loop .ready none 110 36 [(2,.ptr 1 0),(3,.ptr 2 0)] [11,12] 1 3),(1,.dat (.prod wI wI) 24),(2,.cells [.h .bool] 4),(3,.dfr)])⟩:=(fy 110 [d7.p] [] false [([0,1,0,1,1],1)] (ge rfl fk)).fo qzo [] 0 [0,1,0,1,1]
def zo:IF:=⟨.fn 153,[.h wT,wH,.ptr 0 0,.ptr 1 0,.ptr 2 0],[(0,.cells [.yld 3] 207),(1,.cells [wH] 3),(2,.cells [.fn 153 [.ptr 0 0,.ptr 1 0,.ptr 2 0]] 208),(3,.loop .ready none 110 36 [(2,.ptr 4 0),(3,.ptr 5 0)] [11,12] 1 6),(4,.dat (.prod wI wI) 24),(5,.cells [.h .bool] 4),(6,.dfr)],_,.two (RS.mk (.c (.bool false)) [(0,.cells [.yld 3] 207),(1,.cells [wH] 3),(2,.cells [.fn 153 [.ptr 0 0,.ptr 1 0,.ptr 2 0]] 208),(3,.loop .done (some .ret) 110 36 [(2,.ptr 4 0),(3,.ptr 5 0)] [11,12] 1 6),(4,.dat (.prod wI wI) 24),(5,.cells [.h .bool] 4),(6,.dfr)]) (RS.mk (.c (.bool true)) [(0,.cells [.yld 3] 207),(1,.cells [wH] 3),(2,.cells [.fn 153 [.ptr 0 0,.ptr 1 0,.ptr 2 0]] 208),(3,.loop .ready none 110 36 [(2,.ptr 4 0),(3,.ptr 5 0)] [11,12] 1 6),(4,.dat (.prod wI wI) 24),(5,.cells [.h .bool] 4),(6,.dfr)])⟩
def q94(s121:EI wG zo)(fu:Nat):Fx wG zo:=fx [zm6.p,s121.p] [lb 488 [(1,wH),(4,.ptr 2 0),(20,.h (.list wT)),(21,wH),(22,wH)] [(0,.cells [.yld 3] 207),(1,.cells [wH] 3),(2,.cells [.fn 153 [.ptr 0 0,.ptr 1 0,.ptr 2 0]] 208),(3,.loop .ready none 110 36 [(2,.ptr 4 0),(3,.ptr 5 0)] [11,12] 1 6),(4,.dat (.prod wI wI) 24),(5,.cells [.h .bool] 4),(6,.dfr)]]
def zm8(s121:EI wG zo)(fu:Nat):Nat->(q94 s121 fu).L 0:=Fx.lq (qno s121.f fu) (qzw s121.f fu) (fun r0=>[r0.s])
def zm7(s121:EI wG zo)(fu:Nat):EI wG zo:=(q94 s121 fu).fi (qnm s121.f fu) [(zm8 s121 fu fu).s]
def zm9:EI wG zo := .rc (qnn fu) (fun r=>qnm r fu) (fun _ _=>rfl) (fun _=>rfl) (fun s121=>zm7 s121 fu) (fun _=>rfl) fu
def zna:EI wG ⟨.fn 152,[.yld 0,.ptr 1 0],[(0,.loop .ready none 110 36 [(2,.ptr 2 0),(3,.ptr 3 0)] [11,12] 1 4),(1,.dat wT 112),(2,.dat (.prod wI wI) 24),(3,.cells [.h .bool] 4),(4,.dfr)],_,.two (RS.mk (.tup []) [(0,.loop .done (some .ret) 110 36 [(2,.ptr 2 0),(3,.ptr 3 0)] [11,12] 1 4),(1,.dat wT 112),(2,.dat (.prod wI wI) 24),(3,.cells [.h .bool] 4),(4,.dfr)]) (RS.mk (.tup []) [(0,.loop .ready none 110 36 [(2,.ptr 2 0),(3,.ptr 3 0)] [11,12] 1 4),(1,.dat wT 112),(2,.dat (.prod wI wI) 24),(3,.cells [.h .bool] 4),(4,.dfr)])⟩:=(fx [(zm9 fu).p]).fi (qzv fu)
def qve:Fx wG ⟨.fn 184,[.h wT],[],_,RS.mk (wH) []⟩:=fx [(qwu fu).p,(ki fu).p,(zb2 fu).p,(q9y fu).p,fp.p] [lb 30 [(1,.ptr 32 0),(3,.ptr 33 0),(4,wH)] [(32,.dat wT 112),(33,.cells [wS,wS,.own 34] 244),(34,.row wP 248)],lb 29 [(1,.ptr 32 0),(3,.ptr 33 0),(4,wH),(31,.h .bool)] [(32,.dat wT 112),(33,.cells [wS,wS,.own 34] 244),(34,.row wP 248)]]
def znc:(qve fu).L 0:=Fx.jm (q0a fu)
def znb:(qve fu).L 1:=Fx.jm (uf fu) [(znc fu).s]
def znd:=(qve fu).fi (qz9 fu) [(znb fu).s]
def zne:EI wG ⟨.fn 151,[.h (.prod wT wI)],[],_,RS.mk (wH) []⟩:=(fx [(qv5 fu).p,fp.p,(znd fu).p,(za0 fu).p,(qwy fu).p]).fi (qzt fu)
def znf:EI wG ⟨.yld 0,[wH,.agg [.h wL,.h wB,.h (.list wT),wH]],[(0,.loop .ready none 110 36 [(2,.ptr 1 0)] [26,27] 2 2),(1,.dat (.prod wI wI) 24),(2,.dfr)],_,.two (RS.mk (.c (.bool false)) [(0,.loop .done (some .ret) 110 36 [(2,.ptr 1 0)] [26,27] 2 2),(1,.dat (.prod wI wI) 24),(2,.dfr)]) (RS.mk (.c (.bool true)) [(0,.loop .ready none 110 36 [(2,.ptr 1 0)] [26,27] 2 2),(1,.dat (.prod wI wI) 24),(2,.dfr)])⟩:=(fy 110 [(zne fu).p,d7.p] [] false [([0,1,0,1,1,1,1],2)] (ge rfl fk)).fo (qzp fu) [] 0 [0,1,0,1,1,1,1]
def zp:IF:=⟨.fn 153,[.h wT,wH,.ptr 0 0,.ptr 1 0,.ptr 2 0],[(0,.cells [.yld 3] 207),(1,.cells [wH] 3),(2,.cells [.fn 153 [.ptr 0 0,.ptr 1 0,.ptr 2 0]] 208),(3,.loop .ready none 110 36 [(2,.ptr 4 0)] [26,27] 2 5),(4,.dat (.prod wI wI) 24),(5,.dfr)],_,.two (RS.mk (.c (.bool false)) [(0,.cells [.yld 3] 207),(1,.cells [wH] 3),(2,.cells [.fn 153 [.ptr 0 0,.ptr 1 0,.ptr 2 0]] 208),(3,.loop .done (some .ret) 110 36 [(2,.ptr 4 0)] [26,27] 2 5),(4,.dat (.prod wI wI) 24),(5,.dfr)]) (RS.mk (.c (.bool true)) [(0,.cells [.yld 3] 207),(1,.cells [wH] 3),(2,.cells [.fn 153 [.ptr 0 0,.ptr 1 0,.ptr 2 0]] 208),(3,.loop .ready none 110 36 [(2,.ptr 4 0)] [26,27] 2 5),(4,.dat (.prod wI wI) 24),(5,.dfr)])⟩
def q95(s124:EI wG zp)(fu:Nat):Fx wG zp:=fx [(znf fu).p,s124.p] [lb 488 [(1,wH),(4,.ptr 2 0),(20,.h (.list wT)),(21,wH),(22,wH)] [(0,.cells [.yld 3] 207),(1,.cells [wH] 3),(2,.cells [.fn 153 [.ptr 0 0,.ptr 1 0,.ptr 2 0]] 208),(3,.loop .ready none 110 36 [(2,.ptr 4 0)] [26,27] 2 5),(4,.dat (.prod wI wI) 24),(5,.dfr)]]
def znh(s124:EI wG zp)(fu:Nat):Nat->(q95 s124 fu).L 0:=Fx.lq (qnr s124.f fu) (qzx s124.f fu) (fun r0=>[r0.s])
def zng(s124:EI wG zp)(fu:Nat):EI wG zp:=(q95 s124 fu).fi (qnp s124.f fu) [(znh s124 fu fu).s]
def zni:EI wG zp := .rc (qnq fu) (fun r=>qnp r fu) (fun _ _=>rfl) (fun _=>rfl) (fun s124=>zng s124 fu) (fun _=>rfl) fu
def zno:EI wG ⟨.fn 152,[.yld 0,.ptr 1 0],[(0,.loop .ready none 110 36 [(2,.ptr 2 0)] [26,27] 2 3),(1,.dat wT 112),(2,.dat (.prod wI wI) 24),(3,.dfr)],_,.two (RS.mk (.tup []) [(0,.loop .done (some .ret) 110 36 [(2,.ptr 2 0)] [26,27] 2 3),(1,.dat wT 112),(2,.dat (.prod wI wI) 24),(3,.dfr)]) (RS.mk (.tup []) [(0,.loop .ready none 110 36 [(2,.ptr 2 0)] [26,27] 2 3),(1,.dat wT 112),(2,.dat (.prod wI wI) 24),(3,.dfr)])⟩:=(fx [(zni fu).p]).fi (qzz fu)
def znp:EI wG ⟨.fn 110,[.h wT],[],_,RS.mk (.h (.prod wI wI)) []⟩:=(fx [q93.p,(zna fu).p,d7.p,(zno fu).p,dx.p] [] false [([0,1,0,1,1],1),([0,1,0,1,1,1,1],2)] (ge rfl (ge rfl fk))).fi (qzn fu)
def znq:EI wG ⟨.fn 75,[.h (.prod wL wB)],[],_,RS.mk (.tup [.h wT,.h (.prod wI wI)]) []⟩:=(fx [(qv9 fu).p,fp.p,(zm5 fu).p,(znp fu).p,d7.p,dx.p]).fi (qzl fu)
def znr:EI wG ⟨.fn 76,[.h wT],[],_,RS.mk (.fn 111 [.ptr 0 0]) [(0,.dat wT 112)]⟩:=(fx).fi qzi
def zns:EI wG ⟨.fn 213,[wS,.h .byte],[],_,RS.mk (.agg [wS,.fn 238 [.ptr 0 0],.fn 240 []]) [(0,.cells [.h .byte] 5)]⟩:=(fx).fi qpj
def znt:EI wG ⟨.fn 190,[wS],[],_,.two (RS.mk (.tup [.agg [wS,.fn 238 [.ptr 0 0],.fn 240 []],.h .bool]) [(0,.cells [.h .byte] 5)]) (.two (RS.mk (.tup [.agg [wS,.fn 85 [],.fn 98 []],.h .bool]) []) (.two (RS.mk (.tup [.agg [wS,.fn 214 [],.fn 215 []],.h .bool]) []) (RS.mk (.tup [.agg [wS,.c .nilFunc,.c .nilFunc],.h .bool]) [])))⟩:=(fx [zns.p,(ki fu).p]).fi (q1g fu)
def znu:EI wG ⟨.fn 157,[.h wB,wS],[],_,.two (RS.mk (.tup [.agg [wS,.fn 238 [.ptr 0 0],.fn 240 []],.h (.prod wI wI)]) [(0,.cells [.h .byte] 5)]) (.two (RS.mk (.tup [.agg [wS,.fn 85 [],.fn 98 []],.h (.prod wI wI)]) []) (.two (RS.mk (.tup [.agg [wS,.fn 214 [],.fn 215 []],.h (.prod wI wI)]) []) (RS.mk (.tup [.agg [wS,.c .nilFunc,.c .nilFunc],.h (.prod wI wI)]) [])))⟩:=(fx [(znt fu).p,d7.p,dx.p]).fi (q1h fu)
def znv:EI wG ⟨.fn 240,[.h wB],[],_,RS.mk (.tup [.own 0,.h (.prod wI wI)]) [(0,.row .byte 5)]⟩:=(fx [dx.p]).fi q1f
def q96(fu:Nat):Fx wG ⟨.fn 98,[.h wB],[],_,RS.mk (.tup [.own 0,.h (.prod wI wI)]) [(0,.row .byte 5)]⟩:=fx [d7.p,dx.p,qwa.p] [lb 1000 [(3,.ptr 32 0),(4,.own 33),(5,wH),(6,wH),(14,.h wB),(15,wH),(16,wH)] [(32,.dat (.prod wI wI) 24),(33,.row .byte 5)]]
def znw:Nat->(q96 fu).L 0:=Fx.lq (t8 fu) (qeq fu) (fun r0=>[r0.s])
def q97:=(q96 fu).fi (qao fu) [(znw fu fu).s]
def q98(fu:Nat):Fx wG ⟨.fn 260,[.h wB,.h .byte],[],_,RS.mk (.h wB) []⟩:=fx [] [lb 96 [(0,.h wB),(1,.h .byte)]]
def znx:Nat->(q98 fu).L 0:=Fx.lq (qlh fu) (qxr fu) (fun r0=>[r0.s])
def zny:=(q98 fu).fi (qxq fu) [(znx fu fu).s]
def q99(fu:Nat):Fx wG ⟨.fn 261,[wS],[],_,RS.mk (.tup [.arr .bool,.h .bool]) []⟩:=fx [] [lb 208 [(0,wS),(2,.el 32 1),(4,wH)] [(32,.row .bool 334)]]
def zn0:Nat->(q99 fu).L 0:=Fx.lq (qld fu) (qxj fu) (fun r0=>[r0.s])
def zn1:=(q99 fu).fi (qxi fu) [(zn0 fu fu).s]
def zn2:EI wG ⟨.fn 272,[.el 0 1,.h .byte],[(0,.row .bool 334)],_,RS.mk (.h .bool) [(0,.row .bool 334)]⟩:=(fx).fi qxg
def zaa(fu:Nat):Fx wG ⟨.fn 262,[.h wB,.el 0 1],[(0,.row .bool 334)],_,RS.mk (.h wB) [(0,.row .bool 334)]⟩:=fx [zn2.p] [lb 96 [(0,.h wB),(1,.el 0 1)] [(0,.row .bool 334)]]
def zn3:Nat->(zaa fu).L 0:=Fx.lq (qlg fu) (qxp fu) (fun r0=>[r0.s])
def zn4:=(zaa fu).fi (qxo fu) [(zn3 fu fu).s]
def wh:Fx wG ⟨.fn 210,[.h wB],[],_,RS.mk (.tup [.h (.int .i32),wH]) []⟩:=fx [] [lb 524286 [(5,.h .byte),(10,.h .byte),(11,.h .byte),(12,.h .byte)],lb 524285 [(5,.h .byte),(10,.h .byte),(11,.h .byte),(12,.h .byte),(103,.h .bool)],lb 131068 [(0,.h wB),(5,.h .byte),(8,wH),(10,.h .byte),(11,.h .byte)],lb 65533 [(0,.h wB),(5,.h .byte),(8,wH),(10,.h .byte),(11,.h .byte),(79,.h .bool)],lb 16380 [(0,.h wB),(5,.h .byte),(8,wH),(10,.h .byte)],lb 8189 [(0,.h wB),(5,.h .byte),(8,wH),(10,.h .byte),(60,.h .bool)]]
def zoa:wh.L 0:=Fx.jm q1q
def zn9:wh.L 1:=Fx.jm qpz [(zoa).s]
def zn8:wh.L 2:=Fx.jm q1p [(zn9).s]
def zn7:wh.L 3:=Fx.jm qpy [(zn8).s]
def zn6:wh.L 4:=Fx.jm q1o [(zn7).s]
def zn5:wh.L 5:=Fx.jm qpx [(zn6).s]
def zob:=wh.fi qpw [(zn5).s]
def zab(fu:Nat):Fx wG ⟨.fn 186,[.h wB],[],_,RS.mk (.tup [.h (.int .i32),wH]) []⟩:=fx [zob.p] [lb 104 [(0,.h wB),(6,.h wB),(7,wH),(8,.c (.int .i64 0))]]
def zoc:Nat->(zab fu).L 0:=Fx.lq (qpr fu) (q1m fu) (fun r0=>[])
def zac:=(zab fu).fi (qpq fu) [(zoc fu fu).s]
def qj3:Fx wG ⟨.fn 273,[.h wB],[],_,RS.mk (.tup [.h (.int .i32),wH]) []⟩:=fx [za9.p,(zac fu).p] [lb 2046 [(0,.h wB),(4,wH),(5,wH)],lb 2044 [(0,.h wB),(4,wH),(5,wH)],lb 16336 [(0,.h wB),(4,wH),(5,wH),(6,wH)]]
def zof:(qj3 fu).L 0:=Fx.jm (qpp fu)
def zoe:(qj3 fu).L 1:=Fx.jm (qpo fu) [(zof fu).s]
def zod:Nat->(qj3 fu).L 2:=Fx.lq (qpn fu) (q1l fu) (fun r0=>[(zoe fu).s,r0.s])
def zog:=(qj3 fu).fi (q1i fu) [(zod fu fu).s]
def zad(fu:Nat):Fx wG ⟨.fn 274,[wS,.h (.int .i32)],[],_,RS.mk (.h .bool) []⟩:=fx [] [lb 104 [(1,.h (.int .i32)),(8,.ptr 32 0)] [(32,.it)]]
def zoh:Nat->(zad fu).L 0:=Fx.lq (qlc fu) (qxh fu) (fun r0=>[r0.s])
def zoi:=(zad fu).fi (qlb fu) [(zoh fu fu).s]
def zae:Fx wG ⟨.fn 263,[.h wB,wS],[],_,RS.mk (.h wB) []⟩:=fx [(zog fu).p,(zoi fu).p] [lb 96 [(0,.h wB),(1,wS)]]
def zoj:Nat->(zae fu).L 0:=Fx.lq (qli fu) (qxt fu) (fun r0=>[r0.s])
def zok:=(zae fu).fi (qxs fu) [(zoj fu fu).s]
def qd6:Fx wG ⟨.fn 243,[.h wB,wS],[],_,RS.mk (.h wB) []⟩:=fx [(zny fu).p,(zn1 fu).p,(zn4 fu).p,(zok fu).p] [lb 60 [(0,.h wB),(1,wS)],lb 29 [(0,.h wB),(1,wS),(22,.h .bool)],lb 28 [(0,.h wB),(1,wS)],lb 13 [(0,.h wB),(1,wS),(13,.h .bool)]]
def zoo:(qd6 fu).L 0:=Fx.jm (qxf fu)
def zon:(qd6 fu).L 1:=Fx.jm (qla fu) [(zoo fu).s]
def zom:(qd6 fu).L 2:=Fx.jm (qxe fu) [(zon fu).s]
def zol:(qd6 fu).L 3:=Fx.jm (qk9 fu) [(zom fu).s]
def zop:=(qd6 fu).fi (qxd fu) [(zol fu).s]
def zaf(fu:Nat):Fx wG ⟨.fn 244,[.h wB],[],_,RS.mk (.own 0) [(0,.row .byte 5)]⟩:=fx [qwp.p] [lb 464 [(0,.h wB),(3,.own 32),(4,wH)] [(32,.row .byte 5)]]
def zoq:Nat->(zaf fu).L 0:=Fx.lq (qn4 fu) (q0e fu) (fun r0=>[r0.s])
def zor:=(zaf fu).fi (q0d fu) [(zoq fu fu).s]
def tp:Fx wG ⟨.fn 215,[.h wB],[],_,RS.mk (.tup [.own 0,.h (.prod wI wI)]) [(0,.row .byte 5)]⟩:=fx [d7.p,qwa.p,dx.p,za3.p,(zop fu).p,za2.p,(zor fu).p] [lb 123646 [(0,.h wB),(3,.ptr 32 0),(4,.own 33),(5,wH),(6,.h wB),(7,.h wB)] [(32,.dat (.prod wI wI) 24),(33,.row .byte 5)],lb 15454 [(0,.h wB),(3,.ptr 32 0),(4,.own 33),(5,wH),(6,.h wB)] [(32,.dat (.prod wI wI) 24),(33,.row .byte 5)],lb 3862 [(0,.h wB),(3,.ptr 32 0),(4,.own 33),(5,wH)] [(32,.dat (.prod wI wI) 24),(33,.row .byte 5)],lb 480 [(0,.h wB),(3,.ptr 32 0),(4,.own 33)] [(32,.dat (.prod wI wI) 24),(33,.row .byte 5)]]
def zov(r0:(tp fu).L 3):(tp fu).L 0:=Fx.jm (qn3 fu r0.f) [r0.s]
def zou(r0:(tp fu).L 3):(tp fu).L 1:=Fx.jm (qn2 fu r0.f) [(zov fu r0).s]
def zot(r0:(tp fu).L 3):(tp fu).L 2:=Fx.jm (qn1 fu r0.f) [(zou fu r0).s]
def zos:Nat->(tp fu).L 3:=Fx.lq (qn0 fu) (q0c fu) (fun r0=>[(zot fu r0).s])
def zow:=(tp fu).fi (q0b fu) [(zos fu fu).s]
def zox:EI wG ⟨.fn 115,[.h wB,wS],[],_,RS.mk (.tup [.own 0,.h (.prod wI wI)]) [(0,.row .byte 5)]⟩:=(fx [(znu fu).p,fp.p,znv.p,(q97 fu).p,(zow fu).p]).fi (qpi fu)
def zah:Fx wG ⟨.fn 78,[.h wT],[],_,RS.mk (.own 0) [(0,.row .byte 5)]⟩:=fx [(ki fu).p,(zox fu).p] [lb 104 [(1,.ptr 32 0),(10,.h wL),(11,wH),(12,wH)] [(32,.dat wT 112)]]
def zoy:Nat->(zah fu).L 0:=Fx.lq (qp0 fu) (q1s fu) (fun r0=>[r0.s])
def zoz:=(zah fu).fi (q1r fu) [(zoy fu fu).s]
def zo0:EI wG ⟨.fn 154,[.h wB,.h wB,wH],[],_,RS.mk (.fn 185 [.ptr 0 0,.ptr 1 0,.ptr 2 0]) [(0,.cells [.h wB] 32),(1,.cells [.h wB] 32),(2,.cells [wH] 3)]⟩:=(fx).fi qxk
def zo1:EI wG ⟨.fn 113,[.h wB,.h wB],[],_,RS.mk (.fn 185 [.ptr 0 0,.ptr 1 0,.ptr 2 0]) [(0,.cells [.h wB] 32),(1,.cells [.h wB] 32),(2,.cells [wH] 3)]⟩:=(fx [zo0.p]).fi qxc
def zo2:EI wG ⟨.fn 140,[wS,wS],[],_,RS.mk (wS) []⟩:=(fx [qwm.p]).fi qmm
def zo3:EI wG ⟨.fn 101,[wS,wS],[],_,RS.mk (wS) []⟩:=(fx [zo2.p]).fi qfw
def zai(fu:Nat):Fx wG ⟨.fn 69,[wS],[],_,RS.mk (wS) []⟩:=fx [zw.p,zo3.p] [lb 232 [(0,wS),(3,.own 32),(8,wH),(9,wH)] [(32,.row .byte 5)]]
def zo4:Nat->(zai fu).L 0:=Fx.lq (ud fu) (qez fu) (fun r0=>[r0.s])
def zaj:=(zai fu).fi (qau fu) [(zo4 fu fu).s]
def zo5:EI wG ⟨.yld 0,[.h wB],[(0,.loop .ready none 77 27 [(3,.ptr 1 0),(4,.ptr 2 0)] [11] 5 3),(1,.cells [.own 4] 32),(2,.cells [wH] 3),(3,.dfr),(4,.row .byte 5)],_,RS.mk (.c (.bool true)) [(0,.loop .ready none 77 27 [(3,.ptr 1 0),(4,.ptr 2 0)] [11] 5 3),(1,.cells [.own 5] 32),(2,.cells [wH] 3),(3,.dfr),(4,.dead),(5,.row .byte 5)]⟩:=(fy 77 [(zaj fu).p,⟨q7n.e qbo,zjx⟩] [] false [([0,1,0,1,1,1],5)] (ge rfl fk)).fo (qey fu) [] 0 [0,1,0,1,1,1]
def qvm:Fx wG ⟨.fn 185,[.yld 0,.ptr 1 0,.ptr 2 0,.ptr 3 0],[(0,.loop .ready none 77 27 [(3,.ptr 4 0),(4,.ptr 5 0)] [11] 5 6),(1,.cells [.h wB] 32),(2,.cells [.h wB] 32),(3,.cells [wH] 3),(4,.cells [.own 7] 32),(5,.cells [wH] 3),(6,.dfr),(7,.row .byte 5)],_,RS.mk (.tup []) [(0,.loop .ready none 77 27 [(3,.ptr 4 0),(4,.ptr 5 0)] [11] 5 6),(1,.cells [.h wB] 32),(2,.cells [.h wB] 32),(3,.cells [wH] 3),(4,.cells [.own 8] 32),(5,.cells [wH] 3),(6,.dfr),(7,.dead),(8,.row .byte 5)]⟩:=fx [(zac fu).p,(zo5 fu).p,⟨qrd.e ua,q23 oE⟩] [lb 320 [(0,.yld 0),(2,.ptr 2 0)] [(0,.loop .ready none 77 27 [(3,.ptr 4 0),(4,.ptr 5 0)] [11] 5 6),(1,.cells [.h wB] 32),(2,.cells [.h wB] 32),(3,.cells [wH] 3),(4,.cells [.own 32] 32),(5,.cells [wH] 3),(6,.dfr),(7,.dead),(32,.row .byte 5)],lb 96 [(0,.yld 0),(1,.ptr 1 0),(2,.ptr 2 0),(3,.ptr 3 0)] [(0,.loop .ready none 77 27 [(3,.ptr 4 0),(4,.ptr 5 0)] [11] 5 6),(1,.cells [.h wB] 32),(2,.cells [.h wB] 32),(3,.cells [wH] 3),(4,.cells [.own 32] 32),(5,.cells [wH] 3),(6,.dfr),(7,.dead),(32,.row .byte 5)]]
def zo6:Nat->(qvm fu).L 0:=Fx.lq (qle fu) (qxm fu) (fun r0=>[r0.s])
def zo7:Nat->(qvm fu).L 1:=Fx.lq (qlf fu) (qxn fu) (fun r1=>[r1.s])
def zo8:=(qvm fu).fi (qxl fu) [(zo6 fu fu).s,(zo7 fu fu).s]
def zo9:EI wG ⟨.fn 77,[.h wB],[],_,RS.mk (.own 0) [(0,.row .byte 5)]⟩:=(fx [zo1.p,(zo8 fu).p] [] false [([0,1,0,1,1,1],5)] (ge rfl fk)).fi (qxx fu)
def zak:EI wG ⟨.fn 36,[.h wP],[],_,RS.mk (wS) []⟩:=(fx [(zbr fu).p,(zaj fu).p]).fi (qat fu)
def wi:Fx wG ⟨.yld 0,[wH,.agg [.h wL,.h wB,.h (.list wT)]],[(0,.loop .ready none 41 79 [(6,.ptr 1 0)] [24,25] 3 2),(1,.cells [.own 3] 32),(2,.dfr),(3,.row .byte 5)],_,RS.mk (.c (.bool true)) [(0,.loop .ready none 41 79 [(6,.ptr 1 0)] [24,25] 3 2),(1,.cells [.own 4] 32),(2,.dfr),(3,.dead),(4,.row .byte 5)]⟩:=fy 41 [(ki fu).p,(zoz fu).p,(zo9 fu).p,(zak fu).p,⟨qs1.e o5,q5u qtt qtu⟩] [lb 256679 [(6,.ptr 1 0),(8,.ptr 32 0),(9,.own 33),(10,wN),(27,.h wL),(28,wH),(29,wH)] [(0,.loop .busy none 41 79 [(6,.ptr 1 0)] [24,25] 3 2),(1,.cells [.own 34] 32),(2,.dfr),(3,.dead),(32,.dat wT 112),(33,.row .byte 5),(34,.row .byte 5)],lb 2053427 [(6,.ptr 1 0),(8,.ptr 32 0),(9,.own 35),(10,wN),(12,.ptr 33 0),(27,.h wL),(28,wH),(29,wH),(42,.h .bool)] [(0,.loop .busy none 41 79 [(6,.ptr 1 0)] [24,25] 3 2),(1,.cells [.own 34] 32),(2,.dfr),(3,.dead),(32,.dat wT 112),(33,.dat wP 36),(34,.row .byte 5),(35,.row .byte 5)],lb 16046 [(6,.ptr 1 0),(8,.ptr 32 0),(9,.own 35),(10,.own 33)] [(0,.loop .busy none 41 79 [(6,.ptr 1 0)] [24,25] 3 2),(1,.cells [.own 34] 32),(2,.dfr),(3,.dead),(32,.dat wT 112),(33,.row .byte 5),(34,.row .byte 5),(35,.row .byte 5)],lb 64168 [(6,.ptr 1 0),(8,.ptr 32 0),(9,.own 34),(10,wN),(27,.h wL),(28,wH),(29,wH)] [(0,.loop .busy none 41 79 [(6,.ptr 1 0)] [24,25] 3 2),(1,.cells [.own 33] 32),(2,.dfr),(3,.dead),(32,.dat wT 112),(33,.row .byte 5),(34,.row .byte 5)]] false [([0,1,0,1,1,1,1],3)] (ge rfl fk)
def zpd(r0:(wi fu).L 3):(wi fu).L 0:=Fx.jm (qln fu r0.f) [r0.s]
def zpb(r0:(wi fu).L 3):(wi fu).L 1:=Fx.jm (qll fu r0.f) [(zpd fu r0).s]
def zpc:(wi fu).L 2:=Fx.jm (qlm fu)
def zpa:Nat->(wi fu).L 3:=Fx.lq (qlk fu) (qxv fu) (fun r0=>[(zpb fu r0).s,(zpc fu).s])
def zpe:=(wi fu).fo (qxu fu) [(zpa fu fu).s] 0 [0,1,0,1,1,1,1]
def zpf:EI wG ⟨.yld 0,[wH,.agg [.h wL,.h wB,.h (.list wT),wH]],[(0,.loop .ready none 111 15 [(2,.ptr 1 0)] [7,8] 4 2),(1,.cells [.yld 3] 168),(2,.dfr),(3,.loop .ready none 41 79 [(6,.ptr 4 0)] [24,25] 3 5),(4,.cells [.own 6] 32),(5,.dfr),(6,.row .byte 5)],_,RS.mk (.c (.bool true)) [(0,.loop .ready none 111 15 [(2,.ptr 1 0)] [7,8] 4 2),(1,.cells [.yld 3] 168),(2,.dfr),(3,.loop .ready none 41 79 [(6,.ptr 4 0)] [24,25] 3 5),(4,.cells [.own 7] 32),(5,.dfr),(6,.dead),(7,.row .byte 5)]⟩:=(fy 111 [(zpe fu).p] [] false [([0,1,1],4)] (ge rfl fk)).fo (qzk fu) [] 0 [0,1,1]
def zy:IF:=⟨.fn 153,[.h wT,wH,.ptr 0 0,.ptr 1 0,.ptr 2 0],[(0,.cells [.yld 3] 207),(1,.cells [wH] 3),(2,.cells [.fn 153 [.ptr 0 0,.ptr 1 0,.ptr 2 0]] 208),(3,.loop .ready none 111 15 [(2,.ptr 4 0)] [7,8] 4 5),(4,.cells [.yld 6] 168),(5,.dfr),(6,.loop .ready none 41 79 [(6,.ptr 7 0)] [24,25] 3 8),(7,.cells [.own 9] 32),(8,.dfr),(9,.row .byte 5)],_,RS.mk (.c (.bool true)) [(0,.cells [.yld 3] 207),(1,.cells [wH] 3),(2,.cells [.fn 153 [.ptr 0 0,.ptr 1 0,.ptr 2 0]] 208),(3,.loop .ready none 111 15 [(2,.ptr 4 0)] [7,8] 4 5),(4,.cells [.yld 6] 168),(5,.dfr),(6,.loop .ready none 41 79 [(6,.ptr 7 0)] [24,25] 3 8),(7,.cells [.own 10] 32),(8,.dfr),(9,.dead),(10,.row .byte 5)]⟩
def zal(s131:EI wG zy)(fu:Nat):Fx wG zy:=fx [(zpf fu).p,s131.p] [lb 488 [(1,wH),(4,.ptr 2 0),(20,.h (.list wT)),(21,wH),(22,wH)] [(0,.cells [.yld 3] 207),(1,.cells [wH] 3),(2,.cells [.fn 153 [.ptr 0 0,.ptr 1 0,.ptr 2 0]] 208),(3,.loop .ready none 111 15 [(2,.ptr 4 0)] [7,8] 4 5),(4,.cells [.yld 6] 168),(5,.dfr),(6,.loop .ready none 41 79 [(6,.ptr 7 0)] [24,25] 3 8),(7,.cells [.own 32] 32),(8,.dfr),(9,.dead),(32,.row .byte 5)]]
def zph(s131:EI wG zy)(fu:Nat):Nat->(zal s131 fu).L 0:=Fx.lq (qnu s131.f fu) (qzy s131.f fu) (fun r0=>[r0.s])
def zpg(s131:EI wG zy)(fu:Nat):EI wG zy:=(zal s131 fu).fi (qns s131.f fu) [(zph s131 fu fu).s]
def zpi:EI wG zy := .rc (qnt fu) (fun r=>qns r fu) (fun _ _=>rfl) (fun _=>rfl) (fun s131=>zpg s131 fu) (fun _=>rfl) fu
def zpj:EI wG ⟨.fn 152,[.yld 0,.ptr 1 0],[(0,.loop .ready none 111 15 [(2,.ptr 2 0)] [7,8] 4 3),(1,.dat wT 112),(2,.cells [.yld 4] 168),(3,.dfr),(4,.loop .ready none 41 79 [(6,.ptr 5 0)] [24,25] 3 6),(5,.cells [.own 7] 32),(6,.dfr),(7,.row .byte 5)],_,RS.mk (.tup []) [(0,.loop .ready none 111 15 [(2,.ptr 2 0)] [7,8] 4 3),(1,.dat wT 112),(2,.cells [.yld 4] 168),(3,.dfr),(4,.loop .ready none 41 79 [(6,.ptr 5 0)] [24,25] 3 6),(5,.cells [.own 8] 32),(6,.dfr),(7,.dead),(8,.row .byte 5)]⟩:=(fx [(zpi fu).p]).fi (qz0 fu)
def zpk:EI wG ⟨.fn 111,[.yld 0,.ptr 1 0],[(0,.loop .ready none 41 79 [(6,.ptr 2 0)] [24,25] 3 3),(1,.dat wT 112),(2,.cells [.own 4] 32),(3,.dfr),(4,.row .byte 5)],_,RS.mk (.tup []) [(0,.loop .ready none 41 79 [(6,.ptr 2 0)] [24,25] 3 3),(1,.dat wT 112),(2,.cells [.own 5] 32),(3,.dfr),(4,.dead),(5,.row .byte 5)]⟩:=(fx [q93.p,(zpj fu).p] [] false [([0,1,1],4)] (ge rfl fk)).fi (qzj fu)
def zpl:EI wG ⟨.fn 41,[.h (.prod wL wB)],[],_,RS.mk (.tup [.own 0,.h (.prod wI wI)]) [(0,.row .byte 5)]⟩:=(fx [(znq fu).p,fp.p,znr.p,(zpk fu).p,dx.p] [] false [([0,1,0,1,1,1,1],3)] (ge rfl fk)).fi (qlj fu)
def zpm:EI wG ⟨.fn 13,[.h (.prod wL wB),.h (.prod wL wB)],[],_,RS.mk (.tup [.h .bool,.h (.prod wI wI)]) []⟩:=(fx [(zpl fu).p,fp.p,d7.p,za1.p,dx.p]).fi (qxw fu)
def zpn:EI wG ⟨.fn 4,[],[],_,RS.mk (.h .bool) []⟩:=(fx [(zs3 fu).p,(zuf fu).p,(zpm fu).p]).fi (qkr fu)
def zpp:EI wG ⟨.fn 80,[wS,wS],[],_,RS.mk (.h .bool) []⟩:=(fx).fi w9
def zam:EI wG ⟨.fn 44,[wS,wS],[],_,RS.mk (.h .bool) []⟩:=(fx [zpp.p]).fi jk
def qvo:EI wG ⟨.fn 82,[wS,wS],[],_,RS.mk (wH) []⟩:=(fx [⟨que.e nf,q8s oE⟩]).fi uh
def zpq:EI wG ⟨.fn 46,[wS,wS],[],_,RS.mk (.h .bool) []⟩:=(fx [qvo.p]).fi qob
def zz(fu:Nat):Fx wG ⟨.fn 16,[wS],[],_,RS.mk (.h .bool) []⟩:=fx [zam.p,zb4.p,zpq.p] [lb 423 [(0,wS),(5,wH),(6,wH)],lb 3379 [(0,wS),(5,wH),(6,wH),(18,.h .bool)],lb 104 [(0,wS),(5,wH),(6,wH)]]
def zpt(r0:(zz fu).L 2):(zz fu).L 0:=Fx.jm (qp3 fu r0.f) [r0.s]
def zps(r0:(zz fu).L 2):(zz fu).L 1:=Fx.jm (qb1 fu r0.f) [(zpt fu r0).s]
def zpr:Nat->(zz fu).L 2:=Fx.lq (uj fu) (qgc fu) (fun r0=>[(zps fu r0).s])
def zpu:=(zz fu).fi (qb0 fu) [(zpr fu fu).s]
def zan(fu:Nat):Fx wG ⟨.fn 18,[wS],[],_,RS.mk (wS) []⟩:=fx [] [lb 232 [(3,wS),(7,.ptr 32 0)] [(32,.it)]]
def zpv:Nat->(zan fu).L 0:=Fx.lq (qav fu) (qlp fu) (fun r0=>[r0.s])
def zpw:=(zan fu).fi (qlo fu) [(zpv fu fu).s]
def zpx:EI wG ⟨.fn 19,[wS,wS],[],_,RS.mk (.fn 47 [.ptr 0 0,.ptr 1 0]) [(0,.cells [wS] 9),(1,.cells [wS] 9)]⟩:=(fx).fi qp5
def zpy:EI wG ⟨.fn 83,[wS],[],_,RS.mk (.fn 117 [.ptr 0 0]) [(0,.cells [wS] 9)]⟩:=(fx).fi qmb
def zao(fu:Nat):Fx wG ⟨.fn 195,[.h (.int .i32),.h (.list (.prod (.int .i32) (.prod (.int .i32) wI)))],[],_,RS.mk (.tup [wH,.h .bool]) []⟩:=fx [] [lb 104 [(0,.h (.int .i32)),(8,.h (.list (.prod (.int .i32) (.prod (.int .i32) wI)))),(9,wH),(10,wH)]]
def zpz:Nat->(zao fu).L 0:=Fx.lq (w7 fu) (qma fu) (fun r0=>[r0.s])
def zp0:=(zao fu).fi (ql9 fu) [(zpz fu fu).s]
def zp1:EI wG ⟨.fn 159,[.h (.int .i32)],[],_,RS.mk (wH) []⟩:=(fx [(zp0 fu).p]).fi (qa7 fu)
def zp5:EI wG ⟨.fn 118,[wS],[],_,RS.mk (.h (.prod wI (.prod .bool wI))) []⟩:=(fx [⟨qct.e jl,qhk sf ra se q9⟩,(zp1 fu).p]).fi (w6 fu)
def zp6:EI wG ⟨.fn 160,[wH],[],_,RS.mk (.h .bool) []⟩:=(fx).fi qa8
def z6:Fx wG ⟨.fn 119,[.h (.prod wI (.prod .bool wI)),.h (.prod wI (.prod .bool wI)),wH],[],_,RS.mk (.h .bool) []⟩:=fx [zp6.p] [lb 30 [(3,.ptr 32 0),(4,.ptr 33 0)] [(32,.dat (.prod wI (.prod .bool wI)) 180),(33,.dat (.prod wI (.prod .bool wI)) 180)],lb 3711 [(2,wH),(3,.ptr 32 0),(4,.ptr 33 0),(35,.h .bool)] [(32,.dat (.prod wI (.prod .bool wI)) 180),(33,.dat (.prod wI (.prod .bool wI)) 180)],lb 927 [(2,wH),(3,.ptr 32 0),(4,.ptr 33 0),(24,.h .bool)] [(32,.dat (.prod wI (.prod .bool wI)) 180),(33,.dat (.prod wI (.prod .bool wI)) 180)],lb 231 [(2,wH),(3,.ptr 32 0),(4,.ptr 33 0),(7,.fn 160 []),(15,.h .bool)] [(32,.dat (.prod wI (.prod .bool wI)) 180),(33,.dat (.prod wI (.prod .bool wI)) 180)],lb 57 [(2,wH),(3,.ptr 32 0),(4,.ptr 33 0),(7,.fn 160 []),(8,.h .bool)] [(32,.dat (.prod wI (.prod .bool wI)) 180),(33,.dat (.prod wI (.prod .bool wI)) 180)]]
def zqb:z6.L 0:=Fx.jm ql8
def zqa:z6.L 1:=Fx.jm qfe [(zqb).s]
def zp9:z6.L 2:=Fx.jm qfd [(zqa).s]
def zp8:z6.L 3:=Fx.jm qfc [(zp9).s]
def zp7:z6.L 4:=Fx.jm qfb [(zp8).s]
def zqc:=z6.fi qfa [(zp7).s]
def zqd:EI wG ⟨.yld 0,[wS],[(0,.loop .ready none 48 13 [(3,.ptr 1 0)] [7] 7 2),(1,.cells [.own 3] 27),(2,.dfr),(3,.row .str 9)],_,RS.mk (.c (.bool true)) [(0,.loop .ready none 48 13 [(3,.ptr 1 0)] [7] 7 2),(1,.cells [.own 4] 27),(2,.dfr),(3,.dead),(4,.row .str 9)]⟩:=(fy 48 [] [] false [([0,1,0,1,1],7)] (ge rfl fk)).fo qa6 [] 0 [0,1,0,1,1]
def wj:Fx wG ⟨.fn 117,[.yld 0,.ptr 1 0],[(0,.loop .ready none 48 13 [(3,.ptr 2 0)] [7] 7 3),(1,.cells [wS] 9),(2,.cells [.own 4] 27),(3,.dfr),(4,.row .str 9)],_,RS.mk (.tup []) [(0,.loop .ready none 48 13 [(3,.ptr 2 0)] [7] 7 3),(1,.cells [wS] 9),(2,.cells [.own 5] 27),(3,.dfr),(4,.dead),(5,.row .str 9)]⟩:=fx [(zp5 fu).p,zqc.p,zqd.p] [lb 77358 [(0,.yld 0),(1,.ptr 1 0),(3,.ptr 32 0),(4,wH),(5,wH),(6,.ptr 33 0)] [(0,.loop .ready none 48 13 [(3,.ptr 2 0)] [7] 7 3),(1,.cells [wS] 9),(2,.cells [.own 34] 27),(3,.dfr),(4,.dead),(32,.dat (.prod wI (.prod .bool wI)) 180),(33,.dat (.prod wI (.prod .bool wI)) 180),(34,.row .str 9)],lb 4832 [(0,.yld 0),(1,.ptr 1 0),(3,.ptr 32 0),(4,wH),(5,wH)] [(0,.loop .ready none 48 13 [(3,.ptr 2 0)] [7] 7 3),(1,.cells [wS] 9),(2,.cells [.own 33] 27),(3,.dfr),(4,.dead),(32,.dat (.prod wI (.prod .bool wI)) 180),(33,.row .str 9)],lb 16 [(0,.yld 0),(1,.ptr 1 0)] [(0,.loop .ready none 48 13 [(3,.ptr 2 0)] [7] 7 3),(1,.cells [wS] 9),(2,.cells [.own 32] 27),(3,.dfr),(4,.dead),(32,.row .str 9)]]
def zqg(r0:(wj fu).L 2)(r1:(wj fu).L 1):(wj fu).L 0:=Fx.jm (qa9 fu r0.f r1.f) [r1.s]
def zqf(r0:(wj fu).L 2):Nat->(wj fu).L 1:=Fx.lq (oz fu r0.f) (qme fu r0.f) (fun r1=>[r0.s,(zqg fu r0 r1).s])
def zqe:Nat->(wj fu).L 2:=Fx.lq (qt fu) (qmd fu) (fun r0=>[(zqf fu r0 fu).s])
def zqh:=(wj fu).fi (qmc fu) [(zqe fu fu).s]
def zqi:EI wG ⟨.fn 48,[wS],[],_,RS.mk (.own 0) [(0,.row .str 9)]⟩:=(fx [zpy.p,(zqh fu).p] [] false [([0,1,0,1,1],7)] (ge rfl fk)).fi (qe9 fu)
def zqj:EI wG ⟨.fn 120,[wS,.h (.int .i32)],[],_,RS.mk (.agg [wS,.fn 161 [.ptr 0 0],.fn 162 [.ptr 0 0]]) [(0,.cells [.h (.int .i32)] 21)]⟩:=(fx).fi qaz
def zap:EI wG ⟨.fn 84,[wS],[],_,.two (RS.mk (.tup [.agg [wS,.fn 161 [.ptr 0 0],.fn 162 [.ptr 0 0]],.h .bool]) [(0,.cells [.h (.int .i32)] 21)]) (.two (RS.mk (.tup [.agg [wS,.fn 121 [],.fn 122 []],.h .bool]) []) (.two (RS.mk (.tup [.agg [wS,.fn 124 [],.fn 125 []],.h .bool]) []) (RS.mk (.tup [.agg [wS,.c .nilFunc,.c .nilFunc],.h .bool]) [])))⟩:=(fx [zqj.p,(ki fu).p]).fi (qay fu)
def zqk:EI wG ⟨.fn 162,[.h (.int .i32),.ptr 0 0],[(0,.cells [.h (.int .i32)] 21)],_,RS.mk (.tup [.own 1,.h .bool]) [(0,.cells [.h (.int .i32)] 21),(1,.row .byte 5)]⟩:=(fx).fi qlx
def qvr:Fx wG ⟨.fn 163,[wN,.h (.int .i32)],[],_,RS.mk (.own 0) [(0,.row .byte 5)]⟩:=fx [] [lb 479 [(0,wN),(1,.h (.int .i32)),(50,.h .bool)],lb 119 [(0,wN),(1,.h (.int .i32)),(5,.h (.int .u32)),(25,.h .bool)]]
def zqm:qvr.L 0:=Fx.jm qf6
def zql:qvr.L 1:=Fx.jm qw [(zqm).s]
def zqn:=qvr.fi qpv [(zql).s]
end
end
noncomputable section
open Go.Proofs
set_option linter.unusedVariables false
set_option maxRecDepth 100000
set_option maxHeartbeats 2000000
open Tryz
section
variable(fu:Nat)
def zqo:EI wG ⟨.fn 123,[wN,.h (.int .i32)],[],_,RS.mk (.own 0) [(0,.row .byte 5)]⟩:=(fx [zqn.p]).fi qf4
def zqp:EI wG ⟨.fn 122,[.h (.int .i32)],[],_,RS.mk (.tup [.own 0,.h .bool]) [(0,.row .byte 5)]⟩:=(fx [zqo.p]).fi qlv
def zqq:EI wG ⟨.fn 125,[.h (.int .i32)],[],_,RS.mk (.tup [.own 0,.h .bool]) [(0,.row .byte 5)]⟩:=(fx).fi qx0
def qd7:Fx wG ⟨.fn 49,[wS,wS],[],_,RS.mk (.tup [.own 0,.h (.prod wI wI)]) [(0,.row .byte 5)]⟩:=fx [d7.p,(zap fu).p,⟨qjt.e gy,quv sf ra se q9⟩,zqk.p,dx.p,zqp.p,zqq.p] [lb 4072 [(5,.ptr 32 0),(6,.ptr 33 0),(8,.own 36),(30,.ptr 34 0)] [(32,.dat (.prod wI wI) 24),(33,.cells [wS,.fn 161 [.ptr 35 0],.fn 162 [.ptr 35 0]] 126),(34,.it),(35,.cells [.h (.int .i32)] 21),(36,.row .byte 5)],lb 4072 [(5,.ptr 32 0),(6,.ptr 33 0),(8,.own 35),(30,.ptr 34 0)] [(32,.dat (.prod wI wI) 24),(33,.cells [wS,.fn 121 [],.fn 122 []] 126),(34,.it),(35,.row .byte 5)],lb 4072 [(5,.ptr 32 0),(6,.ptr 33 0),(8,.own 35),(30,.ptr 34 0)] [(32,.dat (.prod wI wI) 24),(33,.cells [wS,.fn 124 [],.fn 125 []] 126),(34,.it),(35,.row .byte 5)],lb 4072 [(5,.ptr 32 0),(6,.ptr 33 0),(8,wN),(30,.ptr 34 0)] [(32,.dat (.prod wI wI) 24),(33,.cells [wS,.c .nilFunc,.c .nilFunc] 126),(34,.it)]]
def zqr:Nat->(qd7 fu).L 0:=Fx.lq (qaw fu) (qlq fu) (fun r0=>[r0.s])
def zqs:Nat->(qd7 fu).L 1:=Fx.lq (qax fu) (qlr fu) (fun r1=>[r1.s])
def zqt:Nat->(qd7 fu).L 2:=Fx.lq (qls fu) (qxy fu) (fun r2=>[r2.s])
def zqu:Nat->(qd7 fu).L 3:=Fx.lq (qlt fu) (qxz fu) (fun r3=>[])
def zqv:=(qd7 fu).fi (qe1 fu) [(zqr fu fu).s,(zqs fu fu).s,(zqt fu fu).s,(zqu fu fu).s]
def zqw:EI wG ⟨.fn 126,[.h wB],[],_,RS.mk (.fn 165 [.ptr 0 0]) [(0,.cells [.h wB] 32)]⟩:=(fx).fi qks
def zqx:EI wG ⟨.yld 0,[.agg [.h .byte,.h .byte,.h .byte,.h .byte]],[(0,.loop .ready none 85 31 [(4,.ptr 1 0),(5,.ptr 2 0)] [13] 8 3),(1,.cells [.own 4] 32),(2,.cells [wH] 3),(3,.dfr),(4,.row .byte 5)],_,RS.mk (.c (.bool true)) [(0,.loop .ready none 85 31 [(4,.ptr 1 0),(5,.ptr 2 0)] [13] 8 3),(1,.cells [.own 5] 32),(2,.cells [wH] 3),(3,.dfr),(4,.dead),(5,.row .byte 5)]⟩:=(fy 85 [] [] false [([0,1,0,1,1,1,1],8)] (ge rfl fk)).fo e7 [] 0 [0,1,0,1,1,1,1]
def tr(fu:Nat):Fx wG ⟨.fn 165,[.yld 0,.ptr 1 0],[(0,.loop .ready none 85 31 [(4,.ptr 2 0),(5,.ptr 3 0)] [13] 8 4),(1,.cells [.h wB] 32),(2,.cells [.own 5] 32),(3,.cells [wH] 3),(4,.dfr),(5,.row .byte 5)],_,RS.mk (.tup []) [(0,.loop .ready none 85 31 [(4,.ptr 2 0),(5,.ptr 3 0)] [13] 8 4),(1,.cells [.h wB] 32),(2,.cells [.own 6] 32),(3,.cells [wH] 3),(4,.dfr),(5,.dead),(6,.row .byte 5)]⟩:=fx [zqx.p] [lb 9639 [(0,.yld 0),(1,.ptr 1 0),(3,wH),(4,wH),(14,.c (.int .i64 2))] [(0,.loop .ready none 85 31 [(4,.ptr 2 0),(5,.ptr 3 0)] [13] 8 4),(1,.cells [.h wB] 32),(2,.cells [.own 32] 32),(3,.cells [wH] 3),(4,.dfr),(5,.dead),(32,.row .byte 5)],lb 9639 [(0,.yld 0),(1,.ptr 1 0),(3,wH),(4,wH),(14,.c (.int .i64 1))] [(0,.loop .ready none 85 31 [(4,.ptr 2 0),(5,.ptr 3 0)] [13] 8 4),(1,.cells [.h wB] 32),(2,.cells [.own 32] 32),(3,.cells [wH] 3),(4,.dfr),(5,.dead),(32,.row .byte 5)],lb 9639 [(0,.yld 0),(1,.ptr 1 0),(3,wH),(4,wH),(14,.c (.int .i64 0))] [(0,.loop .ready none 85 31 [(4,.ptr 2 0),(5,.ptr 3 0)] [13] 8 4),(1,.cells [.h wB] 32),(2,.cells [.own 32] 32),(3,.cells [wH] 3),(4,.dfr),(5,.dead),(32,.row .byte 5)],lb 16 [(0,.yld 0),(1,.ptr 1 0)] [(0,.loop .ready none 85 31 [(4,.ptr 2 0),(5,.ptr 3 0)] [13] 8 4),(1,.cells [.h wB] 32),(2,.cells [.own 32] 32),(3,.cells [wH] 3),(4,.dfr),(5,.dead),(32,.row .byte 5)]]
def zq1(r0:(tr fu).L 3):(tr fu).L 0:=Fx.jm (ov fu r0.f) [r0.s]
def zq0(r0:(tr fu).L 3):(tr fu).L 1:=Fx.jm (wu fu r0.f) [(zq1 fu r0).s]
def zqz(r0:(tr fu).L 3):(tr fu).L 2:=Fx.jm (wt fu r0.f) [(zq0 fu r0).s]
def zqy:Nat->(tr fu).L 3:=Fx.lq (kj fu) (ou fu) (fun r0=>[(zqz fu r0).s])
def zq2:=(tr fu).fi (qkt fu) [(zqy fu fu).s]
def zq3:EI wG ⟨.fn 85,[.h wB],[],_,RS.mk (.tup [.own 0,.h (.prod wI wI)]) [(0,.row .byte 5)]⟩:=(fx [d7.p,zqw.p,(zq2 fu).p,dx.p] [] false [([0,1,0,1,1,1,1],8)] (ge rfl fk)).fi (qep fu)
def zaq:EI wG ⟨.fn 50,[.h wB],[],_,RS.mk (wS) []⟩:=(fx [(zq3 fu).p,⟨q7o.e xh,zjz oE⟩]).fi (qbz fu)
def zar:EI wG ⟨.fn 30,[.ptr 0 0,.h .byte],[(0,.cells [.pn 0,.own 1] 62),(1,.row .byte 5)],_,RS.mk (.c .nilIface) [(0,.cells [.pn 0,.own 2] 62),(1,.dead),(2,.row .byte 5)]⟩:=(fx [⟨qhg.e lj,qrw⟩]).fi xf
def zq7:EI wG ⟨.fn 87,[.h .byte],[],_,RS.mk (.h .bool) []⟩:=(fx).fi qes
def zq8:EI wG ⟨.fn 88,[.ptr 0 0,.own 1],[(0,.cells [.pn 0,.own 2] 62),(1,.row .byte 5),(2,.row .byte 5)],_,RS.mk (.tup [wH,.c .nilIface]) [(0,.cells [.pn 0,.own 3] 62),(1,.row .byte 5),(2,.dead),(3,.row .byte 5)]⟩:=(fx [⟨qhg.e lj,qrw⟩]).fi qfp
def zas(fu:Nat):Fx wG ⟨.fn 51,[.h wB],[],_,RS.mk (wS) []⟩:=fx [zar.p,zq7.p,q9w.p,zq8.p,⟨qrg.e t7,q3b⟩] [lb 232 [(3,.ptr 32 0),(6,.h wB),(7,wH),(8,wH)] [(32,.cells [.pn 32,.own 33] 62),(33,.row .byte 5)]]
def zq9:Nat->(zas fu).L 0:=Fx.lq (qby fu) (qp2 fu) (fun r0=>[r0.s])
def zra:=(zas fu).fi (qgb fu) [(zq9 fu fu).s]
def qvx:EI wG ⟨.fn 20,[wS,wS],[],_,RS.mk (wS) []⟩:=(fx [(zqv fu).p,(zaq fu).p,(zra fu).p]).fi (ul fu)
def zrb:EI wG ⟨.yld 0,[wS],[(0,.loop .ready none 5 54 [(4,.ptr 1 0),(5,.ptr 2 0),(6,.ptr 3 0)] [25] 6 4),(1,.cells [wS] 9),(2,.cells [.own 5] 27),(3,.cells [wS] 9),(4,.dfr),(5,.row .str 9)],_,RS.mk (.c (.bool true)) [(0,.loop .ready none 5 54 [(4,.ptr 1 0),(5,.ptr 2 0),(6,.ptr 3 0)] [25] 6 4),(1,.cells [wS] 9),(2,.cells [.own 6] 27),(3,.cells [wS] 9),(4,.dfr),(5,.dead),(6,.row .str 9)]⟩:=(fy 5 [(qvx fu).p] [] false [([0,1,0,1,1,1,1,1,1,1],6)] (ge rfl fk)).fo (qbw fu) [] 0 [0,1,0,1,1,1,1,1,1,1]
def qka:Fx wG ⟨.fn 47,[.yld 0,.ptr 1 0,.ptr 2 0],[(0,.loop .ready none 5 54 [(4,.ptr 3 0),(5,.ptr 4 0),(6,.ptr 5 0)] [25] 6 6),(1,.cells [wS] 9),(2,.cells [wS] 9),(3,.cells [wS] 9),(4,.cells [.own 7] 27),(5,.cells [wS] 9),(6,.dfr),(7,.row .str 9)],_,RS.mk (.tup []) [(0,.loop .ready none 5 54 [(4,.ptr 3 0),(5,.ptr 4 0),(6,.ptr 5 0)] [25] 6 6),(1,.cells [wS] 9),(2,.cells [wS] 9),(3,.cells [wS] 9),(4,.cells [.own 8] 27),(5,.cells [wS] 9),(6,.dfr),(7,.dead),(8,.row .str 9)]⟩:=fx [(zqi fu).p,(qvx fu).p,(zrb fu).p] [lb 13112 [(0,.yld 0),(2,.ptr 2 0),(9,.own 32),(10,wH),(11,wH),(25,.ptr 33 0)] [(0,.loop .ready none 5 54 [(4,.ptr 3 0),(5,.ptr 4 0),(6,.ptr 5 0)] [25] 6 6),(1,.cells [wS] 9),(2,.cells [wS] 9),(3,.cells [wS] 9),(4,.cells [.own 34] 27),(5,.cells [wS] 9),(6,.dfr),(7,.dead),(32,.row .str 9),(33,.it),(34,.row .str 9)],lb 24 [(0,.yld 0),(2,.ptr 2 0),(9,.own 32),(10,wH),(11,wH)] [(0,.loop .ready none 5 54 [(4,.ptr 3 0),(5,.ptr 4 0),(6,.ptr 5 0)] [25] 6 6),(1,.cells [wS] 9),(2,.cells [wS] 9),(3,.cells [wS] 9),(4,.cells [.own 33] 27),(5,.cells [wS] 9),(6,.dfr),(7,.dead),(32,.row .str 9),(33,.row .str 9)]]
def zrd(r0:(qka fu).L 1):Nat->(qka fu).L 0:=Fx.lq (qb2 fu r0.f) (qp7 fu r0.f) (fun r1=>[r1.s,r0.s])
def zrc:Nat->(qka fu).L 1:=Fx.lq (uk fu) (qp6 fu) (fun r0=>[r0.s,(zrd fu r0 fu).s])
def zre:=(qka fu).fi (qge fu) [(zrc fu fu).s]
def zrf:EI wG ⟨.fn 5,[wS],[],_,RS.mk (.tup [wS,.h (.prod wI wI)]) []⟩:=(fx [d7.p,⟨qjt.e gy,quv sf ra se q9⟩,(zpu fu).p,dx.p,(zpw fu).p,zpx.p,(zre fu).p,(qvx fu).p,⟨qs3.e o6,q5y⟩] [] false [([0,1,0,1,1,1,1,1,1,1],6)] (ge rfl fk)).fi (qbv fu)
def oo:Fx wG ⟨.fn 7,[.h (.list .str)],[],_,RS.mk (.tup [wS,wS,.h (.prod wI wI)]) []⟩:=fx [d7.p,(zag fu).p,zw.p,⟨qs3.e o6,q5y⟩,qwb.p,(x3s fu).p,(zbm fu).p,dx.p] [lb 1959 [(0,.h (.list .str)),(4,.ptr 32 0),(5,wH),(15,.h (.list .str)),(16,wH),(17,wH)] [(32,.dat (.prod wI wI) 24)],lb 15667 [(0,.h (.list .str)),(4,.ptr 32 0),(5,wH),(7,wS),(15,.h (.list .str)),(16,wH),(17,wH)] [(32,.dat (.prod wI wI) 24)],lb 31333 [(0,.h (.list .str)),(4,.ptr 32 0),(5,wH),(6,wH),(7,wS),(15,.h (.list .str)),(16,wH),(17,wH),(37,.h .bool)] [(32,.dat (.prod wI wI) 24)],lb 510 [(4,.ptr 32 0),(8,wS),(9,wS)] [(32,.dat (.prod wI wI) 24)],lb 509 [(4,.ptr 32 0),(8,wS),(9,wS),(61,.h .bool)] [(32,.dat (.prod wI wI) 24)],lb 488 [(0,.h (.list .str)),(4,.ptr 32 0),(5,wH),(15,.h (.list .str)),(16,wH),(17,wH)] [(32,.dat (.prod wI wI) 24)]]
def zrl(r0:(oo fu).L 5):(oo fu).L 0:=Fx.jm (ql6 fu r0.f) [r0.s]
def zrj(r0:(oo fu).L 5):(oo fu).L 1:=Fx.jm (ql4 fu r0.f) [(zrl fu r0).s]
def zrh(r0:(oo fu).L 5):(oo fu).L 2:=Fx.jm (ue fu r0.f) [(zrj fu r0).s]
def zrk:(oo fu).L 3:=Fx.jm (ql5 fu)
def zri:(oo fu).L 4:=Fx.jm (wy fu) [(zrk fu).s]
def zrg:Nat->(oo fu).L 5:=Fx.lq (ww fu) (ql3 fu) (fun r0=>[(zrh fu r0).s,(zri fu).s])
def zrm:=(oo fu).fi (qa4 fu) [(zrg fu fu).s]
def zat(fu:Nat):Fx wG ⟨.fn 170,[wS],[],_,RS.mk (wH) []⟩:=fx [] [lb 104 [(2,wH),(4,.ptr 32 0)] [(32,.it)]]
def zrn:Nat->(zat fu).L 0:=Fx.lq (qpt fu) (q1n fu) (fun r0=>[r0.s])
def zau:=(zat fu).fi (qps fu) [(zrn fu fu).s]
def qkb:Fx wG ⟨.fn 137,[wS,wH],[],_,RS.mk (.own 0) [(0,.row .str 9)]⟩:=fx [(zau fu).p,⟨qct.e jl,qhk sf ra se q9⟩] [lb 2000 [(0,wS),(1,wH),(6,.own 32),(7,wH)] [(32,.row .str 9)],lb 30 [(0,wS),(1,wH)],lb 29 [(0,wS),(1,wH),(5,wH),(18,.h .bool)]]
def zrq:Nat->(qkb fu).L 0:=Fx.lq (qo4 fu) (q09 fu) (fun r2=>[r2.s])
def zrp:(qkb fu).L 1:=Fx.jm (qo3 fu) [(zrq fu fu).s]
def zro:(qkb fu).L 2:=Fx.jm (qo2 fu) [(zrp fu).s]
def zrr:=(qkb fu).fi (q08 fu) [(zro fu).s]
def zaw:Fx wG ⟨.fn 138,[wS,wS],[],_,RS.mk (wH) []⟩:=fx [(zau fu).p,⟨qk4 171 qet,zce⟩,qvo.p] [lb 496 [(0,wS),(1,wS),(5,wH)]]
def zrt:Nat->(zaw fu).L 0:=Fx.lq (qoc fu) (q0r fu) (fun r0=>[r0.s])
def zru:=(zaw fu).fi (q0q fu) [(zrt fu fu).s]
def qv1:Fx wG ⟨.fn 97,[wS,wS,wH,wH],[],_,RS.mk (.h (.list .str)) []⟩:=fx [(zrr fu).p,(zru fu).p,qvo.p] [lb 16352 [(0,wS),(1,wS),(2,wH),(3,wH),(9,.own 32),(10,wH)] [(32,.row .str 9)],lb 62 [(0,wS),(1,wS),(2,wH),(3,wH)]]
def zrw:Nat->(qv1 fu).L 0:=Fx.lq (qv fu) (qf0 fu) (fun r1=>[r1.s])
def zrv:(qv1 fu).L 1:=Fx.jm (qf1 fu) [(zrw fu fu).s]
def zrx:=(qv1 fu).fi (qo5 fu) [(zrv fu).s]
def zry:EI wG ⟨.fn 64,[wS,wS,wH],[],_,RS.mk (.h (.list .str)) []⟩:=(fx [(zrx fu).p]).fi (qfv fu)
def qab:Fx wG ⟨.fn 65,[wS,wS],[],_,RS.mk (.tup [.own 0,.h .bool]) [(0,.row .byte 5)]⟩:=fx [(q97 fu).p,(zaq fu).p,qwp.p] [lb 7055647 [(1,wS),(8,.own 32),(9,wH),(65,.h .bool)] [(32,.row .byte 5)],lb 55120 [(1,wS),(8,.own 32),(9,wH)] [(32,.row .byte 5)],lb 215 [(1,wS),(27,.h .bool)],lb 53 [(1,wS),(12,wS),(13,.h .bool)]]
def zr2(r2:(qab fu).L 1):(qab fu).L 0:=Fx.jm (qga fu r2.f) [r2.s]
def zr1:Nat->(qab fu).L 1:=Fx.lq (qbx fu) (qp1 fu) (fun r2=>[r2.s,(zr2 fu r2).s])
def zr0:(qab fu).L 2:=Fx.jm (qf9 fu) [(zr1 fu fu).s]
def zrz:(qab fu).L 3:=Fx.jm (qf8 fu) [(zr0 fu).s]
def zr3:=(qab fu).fi (qf7 fu) [(zrz fu).s]
def zax(fu:Nat):Fx wG ⟨.fn 161,[.h wB,.ptr 0 0],[(0,.cells [.h (.int .i32)] 21)],_,RS.mk (.own 1) [(0,.cells [.h (.int .i32)] 21),(1,.row (.int .i32) 21)]⟩:=fx [] [lb 232 [(1,.ptr 0 0),(4,.own 32),(8,.h wB),(9,wH),(10,wH)] [(0,.cells [.h (.int .i32)] 21),(32,.row (.int .i32) 21)]]
def zr4:Nat->(zax fu).L 0:=Fx.lq (qa0 fu) (qlw fu) (fun r0=>[r0.s])
def zr5:=(zax fu).fi (qe2 fu) [(zr4 fu fu).s]
def zr6:EI wG ⟨.fn 121,[.h wB],[],_,RS.mk (.own 0) [(0,.row (.int .i32) 21)]⟩:=(fx).fi qlu
def zr7:EI wG ⟨.fn 164,[wH,.ptr 0 0],[(0,.cells [.h wB] 32)],_,RS.mk (.h (.int .i32)) [(0,.cells [.h wB] 32)]⟩:=(fx).fi qly
def tu(fu:Nat):Fx wG ⟨.fn 124,[.h wB],[],_,RS.mk (.own 0) [(0,.row (.int .i32) 21)]⟩:=fx [zr7.p] [lb 62620 [(1,.ptr 32 0),(3,.own 33),(4,.fn 164 [.ptr 32 0]),(5,wH),(6,.h (.int .i32))] [(32,.cells [.h wB] 32),(33,.row (.int .i32) 21)],lb 250475 [(1,.ptr 32 0),(3,.own 33),(4,.fn 164 [.ptr 32 0]),(5,wH),(6,.h (.int .i32)),(7,.h (.int .i32)),(48,.h .bool)] [(32,.cells [.h wB] 32),(33,.row (.int .i32) 21)],lb 31309 [(1,.ptr 32 0),(3,.own 33),(4,.fn 164 [.ptr 32 0]),(5,wH),(6,.h (.int .i32)),(38,.h .bool)] [(32,.cells [.h wB] 32),(33,.row (.int .i32) 21)],lb 976 [(1,.ptr 32 0),(3,.own 33),(4,.fn 164 [.ptr 32 0]),(5,wH)] [(32,.cells [.h wB] 32),(33,.row (.int .i32) 21)]]
def zay(r0:(tu fu).L 3):(tu fu).L 0:=Fx.jm (qe4 fu r0.f) [r0.s]
def zsa(r0:(tu fu).L 3):(tu fu).L 1:=Fx.jm (ql0 fu r0.f) [(zay fu r0).s]
def zr9(r0:(tu fu).L 3):(tu fu).L 2:=Fx.jm (qe3 fu r0.f) [(zsa fu r0).s,(zay fu r0).s]
def zr8:Nat->(tu fu).L 3:=Fx.lq (qlz fu) (qx2 fu) (fun r0=>[(zr9 fu r0).s])
def zsb:=(tu fu).fi (qx1 fu) [(zr8 fu fu).s]
def zsc:EI wG ⟨.fn 66,[wS,.h wB],[],_,RS.mk (.tup [wS,.h (.prod wI wI)]) []⟩:=(fx [d7.p,(zap fu).p,(zr5 fu).p,dx.p,zr6.p,(zsb fu).p]).fi (qe0 fu)
def qv4:Fx wG ⟨.fn 29,[wS],[],_,RS.mk (.tup [wS,wH,.h .bool]) []⟩:=fx [zam.p,(zry fu).p,(zr3 fu).p,(zsc fu).p,fp.p] [lb 62 [(5,.h (.list .str))],lb 61 [(5,.h (.list .str)),(28,.h .bool)]]
def zse:(qv4 fu).L 0:=Fx.jm (qp4 fu)
def zsd:(qv4 fu).L 1:=Fx.jm (qgd fu) [(zse fu).s]
def zsf:=(qv4 fu).fi (xn fu) [(zsd fu).s]
def zsh:EI wG ⟨.fn 31,[.ptr 0 0,wS],[(0,.cells [.pn 0,.own 1] 62),(1,.row .byte 5)],_,RS.mk (.tup [wH,.c .nilIface]) [(0,.cells [.pn 0,.own 2] 62),(1,.dead),(2,.row .byte 5)]⟩:=(fx [⟨qhg.e lj,qrw⟩]).fi xg
def tv:Fx wG ⟨.fn 8,[wS],[],_,RS.mk (.tup [wS,.h (.prod wI wI)]) []⟩:=fx [d7.p,(zsf fu).p,zar.p,zsh.p,⟨qrg.e t7,q3b⟩,dx.p,zw.p] [lb 256342 [(0,wS),(3,.ptr 32 0),(4,.ptr 33 0),(5,wH),(6,wH)] [(32,.dat (.prod wI wI) 24),(33,.cells [.pn 33,.own 34] 62),(34,.row .byte 5)],lb 256341 [(0,wS),(3,.ptr 32 0),(4,.ptr 33 0),(5,wH),(6,wH),(42,.h .bool)] [(32,.dat (.prod wI wI) 24),(33,.cells [.pn 33,.own 34] 62),(34,.row .byte 5)],lb 256340 [(0,wS),(3,.ptr 32 0),(4,.ptr 33 0),(5,wH),(6,wH)] [(32,.dat (.prod wI wI) 24),(33,.cells [.pn 33,.own 34] 62),(34,.row .byte 5)],lb 2000 [(0,wS),(3,.ptr 32 0),(4,.ptr 33 0),(5,wH),(6,wH)] [(32,.dat (.prod wI wI) 24),(33,.cells [.pn 33,.own 34] 62),(34,.row .byte 5)]]
def zsl(r0:(tv fu).L 3):(tv fu).L 0:=Fx.jm (qbu fu r0.f) [r0.s]
def zsk(r0:(tv fu).L 3):(tv fu).L 1:=Fx.jm (qbt fu r0.f) [(zsl fu r0).s]
def zsj(r0:(tv fu).L 3):(tv fu).L 2:=Fx.jm (qbs fu r0.f) [(zsk fu r0).s]
def zsi:Nat->(tv fu).L 3:=Fx.lq (ll fu) (ui fu) (fun r0=>[(zsj fu r0).s,r0.s])
def zsm:=(tv fu).fi (xm fu) [(zsi fu fu).s]
def wm:Fx wG ⟨.fn 9,[.h wL,.h (.list .str)],[],_,RS.mk (.tup [.own 0,.h (.prod wI wI)]) [(0,.row .byte 5)]⟩:=fx [(qv5 fu).p,fp.p,d7.p,dx.p,(ki fu).p,(zak fu).p] [lb 4148425 [(0,.h wL),(5,.ptr 32 0),(7,.own 33),(8,.own 34),(10,wS),(11,wH),(24,.h (.list .str)),(25,wH),(26,wH),(50,.h .bool)] [(32,.dat (.prod wI wI) 24),(33,.row .bool 4),(34,.row .byte 5)],lb 1037104 [(0,.h wL),(5,.ptr 32 0),(7,.own 33),(8,.own 34),(10,wS),(11,wH),(24,.h (.list .str)),(25,wH),(26,wH)] [(32,.dat (.prod wI wI) 24),(33,.row .bool 4),(34,.row .byte 5)],lb 2024 [(0,.h wL),(5,.ptr 32 0),(7,.own 33),(8,.own 34),(24,.h (.list .str)),(25,wH),(26,wH)] [(32,.dat (.prod wI wI) 24),(33,.row .bool 4),(34,.row .byte 5)]]
def zsp(r0:(wm fu).L 2)(r1:(wm fu).L 1):(wm fu).L 0:=Fx.jm (qex fu r0.f r1.f) [r0.s,r1.s]
def zso(r0:(wm fu).L 2):Nat->(wm fu).L 1:=Fx.lq (uc fu r0.f) (qew fu r0.f) (fun r1=>[(zsp fu r0 r1).s,r0.s])
def zsn:Nat->(wm fu).L 2:=Fx.lq (ub fu) (qev fu) (fun r0=>[(zso fu r0 fu).s])
def zsq:=(wm fu).fi (qas fu) [(zsn fu fu).s]
def zsr:EI wG ⟨.fn 10,[.h wB,.h wB],[],_,RS.mk (.h .bool) []⟩:=(fx).fi qen
def qv7:IF:=⟨.fn 3,[wS,wS],[],_,RS.mk (.h .bool) []⟩
def qd9:Fx wG qv7:=fx [(zpn fu).p,(zrf fu).p,(qj9 fu).p,(zrm fu).p,(zsm fu).p,(zsq fu).p,zsr.p] [lb 1022 [(0,wS),(1,wS),(9,.own 32),(11,.own 33)] [(32,.row .str 9),(33,.row .str 9)],lb 1021 [(0,wS),(1,wS),(9,.own 32),(10,.ptr 33 0),(11,.own 34),(81,.h .bool)] [(32,.row .str 9),(33,.dat (.prod wI wI) 24),(34,.row .str 9)],lb 126 [(0,wS),(1,wS),(5,wS),(7,wS)],lb 125 [(0,wS),(1,wS),(5,wS),(6,.ptr 32 0),(7,wS),(46,.h .bool)] [(32,.dat (.prod wI wI) 24)]]
def zsv:(qd9 fu).L 0:=Fx.jm (qkq fu)
def zsu:(qd9 fu).L 1:=Fx.jm (qo fu) [(zsv fu).s]
def zst:(qd9 fu).L 2:=Fx.jm (qkp fu) [(zsu fu).s]
def zss:(qd9 fu).L 3:=Fx.jm (qeo fu) [(zst fu).s]
def zsw:EI wG qv7:=(qd9 fu).fi (wq fu) [(zss fu).s]
def zcc:(qv7.e (wq fu)).Sound wG:=(zsw fu).h
end
end
end Go.Sym
