/- What the claim rests on, part 4: gathered texts. -/
import Derived.Shelf.LaysC
import Derived.Shelf.LaysM
import Derived.Shelf.SlGeneric
import Derived.Shelf.SlLaysF0
import Derived.Ground.NamesProg
import Derived.Test.YtgpcmiimfgghdaaGreatDoorProg
import Derived.Below
import Derived.Tactics
import Derived.Tactics2
import Derived.Laws.AppendOwn
import Derived.Shelf.Strconv.Itoa4
import Derived.Shelf.Bytes.SlIndexWhole
import Derived.Shelf.Strconv.AtoiAll
import Derived.Shelf.Strconv.ErrVarAll
import Derived.Shelf.SlicesE.Clone
import Derived.Shelf.SlSortCmp.NoneTotal
import Derived.Shelf.Strings.BuilderCap
import Derived.Shelf.Unicode.DecodeAny
import Derived.Laws.DeepStrings4
import Derived.Deep.LoopGhost
import Derived.Deep.DeepCutAuto
import Derived.Deep.DeepFit
import Derived.Deep.DeepMust
import Derived.Shelf.Unicode.ValidAny
import Derived.Shelf.Strings.Count
import Derived.Deep.OwnRows
import Derived.Laws.CopyRow
import Derived.Laws.IdiomStrings
import Derived.Laws.CopyOwn
import Derived.Lib.SlBytesConst
import Derived.Test.YtgpcmiimfgghdaaGreatDoorRows
import Derived.Defers
import Derived.Laws.Pointers
import Derived.Laws.LoneSync
import Derived.RegionTactic
import Derived.RegionCalls
import Derived.ChangeAlike
import Derived.Laws.NewBlocks
import Derived.Laws.ByValue
import Derived.Shelf.Strings.Repeat
import Derived.Test.YtgpcmiimfgghdaaGreatDoorSyK3
set_option maxRecDepth 100000
set_option linter.defProp false
set_option linter.unusedSimpArgs false
set_option linter.unusedVariables false
namespace Go.Proofs
open Go.Sym(oD oF)
open Go.Shelf
def Tryz.lfn{α:Type}{a:Option α}{b c:α}(h:a=some b)(e:b=c:=by kernel_rfl):a=some c:=h.trans (congrArg some e)
def Tryz.uniR:Go.Shelf.Ren:=⟨fun|99=>94|105=>62|115=>17|129=>176|138=>356|143=>359|165=>95|166=>96|167=>286|169=>98|170=>97|171=>34|172=>267|185=>130|187=>164|195=>357|196=>187|197=>226|205=>320|206=>133|212=>93|217=>264|218=>358|219=>249|224=>166|225=>263|240=>134|241=>135|243=>64|244=>281|245=>282|246=>100|247=>297|253=>165|254=>167|255=>202|259=>222|260=>250|263=>131|264=>132|266=>280|267=>273|270=>285|276=>168|277=>169|279=>298|280=>299|281=>300|282=>301|283=>137|284=>138|285=>139|286=>140|287=>318|291=>203|314=>287|316=>319|317=>175|318=>177|319=>178|320=>179|321=>326|322=>327|337=>213|338=>214|n=>n,fun|0=>0|2=>2|3=>3|4=>4|5=>5|9=>9|12=>12|20=>20|21=>21|37=>23|46=>136|51=>176|53=>41|70=>139|72=>141|75=>144|76=>145|80=>148|85=>346|105=>173|109=>137|119=>249|127=>181|138=>251|139=>252|143=>372|145=>374|146=>177|148=>179|164=>210|167=>345|168=>348|171=>184|173=>187|175=>361|210=>364|212=>216|213=>217|232=>287|233=>288|n=>n,fun|1=>0|3=>2|4=>3|15=>6|16=>7|17=>1|18=>4|19=>5|n=>n⟩
abbrev Tryz.laysM171_ren:Go.Shelf.Ren:=Tryz.uniR
def Tryz.laysM171:Go.Proofs.LaysM.n171 Tryz.prog Tryz.laysM171_ren:={
 mixed:=oD
 f129:=Tryz.lfn Tryz.func176
 f171:=Tryz.lfn Tryz.func34
 f243:=Tryz.lfn Tryz.func64
 f246:=Tryz.lfn Tryz.func100
 f283:=Tryz.lfn Tryz.func137
 f284:=Tryz.lfn Tryz.func138
 f285:=Tryz.lfn Tryz.func139
 f286:=Tryz.lfn Tryz.func140
 f317:=Tryz.lfn Tryz.func175
 f318:=Tryz.lfn Tryz.func177
 f319:=Tryz.lfn Tryz.func178
 f320:=Tryz.lfn Tryz.func179
 f337:=Tryz.lfn Tryz.func213
 f338:=Tryz.lfn Tryz.func214
 t0:=Tryz.underlying0
 a0:=Tryz.isAgg0
 z0:=Tryz.sizeOf0
 v0:=Tryz.zeroValue0
 t2:=Tryz.underlying2
 a2:=Tryz.isAgg2
 z2:=Tryz.sizeOf2
 v2:=Tryz.zeroValue2
 t3:=Tryz.underlying3
 a3:=Tryz.isAgg3
 z3:=Tryz.sizeOf3
 v3:=Tryz.zeroValue3
 t4:=Tryz.underlying4
 a4:=Tryz.isAgg4
 z4:=Tryz.sizeOf4
 v4:=Tryz.zeroValue4
 t5:=Tryz.underlying5
 a5:=Tryz.isAgg5
 z5:=Tryz.sizeOf5
 v5:=Tryz.zeroValue5
 t9:=Tryz.underlying9
 a9:=Tryz.isAgg9
 z9:=Tryz.sizeOf9
 v9:=Tryz.zeroValue9
 t20:=Tryz.underlying20
 a20:=Tryz.isAgg20
 z20:=Tryz.sizeOf20
 v20:=Tryz.zeroValue20
 t37:=Tryz.underlying23
 a37:=Tryz.isAgg23
 z37:=Tryz.sizeOf23
 v37:=Tryz.zeroValue23
 t46:=Tryz.underlying136
 a46:=Tryz.isAgg136
 z46:=Tryz.sizeOf136
 v46:=Tryz.zeroValue136
 t51:=Tryz.underlying176
 a51:=Tryz.isAgg176
 z51:=Tryz.sizeOf176
 v51:=Tryz.zeroValue176
 t53:=Tryz.underlying41
 a53:=Tryz.isAgg41
 z53:=Tryz.sizeOf41
 v53:=Tryz.zeroValue41
 t171:=Tryz.underlying184
 a171:=Tryz.isAgg184
 z171:=Tryz.sizeOf184
 v171:=Tryz.zeroValue184
 t173:=Tryz.underlying187
 a173:=Tryz.isAgg187
 z173:=Tryz.sizeOf187
 v173:=Tryz.zeroValue187
 t212:=Tryz.underlying216
 a212:=Tryz.isAgg216
 z212:=Tryz.sizeOf216
 v212:=Tryz.zeroValue216
 t213:=Tryz.underlying217
 a213:=Tryz.isAgg217
 z213:=Tryz.sizeOf217
 t232:=Tryz.underlying287
 a232:=Tryz.isAgg287
 z232:=Tryz.sizeOf287
 v232:=Tryz.zeroValue287
 t233:=Tryz.underlying288
 a233:=Tryz.isAgg288
 z233:=Tryz.sizeOf288
 v233:=Tryz.zeroValue288
 g17:=oD
 g18:=oD
 g19:=oD
 i0:=oD
 i2:=oD
 i3:=oD
 i4:=oD
 i5:=oD
 i9:=oD
 i20:=oD
 i37:=oD
 i46:=oD
 i51:=oD
 i53:=oD
 i171:=oD
 i173:=oD
 i212:=oD
 i232:=oD
 i233:=oD
 m17:=oD
 m18:=oD
 m19:=by kernel_rfl }
abbrev Tryz.laysC172_ren:Go.Shelf.Ren:=Tryz.uniR
def Tryz.laysC172:Go.Proofs.LaysC.n172 Tryz.prog Tryz.laysC172_ren:={ Tryz.laysM171 with
 f172:=Tryz.lfn Tryz.func267
 f205:=Tryz.lfn Tryz.func320
 f244:=Tryz.lfn Tryz.func281
 f245:=Tryz.lfn Tryz.func282
 f247:=Tryz.lfn Tryz.func297
 f279:=Tryz.lfn Tryz.func298
 f280:=Tryz.lfn Tryz.func299
 f281:=Tryz.lfn Tryz.func300
 f282:=Tryz.lfn Tryz.func301
 f287:=Tryz.lfn Tryz.func318
 f316:=Tryz.lfn Tryz.func319
 f321:=Tryz.lfn Tryz.func326
 f322:=Tryz.lfn Tryz.func327
 t21:=Tryz.underlying21
 a21:=Tryz.isAgg21
 z21:=Tryz.sizeOf21
 v21:=Tryz.zeroValue21
 t75:=Tryz.underlying144
 a75:=Tryz.isAgg144
 z75:=Tryz.sizeOf144
 v75:=Tryz.zeroValue144
 t76:=Tryz.underlying145
 a76:=Tryz.isAgg145
 z76:=Tryz.sizeOf145
 v76:=Tryz.zeroValue145
 t85:=Tryz.underlying346
 a85:=Tryz.isAgg346
 z85:=Tryz.sizeOf346
 v85:=Tryz.zeroValue346
 t127:=Tryz.underlying181
 a127:=Tryz.isAgg181
 z127:=Tryz.sizeOf181
 v127:=Tryz.zeroValue181
 t143:=Tryz.underlying372
 a143:=Tryz.isAgg372
 z143:=Tryz.sizeOf372
 v143:=Tryz.zeroValue372
 t145:=Tryz.underlying374
 a145:=Tryz.isAgg374
 z145:=Tryz.sizeOf374
 v145:=Tryz.zeroValue374
 t167:=Tryz.underlying345
 a167:=Tryz.isAgg345
 z167:=Tryz.sizeOf345
 v167:=Tryz.zeroValue345
 t168:=Tryz.underlying348
 a168:=Tryz.isAgg348
 z168:=Tryz.sizeOf348
 v168:=Tryz.zeroValue348
 t175:=Tryz.underlying361
 a175:=Tryz.isAgg361
 z175:=Tryz.sizeOf361
 v175:=Tryz.zeroValue361
 t210:=Tryz.underlying364
 a210:=Tryz.isAgg364
 z210:=Tryz.sizeOf364
 v210:=Tryz.zeroValue364
 g15:=oD
 g16:=oD
 t80:=Tryz.underlying148
 a80:=Tryz.isAgg148
 z80:=Tryz.sizeOf148
 v80:=Tryz.zeroValue148
 i21:=oD
 i75:=oD
 i76:=oD
 i80:=oD
 i85:=oD
 i127:=oD
 i143:=oD
 i145:=oD
 i167:=oD
 i168:=oD
 i175:=oD
 i210:=oD
 m15:=oD
 m16:=oD
 c0:=oD
 c2:=oD
 c3:=oD
 c4:=oD
 c5:=oD
 c9:=oD
 c20:=oD
 c21:=oD
 c37:=oD
 c46:=oD
 c51:=oD
 c53:=oD
 c75:=oD
 c76:=oD
 c80:=oD
 c85:=oD
 c127:=oD
 c143:=oD
 c145:=oD
 c167:=oD
 c168:=oD
 c171:=oD
 c173:=oD
 c175:=oD
 c210:=oD
 c212:=oD
 c213:=oD
 c232:=oD
 c233:=by kernel_rfl }
abbrev Tryz.lays185_ren:Go.Shelf.Ren:=Tryz.uniR
def Tryz.lays185:Go.Proofs.Lays.n185 Tryz.prog Tryz.lays185_ren:={ Tryz.laysM171 with
 f115:=Tryz.lfn Tryz.func17
 f185:=Tryz.lfn Tryz.func130
 f187:=Tryz.lfn Tryz.func164
 f224:=Tryz.lfn Tryz.func166
 f253:=Tryz.lfn Tryz.func165
 f254:=Tryz.lfn Tryz.func167
 f255:=Tryz.lfn Tryz.func202
 f291:=Tryz.lfn Tryz.func203
 t146:=Tryz.underlying177
 a146:=Tryz.isAgg177
 z146:=Tryz.sizeOf177
 v146:=Tryz.zeroValue177
 g1:=by kernel_rfl }
abbrev Tryz.lays138_ren:Go.Shelf.Ren:=Tryz.uniR
def Tryz.lays138:Go.Proofs.Lays.n138 Tryz.prog Tryz.lays138_ren:={ Tryz.laysM171,Tryz.lays185 with
 f138:=Tryz.lfn Tryz.func356
 f143:=Tryz.lfn Tryz.func359
 f195:=Tryz.lfn Tryz.func357
 f217:=Tryz.lfn Tryz.func264
 f218:=Tryz.lfn Tryz.func358
 f219:=Tryz.lfn Tryz.func249
 f225:=Tryz.lfn Tryz.func263
 f266:=Tryz.lfn Tryz.func280
 f267:=Tryz.lfn Tryz.func273
 f314:=Tryz.lfn Tryz.func287 }
abbrev Tryz.lays165_ren:Go.Shelf.Ren:=Tryz.uniR
def Tryz.lays165:Go.Proofs.Lays.n165 Tryz.prog Tryz.lays165_ren:={ Tryz.laysM171 with
 f165:=Tryz.lfn Tryz.func95
 f240:=Tryz.lfn Tryz.func134
 f241:=Tryz.lfn Tryz.func135
 f276:=Tryz.lfn Tryz.func168
 f277:=Tryz.lfn Tryz.func169
 t70:=Tryz.underlying139
 a70:=Tryz.isAgg139
 z70:=Tryz.sizeOf139
 v70:=Tryz.zeroValue139
 t72:=Tryz.underlying141
 a72:=Tryz.isAgg141
 z72:=Tryz.sizeOf141
 v72:=Tryz.zeroValue141
 t164:=Tryz.underlying210
 a164:=Tryz.isAgg210
 z164:=Tryz.sizeOf210
 v164:=Tryz.zeroValue210 }
abbrev Tryz.lays169_ren:Go.Shelf.Ren:=Tryz.uniR
def Tryz.lays169:Go.Proofs.Lays.n169 Tryz.prog Tryz.lays169_ren:={ Tryz.laysM171,Tryz.lays165,Tryz.laysC172 with
 f169:=Tryz.lfn Tryz.func98 }
abbrev Tryz.lays196_ren:Go.Shelf.Ren:=Tryz.uniR
def Tryz.lays196:Go.Proofs.Lays.n196 Tryz.prog Tryz.lays196_ren:={ Tryz.laysM171 with
 f196:=Tryz.lfn Tryz.func187
 f259:=Tryz.lfn Tryz.func222
 t12:=Tryz.underlying12
 a12:=Tryz.isAgg12
 z12:=Tryz.sizeOf12
 v12:=Tryz.zeroValue12
 t119:=Tryz.underlying249
 a119:=Tryz.isAgg249
 z119:=Tryz.sizeOf249
 t138:=Tryz.underlying251
 a138:=Tryz.isAgg251
 z138:=Tryz.sizeOf251
 v138:=Tryz.zeroValue251
 t139:=Tryz.underlying252
 a139:=Tryz.isAgg252
 z139:=Tryz.sizeOf252
 v139:=Tryz.zeroValue252
 g3:=oD
 g4:=by kernel_rfl }
abbrev Tryz.lays197_ren:Go.Shelf.Ren:=Tryz.uniR
def Tryz.lays197:Go.Proofs.Lays.n197 Tryz.prog Tryz.lays197_ren:={ Tryz.laysM171,Tryz.laysC172,Tryz.lays196 with
 f197:=Tryz.lfn Tryz.func226
 f260:=Tryz.lfn Tryz.func250
 t105:=Tryz.underlying173
 a105:=Tryz.isAgg173
 z105:=Tryz.sizeOf173
 v105:=Tryz.zeroValue173 }
abbrev Tryz.lays105_ren:Go.Shelf.Ren:=Tryz.uniR
def Tryz.lays105:Go.Proofs.Lays.n105 Tryz.prog Tryz.lays105_ren:={ Tryz.laysM171,Tryz.lays165,Tryz.lays169,Tryz.laysC172,Tryz.lays185 with
 f99:=Tryz.lfn Tryz.func94
 f105:=Tryz.lfn Tryz.func62
 f166:=Tryz.lfn Tryz.func96
 f170:=Tryz.lfn Tryz.func97
 f206:=Tryz.lfn Tryz.func133
 f212:=Tryz.lfn Tryz.func93
 f263:=Tryz.lfn Tryz.func131
 f264:=Tryz.lfn Tryz.func132
 t109:=Tryz.underlying137
 a109:=Tryz.isAgg137
 z109:=Tryz.sizeOf137
 v109:=Tryz.zeroValue137
 t148:=Tryz.underlying179
 a148:=Tryz.isAgg179
 z148:=Tryz.sizeOf179
 v148:=Tryz.zeroValue179 }
def Tryz.sortP_ren:Go.Shelf.Ren:=⟨fun|6=>269|15=>284|14=>283|28=>310|29=>176|20=>302|21=>303|22=>304|23=>305|24=>306|25=>307|26=>308|27=>309|46=>321|47=>322|48=>323|49=>324|50=>325|57=>328|n=>n,fun|22=>265|24=>267|25=>317|3=>3|39=>136|0=>0|53=>176|55=>41|4=>4|46=>353|45=>352|50=>293|5=>5|9=>9|66=>366|70=>370|76=>375|77=>192|n=>n,fun|n=>n⟩
def Tryz.sortP:Go.Proofs.SlLaysF0.n6 Tryz.prog Tryz.sortP_ren:={
 mixed:=oD
 f6:=⟨Tryz.f269.name,oF,Tryz.lfn Tryz.func269⟩
 f14:=⟨Tryz.f283.name,oF,Tryz.lfn Tryz.func283⟩
 f15:=Tryz.lfn Tryz.func284
 f20:=⟨Tryz.f302.name,oF,Tryz.lfn Tryz.func302⟩
 f21:=⟨Tryz.f303.name,oF,Tryz.lfn Tryz.func303⟩
 f22:=⟨Tryz.f304.name,oF,Tryz.lfn Tryz.func304⟩
 f23:=⟨Tryz.f305.name,oF,Tryz.lfn Tryz.func305⟩
 f24:=⟨Tryz.f306.name,oF,Tryz.lfn Tryz.func306⟩
 f25:=⟨Tryz.f307.name,oF,Tryz.lfn Tryz.func307⟩
 f26:=⟨Tryz.f308.name,oF,Tryz.lfn Tryz.func308⟩
 f27:=⟨Tryz.f309.name,oF,Tryz.lfn Tryz.func309⟩
 f28:=Tryz.lfn Tryz.func310
 f29:=Tryz.lfn Tryz.func176
 f46:=⟨Tryz.f321.name,oF,Tryz.lfn Tryz.func321⟩
 f47:=Tryz.lfn Tryz.func322
 f48:=Tryz.lfn Tryz.func323
 f49:=⟨Tryz.f324.name,oF,Tryz.lfn Tryz.func324⟩
 f50:=⟨Tryz.f325.name,oF,Tryz.lfn Tryz.func325⟩
 f57:=⟨Tryz.f328.name,oF,Tryz.lfn Tryz.func328⟩
 t0:=Tryz.underlying0
 a0:=Tryz.isAgg0
 z0:=Tryz.sizeOf0
 v0:=Tryz.zeroValue0
 t3:=Tryz.underlying3
 a3:=Tryz.isAgg3
 z3:=Tryz.sizeOf3
 v3:=Tryz.zeroValue3
 t4:=Tryz.underlying4
 a4:=Tryz.isAgg4
 z4:=Tryz.sizeOf4
 v4:=Tryz.zeroValue4
 t5:=Tryz.underlying5
 a5:=Tryz.isAgg5
 z5:=Tryz.sizeOf5
 v5:=Tryz.zeroValue5
 t9:=Tryz.underlying9
 a9:=Tryz.isAgg9
 z9:=Tryz.sizeOf9
 v9:=Tryz.zeroValue9
 t22:=Tryz.underlying265
 a22:=Tryz.isAgg265
 z22:=Tryz.sizeOf265
 v22:=Tryz.zeroValue265
 t25:=Tryz.underlying317
 a25:=Tryz.isAgg317
 z25:=Tryz.sizeOf317
 v25:=Tryz.zeroValue317
 t39:=Tryz.underlying136
 a39:=Tryz.isAgg136
 z39:=Tryz.sizeOf136
 v39:=Tryz.zeroValue136
 t45:=Tryz.underlying352
 a45:=Tryz.isAgg352
 z45:=Tryz.sizeOf352
 v45:=Tryz.zeroValue352
 t46:=Tryz.underlying353
 a46:=Tryz.isAgg353
 z46:=Tryz.sizeOf353
 v46:=Tryz.zeroValue353
 t50:=Tryz.underlying293
 a50:=Tryz.isAgg293
 z50:=Tryz.sizeOf293
 v50:=Tryz.zeroValue293
 t53:=Tryz.underlying176
 a53:=Tryz.isAgg176
 z53:=Tryz.sizeOf176
 v53:=Tryz.zeroValue176
 t55:=Tryz.underlying41
 a55:=Tryz.isAgg41
 z55:=Tryz.sizeOf41
 v55:=Tryz.zeroValue41
 t66:=Tryz.underlying366
 a66:=Tryz.isAgg366
 z66:=Tryz.sizeOf366
 v66:=Tryz.zeroValue366
 t70:=Tryz.underlying370
 a70:=Tryz.isAgg370
 z70:=Tryz.sizeOf370
 v70:=Tryz.zeroValue370
 t76:=Tryz.underlying375
 a76:=Tryz.isAgg375
 z76:=Tryz.sizeOf375
 v76:=Tryz.zeroValue375
 t77:=Tryz.underlying192
 a77:=Tryz.isAgg192
 z77:=Tryz.sizeOf192
 v77:=Tryz.zeroValue192 }
end Go.Proofs
namespace Go.Sym
open Go.RowKit
variable[LC]
def de.data{P:Program}{f:FuncId}{xs:List AV}{r:AV}
  (h:∀(w:World)(G:Gh)(vs:List Value),cv G [] w->am xs G vs->Calls P f vs.toArray w fun e w'=>∃v,e = .returned v/\aj r G v/\cm w w'):de P f xs [] r []:=by
 intro w G vs hm hr;refine(h w G vs hm hr).mono ?_;rintro e w' ⟨v,rfl,hv,hs⟩
 refine⟨v,G,rfl,?_,hv⟩;exact(qgp hm).extend (new:=[]) (Gh.le.refl G) hs (fun _ _ _ h => .inl h) (fun b o v hv=>by
  have hc:=hm.agree b o v hv;have hlt:=World.block_lt_of_cell? _ _ hc;rw[World.cell?_of_block (w:=w) (hs.block b hlt (fun h=>h))];exact hc) hm.one (fun n bx h=>by cases h) (fun n bx h=>by cases h) (fun n m bx bx' b h=>by cases h)
def cm.of_below{w w':World}(h:Below w.heap.size w w'):cm w w':=⟨h.os,h.tape,h.output,h.size,fun k hk _=>h.block k hk⟩
def cm.refl(w:World):cm w w:=⟨rfl,rfl,rfl,wF _,fun _ _ _=>rfl⟩
def de.fresh{P:Program}{f:FuncId}{xs:List AV}{τ:Ty}{l:List τ.den}{E:TypeId}
  (h:∀(w:World)(G:Gh)(vs:List Value),cv G [] w->am xs G vs->Calls P f vs.toArray w fun e w'=>∃ad c us,e = .returned (.slice ad l.length c)/\gx w' E τ.sz ad l.length c us/\am (l.flatMap τ.enc) G.data us/\(∀b,cz ad=some b->w.heap.size<=b)/\cm w w') :
  de P f xs [] (.own 0) [(0,.row τ l E)]:=by
 intro w G vs hm hr;refine(h w G vs hm hr).mono ?_;rintro e w' ⟨ad,c,us,rfl,hrow,hus,hb,hs⟩
 let G':Gh:={ imm:=G.imm,box:=fun _=>none,own:=fun m=>bif Nat.beq m 0 then some (ad,l.length,c) else none }
 have hself:(G'.own 0)=some (ad,l.length,c):=rfl;have hag:∀b o v,G.imm b o=some v->w'.cell? ⟨b,o,none⟩=some v:=fun b o v hv=>by
  have hc:=hm.agree b o v hv;have hlt:=World.block_lt_of_cell? _ _ hc;rw[World.cell?_of_block (w:=w) (hs.block b hlt (fun h=>h))];exact hc
 have hlt:∀b o v,G.imm b o=some v->b<w.heap.size:=fun b o v hv=>World.block_lt_of_cell? _ _ (hm.agree b o v hv)
 have hlk:∀m b,ag [(0,ah.row τ l E)] m=some b->m=0/\b = .row τ l E:=fun m b hh=>by
  simp only[ag]at hh;cases hb:Nat.beq 0 m
  ·rw[hb]at hh;cases hh
  ·rw[hb]at hh;simp only[qT,qI]at hh;exact⟨(qN hb).symm,hh.symm⟩
 have hat:G'.at 0 (.row τ l E)=cz ad:=by
  simp only[Gh.at,hself];cases ad<;>rfl
 refine⟨.slice ad l.length c,G',rfl,⟨⟨hag,hm.one,fun m b hh => ?_,fun m m' b b' c' h1 h2 _ _ => ?_,LC.mono (fun _ _ _ h=>h) (fun b o v h=>hs.block b (hlt b o v h) fun h=>h) hm.tab⟩,⟨hs.os,hs.tape,hs.output,hs.size,fun k hk _=>hs.block k hk fun h=>h⟩,fun _ _ _ h=>h,fun _ _ _ h => .inl h,fun m b c' h1 h2 => ?_,fun _ _ _ h=>(by cases h),fun _ _ _ h=>(by cases h)⟩,ad,l.length,c,hself,rfl⟩
 ·obtain⟨rfl,rfl⟩:=hlk m b hh;refine dp.row hself hrow (am.data_le (fun _ _ _ h=>h) hus) fun b hb' o => ?_
  cases hq:G.imm b o with|none=>rfl|some v=>have:=hlt b o v hq;have:=hb b hb';omega
 ·obtain⟨rfl,_⟩:=hlk m b h1;obtain⟨rfl,_⟩:=hlk m' b' h2;rfl
 ·obtain⟨rfl,rfl⟩:=hlk m b h1;rw[hat]at h2;exact .inl (hb c' h2)
def zl3{P:Program}{G:Gh}{w:World}(hm:cv G [] w){τ:Ty}{l:List τ.den}{v:Value}(h:aj (.sl τ l) G v) :
  ∃news,(∀w,(Builtin.lenOf v).run P w = .ok l.length w)/\(∀w',(∀k,k<w.heap.size->w'.heap[k]? = w.heap[k]?)->(Builtin.firstCells τ.sz l.length v).run P w' = .ok news.toArray w')/\am (l.flatMap τ.enc) G.data news/\∀u∈news,u.oneCell'=true:=by
 let s:St:={ n:=0,fr:=[],hp:=[],nx:=0,df:=[] }
 have hr:ak w G.data [] G.data s { tmps:=#[],defers:=[] } w:=
  ⟨⟨[],rfl,rfl⟩,rfl,fun i x h=>(by cases h),fun _ _ _=>⟨rfl,rfl⟩,qgp ⟨hm.agree,hm.one,fun _ _ h=>(by cases h),fun _ _ _ _ _ h=>(by cases h),hm.tab⟩⟩
 rcases qpk hr (x := .sl τ l) (v:=v) (flat:=l.flatMap τ.enc) (n:=l.length) h rfl with⟨b,hb,_⟩|⟨ad,c,us,rfl,h1,h2,h3⟩
 ·cases hb
 ·refine⟨us,fun w=>by simp[Builtin.lenOf],fun w' hw' => ?_,h1,h2⟩
  have hul:us.length=l.length*τ.sz:=by rw[← h1.length,pa]
  cases ad with
  |none=>
   have:us=[]:=by
    rcases h3 with h3|⟨_,_,h3,_⟩
    ·exact h3
    ·cases h3
   subst this;simp[Builtin.firstCells]
  |some ad=>
   have h3':us=[]\/∃b o,some ad=some (⟨b,o,none⟩:Addr)/\∀j u,us[j]? = some u->w'.cell? ⟨b,o+j,none⟩=some u:=by
    rcases h3 with h3|⟨b,o,h4,h5⟩
    ·exact .inl h3
    ·refine .inr ⟨b,o,h4,fun j u hu => ?_⟩
     have hc:=h5 j u hu;rw[World.cell?_of_block (w:=w) (hw' _ (World.block_lt_of_cell? _ _ hc))];exact hc
   have:=qhw (P:=P) (w:=w') (ad:=ad) h3';rw[hul]at this;simp[Builtin.firstCells,this]
def znh{P:Program}{ops:Array Oper}{rest:List Oper}{o:Oper}{a:Act}{w:World}{Q:Exit->Act->World->Prop}(hgd:o.guard=none)(s x:Operand)(t:TypeId)
  (ho:o.op = .call { callee := .builtin .append,args:=#[s,x],argTypes:=#[t,t] }) {E:TypeId} {sz:Nat} (ht:P.underlying t=some (.slice E)) (hz:og P E=true) (hsz:er P E=some sz) (ht2:qdj P t=true)
  {ad:Option Addr} {n c:Nat} {us:List Value} (hs:a.eval s = .slice ad n c) (hrow:gx w E sz ad n c us) {v:Value} (hx:a.eval x=v) {m:Nat} {news:List Value}
  (ac:∀w,(Builtin.lenOf v).run P w = .ok m w) (hcells:∀w',w'.heap=w.heap->(Builtin.firstCells sz m v).run P w' = .ok news.toArray w') (hnl:news.length=m*sz) (hn1:∀v∈news,v.oneCell'=true) (hmax:n+m<=az)
  (h:∀ad' c' w',gx w' E sz ad' (n+m) c' (us++news)->(cz ad'=cz ad\/∃g,cz ad'=some g/\w.heap.size<=g)->e7 (fun b=>cz ad=some b) w w'->wpList P ops Q rest (a.put o.dst (.slice ad' (n+m) c')) w'):wpList P ops Q (o::rest) a w:=by
 obtain⟨i,z,hi,hz',z1,z2,z3,z4,zs⟩:=qqj hz hsz;rw[← zs]at hrow hcells hnl h;refine wpList_plain hgd fun _ hK => ?_
 obtain⟨ad',c',w',r1,r2,r3,r4⟩:=zlp (ty:=o.type) ht hi hz' z1 z2 z3 z4 ht2 hrow ac hcells hnl hn1 hmax;unfold Oper.wp execOp;simp only[ho,resolve,invoke,builtin,Sem.run_bind,Sem.run_pure,Result.andThen_ok,List.map_toArray,List.map_cons,List.map_nil,hs,hx,r1];exact hK _ _ (h ad' c' w' r2 r3 r4)
end Go.Sym
namespace Go.Sym
open Go.Proofs Go.RowKit Go.Sort
open Go.Proofs.Tryz
variable[LC]
def cm.below{w w':World}(h:cm w w'):Below w.heap.size w w':=⟨h.os,h.tape,h.output,h.size,fun k hk=>h.block k hk (fun h=>h)⟩
def cv.still{G:Gh}{w w':World}(hm:cv G [] w)(hs:cm w w'):cv G [] w':=
 have hlt:∀b o v,G.imm b o=some v->w'.heap[b]? = w.heap[b]? := fun b o v hv=>hs.block b (World.block_lt_of_cell? _ _ (hm.agree b o v hv)) (fun h=>h)
 ⟨fun b o v hv=>by rw[World.cell?_of_block (w:=w) (hlt b o v hv)];exact hm.agree b o v hv,hm.one,fun n bx h=>(by cases h),fun n m bx bx' b h=>(by cases h),LC.mono (fun _ _ _ h=>h) hlt hm.tab⟩
def z0n{G:Gh}{w:World}(hm:cv G [] w)(hg:LC.glob 1=some ⟨.int .u64,Lib.pow10Tab⟩)(hs:(1,20)∈LC.sizes):∃t fr,w.heap[1]? = some (.cells (Lib.pow10Tab.map fun z=>Value.int .u64 z).toArray t fr):=by
 obtain⟨_,cs,t,fr,hh,hz⟩:=hm.tab.2.2.2 _ hs;refine⟨t,fr,hh.trans ?_⟩;congr 2;apply Array.ext
 ·rw[hz];simp[Lib.pow10Tab]
 ·intro j h1 h2;have hj:j<Lib.pow10Tab.length:=by simpa using h2
  have h3:=hm.agree _ _ _ (hm.tab.1 _ _ _ hg j _ (List.getElem?_eq_getElem hj));rw[show j*(Ty.int .u64).sz=j from Nat.mul_one j]at h3
  simp only[World.cell?,hh]at h3;rw[Array.getElem?_eq_getElem h1]at h3;simp only[List.getElem_toArray,List.getElem_map];exact qJ h3
def zid{G:Gh}{w:World}(hm:cv G [] w)(hg:LC.glob 1=some ⟨.int .u64,Lib.pow10Tab⟩)(hs:(1,20)∈LC.sizes)(n:Int)(h0 : -9223372036854775808<=n)(h1:n<=9223372036854775807) :
  Calls Tryz.prog 34 #[.int .i64 n] w fun e w'=>e = .returned (.string ⟨(Lib.itoa n).toArray⟩)/\cm w w':=
 (Any.strconv_Itoa Tryz.laysM171 n h0 h1 w (by
  unfold Lib.TabIs World.var?;obtain⟨t,fr,hh⟩:=z0n hm hg hs;rw[show Tryz.prog.globalNamed _=some 1 by kernel_rfl,qB,hh])).mono fun e w'⟨he,k,os,hw⟩=>⟨he,by
   subst hw;refine⟨rfl,rfl,rfl,by simp[grow],fun j hj _ => ?_⟩
   show(w.heap++os)[j]? = _;rw[Array.getElem?_append_left hj]⟩
def q7b:IF:=⟨.fn 34,[.h (.int .i64)],[],_,RS.mk (.h .str) []⟩
def zie(hg:LC.glob 1=some ⟨.int .u64,Lib.pow10Tab⟩)(hs:(1,20)∈LC.sizes):(q7b.e om).Sound Tryz.prog:=fun d d' r h=>by
 have h:om d.1=some r:=h;unfold om at h;cases hd:decide (-9223372036854775808<=(show Int from d.1)/\(show Int from d.1)<=9223372036854775807)<;>rw[hd]at h<;>simp only[qT,qF,reduceCtorEq]at h
 have h:=qJ h;subst h;have hd:=of_decide_eq_true hd;refine⟨call34,de.data fun w G vs hm hr => ?_⟩
 match vs,hr with
 |[v],⟨h1,_⟩=>
  have h1:v = .int .i64 d.1:=h1;subst h1;exact(zid hm hg hs _ hd.1 hd.2).mono fun e w'⟨he,hw⟩=>⟨_,he,rfl,hw⟩
def zw4{G:Gh}{w:World}(hm:cv G [] w)(hi:0∈LC.ints){a b:Bs}{u v:Value}(hu:aj (.sl .byte a) G u)(hv:aj (.sl .byte b) G v)(h2:2<=b.length)(hb:b.length<=maxLen)(ha:a.length<4294967281) :
  Calls Tryz.prog 130 #[u,v] w fun e w'=>e = .returned (.int .i64 (Lib.index a b))/\cm w w':=by
 obtain⟨p,c,rfl,hc,hp⟩:ll 1 (Ty.byte.At G.imm) a u:=hu;obtain⟨q,d,rfl,hd,hq⟩:ll 1 (Ty.byte.At G.imm) b v:=hv;by_cases hlt:a.length<b.length
 ·have h:=Any.bytes_Index_longer Tryz.lays185 p q a.length c b.length d w h2 hlt (by unfold maxLen at hb;omega)
  rw[Lib.index_past (i:=0) (by intro e;subst e;simp at h2) (fun j hj=>absurd hj (Nat.not_lt_zero _)) (by simpa using hlt)]
  exact h.mono fun e w'⟨he,hw⟩=>⟨he,by subst hw;exact cm.refl _⟩
 ·rcases hp with rfl|⟨g,o,rfl,hcells⟩
  ·exact absurd (show([]:Bs).length<b.length from by show 0<_;omega) hlt
  rcases hq with rfl|⟨g',o',rfl,hcells'⟩
  ·exact absurd h2 (by show ¬2<=0;omega)
  obtain⟨k,hk⟩:=hm.tab.2.1 _ hi;have hk:=hm.agree _ _ _ hk;have bb:∀l:Bs,Lib.bytesOf (l.map fun x=>(x.toNat:Int))=l:=fun l=>by
   unfold Lib.bytesOf;rw[List.map_map];have:((fun n:Int=>UInt8.ofNat n.toNat) ∘ fun x:UInt8=>(x.toNat:Int))=id:=by funext x;simp
   rw[this,List.map_id]
  have cl:∀(l:Bs)(g o:Nat),(∀(j:Nat)(x:UInt8),l[j]? = some x->Ty.byte.At G.imm x g (o+j*1))->∀i,i<l.length->w.cell? ((⟨g,o,none⟩:Addr).add i)=some (.int .u8 ((l.map fun x=>(x.toNat:Int)).getD i 0)):=fun l g o h i hi=>by
   have h1:G.imm g (o+i*1)=some (.int .u8 l[i].toNat):=h i _ (List.getElem?_eq_getElem hi);have h1:=hm.agree _ _ _ h1;rw[Nat.mul_one]at h1;rw[Lib.add_plain',h1];simp[List.getD_eq_getElem?_getD,hi]
  have rg:∀l:Bs,∀x∈l.map (fun x=>(x.toNat:Int)),0<=x/\x<256:=fun l x hx=>by
   obtain⟨c,_,rfl⟩:=List.mem_map.1 hx;have:=c.toNat_lt;omega
  have h:=Any.bytes_Index_at Tryz.lays185 ⟨g,o,none⟩ ⟨g',o',none⟩ a.length c b.length d (a.map fun x=>(x.toNat:Int)) (b.map fun x=>(x.toNat:Int)) k w oC oC (rg a) (rg b) (cl a g o hcells) (cl b g' o' hcells') hc ha (by unfold maxLen at hb;omega) hk
  rw[bb,bb]at h;exact h.mono fun e w'⟨he,n,hw⟩=>⟨he,by subst hw;exact⟨rfl,rfl,rfl,wF _,fun _ _ _=>rfl⟩⟩
def q5l:IF:=⟨.fn 130,[.h (.list .byte),.h (.list .byte)],[],_,RS.mk (.h (.int .i64)) []⟩
def zfe(hi:0∈LC.ints):(q5l.e uj).Sound Tryz.prog:=fun d d' r h=>by
 obtain⟨a,b,_⟩:=d;have h:uj a b=some r:=h;unfold uj at h;cases hd:decide (2<=List.length (α:=UInt8) b/\List.length (α:=UInt8) a<4294967281/\List.length (α:=UInt8) b<=maxLen)<;>rw[hd]at h<;>simp only[qT,qF,reduceCtorEq]at h
 have h:=qJ h;subst h;have hd:=of_decide_eq_true hd;refine⟨call130,de.data fun w G vs hm hr => ?_⟩
 match vs,hr with
 |[u,v],⟨h1,h2,_⟩=>
  exact(zw4 hm hi h1 h2 hd.1 hd.2.2 hd.2.1).mono fun e w'⟨he,hw⟩=>⟨_,he,rfl,hw⟩
end Go.Sym
namespace Go.Sym
open Go.Proofs Go.RowKit Go.Sort
variable[LC]
def cm.trans{w w1 w2:World}(h:cm w w1)(k:cm w1 w2):cm w w2:=
 ⟨k.os.trans h.os,k.tape.trans h.tape,k.output.trans h.output,Nat.le_trans h.size k.size,fun j hj _=>(k.block j (Nat.lt_of_lt_of_le hj h.size) (fun h=>h)).trans (h.block j hj (fun h=>h))⟩
def zs1{l:Bs}{v:Int}(h:Lib.atoiAll l = .ok v) : -9223372036854775808<=v/\v<=9223372036854775807:=by
 unfold Lib.atoiAll at h;split at h
 ·cases h
 ·simp only at h;split at h
  ·cases h
  ·cases h
  ·split at h
   ·cases h
   ·split at h
    ·cases h
    ·rename_i h1 h2;injection h with h
     split at h<;>rename_i h3
     ·simp only[h3,not_true_eq_false,false_and,true_and]at h1 h2;omega
     ·simp only[h3,not_false_eq_true,true_and,false_and]at h1 h2;omega
def zzd{G:Gh}{w:World}(hm:cv G [] w)(hg:LC.glob 1=some ⟨.int .u64,Lib.pow10Tab⟩)(hs:(1,20)∈LC.sizes)(h1:6∈LC.ifs)(h2:7∈LC.ifs)(s:Bs)(most:Int)(hl:s.length<=281474976710656) :
  Calls Tryz.prog 244 #[.string ⟨s.toArray⟩,.int .i64 most] w fun e w'=>e = .returned (.tuple #[.int .i64 (jb s most).1,.bool (jb s most).2])/\cm w w':=by
 have hsz:(⟨s.toArray⟩:ByteArray).size=s.length:=tx s;have hd:(⟨s.toArray⟩:ByteArray).data.toList=s:=oC
 have bw:∀t:ByteArray,cm w (Lib.bytesWorld w 5 t):=fun t=>by
  refine⟨rfl,rfl,rfl,?_,fun j hj _ => ?_⟩
  ·simp[Lib.bytesWorld,World.freeze]
  ·show((w.heap.push _).modify w.heap.size _)[j]? = _;rw[Array.getElem?_modify,qW oA,Array.getElem?_push_lt oA]
   exact(Array.getElem?_eq_getElem hj).symm
 have bad:(Calls Tryz.prog 267 #[.string ⟨s.toArray⟩] w fun e w'=>(∃n t v,e = .returned (.tuple #[.int .i64 n,.iface t v]))/\cm w w') ->
   Calls Tryz.prog 244 #[.string ⟨s.toArray⟩,.int .i64 most] w fun e w'=>e = .returned (.tuple #[.int .i64 0,.bool false])/\cm w w':=fun cA=>by
  clear hg hs hm
  go_enter Tryz.func244,Tryz.ntmps244
  go_wp2_with (go_at_call 267;refine cA.mono ?_;rintro e wa ⟨⟨n,t,v,rfl⟩,sa⟩)
  all_goals (clear cA;go_ret2;exact⟨rfl,sa⟩)
 unfold jb
 cases hA:Lib.atoiAll s with
 |ok v=>
  obtain⟨b1,b2⟩:=zs1 hA;have cA:Calls Tryz.prog 267 #[.string ⟨s.toArray⟩] w fun e w'=>e = .returned (.tuple #[.int .i64 v,.nilIface])/\cm w w':=
   (Any.strconv_Atoi_ok Tryz.laysC172 ⟨s.toArray⟩ oA v (by rw[hd];exact hA) w).mono fun e w'⟨he,hw⟩=>⟨he,by
    rcases hw with rfl|⟨t,rfl⟩
    ·exact cm.refl _
    ·exact bw t⟩
  have cI:∀w',cm w w'->Calls Tryz.prog 34 #[.int .i64 v] w' fun e w''=>e = .returned (.string ⟨(Lib.itoa v).toArray⟩)/\cm w' w'':=fun w' h=>zid (hm.still h) hg hs v b1 b2
  have hse:(⟨(Lib.itoa v).toArray⟩:ByteArray)=⟨s.toArray⟩↔Lib.itoa v=s:=by
   constructor
   ·intro h;have:=congrArg (fun x:ByteArray=>x.data.toList) h;simpa using this
   ·intro h;rw[h]
  show Calls Tryz.prog 244 _ w fun e w'=>e = .returned (.tuple #[.int .i64 (if Lib.itoa v=s/\0<=v/\v<=most then(v,true) else(0,false)).1,.bool (if Lib.itoa v=s/\0<=v/\v<=most then(v,true) else(0,false)).2])/\cm w w'
  generalize Lib.itoa v=t at cI hse ⊢;obtain⟨r,hr⟩:∃r,r=(if t=s/\0<=v/\v<=most then(v,true) else(0,false)):=⟨_,rfl⟩
  rw[← hr];clear hA hg hs hm
  go_enter Tryz.func244,Tryz.ntmps244
  go_wp2_with (first|(go_at_call 267;refine cA.mono ?_;rintro e wa ⟨rfl,sa⟩)|(go_at_call 34;refine(cI _ (by assumption)).mono ?_;rintro e wb ⟨rfl,sb⟩))
  all_goals (clear cA cI;go_ret2)
  all_goals (by_cases q:t=s/\0<=v/\v<=most)
  all_goals first
   |(rw[qX q]at hr;subst hr;first|exact⟨rfl,sa.trans sb⟩|(exfalso;omega)|(exfalso;exact absurd q.1 (by assumption)))
   |(rw[qW q]at hr;subst hr;first|exact⟨rfl,sa.trans sb⟩|(exfalso;exact q ⟨by assumption,oA,oA⟩))
 |range=>
  obtain⟨te,pe,hv⟩:=hm.tab.2.2.1 _ h2;have cA:Calls Tryz.prog 267 #[.string ⟨s.toArray⟩] w fun e w'=>(∃n t v,e = .returned (.tuple #[.int .i64 n,.iface t v]))/\cm w w':=
   (Any.strconv_Atoi_range Tryz.laysC172 ⟨s.toArray⟩ oA (by rw[hd];exact hA) _ w (hm.agree _ _ _ hv) (.inr ⟨_,_,rfl⟩)).mono fun e w'⟨N,he,_,_,hw⟩=>⟨⟨_,_,_,he⟩,cm.of_below hw⟩
  exact bad cA
 |_=>
  obtain⟨te,pe,hv⟩:=hm.tab.2.2.1 _ h1;have cA:Calls Tryz.prog 267 #[.string ⟨s.toArray⟩] w fun e w'=>(∃n t v,e = .returned (.tuple #[.int .i64 n,.iface t v]))/\cm w w':=
   (Any.strconv_Atoi_syntax Tryz.laysC172 ⟨s.toArray⟩ oA (by rw[hd];exact hA) _ w (hm.agree _ _ _ hv) (.inr ⟨_,_,rfl⟩)).mono fun e w'⟨N,he,_,_,hw⟩=>⟨⟨_,_,_,he⟩,cm.of_below hw⟩
  exact bad cA
def zjg:IF:=⟨.fn 244,[.h .str,.h (.int .i64)],[],_,RS.mk (.tup [.h (.int .i64),.h .bool]) []⟩
def zzf(hg:LC.glob 1=some ⟨.int .u64,Lib.pow10Tab⟩)(hs:(1,20)∈LC.sizes)(h1:6∈LC.ifs)(h2:7∈LC.ifs):(zjg.e qb3).Sound Tryz.prog:=fun d d' r h=>by
 obtain⟨s,most,_⟩:=d;have h:qb3 s most=some r:=h;unfold qb3 at h;cases hd:decide (List.length (α:=UInt8) s<=281474976710656)<;>rw[hd]at h<;>simp only[qT,qF,reduceCtorEq]at h
 have h:=qJ h;subst h;refine⟨Tryz.call244,de.data fun w G vs hm hr => ?_⟩
 match vs,hr with
 |[u,v],⟨e1,e2,_⟩=>
  have e1:u = .string ⟨List.toArray s⟩:=e1;have e2:v = .int .i64 most:=e2;subst e1 e2;exact(zzd hm hg hs h1 h2 s most (of_decide_eq_true hd)).mono fun e w'⟨he,hw⟩=>⟨_,he,⟨_,rfl,rfl,rfl,trivial⟩,hw⟩
end Go.Sym
namespace Go.Sym
open Go.Proofs Go.RowKit
variable[LC]
def qv3(w:World)(o:Obj){k:Nat}(hk:k<w.heap.size):(w.alloc o).heap[k]? = w.heap[k]? := by
 show(w.heap.push _)[k]? = _;rw[Array.getElem?_push_lt hk];exact(Array.getElem?_eq_getElem hk).symm
def zlb(w:World)(E:TypeId)(sz:Nat):gx (w.alloc (.cells #[] E)) E sz (some ⟨w.heap.size,0,none⟩) 0 0 []:=
 ⟨oC,.inr ⟨w.heap.size,#[],(0,0),rfl,by show(w.heap.push _)[w.heap.size]? = _;simp,.inl rfl,wF _,by unfold maxLen;omega,oC,oC,oC⟩⟩
def zt6(l:List (.prod .str .str:Ty).den)(hd:l.length<=az):de Tryz.prog 82 [.sl (.prod .str .str) l] [] (.own 0) [(0,.row (.prod .str .str) l 48)]:=by
 refine de.fresh fun w G vs hm hr => ?_
 match vs,hr with
 |[v],⟨h1,_⟩=>
  obtain⟨news,k1,k2,k3,k4⟩:=zl3 (P:=Tryz.prog) hm h1;have hnl:news.length=l.length*(.prod .str .str:Ty).sz:=by rw[← k3.length];exact pa l
  obtain⟨p,c,rfl,hc,hp⟩:ll (.prod .str .str:Ty).sz ((.prod .str .str:Ty).At G.imm) l v:=h1
  cases p with
  |none=>
   have hl:l=[]:=by
    rcases hp with h|⟨_,_,h,_⟩
    ·exact h
    ·cases h
   subst hl;have e0:news=[]:=List.eq_nil_of_length_eq_zero (by rw[hnl];exact Nat.zero_mul _)
   subst e0;have hg:Calls Tryz.prog 82 #[.slice none 0 c] w fun e w'=>e = .returned (.slice none 0 0)/\w'=w:=by
    clear hp hr k1 k2 hm hnl hc hd k3 k4;have q22:∀(w:World)(a:Option Addr)(n c n' c':Nat),(binOp .eql 22 (.slice a n c) (.slice none n' c')).run Tryz.prog w = .ok (.bool a.isNone) w:=fun w a n c n' c'=>Lib.run_eql_slice_nil w _ _ a n c n' c' Tryz.underlying22
    have u22:∀w,Sem.run Tryz.prog (underlying 22) w = .ok (TypeDesc.slice 48) w:=run_underlying Tryz.underlying22
    go_enter Tryz.func82,Tryz.ntmps82
    go_wp2
    go_ret
    exact⟨rfl,rfl⟩
   exact hg.mono fun e w'⟨he,hw⟩=>⟨none,0,[],he,⟨rfl,.inl ⟨rfl,rfl,rfl⟩⟩,k3,fun b hb=>(by cases hb),by subst hw;exact cm.refl _⟩
  |some ad=>
   generalize hn:l.length=n at *;have hg:Calls Tryz.prog 82 #[.slice (some ad) n c] w fun e w'=>∃ad' c',e = .returned (.slice ad' n c')/\gx w' 48 (.prod .str .str:Ty).sz ad' n c' news/\(∀b,cz ad'=some b->w.heap.size<=b)/\cm w w':=by
    clear hm k3 hr hp hn;have q22:∀(w:World)(a:Option Addr)(n c n' c':Nat),(binOp .eql 22 (.slice a n c) (.slice none n' c')).run Tryz.prog w = .ok (.bool a.isNone) w:=fun w a n c n' c'=>Lib.run_eql_slice_nil w _ _ a n c n' c' Tryz.underlying22
    have u22:∀w,Sem.run Tryz.prog (underlying 22) w = .ok (TypeDesc.slice 48) w:=run_underlying Tryz.underlying22
    go_enter Tryz.func82,Tryz.ntmps82
    go_wp2_with (at_builtin;refine znh rfl _ _ 22 rfl (E:=48) (sz:=(.prod .str .str:Ty).sz) oD oD oD oD rfl (zlb w 48 _) rfl k1 ?qc hnl k4 oA ?_)
    case qc=>exact fun w' hw'=>k2 w' fun k hk=>by rw[hw'];exact qv3 w _ hk
    intro ad' c' w1 hrow hblk hbel
    go_wp2
    go_ret
    refine⟨ad',c',rfl,by simpa using hrow,fun b hb => ?_,⟨hbel.os,hbel.tape,hbel.output,Nat.le_trans (by show w.heap.size<=(w.heap.push _).size;simp) hbel.size,fun k hk _ => ?_⟩⟩
    ·rcases hblk with h|⟨g,h,hg⟩
     ·rw[h]at hb;injection hb with hb;have hb:w.heap.size=b:=hb;omega
     ·rw[h]at hb;injection hb with hb
      have:w.heap.size<=(w.alloc (.cells #[] 48)).heap.size:=by show w.heap.size<=(w.heap.push _).size;simp
      omega
    ·rw[hbel.block k (by show k<(w.heap.push _).size;simp;omega) (fun e=>by injection e with e;have e:w.heap.size=k:=e;omega)]
     exact qv3 w _ hk
   exact hg.mono fun e w'⟨ad',c',he,hrow,hb,hs⟩=>⟨ad',c',news,he,hrow,k3,hb,hs⟩
def quv:IF:=⟨.fn 82,[.h (.list (.prod .str .str))],[],_,RS.mk (.own 0) [(0,.row (.prod .str .str) 48)]⟩
def q5v:(quv.e (gv (α:=(.prod .str .str:Ty).den))).Sound Tryz.prog:=fun d d' r h=>by
 obtain⟨l,_⟩:=d;have h:(bif decide (List.length (α:=(.prod .str .str:Ty).den) l<=az) then some (show List (.prod .str .str:Ty).den from l) else none)=some r:=h
 cases hd:decide (List.length (α:=(.prod .str .str:Ty).den) l<=az)<;>rw[hd]at h<;>simp only[qT,qF,reduceCtorEq]at h
 have h:=qJ h;subst h;exact⟨Tryz.call82,zt6 l (of_decide_eq_true hd)⟩
def zt7(l:List (.byte:Ty).den)(hd:l.length<=az):de Tryz.prog 83 [.sl (.byte) l] [] (.own 0) [(0,.row (.byte) l 5)]:=by
 refine de.fresh fun w G vs hm hr => ?_
 match vs,hr with
 |[v],⟨h1,_⟩=>
  obtain⟨news,k1,k2,k3,k4⟩:=zl3 (P:=Tryz.prog) hm h1;have hnl:news.length=l.length*(.byte:Ty).sz:=by rw[← k3.length];exact pa l
  obtain⟨p,c,rfl,hc,hp⟩:ll (.byte:Ty).sz ((.byte:Ty).At G.imm) l v:=h1
  cases p with
  |none=>
   have hl:l=[]:=by
    rcases hp with h|⟨_,_,h,_⟩
    ·exact h
    ·cases h
   subst hl;have e0:news=[]:=List.eq_nil_of_length_eq_zero (by rw[hnl];exact Nat.zero_mul _)
   subst e0;have hg:Calls Tryz.prog 83 #[.slice none 0 c] w fun e w'=>e = .returned (.slice none 0 0)/\w'=w:=by
    clear hp hr k1 k2 hm hnl hc hd k3 k4;have q22:∀(w:World)(a:Option Addr)(n c n' c':Nat),(binOp .eql 23 (.slice a n c) (.slice none n' c')).run Tryz.prog w = .ok (.bool a.isNone) w:=fun w a n c n' c'=>Lib.run_eql_slice_nil w _ _ a n c n' c' Tryz.underlying23
    have u22:∀w,Sem.run Tryz.prog (underlying 23) w = .ok (TypeDesc.slice 5) w:=run_underlying Tryz.underlying23
    go_enter Tryz.func83,Tryz.ntmps83
    go_wp2
    go_ret
    exact⟨rfl,rfl⟩
   exact hg.mono fun e w'⟨he,hw⟩=>⟨none,0,[],he,⟨rfl,.inl ⟨rfl,rfl,rfl⟩⟩,k3,fun b hb=>(by cases hb),by subst hw;exact cm.refl _⟩
  |some ad=>
   generalize hn:l.length=n at *;have hg:Calls Tryz.prog 83 #[.slice (some ad) n c] w fun e w'=>∃ad' c',e = .returned (.slice ad' n c')/\gx w' 5 (.byte:Ty).sz ad' n c' news/\(∀b,cz ad'=some b->w.heap.size<=b)/\cm w w':=by
    clear hm k3 hr hp hn;have q22:∀(w:World)(a:Option Addr)(n c n' c':Nat),(binOp .eql 23 (.slice a n c) (.slice none n' c')).run Tryz.prog w = .ok (.bool a.isNone) w:=fun w a n c n' c'=>Lib.run_eql_slice_nil w _ _ a n c n' c' Tryz.underlying23
    have u22:∀w,Sem.run Tryz.prog (underlying 23) w = .ok (TypeDesc.slice 5) w:=run_underlying Tryz.underlying23
    go_enter Tryz.func83,Tryz.ntmps83
    go_wp2_with (at_builtin;refine znh rfl _ _ 23 rfl (E:=5) (sz:=(.byte:Ty).sz) oD oD oD oD rfl (zlb w 5 _) rfl k1 ?qc hnl k4 oA ?_)
    case qc=>exact fun w' hw'=>k2 w' fun k hk=>by rw[hw'];exact qv3 w _ hk
    intro ad' c' w1 hrow hblk hbel
    go_wp2
    go_ret
    refine⟨ad',c',rfl,by simpa using hrow,fun b hb => ?_,⟨hbel.os,hbel.tape,hbel.output,Nat.le_trans (by show w.heap.size<=(w.heap.push _).size;simp) hbel.size,fun k hk _ => ?_⟩⟩
    ·rcases hblk with h|⟨g,h,hg⟩
     ·rw[h]at hb;injection hb with hb;have hb:w.heap.size=b:=hb;omega
     ·rw[h]at hb;injection hb with hb
      have:w.heap.size<=(w.alloc (.cells #[] 5)).heap.size:=by show w.heap.size<=(w.heap.push _).size;simp
      omega
    ·rw[hbel.block k (by show k<(w.heap.push _).size;simp;omega) (fun e=>by injection e with e;have e:w.heap.size=k:=e;omega)]
     exact qv3 w _ hk
   exact hg.mono fun e w'⟨ad',c',he,hrow,hb,hs⟩=>⟨ad',c',news,he,hrow,k3,hb,hs⟩
def q5w:IF:=⟨.fn 83,[.h (.list (.byte))],[],_,RS.mk (.own 0) [(0,.row (.byte) 5)]⟩
def zf3:(q5w.e (gv (α:=(.byte:Ty).den))).Sound Tryz.prog:=fun d d' r h=>by
 obtain⟨l,_⟩:=d;have h:(bif decide (List.length (α:=(.byte:Ty).den) l<=az) then some (show List (.byte:Ty).den from l) else none)=some r:=h
 cases hd:decide (List.length (α:=(.byte:Ty).den) l<=az)<;>rw[hd]at h<;>simp only[qT,qF,reduceCtorEq]at h
 have h:=qJ h;subst h;exact⟨Tryz.call83,zt7 l (of_decide_eq_true hd)⟩
end Go.Sym
namespace Go.Sym
open Go.Proofs Go.RowKit Go.Sort
variable[LC]
def de.inPlaceA{ys:List AV}{P:Program}{f:FuncId}{τ:Ty}{l l':List τ.den}{E:TypeId}(ac:l'.length=l.length)(h:∀(w:World)(G:Gh)(ad:Option Addr)(c:Nat)(us vs:List Value),gx w E τ.sz ad l.length c us->am (l.flatMap τ.enc) G.data us->am ys G vs ->
  Calls P f (Value.slice ad l.length c::vs).toArray w fun e w'=>e = .returned (.tuple #[])/\∃us',gx w' E τ.sz ad l.length c us'/\am (l'.flatMap τ.enc) G.data us'/\e7 (fun b=>cz ad=some b) w w') :
  de P f (.own 0::ys) [(0,.row τ l E)] (.tup []) [(0,.row τ l' E)]:=by
 intro w G vs hm hreps;have hl:ag [(0,ah.row τ l E)] 0=some (.row τ l E):=rfl;obtain⟨ad,c,us,h1,h3,h4,h5⟩:=(hm.holds 0 _ hl).rowAt
 match vs,hreps with
 |v::vs,hreps=>
  obtain⟨⟨a',n',c',q1,rfl⟩,hys⟩:=hreps;rw[h1]at q1;simp only[qI,qP]at q1;obtain⟨rfl,rfl,rfl⟩:=q1;refine(h w G ad c us vs h3 h4 hys).mono ?_;rintro e w' ⟨rfl,us',r1,r2,r3⟩
  refine⟨_,G,rfl,?_,#[],rfl,trivial⟩;have hself:=qgp hm;have hbox:dp G w' 0 (.row τ l' E):=dp.row (by rw[ac];exact h1) (by rw[ac];exact r1) r2 (fun b hb=>h5 b hb)
  cases had:cz ad with
  |none=>
   have hst:cm w w':=⟨r3.os,r3.tape,r3.output,r3.size,fun k hk _=>r3.block k hk (fun e=>by rw[had]at e;cases e)⟩
   have hf:=hself.extend (new:=[]) (Gh.le.refl G) hst (fun _ _ _ h => .inl h) (fun b o v hv=>by
    have hc:=hm.agree b o v hv;have hlt:=World.block_lt_of_cell? _ _ hc;rw[World.cell?_of_block (w:=w) (hst.block b hlt (fun h=>h))];exact hc) hm.one (fun n bx h=>by cases h) (fun n bx h=>by cases h) (fun n m bx bx' b h=>by cases h)
   have hlk:∀m b,ag [(0,ah.row τ l' E)] m=some b->m=0/\b = .row τ l' E:=fun m b hh=>by
    simp only[ag]at hh;cases hb:Nat.beq 0 m
    ·rw[hb]at hh;cases hh
    ·rw[hb]at hh;simp only[qT,qI]at hh;exact⟨(qN hb).symm,hh.symm⟩
   have hat:G.at 0 (.row τ l' E)=none:=by
    simp only[Gh.at,h1]
    cases ad with|none=>rfl|some a=>cases had
   refine⟨⟨hf.mem.agree,hf.mem.one,fun m b hh => ?_,fun m m' b b' c h1 h2 h3 _ => ?_,hf.mem.tab⟩,hf.bel,hf.imm_le,hf.imm_new,fun m b c h1 h2 => ?_,hf.keep,hf.keepOwn⟩
   ·obtain⟨rfl,rfl⟩:=hlk m b hh;exact hbox
   ·obtain⟨rfl,_⟩:=hlk m b h1;obtain⟨rfl,_⟩:=hlk m' b' h2;rfl
   ·obtain⟨rfl,rfl⟩:=hlk m b h1;rw[hat]at h2;cases h2
  |some B=>
   have hat:∀l:List τ.den,G.at 0 (.row τ l E)=some B:=fun l=>by
    simp only[Gh.at,h1]
    cases ad with
    |none=>cases had
    |some a=>exact had
   have hf:=hself.update (bx' := .row τ l' E) hl (hat l) (hat l') ⟨r3.os,r3.tape,r3.output,r3.size,fun k hk hne=>r3.block k hk (fun e=>by rw[had]at e;injection e with e;exact hne e.symm)⟩ hbox (h5 B had)
   have hlk:∀m b,ag [(0,ah.row τ l' E)] m=some b->ag (vo [(0,ah.row τ l E)] 0 (.row τ l' E)) m=some b:=fun m b hh=>by
    simp only[ag]at hh;simp only[vo,ag];cases hb:Nat.beq 0 m
    ·rw[hb]at hh;cases hh
    ·rw[hb]at hh;exact hh
   exact⟨⟨hf.mem.agree,hf.mem.one,fun m b hh=>hf.mem.holds m b (hlk m b hh),fun m m' b b' c h1 h2 h3 h4=>hf.mem.apart m m' b b' c (hlk _ _ h1) (hlk _ _ h2) h3 h4,hf.mem.tab⟩,hf.bel,hf.imm_le,hf.imm_new,fun m b c h1 h2=>hf.base m b c (hlk _ _ h1) h2,hf.keep,hf.keepOwn⟩
 |[],hreps=>exact hreps.elim
def z0y(w:World)(n g:Nat)(d:Array Value)(os:Array Obj)(k:Nat)(hk:k<w.heap.size)(hne:k≠g):(grow (putRow id (Sort.ahead w n) g 0 d) os).heap[k]? = w.heap[k]? := by
 show((w.heap.modify g (onCells (putCells id 0 d)))++os)[k]? = _;rw[Array.getElem?_append_left (by simpa using hk),Array.getElem?_modify,qW oA]
def z0z(w:World)(n g:Nat)(d:Array Value)(os:Array Obj){cur:Array Value}{e:TypeId}{fr:Nat×Nat}(hh:w.heap[g]? = some (.cells cur e fr)) :
  (grow (putRow id (Sort.ahead w n) g 0 d) os).heap[g]? = some (.cells (putCells id 0 d cur) e fr):=by
 have hg:g<w.heap.size:=(Array.getElem?_eq_some_iff.1 hh).1;show((w.heap.modify g (onCells (putCells id 0 d)))++os)[g]? = _;rw[Array.getElem?_append_left (by simpa using hg),Array.getElem?_modify,qX rfl,hh]
 rfl
def z01(zs:List Value)(cur:Array Value)(h:zs.length<=cur.size):(putCells id 0 zs.toArray cur).toList.take zs.length=zs:=by
 apply List.ext_getElem?;intro j;rw[List.getElem?_take];by_cases hj:j<zs.length
 ·rw[qX hj,Array.getElem?_toList];unfold putCells;rw[Array.getElem?_mapIdx,Array.getElem?_eq_getElem oA]
  simp[hj]
 ·rw[qW hj];exact(List.getElem?_eq_none oA).symm
def z00(w:World)(n g:Nat)(d:Array Value)(os:Array Obj):w.heap.size<=(grow (putRow id (Sort.ahead w n) g 0 d) os).heap.size:=by
 show w.heap.size<=((w.heap.modify g (onCells (putCells id 0 d)))++os).size;simp
def z0x(zs:List Value)(cur:Array Value)(v:Value)(hv:v∈(putCells id 0 zs.toArray cur).toList):v∈cur.toList\/v∈zs:=by
 unfold putCells at hv;rw[Array.mem_toList_iff,Array.mem_mapIdx]at hv;obtain⟨j,hj,rfl⟩:=hv;split
 ·rename_i hj2;have hj3:j<zs.length:=by simpa using hj2
  refine .inr ?_;simp[hj3]
 ·exact .inl oC
end Go.Sym
namespace Go.Sym
open Go.Proofs Go.RowKit Go.Sort
variable[LC]
def zhf{α:Type}[Inhabited α](enc:α->List Value)(k:Nat)(hk:∀x,(enc x).length=k)(l:List α):flatK enc k l.toArray=(l.flatMap enc).toArray:=by
 have key:∀(l:List α)(t:Nat),t<l.length*k->(l.flatMap enc)[t]? = some ((enc l[t/k]!)[t%k]!):=by
  intro l
  induction l with
  |nil=>intro t ht;simp at ht|cons x l ih=>
   intro t ht;have k0:0<k:=by
    rcases Nat.eq_zero_or_pos k with h|h;· subst h;simp at ht
    ·exact h
   rw[List.flatMap_cons];by_cases h:t<k
   ·rw[List.getElem?_append_left (by rw[hk];exact h),Nat.div_eq_of_lt h,Nat.mod_eq_of_lt h,List.getElem?_eq_getElem (by rw[hk];exact h)]
    simp[hk,h]
   ·rw[List.getElem?_append_right (by rw[hk];omega),hk,ih (t-k) (by rw[qL,Nat.add_mul,Nat.one_mul]at ht;omega)]
    obtain⟨u,rfl⟩:∃u,t=u+k:=⟨t-k,oA⟩
    rw[Nat.add_sub_cancel,Nat.add_mod_right,Nat.add_div_right _ k0];simp
 have ac:(l.flatMap enc).length=l.length*k:=by
  clear key
  induction l with|nil=>simp|cons x l ih=>rw[List.flatMap_cons,qM,hk,ih,qL,Nat.add_mul,Nat.one_mul,Nat.add_comm]
 refine ext_get! (by simp[ac]) fun t ht => ?_
 have ht':t<l.length*k:=by simpa using ht
 rw[get_flatK enc k l.toArray t (by simpa using ht')]
 have:=key l t ht';simp only[List.getElem!_toArray];rw[List.getElem!_eq_getElem?_getD (l:=l.flatMap enc),this];rfl
def fj(x:Pq):List Value:=[.string ⟨x.1.1.toArray⟩,.int .i64 x.1.2.1,.bool x.1.2.2.1,.string ⟨x.1.2.2.2.toArray⟩]
def zmi:SWO (ltOf kv):=by
 have e:∀x y:Pq,ltOf kv x y=decide (x.1.2.1<y.1.2.1):=fun x y=>by
  have:=x.2;have:=y.2;unfold ltOf kv;have h:ae (x.1.2.1-y.1.2.1)=x.1.2.1-y.1.2.1:=by unfold ae;simp[IntKind.wrap,IntKind.bits,IntKind.signed];omega
  rw[h];by_cases q:x.1.2.1<y.1.2.1<;>simp[q]<;>omega
 exact⟨fun x=>by rw[e];simp,fun x y z h1 h2=>by rw[e]at *;simp at *;omega,fun x y z h1 h2=>by rw[e]at *;simp at *;omega⟩
set_option maxHeartbeats 1000000 in
def zt8(x y:Pq)(W:World):Calls Tryz.prog 270 #[.agg (fj x).toArray,.agg (fj y).toArray] W fun e w'=>e = .returned (.int .i64 (kv x y))/\∃q os',w'=grow (W.drewN q) os':=by
 unfold fj kv;obtain⟨⟨a,n,s,v⟩,hx⟩:=x;obtain⟨⟨a',n',s',v'⟩,hy⟩:=y;simp only;have hw:ae (n-n')=wrap64 (n-n'):=by show IntKind.i64.wrap (n-n')=_;rw[IntKind.wrap_i64];unfold Go.RowKit.wrap64;rfl
 rw[hw];clear hx hy hw
 go_enter Tryz.func270,Tryz.ntmps270
 go_wp2
 go_ret
 exact⟨rfl,0,_,by rw[alloc_eq_grow,alloc_eq_grow,grow_grow];rfl⟩
abbrev τQ:Ty := .prod .str (.prod (.int .i64) (.prod .bool .str))
def zkz{G:Gh}:∀{l:List Pq}{us:List Value},am (List.flatMap (β:=AV) τQ.enc (l.map (·.1))) G us->us=l.flatMap fj
 |[],[],_=>rfl|[],_::_,h=>h.elim|x::l,us,h=>by
  match us,h with
  |a::b::c::d::us,h=>
   have h1:a = .string ⟨x.1.1.toArray⟩:=h.1;have h2:b = .int .i64 x.1.2.1:=h.2.1;have h3:c = .bool x.1.2.2.1:=h.2.2.1;have h4:d = .string ⟨x.1.2.2.2.toArray⟩:=h.2.2.2.1;have h5:=zkz (l:=l) h.2.2.2.2;rw[h1,h2,h3,h4,h5];rfl
  |[],h=>exact h.elim|[_],h=>exact h.2.elim|[_,_],h=>exact h.2.2.elim|[_,_,_],h=>exact h.2.2.2.elim
def zk0{G:Gh}:∀(l:List Pq),am (List.flatMap (β:=AV) τQ.enc (l.map (·.1))) G (l.flatMap fj)
 |[]=>trivial|_::l=>⟨rfl,rfl,rfl,rfl,zk0 l⟩
def zms:∀(l:List Pc)(q:List Pq),t8 l=some q->l=q.map (·.1)
 |[],_,h=>by cases h;rfl
 |x::l,q,h=>by
  unfold t8 at h;split at h
  ·split at h
   ·rename_i r hr;cases h;rw[zms l r hr];rfl
   ·cases h
  ·cases h
def q9j(l:List Pq):(jl l).length=l.length:=by
 have h:=(pdq_sorts (ltOf kv) zmi l.toArray 0 l.length (Lib.bitLen l.length) true true (Nat.zero_le _) oC (Or.inl rfl)).1.1
 unfold jl;rw[Array.length_toList,h];simp
def qu8(x:Pq):(fj x).length=4:=rfl
def zgv(l:List Pq):(l.flatMap fj).length=l.length*4:=by
 induction l with|nil=>rfl|cons x l ih=>rw[List.flatMap_cons,qM,qu8,ih,qL];omega
def zwq{w:World}{g:Nat}{vs:Array Value}{fz:Nat×Nat}{E:TypeId}{l:List Pq}(h2:w.heap[g]? = some (.cells vs E fz))(h3:fz=(0,0)\/vs.size<=fz.1)(h4:l.length*4<=vs.size)(h7:vs.toList.take (l.length*4)=l.flatMap fj):HoldsK fj 4 w g 0 l.toArray:=by
 unfold HoldsK;rw[zhf fj 4 qu8];intro j hj;have hl:=zgv l;have hj':j<(l.flatMap fj).length:=by simpa using hj
 have hjv:j<vs.size:=oA
 refine⟨?_,?_⟩
 ·have hc:(vs.toList.take (l.length*4))[j]? = some ((l.flatMap fj)[j]):=by
   rw[h7,List.getElem?_eq_getElem hj']
  rw[List.getElem?_take,qX oA]at hc
  simp only[World.cell?,h2,wO];have hg:(l.flatMap fj).toArray[j]! = (l.flatMap fj)[j]:=by rw[getElem!_pos _ j hj];rfl
  rw[hg];simpa using hc
 ·simp only[World.frozen?,h2];rcases h3 with rfl|h3
  ·simp
  ·simp;omega
set_option maxHeartbeats 1000000 in
def z3w(q:List Pq)(ac:q.length<=az):de Tryz.prog 269 [.own 0,.fn (.func 270) [] []] [(0,.row τQ (q.map (·.1)) 267)] (.tup []) [(0,.row τQ ((jl q).map (·.1)) 267)]:=by
 unfold az at ac
 refine de.inPlaceA (by show((jl q).map (·.1)).length=(q.map (·.1)).length;rw[wC,wC,q9j]) (fun w G ad c us fvs hrow hreps hfv => ?_)
 have hus:=zkz hreps;have hfv:fvs=[.func (.func 270) #[] #[]]:=by
  match fvs,hfv with
  |[v],⟨h,_⟩=>
   obtain⟨us1,us2,k1,k2,k3⟩:=h;have e1:us1=#[]:=Array.eq_empty_of_size_eq_zero k2.length.symm;have e2:us2=#[]:=Array.eq_empty_of_size_eq_zero k3.length.symm;subst e1;subst e2;rw[k1]
 subst hfv;have hml:(q.map (fun x=>x.1)).length=q.length:=wC ..
 obtain⟨hul,hrow⟩:=hrow
 have hnone:q=[]->Calls Tryz.prog 269 (Value.slice ad (q.map (fun x=>x.1)).length c::[.func (.func 270) #[] #[]]).toArray w fun e w'=>e = .returned (.tuple #[])/\∃us',gx w' 267 τQ.sz ad (q.map (fun x=>x.1)).length c us'/\am (List.flatMap (β:=AV) τQ.enc ((jl q).map (·.1))) G.data us'/\e7 (fun b=>cz ad=some b) w w':=fun hq=>by
  subst hq;refine(AnyF.slices_SortFunc_none Tryz.sortP ad c (.func (.func 270) #[] #[]) w).mono ?_;rintro e w' ⟨rfl,rfl⟩
  refine⟨rfl,us,⟨hul,hrow⟩,?_,⟨rfl,rfl,rfl,wF _,fun _ _ _=>rfl⟩⟩
  rw[hus];have e:jl []=[]:=List.eq_nil_of_length_eq_zero (q9j []);rw[e];exact trivial
 by_cases hq:q=[]
 ·exact hnone hq
 rcases hrow with⟨rfl,h2,rfl⟩|⟨g,vs,fz,rfl,h2,h3,h4,h5,h6,h7,h8⟩
 ·exact absurd (List.eq_nil_of_length_eq_zero (by rw[← hml];exact h2)) hq
 ·have hlt:g<w.heap.size:=(Array.getElem?_eq_some_iff.1 h2).1;have hs4:τQ.sz=4:=rfl;rw[hs4]at h6 h7 hul;have h4':q.length<=c:=by rw[← hml];exact h4
  have hH:=zwq (l:=q) h2 h3 oA (by rw[← hus];have h7':=h7;rw[show(List.length (α:=τQ.den) (q.map fun x=>x.1))=q.length from hml]at h7';exact h7')
  have hcmp:CmpLays Tryz.prog 270 #[] fj 4 kv g 0 q.toArray.size w:=fun m os dk _ x y=>zt8 x y _
  have key:=AnyQ.slices_SortFunc_eq (P:=Tryz.prog) Tryz.sortP 4 Tryz.isAgg267 Tryz.sizeOf267 fj qu8 (by intro x v hv;simp only[fj,wE,List.not_mem_nil,or_false]at hv;rcases hv with rfl|rfl|rfl|rfl<;>rfl) kv zmi 270 #[] g 0 c q.toArray w Tryz.call270 hcmp hH hlt oB
  have hargs:#[Value.slice (some ⟨g,0,none⟩) (List.length (α:=τQ.den) (List.map (β:=τQ.den) (fun x:Pq=>x.1) q)) c,Value.func (.func 270) #[] #[]]=#[.slice (some ⟨g,0,none⟩) q.toArray.size c,.func (.func 270) #[] #[]]:=by
   rw[show List.length (α:=τQ.den) (List.map (β:=τQ.den) (fun x:Pq=>x.1) q)=q.toArray.size from hml.trans oC]
  refine Eq.mpr (congrArg (fun a=>Calls _ _ a _ _) hargs) (key.mono ?_)
  rintro e w' ⟨rfl,n,os,rfl⟩
  have hsl:=q9j q;have hw:sortWorldK fj 4 w g 0 n (pdq (ltOf kv) q.toArray 0 q.toArray.size (Lib.bitLen q.toArray.size) true true) os=grow (putRow id (Sort.ahead w n) g 0 ((jl q).flatMap fj).toArray) os:=by
   unfold sortWorldK putRowK;rw[show pdq (ltOf kv) q.toArray 0 q.toArray.size (Lib.bitLen q.toArray.size) true true=(jl q).toArray from by unfold jl;simp,zhf fj 4 qu8]
  rw[hw];have hzl:((jl q).flatMap fj).length=q.length*4:=by rw[zgv,hsl]
  refine⟨rfl,(jl q).flatMap fj,⟨?_,.inr ⟨g,putCells id 0 ((jl q).flatMap fj).toArray vs,fz,rfl,z0z w n g _ os h2,?_,h4,h5,?_,?_,?_⟩⟩,zk0 _,⟨rfl,rfl,rfl,z00 w n g _ os,fun k hk hne=>z0y w n g _ os k hk (fun e=>hne (by subst e;rfl))⟩⟩
  ·rw[hzl];show q.length*4=(q.map (fun x=>x.1)).length*4;rw[hml]
  ·have:(putCells id 0 ((jl q).flatMap fj).toArray vs).size=vs.size:=by unfold putCells;rw[Array.size_mapIdx]
   rw[this];exact h3
  ·unfold putCells;rw[Array.size_mapIdx];exact h6
  ·rw[show List.length (α:=τQ.den) (q.map (fun x=>x.1))*τQ.sz=((jl q).flatMap fj).length from by rw[hzl];show(q.map (fun x=>x.1)).length*4=_;rw[hml]]
   exact z01 _ vs (by rw[hzl];omega)
  ·intro v hv;rcases z0x _ _ _ hv with h|h
   ·exact h8 v h
   ·obtain⟨x,_,hx⟩:=List.mem_flatMap.1 h;simp only[fj,wE,List.not_mem_nil,or_false]at hx;rcases hx with rfl|rfl|rfl|rfl<;>rfl
def zl5:IF:=⟨.fn 269,[.own 0,.fn 270 []],[(0,.row τQ 267)],_,RS.mk (.tup []) [(0,.row τQ 267)]⟩
def z3x:(zl5.e qcl).Sound Tryz.prog:=fun d d' r h=>by
 obtain⟨l,_⟩:=d';have h:qcl l=some r:=h;unfold qcl at h;cases hd:decide (List.length (α:=Pc) l<=az)<;>rw[hd]at h<;>simp only[qT,qF,reduceCtorEq]at h
 cases hq:t8 l with
 |none=>rw[hq]at h;cases h
 |some q=>
  rw[hq]at h;have h:=qJ h;subst h;have hl:=zms l q hq;subst hl;refine⟨Tryz.call269,z3w q ?_⟩;have:=of_decide_eq_true hd
  rwa [wC]at this
end Go.Sym
set_option linter.unusedVariables false
namespace Go.Proofs.ToValid
open Go.Shelf Go.RowKit Go.Lib Go.Sym
def bx:Builder.Extra Tryz.prog Tryz.uniR:={
 sizeBuilder:=oD
 liesBuilder:=oD
 t5:=Tryz.laysM171.t5
 a5:=Tryz.laysM171.a5
 z5:=Tryz.laysM171.z5
 v5:=Tryz.laysM171.v5
 infoByte:=oD
 cellsByte:=oD
 sizeByte:=oD
 neB5:=by decide }
def zxq:Lays.n166 Tryz.prog Tryz.uniR:={ Tryz.lays165,Tryz.lays169,Tryz.laysC172 with f166:=Tryz.func96.trans (congrArg some oD) }
def zxr:Lays.n167 Tryz.prog Tryz.uniR:={ Tryz.lays165,Tryz.lays169,Tryz.laysC172 with f167:=Tryz.func286.trans (congrArg some oD) }
def zfx(b:Nat)(p:Option Addr)(n cap:Nat)(w:World)(c1:w.cell? ⟨b,1,none⟩=some (.slice p n cap)) :
  Calls Tryz.prog 285 #[.pointer (some ⟨b,0,none⟩)] w fun e w'=>e = .returned (.int .i64 cap)/\w'=w:=by
 go_enter Tryz.func285,Tryz.ntmps285
 go_wp2
 go_ret
 exact⟨rfl,rfl⟩
def zwe(b n:Nat)(w:World)(hbk:w.heap[b]? = some (.cells #[.pointer none,.slice none 0 0] 141 (0,0)))(hBw:b<=w.heap.size)(hn:n<=281474976710656) :
  Calls Tryz.prog 95 #[.pointer (some ⟨b,0,none⟩),.int .i64 n] w fun e w'=>e = .returned (.tuple #[])/\(Lib.BuilderAt 141 5 b b (.pointer (some ⟨b,0,none⟩)) [] w'/\Below b w w')/\∃p cap,w'.cell? ⟨b,1,none⟩=some (.slice p 0 cap)/\n<=cap:=
 Any.Builder_Grow_fresh_cap Tryz.lays165 bx b b n w (wF _) hbk hBw hn
def zaj(b:Nat)(bs:List Value)(s:ByteArray)(w:World)(h:Lib.IsBuilderF 141 5 b b bs w)(ac:bs.length+s.size<=140737488355328)(hBw:b<=w.heap.size) :
  Calls Tryz.prog 96 #[.pointer (some ⟨b,0,none⟩),.string s] w fun e w'=>e = .returned (.tuple #[.int .i64 s.size,.nilIface])/\(Lib.BuilderAtF 141 5 b b (.pointer (some ⟨b,0,none⟩)) (bs++Lib.strCells s) w'/\Below b w w'/\Lib.OthersKept 5 (some b) w w')/\∀v0,w.cell? ⟨b,1,none⟩=some v0->∃v1,w'.cell? ⟨b,1,none⟩=some v1/\v0.capOf<=v1.capOf:=
 Any.Builder_WriteString_kc zxq bx b b bs s w h ac hBw
def z5x(b:Nat)(bs:List Value)(c:Int)(w:World)(h:Lib.IsBuilderF 141 5 b b bs w)(ac:bs.length+1<=140737488355328)(hBw:b<=w.heap.size) :
  Calls Tryz.prog 286 #[.pointer (some ⟨b,0,none⟩),.int .u8 c] w fun e w'=>e = .returned .nilIface/\(Lib.BuilderAtF 141 5 b b (.pointer (some ⟨b,0,none⟩)) (bs++[.int .u8 c]) w'/\Below b w w'/\Lib.OthersKept 5 (some b) w w'):=
 Any.Builder_WriteByte_k zxr bx b b bs c w h ac hBw
def z4a(b:Nat)(l:List UInt8)(w:World)(h:Lib.IsBuilderF 141 5 b b (Lib.byteCells l) w)(hBw:b<=w.heap.size) :
  Calls Tryz.prog 98 #[.pointer (some ⟨b,0,none⟩)] w fun e w'=>e = .returned (.string ⟨l.toArray⟩)/\(Lib.IsBuilderF 141 5 b b (Lib.byteCells l) w'/\Below b w w'):=
 Any.Builder_String_any_f Tryz.lays169 bx b b l w h hBw
def zgk(s:ByteArray)(w:World)(hT:Lib.Utf8Tabs 2 3 w) :
  Calls Tryz.prog 226 #[.string s] w fun e w'=>e = .returned (.tuple #[.int .i32 (Lib.decodeGo s).1,.int .i64 (Lib.decodeGo s).2])/\Below w.heap.size w w':=
 Any.utf8_DecodeRuneInString Tryz.lays197 s w hT
def zgq(s:ByteArray)(pos:Nat)(h:pos<s.size):decodeGo (s.extract pos s.size)=Utf8.decode s pos:=by
 have hx:(s.extract pos s.size).data.toList=s.data.toList.drop pos:=by
  rw[extract_data,List.take_of_length_le (by rw[List.length_drop,← size_eq];omega)]
 have hsz:(s.extract pos s.size).size≠0:=by rw[size_eq,hx,List.length_drop,← size_eq];omega
 unfold decodeGo;rw[qW hsz,← decodeL_drop s pos,← hx];rfl
def zni(n:Int)(h0:0<=n:=by omega)(h1:n<=4000000:=by omega):wrap64 n=n:=by unfold wrap64;omega
def z52(p n:Nat)(h:p+n<=4000000):wrap64 ((p:Int)+(n:Int))=(p:Int)+(n:Int):=zni _
def z54(p:Nat)(h:p+1<=4000000):wrap64 ((p:Int)+1)=(p:Int)+1:=zni _
def vI(p k:Nat):Value.int .i64 ((p:Int)+(k:Int)) = .int .i64 ((p+k:Nat):Int):=by rw[Int.natCast_add]
def ua(p:Nat):Value.int .i64 ((p:Int)+1) = .int .i64 ((p+1:Nat):Int):=by rw[Int.natCast_add];rfl
def zae(rep:Bs)(n:Nat)(inv:Bool)(l:Bs)(hne:l≠[])(h:(Lib.decodeL l).1=65533/\(Lib.decodeL l).2=1):vu rep (n+1) inv l=(if inv then[] else rep)++vu rep n true (l.drop 1):=by
 cases l with|nil=>exact absurd rfl hne|cons c l=>rw[vu,qX h];rfl
def qxv(rep:Bs)(n:Nat)(inv:Bool)(l:Bs)(hne:l≠[])(h:¬((Lib.decodeL l).1=65533/\(Lib.decodeL l).2=1)):vu rep (n+1) inv l=l.take (Lib.decodeL l).2++vu rep n false (l.drop (Lib.decodeL l).2):=by
 cases l with|nil=>exact absurd rfl hne|cons c l=>rw[vu,qW h]
def qa5(rep:Bs)(n:Nat)(inv:Bool):vu rep n inv []=[]:=by cases n<;>rfl
def qh9(rep:Bs):∀(n m:Nat)(inv:Bool)(l:Bs),l.length<=n->l.length<=m->vu rep n inv l=vu rep m inv l
 |0,m,inv,l,h1,_=>by
  have:l=[]:=by cases l with|nil=>rfl|cons c l=>simp at h1
  subst this;rw[qa5,qa5]
 |n+1,0,inv,l,_,h2=>by
  have:l=[]:=by cases l with|nil=>rfl|cons c l=>simp at h2
  subst this;rw[qa5,qa5]
 |n+1,m+1,inv,l,h1,h2=>by
  cases l with
  |nil=>rw[qa5,qa5]|cons c l=>
   have hw:=Lib.decodeL_width (c::l);simp only[qL]at h1 h2;by_cases h:(Lib.decodeL (c::l)).1=65533/\(Lib.decodeL (c::l)).2=1
   ·rw[zae rep n inv _ oC h,zae rep m inv _ oC h,qh9 rep n m true _ oB oB]
   ·rw[qxv rep n inv _ oC h,qxv rep m inv _ oC h,qh9 rep n m false _ (by simp only[List.length_drop,qL];omega) (by simp only[List.length_drop,qL];omega)]
def zuu(s:ByteArray)(pos:Nat)(h:pos<s.size)(hc:(s.get! pos).toNat<128):Utf8.decode s pos=((s.get! pos).toNat,1):=by
 unfold Utf8.decode;simp only[Nat.add_zero,hc,if_true]
def zut(s:ByteArray)(pos:Nat)(h:pos<s.size)(hc:¬(s.get! pos).toNat<128)(h1:(Utf8.decode s pos).2=1):(Utf8.decode s pos).1=65533:=by
 revert h1;unfold Utf8.decode;simp only[Nat.add_zero,hc,if_false]
 repeat' split
 all_goals first|(intro _;rfl)|(intro h1;exact absurd h1 oC)
def q5m{T e:TypeId}{B b:Nat}{bs:List Value}{W W':World}(h:Lib.IsBuilderF T e B b bs W)(hb:Below W.heap.size W W'):Lib.IsBuilderF T e B b bs W':=by
 have k:∀p,Lib.BuilderAtF T e B b p bs W->Lib.BuilderAtF T e B b p bs W':=fun p h=>by
  have hlt:=h.lt;obtain⟨hB,v,hv,hown,hne⟩:=h;exact⟨hB,v,(hb.block b hlt).trans hv,hown.kept (row:=none) ⟨hb.os,hb.tape,hb.output,hb.size,fun k hk _=>hb.block k hk⟩ (Classical.em _),hne⟩
 exact h.elim (fun x => .inl (k _ x)) (fun x => .inr (k _ x))
set_option maxHeartbeats 4000000 in
set_option maxRecDepth 1000000 in
def tovalid(s rep:ByteArray)(w:World)(hs:s.size<=1000000)(hr:rep.size<=1000)(hT:Lib.Utf8Tabs 2 3 w) :
  Calls Tryz.prog 272 #[.string s,.string rep] w fun e w'=>e = .returned (.string ⟨(vu rep.data.toList s.size false s.data.toList).toArray⟩)/\Below w.heap.size w w':=by
 obtain⟨ANS,hANS⟩:∃ANS,vu rep.data.toList s.size false s.data.toList=ANS:=⟨_,rfl⟩;rw[hANS];have ac:s.data.toList.length=s.size:=(Lib.size_eq s).symm
 go_enter Tryz.func272,Tryz.ntmps272
 go_wp2
 go_loopg [0] s.size (fun gk s0 wx=>s0 = .string s/\∃pos:Nat,wx.heap[w.heap.size]? = some (.cells #[.pointer none,.slice none 0 0] 141 (0,0))/\wx.heap[w.heap.size+1]? = some (.stringIter s pos)/\Below w.heap.size w wx /\
  s.data.toList.take pos++vu rep.data.toList (s.size-pos) false (s.data.toList.drop pos)=ANS/\s.size<=pos+gk/\pos<=s.size)
 case atStart=>
  refine⟨rfl,0,?_,?_,((Below.refl _ w).alloc (wF _) _).alloc oC _,by simpa using hANS,oA,oA⟩
  ·have h1:=heap_alloc_new w (.cells #[.pointer none,.slice none 0 0] 141);exact(Below.heap_alloc _ _ _ oC).trans h1
  ·have:=World.iter_heap (w.alloc (.cells #[.pointer none,.slice none 0 0] 141)) s 0;simpa using this
 case round=>
  obtain⟨rfl,pos,hfr,hit,hbw,hsp,hfu,hps⟩:=hrel;by_cases hlt:pos<s.size
  ·obtain⟨g',rfl⟩:∃g',gk=g'+1:=⟨gk-1,oA⟩
   have hnx:∀ty,(Instr.next (.pointer (some ⟨w.heap.size+1,0,none⟩)) true ty).run Tryz.prog wr=_:=fun ty=>Lib.run_next_any_at wr (w.heap.size+1) s pos ty hit hlt
   have hne:s.data.toList.drop pos≠[]:=by
    intro h0;have:=congrArg List.length h0;rw[List.length_drop,ac]at this;simp at this;omega
   have hwd:=Lib.width_pos s pos;have hwn:pos+(Utf8.decode s pos).2<=s.size:=by
    have:=Lib.decodeL_le _ hne;rw[Lib.decodeL_drop,List.length_drop,ac]at this;omega
   have hgood:=qxv rep.data.toList (s.size-pos-1) false _ hne;have hdg:=zgq s pos hlt;rw[Lib.decodeL_drop]at hgood;obtain⟨R,hR⟩:∃R,(Utf8.decode s pos).1=R:=⟨_,rfl⟩;obtain⟨K,hK⟩:∃K,(Utf8.decode s pos).2=K:=⟨_,rfl⟩;rw[hR,hK]at hnx hgood;rw[hK]at hwd hwn;rw[List.drop_drop,show s.size-pos-1+1=s.size-pos by omega]at hgood
   have hit2:=Lib.iterAt_heap wr (w.heap.size+1) s pos (pos+K) hit;have hbw2:=Lib.below_iterAt hbw (k:=w.heap.size+1) oA s (pos+K)
   have hfr2:(wr.iterAt (w.heap.size+1) s (pos+K)).heap[w.heap.size]? = _:=(Lib.iterAt_other wr (w.heap.size+1) w.heap.size s (pos+K) oA).trans hfr
   obtain⟨W,hWd⟩:∃W,wr.iterAt (w.heap.size+1) s (pos+K)=W:=⟨_,rfl⟩;rw[hWd]at hnx hit2 hbw2 hfr2;clear hit hbw hfr hWd;have HS:Aside (¬(R=65533/\K=1)->s.data.toList.take (pos+K)++vu rep.data.toList (s.size-(pos+K)) false (s.data.toList.drop (pos+K))=ANS):=by
    intro h;rw[← hsp,hgood h,← qS,← List.take_add];congr 1;exact qh9 _ _ _ _ _ (by rw[List.length_drop,ac];omega) (by rw[List.length_drop,ac];omega)
   have HP:Aside (s.data.toList.take pos++vu rep.data.toList (s.size-pos) false (s.data.toList.drop pos)=ANS):=hsp;clear hgood hsp;have hszW:w.heap.size+1<W.heap.size:=(Array.getElem?_eq_some_iff.1 hit2).1;by_cases h5:R=65533
   ·have h5z:(R:Int)=65533:=oA
    have cD:=zgk (s.extract pos s.size) W (Utf8Tabs_below hT hbw2);rw[hdg,hR,hK]at cD;by_cases hk:K=1
    ·
     have hkz:(K:Int)=1:=oA
     have hkb:((K:Int)==1)=true:=by simp[hkz]
     go_wp2_with (go_at_call 226;go_must (refine cD.mono ?_;rintro e W3 ⟨rfl,b3⟩))
     have hfr3:=(b3.block _ (show w.heap.size<W.heap.size by omega)).trans hfr2
     have hbw3:=hbw2.trans (b3.mono (show w.heap.size<=W.heap.size by omega))
     have hs0:=HP.out;clear cD hnx hit2 hfr2 hbw2 hdg HS hszW HP;have cG:=zwe w.heap.size (s.size+rep.size) W3 hfr3 hbw3.size oA
     go_fit cG
     rintro e W4 ⟨rfl,⟨h4,b4⟩,p4,cap4,hc4,hcap4⟩
     have hxs:(s.extract 0 pos).size=pos:=by rw[Lib.size_eq,Lib.extract_data,List.length_take,List.length_drop,ac];omega
     have hxd:(s.extract 0 pos).data.toList=s.data.toList.take pos:=by rw[Lib.extract_data];simp
     have cW:=zaj w.heap.size [] (s.extract 0 pos) W4 (Lib.IsBuilderF.of (Or.inr h4)) (by rw[hxs];simp;omega) (Nat.le_trans hbw3.size b4.size)
     go_wp2_with (go_at_call 96;go_must (refine cW.mono ?_;rintro e W5 ⟨rfl,⟨h5w,b5,-⟩,hcp⟩))
     have hb5:Below w.heap.size w W5:=(hbw3.trans b4).trans b5;have hcells:[]++Lib.strCells (s.extract 0 pos)=Lib.byteCells (s.data.toList.take pos):=by
      rw[List.nil_append,Lib.strCells_eq,hxd]
     rw[hcells]at h5w;obtain⟨p5,n5,cap5,hc5,hcap5⟩:∃p5 n5 cap5,W5.cell? ⟨w.heap.size,1,none⟩=some (.slice p5 n5 cap5)/\1<=cap5:=by
      obtain⟨v1,hv1,hle⟩:=hcp _ hc4;obtain⟨_,v6,hv6,hown6,_⟩:=h5w;have hv:W5.cell? ⟨w.heap.size,1,none⟩=some v6:=by rw[Lib.cell_of_heap hv6];rfl
      rw[hv1]at hv;have:=qJ hv;subst this;have hle:cap4<=v1.capOf:=hle;rcases hown6.2 with⟨rfl,h0⟩|⟨g6,cap6,_,_,rfl,_⟩
      ·have:cap4<=0:=hle;omega
      ·have:cap4<=cap6:=hle;exact⟨_,_,cap6,hv1,oA⟩
     clear hcp hc4;have hcapz:¬((cap5:Int)=0):=oA
     have hcapb:((cap5:Int)==0)=false:=by simp;omega
     have cC:=zfx w.heap.size p5 n5 cap5 W5 hc5;obtain⟨s2,hs2⟩:∃s2,s.extract pos s.size=s2:=⟨_,rfl⟩;have hl2:s2.data.toList=s.data.toList.drop pos:=by
      rw[← hs2,Lib.extract_data,List.take_of_length_le (by rw[List.length_drop,ac];omega)]
     have hz2:s2.size=s.size-pos:=by rw[Lib.size_eq,hl2,List.length_drop,ac]
     go_wp2_with (go_at_call 285;go_must (refine cC.mono ?_;rintro e W6 ⟨rfl,rfl⟩))
     have hrl:rep.data.toList.length=rep.size:=(Lib.size_eq rep).symm
     go_loopg [10,11] s2.size (fun gk s10 s11 wx=>∃(p2:Nat)(acc:List UInt8)(inv:Bool),s10 = .bool inv/\s11 = .int .i64 p2/\Lib.IsBuilderF 141 5 w.heap.size w.heap.size (Lib.byteCells acc) wx/\Below w.heap.size w wx /\
      acc++vu rep.data.toList (s2.size-p2) inv (s2.data.toList.drop p2)=ANS/\s2.size<=p2+gk/\p2<=s2.size/\acc.length<=pos+1001*p2)
     case atStart=>
      refine⟨0,s.data.toList.take pos,false,rfl,rfl,Or.inr h5w,hb5,?_,oA,oA,?_⟩
      ·rw[List.drop_zero,hl2,hz2];exact hs0
      ·rw[List.length_take,ac];omega
     case round=>
      obtain⟨p2,acc,inv,rfl,rfl,hI,hbw,hacc,hfu2,hp2,hal⟩:=hrel;have hbs:w.heap.size<=wr.heap.size:=hbw.size;by_cases hlt2:p2<s2.size
      ·obtain⟨g2,rfl⟩:∃g2,gk=g2+1:=⟨gk-1,oA⟩
       have hne2:s2.data.toList.drop p2≠[]:=by
        intro h0;have:=congrArg List.length h0;rw[List.length_drop,← Lib.size_eq,qZ]at this;omega
       have hwd2:=Lib.width_pos s2 p2;have hwn2:p2+(Utf8.decode s2 p2).2<=s2.size:=by
        have:=Lib.decodeL_le _ hne2;rw[Lib.decodeL_drop,List.length_drop,← Lib.size_eq]at this;omega
       have hgood:=qxv rep.data.toList (s2.size-p2-1) inv _ hne2;have hbad:=zae rep.data.toList (s2.size-p2-1) inv _ hne2;have hdg:=zgq s2 p2 hlt2;have hlow:=zuu s2 p2 hlt2;have hhigh:=zut s2 p2 hlt2;rw[Lib.decodeL_drop,List.drop_drop,show s2.size-p2-1+1=s2.size-p2 by omega]at hgood hbad
       have hl3:s2.data.toList.length=s2.size:=(Lib.size_eq s2).symm;obtain⟨c,hc⟩:∃c,s2[p2]'hlt2=c:=⟨_,rfl⟩;have hd2:p2<s2.data.size:=hlt2;have hcd:s2.data[p2]'hd2=c:=hc;have hcg:s2.get! p2=c:=by
        show s2.data[p2]! = c;rw[getElem!_pos s2.data p2 hd2];exact hcd
       rw[hcg]at hlow hhigh;obtain⟨R2,hR2⟩:∃R2,(Utf8.decode s2 p2).1=R2:=⟨_,rfl⟩;obtain⟨K2,hK2⟩:∃K2,(Utf8.decode s2 p2).2=K2:=⟨_,rfl⟩;rw[hK2]at hwd2 hwn2;have HG:Aside (¬(R2=65533/\K2=1)->(acc++(s2.data.toList.drop p2).take K2)++vu rep.data.toList (s2.size-(p2+K2)) false (s2.data.toList.drop (p2+K2))=ANS):=by
        intro h;rw[← hacc,hgood (by rw[hR2,hK2];exact h),hK2,qS]
        congr 2;exact qh9 _ _ _ _ _ (by rw[List.length_drop,hl3];omega) (by rw[List.length_drop,hl3];omega)
       have HB:Aside (R2=65533/\K2=1->(acc++(if inv then[] else rep.data.toList))++vu rep.data.toList (s2.size-(p2+1)) true (s2.data.toList.drop (p2+1))=ANS):=by
        intro h;rw[← hacc,hbad (by rw[hR2,hK2];exact h),qS]
        congr 2
       have hxl:(s2.extract p2 (p2+K2)).data.toList=(s2.data.toList.drop p2).take K2:=by
        rw[Lib.extract_data,Nat.add_sub_cancel_left]
       have hxz:(s2.extract p2 (p2+K2)).size=K2:=by rw[Lib.size_eq,hxl,List.length_take,List.length_drop,hl3];omega
       have hcl:acc.length<=1001000000:=oA
       have hbl:(Lib.byteCells acc).length=acc.length:=Lib.byteCells_length acc;clear hgood hbad hacc hs0;have H1:Aside (s2.data.toList.length=s2.size/\(s2.extract p2 (p2+K2)).data.toList=(s2.data.toList.drop p2).take K2/\(Lib.byteCells acc).length=acc.length/\rep.data.toList.length=rep.size):=⟨hl3,hxl,hbl,hrl⟩;have H2:Aside (c.toNat<128->R2=c.toNat/\K2=1):=fun h=>by
        have hd:=hlow h;rw[hd]at hR2 hK2;exact⟨hR2.symm,hK2.symm⟩
       have H3:Aside (¬c.toNat<128->K2=1->R2=65533):=fun h hk=>by
        have:=hhigh h (by rw[hK2];exact hk)
        rw[← hR2];exact this
       have H4:Aside ((List.drop p2 s2.data.toList).take 1=[c]):=by
        show _=_;have hlt':p2<s2.data.toList.length:=by rw[hl3];exact hlt2
        rw[List.drop_eq_getElem_cons hlt',List.take_succ_cons,List.take_zero,Array.getElem_toList,hcd]
       have cD:=zgk (s2.extract p2 s2.size) wr (Utf8Tabs_below hT hbw);rw[hdg,hR2,hK2]at cD;have hsz2:s2.size<=s.size:=by rw[hz2];exact Nat.sub_le _ _
       have HW1:Aside (wrap64 ((p2:Int)+1)=(p2:Int)+1):=z54 _ (Nat.le_trans hlt2 (Nat.le_trans hsz2 (Nat.le_trans hs oF)))
       have HWK:Aside (wrap64 ((p2:Int)+(K2:Int))=(p2:Int)+(K2:Int)):=z52 _ _ (Nat.le_trans hwn2 (Nat.le_trans hsz2 (Nat.le_trans hs oF)))
       have HM:Aside (s2.size<=p2+1+g2/\s2.size<=p2+K2+g2/\acc.length+1<=pos+1001*(p2+1)/\acc.length+rep.size<=pos+1001*(p2+1)/\acc.length+K2<=pos+1001*(p2+K2)/\acc.length<=pos+1001*(p2+1)/\acc.length+1<=140737488355328/\acc.length+rep.size<=140737488355328/\acc.length+K2<=140737488355328):=by
        refine⟨?_,?_,?_,?_,?_,?_,?_,?_,?_⟩<;>omega
       clear hal hcl hfu2;clear hcd hcg hlow hhigh hdg hR2 hK2 hl3 hxl hbl hrl hs2 hl2 ac hne2 hz2 hxs hxd hcells hne hR hK;by_cases h128:c.toNat<128
       ·
        obtain⟨_,hk1⟩:=H2.out h128;subst hk1;have H5:Aside (acc++[c]++vu rep.data.toList (s2.size-(p2+1)) false (List.drop (p2+1) s2.data.toList)=ANS):=by
         have:=HG.out oA
         rw[H4.out]at this;exact this
        have cB:=z5x w.heap.size (Lib.byteCells acc) c.toNat wr hI (by rw[H1.out.2.2.1];exact HM.out.2.2.2.2.2.2.1) hbs
        clear HG HB H2 H3 H4 cD;have h128z:(c.toNat:Int)<128:=oA
        go_wp2_with (go_at_call 286;go_must (refine cB.mono ?_;rintro e W7 ⟨rfl,h7,b7,k7⟩))
        go_roundg g2
        case measure=>exact Nat.lt_succ_self _
        case rel=>
         refine⟨p2+1,acc++[c],false,rfl,by first|exact ua p2|exact(congrArg (Value.int .i64) HW1.out).trans (ua p2),Or.inr ?_,hbw.trans b7,H5.out,HM.out.1,hlt2,by rw[qM];exact HM.out.2.2.1⟩
         rw[Lib.byteCells_append];exact h7
       ·have h128z:¬((c.toNat:Int)<128):=oA
        by_cases hk:K2=1
        ·have hr2:=H3.out h128 hk;have H5:Aside ((acc++(if inv then[] else rep.data.toList))++vu rep.data.toList (s2.size-(p2+1)) true (List.drop (p2+1) s2.data.toList)=ANS):=HB.out ⟨hr2,hk⟩
         have hkz:(K2:Int)=1:=oA
         have hkb:((K2:Int)==1)=true:=by simp[hkz]
         clear HG HB H2 H3 H4
         cases inv with
         |true=>
          go_wp2_with (go_at_call 226;go_must (refine cD.mono ?_;rintro e W7 ⟨rfl,b7⟩))
          go_roundg g2
          case measure=>exact Nat.lt_succ_self _
          case rel=>
           refine⟨p2+1,acc,true,rfl,by first|exact ua p2|exact(congrArg (Value.int .i64) HW1.out).trans (ua p2),q5m hI b7,hbw.trans (b7.mono hbs),?_,HM.out.1,hlt2,HM.out.2.2.2.2.2.1⟩
           have h:(acc++[])++vu rep.data.toList (s2.size-(p2+1)) true (List.drop (p2+1) s2.data.toList)=ANS:=H5.out;rw[List.append_nil]at h;exact h
         |false=>
          go_wp2_with (go_at_call 226;go_must (refine cD.mono ?_;rintro e W7 ⟨rfl,b7⟩))
          have cW:=zaj w.heap.size (Lib.byteCells acc) rep W7 (q5m hI b7) (by rw[H1.out.2.2.1];exact HM.out.2.2.2.2.2.2.2.1) (Nat.le_trans hbs b7.size)
          go_wp2_with (go_at_call 96;go_must (refine cW.mono ?_;rintro e W8 ⟨rfl,⟨h8,b8,-⟩,-⟩))
          go_roundg g2
          case measure=>exact Nat.lt_succ_self _
          case rel=>
           refine⟨p2+1,acc++rep.data.toList,true,rfl,by first|exact ua p2|exact(congrArg (Value.int .i64) HW1.out).trans (ua p2),Or.inr ?_,(hbw.trans (b7.mono hbs)).trans b8,?_,HM.out.1,hlt2,by rw[qM,H1.out.2.2.2];exact HM.out.2.2.2.1⟩
           ·rw[Lib.byteCells_append,← Lib.strCells_eq];exact h8
           ·have h:(acc++rep.data.toList)++vu rep.data.toList (s2.size-(p2+1)) true (List.drop (p2+1) s2.data.toList)=ANS:=H5.out;exact h
        ·have hkz:¬((K2:Int)=1):=oA
         have hkb:((K2:Int)==1)=false:=by simp;omega
         have H5:=HG.out (fun h=>hk h.2)
         go_wp2_with (go_at_call 226;go_must (refine cD.mono ?_;rintro e W7 ⟨rfl,b7⟩))
         have cW:=zaj w.heap.size (Lib.byteCells acc) (s2.extract p2 (p2+K2)) W7 (q5m hI b7) (by rw[H1.out.2.2.1,hxz];exact HM.out.2.2.2.2.2.2.2.2) (Nat.le_trans hbs b7.size)
         go_wp2_with (go_at_call 96;go_must (refine cW.mono ?_;rintro e W8 ⟨rfl,⟨h8,b8,-⟩,-⟩))
         go_roundg g2
         case measure=>exact Nat.lt_succ_self _
         case rel=>
          refine⟨p2+K2,acc++(s2.data.toList.drop p2).take K2,false,rfl,by first|exact vI p2 K2|exact(congrArg (Value.int .i64) HWK.out).trans (vI p2 K2),Or.inr ?_,(hbw.trans (b7.mono hbs)).trans b8,H5,HM.out.2.1,hwn2,?_⟩
          ·rw[Lib.byteCells_append,← H1.out.2.1,← Lib.strCells_eq];exact h8
          ·rw[qM,← H1.out.2.1,← Lib.size_eq,hxz];exact HM.out.2.2.2.2.1
      ·
       obtain rfl:p2=s2.size:=oA
       have cS:=z4a w.heap.size acc wr hI hbs
       go_wp2_with (go_at_call 98;go_must (refine cS.mono ?_;rintro e W8 ⟨rfl,_,b8⟩))
       go_ret
       refine⟨?_,hbw.trans b8⟩;rw[Lib.size_eq,List.drop_length,qa5,List.append_nil]at hacc;subst hacc;rfl
    ·have hkz:¬((K:Int)=1):=oA
     have hkb:((K:Int)==1)=false:=by simp;omega
     have hs3:=HS.out (fun h=>hk h.2)
     go_wp2_with (go_at_call 226;go_must (refine cD.mono ?_;rintro e W3 ⟨rfl,b3⟩))
     go_roundg g'
     case measure=>omega
     case rel=>exact⟨rfl,pos+K,(b3.block _ (by show _<W.heap.size;omega)).trans hfr2,(b3.block _ (by show _<W.heap.size;omega)).trans hit2,hbw2.trans (b3.mono (by show _<=W.heap.size;omega)),hs3,oA,hwn⟩
   ·have h5':¬((R:Int)=65533):=oA
    have hs3:=HS.out (fun h=>h5 h.1)
    go_wp2
    go_roundg g'
    case measure=>omega
    case rel=>exact⟨rfl,pos+K,hfr2,hit2,hbw2,hs3,oA,hwn⟩
  ·
   obtain rfl:pos=s.size:=oA
   have hnx:∀ty,(Instr.next (.pointer (some ⟨w.heap.size+1,0,none⟩)) true ty).run Tryz.prog wr=_:=fun ty=>Lib.run_next_end_at wr (w.heap.size+1) s s.size ty hit hlt
   have cC:=zfx w.heap.size none 0 0 wr (by rw[Lib.cell_of_heap hfr];rfl)
   go_wp2_with (go_at_call 285;go_must (refine cC.mono ?_;rintro e W' ⟨rfl,rfl⟩))
   go_ret
   refine⟨?_,hbw⟩;rw[← hsp,← ac,List.drop_length,List.take_length,qa5,List.append_nil];rfl
end Go.Proofs.ToValid
namespace Go.Sym
open Go.Proofs Go.RowKit
open Go.Proofs.Tryz
variable[LC]
def qgu(t:List UInt8):Bool:=(List.range 256).all fun c=>match t[c]? with|some x=>Nat.beq x.toNat (Lib.firstT c)|none=>false
def qgv(t:List (UInt8×UInt8)):Bool:=(List.range 16).all fun c=>match t[c]? with|some x=>Nat.beq x.1.toNat (Lib.accLo c)&&Nat.beq x.2.toNat (Lib.accHi c)|none=>false
def zm6{G:Gh}{w:World}(hm:cv G [] w){t0:List UInt8}{t1:List (UInt8×UInt8)}(h0:LC.glob 2=some ⟨.byte,t0⟩)(h1:LC.glob 3=some ⟨.prod .byte .byte,t1⟩)(e0:qgu t0=true)(e1:qgv t1=true):Lib.Utf8Tabs 2 3 w:=by
 refine⟨fun c hc => ?_,fun i hi => ?_⟩
 ·have h:=List.all_eq_true.1 e0 c (List.mem_range.2 hc)
  cases hx:t0[c]? with
  |none=>rw[hx]at h;cases h
  |some x=>
   rw[hx]at h;have ha:G.imm 2 (c*1)=some (.int .u8 x.toNat):=hm.tab.1 _ _ _ h0 c x hx;rw[Nat.mul_one]at ha;rw[hm.agree _ _ _ ha,qN h]
 ·have h:=List.all_eq_true.1 e1 i (List.mem_range.2 hi)
  cases hx:t1[i]? with
  |none=>rw[hx]at h;cases h
  |some x=>
   rw[hx]at h;simp only[qA]at h;have ha:G.imm 3 (i*2)=some (.int .u8 x.1.toNat)/\G.imm 3 (i*2+1)=some (.int .u8 x.2.toNat):=hm.tab.1 _ _ _ h1 i x hx;rw[Nat.mul_comm]at ha;exact⟨by rw[hm.agree _ _ _ ha.1,qN h.1],by rw[hm.agree _ _ _ ha.2,qN h.2]⟩
def z4y{G:Gh}{w:World}(hm:cv G [] w){t0:List UInt8}{t1:List (UInt8×UInt8)}(h0:LC.glob 2=some ⟨.byte,t0⟩)(h1:LC.glob 3=some ⟨.prod .byte .byte,t1⟩)(e0:qgu t0=true)(e1:qgv t1=true)(s o:Bs)(d1:s.length<=1000000)(d2:o.length<=1000) :
  Calls Tryz.prog 272 #[.string ⟨s.toArray⟩,.string ⟨o.toArray⟩] w fun e w'=>e = .returned (.string ⟨(vu o s.length false s).toArray⟩)/\cm w w':=by
 refine(ToValid.tovalid ⟨s.toArray⟩ ⟨o.toArray⟩ w (by rw[tx];exact d1) (by rw[tx];exact d2) (zm6 hm h0 h1 e0 e1)).mono ?_
 rintro e w' ⟨rfl,hw⟩
 exact⟨by rw[tx],cm.of_below hw⟩
def zmv:IF:=⟨.fn 272,[.h .str,.h .str],[],_,RS.mk (.h .str) []⟩
def z4z{t0:List UInt8}{t1:List (UInt8×UInt8)}(h0:LC.glob 2=some ⟨.byte,t0⟩)(h1:LC.glob 3=some ⟨.prod .byte .byte,t1⟩)(e0:qgu t0=true)(e1:qgv t1=true):(zmv.e qcn).Sound Tryz.prog:=fun d d' r h=>by
 obtain⟨s,o,_⟩:=d;have h:qcn s o=some r:=h;unfold qcn at h;cases hd:decide (List.length (α:=UInt8) s<=1000000/\List.length (α:=UInt8) o<=1000)<;>rw[hd]at h<;>simp only[qT,qF,reduceCtorEq]at h
 have h:=qJ h;subst h;obtain⟨d1,d2⟩:=of_decide_eq_true hd;refine⟨call272,de.data fun w G vs hm hr => ?_⟩
 match vs,hr with
 |[u,v],⟨h1',h2',_⟩=>
  have h1':u = .string ⟨s.toArray⟩:=h1';have h2':v = .string ⟨o.toArray⟩:=h2';subst h1' h2';exact(z4y hm h0 h1 e0 e1 s o d1 d2).mono fun e w'⟨he,hw⟩=>⟨_,he,rfl,hw⟩
def z5k{G:Gh}{w:World}(hm:cv G [] w){t0:List UInt8}{t1:List (UInt8×UInt8)}(h0:LC.glob 2=some ⟨.byte,t0⟩)(h1:LC.glob 3=some ⟨.prod .byte .byte,t1⟩)(e0:qgu t0=true)(e1:qgv t1=true)(s:Bs)(d1:s.length<=9223372036854775807) :
  Calls Tryz.prog 187 #[.string ⟨s.toArray⟩] w fun e w'=>e = .returned (.bool (Lib.validD s))/\cm w w':=by
 refine(Any.utf8_ValidString Tryz.lays196 ⟨s.toArray⟩ w (by rw[tx];exact d1) (zm6 hm h0 h1 e0 e1)).mono ?_
 rintro e w' ⟨rfl,hw⟩
 exact⟨rfl,cm.of_below hw⟩
def zm8:IF:=⟨.fn 187,[.h .str],[],_,RS.mk (.h .bool) []⟩
def z5n{t0:List UInt8}{t1:List (UInt8×UInt8)}(h0:LC.glob 2=some ⟨.byte,t0⟩)(h1:LC.glob 3=some ⟨.prod .byte .byte,t1⟩)(e0:qgu t0=true)(e1:qgv t1=true):(zm8.e qco).Sound Tryz.prog:=fun d d' r h=>by
 obtain⟨s,_⟩:=d;have h:qco s=some r:=h;unfold qco at h;cases hd:decide (List.length (α:=UInt8) s<=9223372036854775807)<;>rw[hd]at h<;>simp only[qT,qF,reduceCtorEq]at h
 have h:=qJ h;subst h;have d1:=of_decide_eq_true hd;refine⟨call187,de.data fun w G vs hm hr => ?_⟩
 match vs,hr with
 |[u],⟨h1',_⟩=>
  have h1':u = .string ⟨s.toArray⟩:=h1';subst h1';exact(z5k hm h0 h1 e0 e1 s d1).mono fun e w'⟨he,hw⟩=>⟨_,he,rfl,hw⟩
end Go.Sym
namespace Go.Sym
open Go.RowKit
variable[LC]
section
variable{P:Program}{vjc:World}{vi7:Gh}{vi9:List (Nat×ah)}{G:Gh}{s:St}{a:Act}{w:World}
def ak.drewOk(hr:ak vjc vi7 vi9 G s a w):ak vjc vi7 vi9 G s a w.drew:=
 ⟨hr.defers,hr.size,hr.frame,hr.fresh,⟨⟨hr.fin.mem.agree,hr.fin.mem.one,hr.fin.mem.holds,hr.fin.mem.apart,LC.mono (fun _ _ _ h=>h) (fun _ _ _ _=>rfl) hr.fin.mem.tab⟩,⟨hr.fin.bel.os,hr.fin.bel.tape,hr.fin.bel.output,hr.fin.bel.size,hr.fin.bel.block⟩,hr.fin.imm_le,hr.fin.imm_new,hr.fin.base,hr.fin.keep,hr.fin.keepOwn⟩⟩
def am.setAt{G:Gh}{x:AV}{v:Value}(hx:aj x G v):∀{xs:List AV}{vs:List Value}{i:Nat},am xs G vs->am (xs.set i x) G (vs.set i v)|[],[],_,_=>trivial|_::_,_::_,0,h=>⟨hx,h.2⟩|_::_,_::_,_+1,h=>⟨h.1,am.setAt hx h.2⟩|[],_::_,_,h=>h.elim|_::_,[],_,h=>h.elim
def ak.setCellAt(hr:ak vjc vi7 vi9 G s a w){n B i:Nat}{cs:List AV}{T:TypeId}{x:AV}{v:Value}(hn:ag s.hp n=some (.cells cs T))(hB:G.box n=some B)(hx:aj x G v)(h1:v.oneCell'=true) :
  ak vjc vi7 vi9 G { s with hp:=(n,.cells (cs.set i x) T)::s.hp } a (w.setCell ⟨B,i,none⟩ v):=by
 obtain⟨B',vs,k1,k2,k3,k4,k5⟩:=hr.fin.mem.holds n _ hn;rw[hB]at k1;cases k1;have hheap:(w.setCell ⟨B,i,none⟩ v).heap[B]? = some (.cells (vs.setIfInBounds i v) T (0,0)):=by
  simp[World.setCell,Array.getElem?_modify,k2]
 have hbel:e7 (fun b=>b=B) w (w.setCell ⟨B,i,none⟩ v):=
  ⟨rfl,rfl,rfl,by simp[World.setCell],fun k _ hne=>by
   simp only[World.setCell,Array.getElem?_modify];rw[qW (fun e=>hne e.symm)]⟩
 have hat:∀cs',G.at n (.cells cs' T)=some B:=fun _=>hB
 refine⟨hr.defers,hr.size,hr.frame,fun m hm hl=>hr.fresh m hm (by
  simp only[ag]at hl;cases hb:Nat.beq n m
  ·rw[hb]at hl;exact hl
  ·rw[hb]at hl;cases hl),hr.fin.update hn (hat cs) (hat _) hbel ⟨B,_,hB,hheap,?_,?_,k5⟩ k5⟩
 ·rw[Array.toList_setIfInBounds];exact am.setAt hx k3
 ·intro u hu;rw[Array.toList_setIfInBounds]at hu;rcases List.mem_or_eq_of_mem_set hu with hu|hu
  ·exact k4 u hu
  ·rw[hu];exact h1
def ak.cellAt(hr:ak vjc vi7 vi9 G s a w){n B i:Nat}{cs:List AV}{T:TypeId}{x:AV}(hn:ag s.hp n=some (.cells cs T))(hB:G.box n=some B)(hx:cs[i]? = some x) :
  ∃v,w.cell? ⟨B,i,none⟩=some v/\aj x G v/\w.frozen? ⟨B,i,none⟩=false:=by
 obtain⟨B',vs,k1,k2,k3,k4,k5⟩:=hr.fin.mem.holds n _ hn;rw[hB]at k1;cases k1;obtain⟨v,v1,v2⟩:=lh k3 hx;refine⟨v,cell_of_heap k2 v1,v2,?_⟩;simp only[World.frozen?,k2];simp
def ak.start{G:Gh}{hp:List (Nat×ah)}{w:World}{N:NM}(hm:cv G hp w)(h:∀n b,ag hp n=some b->ay N n=some n/\d7 (ay N) b=b)(hN:∀n,ag hp n=none->a7 N n=none)(k:Nat) :
  ak w (G.view N) hp (G.view N) { n:=k,fr:=[],hp:=hp,nx:=64,df:=[] } { tmps:=Array.replicate k undef,defers:=[] } w:=by
 refine⟨⟨[],rfl,rfl⟩,oC,fun i x hx=>(by cases hx),fun m _ hl => ?_,qgp (hm.only h)⟩
 have:=hN m hl;simp[Gh.view,this]
end
end Go.Sym
set_option linter.unusedVariables false
namespace Go.Proofs.Repl
open Go.Shelf Go.RowKit Go.Lib Go.Sym
def rv(a b:UInt8)(ga gb ca cb:Nat)(c:UInt8):Value:=if c=a then .slice (some ⟨ga,0,none⟩) 2 ca else if c=b then .slice (some ⟨gb,0,none⟩) 2 cb else .slice none 0 0
structure mr(R:Nat)(a b a1 a2 b1 b2:UInt8)(w:World):Prop where
 ex:∃ga gb gt ca cb ct,(∀c:UInt8,w.cell? ⟨R,c.toNat,none⟩=some (rv a b ga gb ca cb c))/\w.cell? ⟨R,256,none⟩=some (.slice (some ⟨gt,0,none⟩) 2 ct) /\
  w.cell? ⟨gt,0,none⟩=some (.string ⟨#[b]⟩)/\w.cell? ⟨gt,1,none⟩=some (.string ⟨#[a]⟩) /\
  w.cell? ⟨ga,0,none⟩=some (.int .u8 a1.toNat)/\w.cell? ⟨ga,1,none⟩=some (.int .u8 a2.toNat)/\w.cell? ⟨gb,0,none⟩=some (.int .u8 b1.toNat)/\w.cell? ⟨gb,1,none⟩=some (.int .u8 b2.toNat)
def mr.below{R:Nat}{a b a1 a2 b1 b2:UInt8}{w w':World}(h:mr R a b a1 a2 b1 b2 w)(hb:Below w.heap.size w w'):mr R a b a1 a2 b1 b2 w':=by
 have k:∀{p:Addr}{v:Value},w.cell? p=some v->w'.cell? p=some v:=fun{p v} hc=>(hb.cell (World.block_lt_of_cell? _ _ hc)).trans hc
 obtain⟨ga,gb,gt,ca,cb,ct,h1,h2,h3,h4,h5,h6,h7,h8⟩:=h.ex;exact⟨ga,gb,gt,ca,cb,ct,fun c=>k (h1 c),k h2,k h3,k h4,k h5,k h6,k h7,k h8⟩
def zgb(s:ByteArray)(c:UInt8)(w:World) :
  Calls Tryz.prog 356 #[.string s,.string ⟨#[c]⟩] w fun e w'=>e = .returned (.int .i64 (Lib.countByte s.data.toList c))/\w'=w:=
 Any.strings_Count_one Tryz.lays138 s c w
def z2i{w:World}{g:Nat}{t:TypeId}{N:Nat}{f:Nat->Value}{cur:Array Value}(hg:w.heap[g]? = some (.cells cur t (0,0)))(hz:cur.size=N)(hc:∀i,i<N->cur[i]? = some (f i)){j:Nat}(hj:j+2<=N)(v1 v2:Value) :
  (w.setRow g (cur.toList.take j++[v1,v2]++cur.toList.drop (j+2)).toArray).rowIs g t N (fun i=>if i=j then v1 else if i=j+1 then v2 else f i):=by
 have hl:cur.toList.length=N:=by simpa using hz
 refine⟨_,setRow_heap w g cur _ t _ hg,oB,fun i hi => ?_⟩
 simp only[List.getElem?_toArray];rw[qS];by_cases h1:i<j
 ·rw[List.getElem?_append_left oB,List.getElem?_take,qX h1,qW oA,qW oA,← hc i hi];simp
 ·rw[List.getElem?_append_right oB,show(cur.toList.take j).length=j by simp;omega]
  by_cases h2:i=j
  ·subst h2;simp
  ·by_cases h3:i=j+1
   ·subst h3;rw[qW h2,qX rfl,show j+1-j=1 by omega];rfl
   ·rw[qW h2,qW h3,List.getElem?_append_right oB,List.getElem?_drop,← hc i hi]
    simp;congr 1;omega
def ku(b o n:Nat):(⟨b,o,none⟩:Addr).add n=⟨b,o+n,none⟩:=by unfold Addr.add;split<;>simp_all
def zga{w:World}{G ga j M c:Nat}{f:Nat->Value}{x1 x2:UInt8}(hrow:w.rowIs G 5 M f)(hj:j+2<=M)(h0:w.cell? ⟨ga,0,none⟩=some (.int .u8 x1.toNat))(h1:w.cell? ⟨ga,1,none⟩=some (.int .u8 x2.toNat)) :
  ∃ROW,(Builtin.copy_ #[23,23] 3 #[.slice (some ⟨G,j,none⟩) (M-j) (M-j),.slice (some ⟨ga,0,none⟩) 2 c]).run Tryz.prog w = .ok (.int .i64 2) (w.setRow G ROW) /\
   (w.setRow G ROW).rowIs G 5 M (fun i=>if i=j then .int .u8 x1.toNat else if i=j+1 then .int .u8 x2.toNat else f i):=by
 obtain⟨cur,k1,k2,k3⟩:=hrow;refine⟨_,?_,z2i k1 k2 k3 hj _ _⟩;exact run_copy_row (P:=Tryz.prog) w 23 23 3 5 G j (M-j) (M-j) ⟨ga,0,none⟩ 2 c cur 5 [.int .u8 x1.toNat,.int .u8 x2.toNat] Tryz.underlying23 oD k1
  (by show 2=Nat.min 2 (M-j);exact(Nat.min_eq_left oA).symm)
  (fun i v hv=>by
   rw[ku]
   match i,hv with
   |0,hv=>cases hv;exact h0
   |1,hv=>cases hv;exact h1
   | i+2,hv=>cases hv)
  (by show j+2<=cur.size;omega) (fun v hv=>by
   rcases List.mem_cons.1 hv with rfl|hv
   ·rfl
   ·rcases List.mem_cons.1 hv with rfl|hv
    ·rfl
    ·cases hv)
def bv(l:Bs)(j:Nat):Value := .int .u8 (l.getD j 0).toNat
def zfs(l m:Bs)(j:Nat)(h:j<l.length):bv (l++m) j=bv l j:=by unfold bv;rw[List.getD_eq_getElem?_getD,List.getD_eq_getElem?_getD,List.getElem?_append_left h]
def zfr(l m:Bs)(c:UInt8):bv (l++c::m) l.length = .int .u8 c.toNat:=by unfold bv;rw[List.getD_eq_getElem?_getD,List.getElem?_append_right (wF _),Nat.sub_self];rfl
def ztu(l m:Bs)(c d:UInt8):bv (l++c::d::m) (l.length+1) = .int .u8 d.toNat:=by unfold bv;rw[List.getD_eq_getElem?_getD,List.getElem?_append_right oA,show l.length+1-l.length=1 by omega];rfl
def qn5(l:Bs)(j:Nat)(h:l.length<=j:=by omega):bv l j = .int .u8 0:=by unfold bv;rw[List.getD_eq_getElem?_getD,List.getElem?_eq_none h];rfl
def zft(l:Bs)(c d:UInt8)(i:Nat):(if i=l.length then Value.int .u8 c.toNat else if i=l.length+1 then .int .u8 d.toNat else bv l i)=bv (l++[c,d]) i:=by
 by_cases h:i<l.length
 ·rw[qW oA,qW oA,zfs _ _ _ h]
 ·by_cases h1:i=l.length
  ·subst h1;rw[qX rfl,zfr]
  ·by_cases h2:i=l.length+1
   ·subst h2;rw[qW h1,qX rfl,ztu]
   ·rw[qW h1,qW h2,qn5 _ _,qn5 _ _ oB]
def ztv(l:Bs)(c:UInt8)(i:Nat):(if i=l.length then Value.int .u8 c.toNat else bv l i)=bv (l++[c]) i:=by
 by_cases h:i<l.length
 ·rw[qW oA,zfs _ _ _ h]
 ·by_cases h1:i=l.length
  ·subst h1;rw[qX rfl,zfr]
  ·rw[qW h1,qn5 _ _,qn5 _ _ oB]
def vI2(p:Nat):Value.int .i64 ((p:Int)+2) = .int .i64 ((p+2:Nat):Int):=by rw[Int.natCast_add];rfl
def ua(p:Nat):Value.int .i64 ((p:Int)+1) = .int .i64 ((p+1:Nat):Int):=by rw[Int.natCast_add];rfl
def znj(n:Nat)(h:n<=4000000:=by omega):wrap64 (n:Int)=(n:Int):=by unfold wrap64;omega
def zy5(p:Addr)(n c:Nat)(w:World):(binOp .neq 23 (.slice (some p) n c) (.slice none 0 0)).run Tryz.prog w = .ok (.bool true) w:=oD
def zy4(w:World):(binOp .neq 23 (.slice none 0 0) (.slice none 0 0)).run Tryz.prog w = .ok (.bool false) w:=oD
def zvp(p:Addr)(n c:Nat)(w:World):(binOp .eql 23 (.slice (some p) n c) (.slice none 0 0)).run Tryz.prog w = .ok (.bool false) w:=oD
def zvo(w:World):(binOp .eql 23 (.slice none 0 0) (.slice none 0 0)).run Tryz.prog w = .ok (.bool true) w:=oD
set_option maxHeartbeats 4000000 in
set_option maxRecDepth 1000000 in
def ztp(R:Nat)(a b a1 a2 b1 b2:UInt8)(s:ByteArray)(w:World)(hab:a≠b)(hs:s.size<=1000000)(hB:mr R a b a1 a2 b1 b2 w) :
  Calls Tryz.prog 354 #[.pointer (some ⟨R,0,none⟩),.string s] w fun e w'=>e = .returned (.string ⟨(fe a b [a1,a2] [b1,b2] s.data.toList).toArray⟩)/\Below w.heap.size w w':=by
 obtain⟨ga,gb,gt,ca,cb,ct,-,hT,ht0,ht1,-⟩:=hB.ex;obtain⟨L,hL⟩:∃L,s.data.toList=L:=⟨_,rfl⟩;have ac:L.length=s.size:=by rw[← hL];exact(Lib.size_eq s).symm
 rw[hL];have HB:Aside (mr R a b a1 a2 b1 b2 w):=hB;clear hB;have cBc:=fun w=>zgb s b w
 have cAc:=fun w=>zgb s a w
 rw[hL]at cBc cAc;obtain⟨Z,hZ⟩:∃Z,kw a b L=Z:=⟨_,rfl⟩;have HZ:Aside (kw a b L=Z):=hZ;have hZ2:Z<=2000000:=by
  rw[← hZ];unfold kw;have h1:=List.count_le_length (a:=a) (l:=L);have h2:=List.count_le_length (a:=b) (l:=L);omega
 clear hZ;obtain⟨M,hM⟩:∃M,s.size+Z=M:=⟨_,rfl⟩;have HM:Aside (s.size+Z=M):=hM;have hMb:M<=3000000:=oA
 clear hM;have hn1:=zy5;have hn2:=zy4
 go_enter Tryz.func354,Tryz.ntmps354
 go_upto_if 26 with(fail)
 go_cut [5,6] (fun s5 s6 wx=>s5 = .int .i64 (M:Nat)/\s6 = .bool (decide (0<Z))/\Below w.heap.size w wx)
 case first=>
  obtain⟨X,hX⟩:∃X,L.count b=X:=⟨_,rfl⟩;obtain⟨Y,hY⟩:∃Y,L.count a=Y:=⟨_,rfl⟩;have HXY:Aside (Z=Y+X):=by show Z=Y+X;rw[← HZ.out];unfold kw;rw[hX,hY]
  have hXl:X<=s.size:=by rw[← hX,← ac];exact List.count_le_length
  have hYl:Y<=s.size:=by rw[← hY,← ac];exact List.count_le_length
  have cBc:∀w,Calls Tryz.prog 356 #[.string s,.string ⟨#[b]⟩] w fun e w'=>e = .returned (.int .i64 (X:Nat))/\w'=w:=fun w=>by rw[← hX];exact cBc w
  have cAc:∀w,Calls Tryz.prog 356 #[.string s,.string ⟨#[a]⟩] w fun e w'=>e = .returned (.int .i64 (Y:Nat))/\w'=w:=fun w=>by rw[← hY];exact cAc w
  clear hX hY
  go_wp2
  ·rename_i h16;clear h16
   go_loopg [5,6,32] 2 (fun gk s5 s6 s32 wx=>Below w.heap.size w wx/\((s32 = .int .i64 0/\s5 = .int .i64 (s.size:Nat)/\s6 = .bool false/\gk=2)\/(s32 = .int .i64 1/\s5 = .int .i64 ((s.size+X:Nat):Int)/\s6 = .bool (decide (0<X))/\gk=1)\/(s32 = .int .i64 2/\s5 = .int .i64 ((s.size+(Y+X):Nat):Int)/\s6 = .bool (decide (0<Y+X))/\gk=0)))
   case atStart=>exact⟨Below.refl _ _,Or.inl ⟨rfl,rfl,rfl,rfl⟩⟩
   case round=>
    obtain⟨hbw,h⟩:=hrel;have ht0':wr.cell? ⟨gt,0,none⟩=some (.string ⟨#[b]⟩):=(hbw.cell (World.block_lt_of_cell? _ _ ht0)).trans ht0;have ht1':wr.cell? ⟨gt,1,none⟩=some (.string ⟨#[a]⟩):=(hbw.cell (World.block_lt_of_cell? _ _ ht1)).trans ht1;clear ht0 ht1;rcases h with⟨rfl,rfl,rfl,rfl⟩|⟨rfl,rfl,rfl,rfl⟩|⟨rfl,rfl,rfl,rfl⟩
    ·have cX:=cBc wr;by_cases h0:X=0
     ·subst h0
      go_wp2_with (go_at_call 356;go_must (refine cX.mono ?_;rintro e W1 ⟨rfl,rfl⟩))
      go_roundg 1
      case measure=>omega
      case rel=>exact⟨hbw,Or.inr (Or.inl ⟨rfl,rfl,rfl,rfl⟩)⟩
     ·have hz:¬((X:Int)=0):=oA
      obtain⟨ga',gb',gt',ca',cb',ct',hR,-⟩:=(HB.out.below hbw).ex;have hRb:wr.cell? ⟨R,b.toNat,none⟩=some (.slice (some ⟨gb',0,none⟩) 2 cb'):=by rw[hR b];unfold rv;rw[qW (fun h=>hab h.symm),qX rfl]
      clear hR;have g0:∀h,(⟨#[b]⟩:ByteArray)[0]'h=b:=fun _=>rfl
      have g1:(b.toNat:Int)<256:=by have:=b.toNat_lt;omega
      go_wp2_with (go_at_call 356;go_must (refine cX.mono ?_;rintro e W1 ⟨rfl,rfl⟩))
      go_region
      all_goals go_wp2
      go_roundg 1
      case measure=>omega
      case rel=>exact⟨hbw.drew,Or.inr (Or.inl ⟨rfl,congrArg _ oA,by rw[decide_eq_true (Nat.pos_of_ne_zero h0)],rfl⟩)⟩
    ·have cX:=cAc wr;by_cases h0:Y=0
     ·subst h0
      go_wp2_with (go_at_call 356;go_must (refine cX.mono ?_;rintro e W1 ⟨rfl,rfl⟩))
      go_roundg 0
      case measure=>omega
      case rel=>exact⟨hbw,Or.inr (Or.inr ⟨rfl,congrArg _ oA,by rw[wO],rfl⟩)⟩
     ·have hz:¬((Y:Int)=0):=oA
      obtain⟨ga',gb',gt',ca',cb',ct',hR,-⟩:=(HB.out.below hbw).ex;have hRb:wr.cell? ⟨R,a.toNat,none⟩=some (.slice (some ⟨ga',0,none⟩) 2 ca'):=by rw[hR a];unfold rv;rw[qX rfl]
      clear hR;have g0:∀h,(⟨#[a]⟩:ByteArray)[0]'h=a:=fun _=>rfl
      have g1:(a.toNat:Int)<256:=by have:=a.toNat_lt;omega
      go_wp2_with (go_at_call 356;go_must (refine cX.mono ?_;rintro e W1 ⟨rfl,rfl⟩))
      go_region
      all_goals go_wp2
      go_roundg 0
      case measure=>omega
      case rel=>exact⟨hbw.drew,Or.inr (Or.inr ⟨rfl,congrArg _ oA,by rw[decide_eq_true (show 0<Y+X by omega)],rfl⟩)⟩
    ·go_wp2
     go_meet
     case rel=>exact⟨by rw[← HM.out,HXY.out],by rw[HXY.out],hbw⟩
  ·rename_i h16;clear h16
   go_loopg [5,6,10] s.size (fun gk s5 s6 s10 wx=>wx=w/\∃k C:Nat,s10 = .int .i64 k/\s5 = .int .i64 ((s.size+C:Nat):Int)/\s6 = .bool (decide (0<C))/\k<=s.size/\s.size<=k+gk/\Aside (kw a b (L.take k)=C)/\C<=2000000)
   case atStart=>exact⟨rfl,0,0,rfl,rfl,rfl,Nat.zero_le _,oA,rfl,oA⟩
   case round=>
    obtain⟨rfl,k,C,rfl,rfl,rfl,hk,hgk,HC,hC⟩:=hrel;by_cases hk2:k<s.size
    ·obtain⟨g,rfl⟩:∃g,gk=g+1:=⟨gk-1,oA⟩
     obtain⟨c,hc⟩:∃c,s[k]'hk2=c:=⟨_,rfl⟩;have hstep:Aside (kw a b (L.take (k+1))=C+(if c=a then 1 else if c=b then 1 else 0)):=by
      have h1:k<L.length:=by rw[ac];exact hk2
      have h2:L[k]'h1=c:=by subst hL;exact hc
      show _=_;rw[zmp L k h1,q5x,HC.out,q5y hab,h2]
     have hC3:Aside (kw a b (L.take (k+1))<=2000000):=by
      show _<=_;unfold kw;have h1:=List.count_le_length (a:=a) (l:=L.take (k+1));have h2:=List.count_le_length (a:=b) (l:=L.take (k+1));rw[List.length_take]at h1 h2;omega
     obtain⟨ga',gb',gt',ca',cb',ct',hR,-⟩:=HB.out.ex;have hRc:=hR c;unfold rv at hRc;clear hR;have g1:(c.toNat:Int)<256:=by have:=c.toNat_lt;omega
     by_cases h1:c=a
     ·rw[qX h1]at hRc;rw[qX h1]at hstep;clear h1
      go_wp2
      go_roundg g
      case measure=>omega
      case rel=>exact⟨rfl,k+1,C+1,congrArg _ oA,congrArg _ oA,by rw[decide_eq_true (Nat.succ_pos C)],oA,oA,hstep,by have:=hC3.out;rw[hstep.out]at this;exact this⟩
     ·rw[qW h1]at hRc;rw[qW h1]at hstep;by_cases h2:c=b
      ·rw[qX h2]at hRc;rw[qX h2]at hstep;clear h1 h2
       go_wp2
       go_roundg g
       case measure=>omega
       case rel=>exact⟨rfl,k+1,C+1,congrArg _ oA,congrArg _ oA,by rw[decide_eq_true (Nat.succ_pos C)],oA,oA,hstep,by have:=hC3.out;rw[hstep.out]at this;exact this⟩
      ·rw[qW h2]at hRc;rw[qW h2]at hstep;clear h1 h2
       go_wp2
       go_roundg g
       case measure=>omega
       case rel=>exact⟨rfl,k+1,C,congrArg _ oA,congrArg _ oA,rfl,oA,oA,hstep,hC⟩
    ·obtain rfl:k=s.size:=oA
     have HC2:C=Z:=by rw[← HC.out,← ac,List.take_length,HZ.out]
     subst HC2
     go_wp2
     go_meet
     case rel=>exact⟨by rw[HM.out],rfl,Below.refl _ _⟩
 case rest=>
  obtain⟨rfl,hs6,hbw⟩:=hcut;cases h0:decide (0<Z)<;>rw[h0]at hs6<;>subst hs6
  ·have hz0:=of_decide_eq_false h0;have hid:=zg1 hab [a1,a2] [b1,b2] L (by rw[HZ.out];omega)
   clear h0 hz0;have HI:Aside (fe a b [a1,a2] [b1,b2] L=L):=hid;clear hid
   go_wp2
   go_ret
   exact⟨by rw[HI.out,← hL];rfl,hbw⟩
  ·clear h0;have hmk:∀w:World,(Instr.makeSlice 23 (.int .i64 (M:Int)) (.int .i64 (M:Int))).run Tryz.prog w = .ok (.slice (some ⟨w.heap.size,0,none⟩) M M) (w.alloc (.cells (madeCells #[.int .u8 0] M) 5)):=fun w=>
    run_make_row' (P:=Tryz.prog) 23 5 (.int .u8 0) 1 Tryz.underlying23 oD rfl .i64 .i64 M oA oA w
   go_wp2
   obtain⟨G,hG⟩:∃G,wc.heap.size=G:=⟨_,rfl⟩;have hrow0:=World.rowIs_made wc (.int .u8 0) M 5;have hGle:w.heap.size<=G:=by rw[← hG];exact hbw.size
   have hbw1:=hbw.alloc hbw.size (Obj.cells (madeCells #[.int .u8 0] M) 5);rw[hG]at hrow0 ⊢;have hLM:Aside (∀k,(fe a b [a1,a2] [b1,b2] (L.take k)).length<=M):=fun k=>by
    have h1:fe a b [a1,a2] [b1,b2] L=fe a b [a1,a2] [b1,b2] (L.take k)++fe a b [a1,a2] [b1,b2] (L.drop k):=by rw[← qve,List.take_append_drop]
    have h2:=congrArg List.length h1;rw[qvf hab,ac,HZ.out,HM.out,qM]at h2;omega
   go_loopg [13,14] s.size (fun gk s13 s14 wx=>∃k j:Nat,s13 = .int .i64 j/\s14 = .int .i64 k/\k<=s.size/\s.size<=k+gk/\j<=M/\Aside ((fe a b [a1,a2] [b1,b2] (L.take k)).length=j)/\Aside (wx.rowIs G 5 M (bv (fe a b [a1,a2] [b1,b2] (L.take k))))/\Below w.heap.size w wx)
   case atStart=>exact⟨0,0,rfl,rfl,Nat.zero_le _,oA,Nat.zero_le _,rfl,hrow0.congr (fun i _=>(qn5 [] i (Nat.zero_le _)).symm),hbw1⟩
   case round=>
    obtain⟨k,j,rfl,rfl,hk,hgk,hjM,HJ,hrow,hbx⟩:=hrel;clear hrow0 hbw1;by_cases hk2:k<s.size
    ·obtain⟨g,rfl⟩:∃g,gk=g+1:=⟨gk-1,oA⟩
     have HG:Aside (s.size<=k+1+g):=by show _<=_;omega
     clear hgk hk;obtain⟨c,hc⟩:∃c,s[k]'hk2=c:=⟨_,rfl⟩;have hk1:k<L.length:=by rw[ac];exact hk2
     have hLk:L[k]'hk1=c:=by subst hL;exact hc
     have hstep:Aside (fe a b [a1,a2] [b1,b2] (L.take (k+1))=fe a b [a1,a2] [b1,b2] (L.take k)++sx a b [a1,a2] [b1,b2] c):=by
      show _=_;rw[zmp L k hk1,qve,hLk];show _++(sx a b [a1,a2] [b1,b2] c++[])=_;rw[List.append_nil]
     have hfit:Aside (j+(sx a b [a1,a2] [b1,b2] c).length<=M):=by
      have:=hLM.out (k+1);rw[hstep.out,qM,HJ.out]at this;exact this
     clear hLk hk1;obtain⟨ga',gb',gt',ca',cb',ct',hR,hT',ht0',ht1',ha0,ha1,hb0,hb1⟩:=(HB.out.below hbx).ex;have hRc:=hR c;unfold rv at hRc;clear hR hT' ht0' ht1';have g1:(c.toNat:Int)<256:=by have:=c.toNat_lt;omega
     unfold sx at hstep hfit;by_cases h1:c=a
     ·rw[qX h1]at hRc hstep hfit;have hf2:j+2<=M:=hfit.out;clear h1;have hMj:¬M=j:=oA
      obtain⟨ROW,hcp,hnew⟩:=zga (w:=wr.drew) (c:=ca') hrow.out.drew hf2 (by rw[World.cell?_drew];exact ha0) (by rw[World.cell?_drew];exact ha1)
      have HN:Aside (_):=hnew;have HW:Aside (wrap64 ((j:Int)+2)=(j:Int)+2):=by have:=znj (j+2);rw[Int.natCast_add]at this;exact this
      clear hnew
      go_wp2
      go_region
      all_goals go_wp2
      go_roundg g
      case measure=>exact Nat.lt_succ_self _
      case rel=>exact⟨k+1,j+2,by first|exact vI2 j|exact(congrArg (Value.int .i64) HW.out).trans (vI2 j),ua k,hk2,HG.out,hf2,by show _=_;rw[hstep.out,qM,HJ.out];rfl,World.rowIs.congr HN.out (fun i _=>by rw[hstep.out,← zft,HJ.out]),below_setRow hbx.drew hGle _⟩
     ·rw[qW h1]at hRc hstep hfit;by_cases h2:c=b
      ·rw[qX h2]at hRc hstep hfit;have hf2:j+2<=M:=hfit.out;clear h1 h2;have hMj:¬M=j:=oA
       obtain⟨ROW,hcp,hnew⟩:=zga (w:=wr.drew) (c:=cb') hrow.out.drew hf2 (by rw[World.cell?_drew];exact hb0) (by rw[World.cell?_drew];exact hb1)
       have HN:Aside (_):=hnew;have HW:Aside (wrap64 ((j:Int)+2)=(j:Int)+2):=by have:=znj (j+2);rw[Int.natCast_add]at this;exact this
       clear hnew
       go_wp2
       go_region
       all_goals go_wp2
       go_roundg g
       case measure=>exact Nat.lt_succ_self _
       case rel=>exact⟨k+1,j+2,by first|exact vI2 j|exact(congrArg (Value.int .i64) HW.out).trans (vI2 j),ua k,hk2,HG.out,hf2,by show _=_;rw[hstep.out,qM,HJ.out];rfl,World.rowIs.congr HN.out (fun i _=>by rw[hstep.out,← zft,HJ.out]),below_setRow hbx.drew hGle _⟩
      ·rw[qW h2]at hRc hstep hfit;have hf1:j+1<=M:=hfit.out;clear h1 h2;have hcell:wr.cell? ⟨G,j,none⟩=some (bv (fe a b [a1,a2] [b1,b2] (L.take k)) j):=hrow.out.cell oA
       have hfroz:wr.frozen? ⟨G,j,none⟩=false:=hrow.out.frozen j
       go_wp2
       go_roundg g
       case measure=>exact Nat.lt_succ_self _
       case rel=>exact⟨k+1,j+1,ua j,ua k,hk2,HG.out,hf1,by show _=_;rw[hstep.out,qM,HJ.out];rfl,World.rowIs.congr (World.rowIs.set hrow.out j _) (fun i _=>by rw[hstep.out,← ztv,HJ.out]),hbx.setCell hGle _⟩
    ·obtain rfl:k=s.size:=oA
     have HT:Aside (L.take s.size=L):=by show _=_;rw[← ac,List.take_length]
     have HE:Aside (∃l,l=fe a b [a1,a2] [b1,b2] L/\l.length=M):=⟨_,rfl,by rw[qvf hab,ac,HZ.out,HM.out]⟩
     obtain⟨E,hE,hEl⟩:=HE.out;have hcv:(convert 23 9 (.slice (some ⟨G,0,none⟩) M M)).run Tryz.prog wr = .ok (.string ⟨E.toArray⟩) wr:=by
      have h:=run_convert_bytes_back (P:=Tryz.prog) wr 23 9 5 ⟨G,0,none⟩ M E Tryz.underlying23 Tryz.underlying5 Tryz.underlying9 (fun i hi=>by
       rw[ku,wO,hrow.out.cell oA,HT.out,← hE]
       unfold bv;rw[List.getD_eq_getElem?_getD,List.getElem?_eq_getElem hi];rfl)
      rw[hEl]at h;exact h
     have HEq:Aside (E=fe a b [a1,a2] [b1,b2] L):=hE;clear hE hEl
     go_wp2
     go_ret
     exact⟨by rw[← HEq.out];rfl,hbx⟩
end Go.Proofs.Repl
set_option linter.unusedVariables false
namespace Go.Proofs.Repl
open Go.Shelf Go.RowKit Go.Lib Go.Sym
def zw5:(Tryz.prog.info? 9).map (fun i=>(i.zero,i.size,i.bytes))=some (some (Value.string ⟨#[]⟩),1,16):=oD
def mk2(w:World):(Instr.makeSlice 49 (.int .i64 0) (.int .i64 2)).run Tryz.prog w = .ok (.slice (some ⟨w.heap.size,0,none⟩) 0 2) (w.alloc (.cells #[.string ⟨#[]⟩,.string ⟨#[]⟩] 9)):=by
 obtain⟨i,hi,hzz⟩:=Option.map_eq_some_iff.1 zw5;simp only[qP]at hzz;obtain⟨hz,hs,hb⟩:=hzz;have h:=run_make (P:=Tryz.prog) w 49 9 i (.string ⟨#[]⟩) Tryz.underlying49 hi hz .i64 .i64 0 2 oF oF (by rw[hb];decide) oF
 rw[hs,show madeCells (Value.string ⟨#[]⟩).cells (Int.toNat 2*1)=#[.string ⟨#[]⟩,.string ⟨#[]⟩] from oD]at h
 exact h
def zr(V:Value)(j:Nat):Value:=if j=256 then V else .slice none 0 0
def z1(b:UInt8)(g c:Nat)(V:Value)(j:Nat):Value:=if j=b.toNat then .slice (some ⟨g,0,none⟩) 2 c else zr V j
def vi6:Tryz.zeroCells311.toList.length=257:=oD
def vi3:Tryz.zeroCells311.toList.all (fun v=>v.oneCell')=true:=oD
def nh:Option Value->Bool|some (.slice none n c)=>Nat.beq n 0&&Nat.beq c 0|_=>false
def zxa{v:Option Value}(h:nh v=true):v=some (.slice none 0 0):=by
 unfold nh at h;split at h
 ·simp only[qA]at h;rw[qN h.1,qN h.2]
 ·cases h
def vi4:(List.range 257).all (fun j=>nh Tryz.zeroCells311.toList[j]?)=true:=oD
def z32(w:World)(T:Nat):∃ROW,(storeCells ⟨w.heap.size,0,none⟩ (Tryz.zeroCells311.toList.set 256 (.slice (some ⟨T,0,none⟩) 0 2))).run Tryz.prog (w.alloc (.cells Tryz.zeroCells311 311)) = .ok () ((w.alloc (.cells Tryz.zeroCells311 311)).setRow w.heap.size ROW) /\
  ((w.alloc (.cells Tryz.zeroCells311 311)).setRow w.heap.size ROW).rowIs w.heap.size 311 257 (zr (.slice (some ⟨T,0,none⟩) 0 2)):=by
 have hnew:(w.alloc (.cells Tryz.zeroCells311 311)).heap[w.heap.size]? = some (.cells Tryz.zeroCells311 311):=heap_alloc_new w _;have hz:=vi6;have h:=run_storeCells_at Tryz.prog w.heap.size 0 311 (Tryz.zeroCells311.toList.set 256 (.slice (some ⟨T,0,none⟩) 0 2)) 0 _ _ hnew (by rw[List.length_set,hz,← Array.length_toList,hz];decide) (fun v hv=>by
  rcases List.mem_or_eq_of_mem_set hv with hv|rfl
  ·exact List.all_eq_true.1 vi3 v hv
  ·rfl)
 refine⟨_,h,?_⟩;refine⟨_,setRow_heap _ _ _ _ _ _ hnew,?_,fun i hi => ?_⟩
 ·simp only[List.size_toArray,qM,List.length_set,List.length_take,List.length_drop,hz];decide
 ·rw[List.getElem?_toArray,List.length_set,hz,List.drop_eq_nil_of_le (by rw[hz];decide),List.append_nil]
  show([]++_)[i]? = _;rw[List.nil_append,List.getElem?_set];unfold zr;by_cases h2:256=i
  ·subst h2;rw[qX rfl,qX rfl,hz];rfl
  ·rw[qW h2,qW (fun e=>h2 e.symm)]
   exact zxa (List.all_eq_true.1 vi4 i (List.mem_range.2 hi))
def qgs(w:World)(x y:UInt8):Obj := .cells (bytesRow ⟨#[x,y]⟩ (grownCap w 2 0 5)) 5 ((bytesRow ⟨#[x,y]⟩ (grownCap w 2 0 5)).size,(bytesRow ⟨#[x,y]⟩ (grownCap w 2 0 5)).size+1)
def qgm(w:World):Nat:=grownCap w 2 0 5
def cv2(w:World)(x y:UInt8):(convert 9 23 (.string ⟨#[x,y]⟩)).run Tryz.prog w = .ok (.slice (some ⟨w.heap.size,0,none⟩) 2 (qgm w)) (w.drew.alloc (qgs w x y)):=
 run_bytes_of_string (P:=Tryz.prog) w 9 23 5 ⟨#[x,y]⟩ Tryz.underlying9 Tryz.underlying23 Tryz.underlying5
def ztr(w W:World)(x y:UInt8):(W.alloc (qgs w x y)).cell? ⟨W.heap.size,0,none⟩=some (.int .u8 x.toNat)/\(W.alloc (qgs w x y)).cell? ⟨W.heap.size,1,none⟩=some (.int .u8 y.toNat):=by
 unfold qgs;rw[World.cell?_alloc_mark,World.cell?_alloc_mark];exact⟨bytesRow_at ⟨#[x,y]⟩ _ 0 (by show 0<2;decide),bytesRow_at ⟨#[x,y]⟩ _ 1 (by show 1<2;decide)⟩
def cv1(w:World)(x:UInt8):(convert 23 9 (.slice (some ⟨w.heap.size,0,none⟩) 1 1)).run Tryz.prog (w.alloc (.cells #[.int .u8 x.toNat] 5)) = .ok (.string ⟨#[x]⟩) (w.alloc (.cells #[.int .u8 x.toNat] 5)):=
 run_convert_bytes_back (P:=Tryz.prog) _ 23 9 5 ⟨w.heap.size,0,none⟩ 1 [x] Tryz.underlying23 Tryz.underlying5 Tryz.underlying9 (fun i hi=>by
  have:i=0:=by simpa using hi
  subst this;rw[ku];show World.cell? _ ⟨w.heap.size,0,none⟩=_;unfold World.cell?;rw[show(w.alloc (.cells #[.int .u8 (x.toNat:Int)] 5)).heap[w.heap.size]? = _ from heap_alloc_new w _]
  rfl)
def w4(wr:World)(T k n:Nat)(c:UInt8):World:=(((wr.alloc (.cells #[.int .u8 c.toNat] 5)).alloc (.cells #[.string ⟨#[c]⟩] 9)).setCell ⟨T,k,none⟩ (.string ⟨#[c]⟩)).setCell ⟨T+1,256,none⟩ (.slice (some ⟨T,0,none⟩) n 2)
def w5(wr:World)(T k n:Nat)(c x y:UInt8):World:=(((w4 wr T k n c).alloc (qgs (w4 wr T k n c) x y)).setCell ⟨T+1,c.toNat,none⟩ (.slice (some ⟨wr.heap.size+1+1,0,none⟩) 2 (qgm (w4 wr T k n c)))).drew
def zmc(wr:World)(T k n:Nat)(c x y:UInt8)(hT:T+2<=wr.heap.size){f h:Nat->Value}(hR:wr.rowIs (T+1) 311 257 f)(hTr:wr.rowIs T 9 2 h) :
  (w5 wr T k n c x y).rowIs (T+1) 311 257 (fun j=>if j=c.toNat then .slice (some ⟨wr.heap.size+1+1,0,none⟩) 2 (qgm (w4 wr T k n c)) else if j=256 then .slice (some ⟨T,0,none⟩) n 2 else f j)/\(w5 wr T k n c x y).rowIs T 9 2 (fun i=>if i=k then .string ⟨#[c]⟩ else h i) /\
   (w5 wr T k n c x y).cell? ⟨wr.heap.size+1+1,0,none⟩=some (.int .u8 x.toNat)/\(w5 wr T k n c x y).cell? ⟨wr.heap.size+1+1,1,none⟩=some (.int .u8 y.toNat)/\(∀p:Addr,T+2<=p.block->p.block<wr.heap.size->(w5 wr T k n c x y).cell? p=wr.cell? p)/\Below T wr (w5 wr T k n c x y)/\T+2<=(w5 wr T k n c x y).heap.size:=by
 unfold w5;generalize hWb:qgs (w4 wr T k n c) x y=B;generalize (Value.slice (some ⟨wr.heap.size+1+1,0,none⟩) 2 (qgm (w4 wr T k n c)))=V3;have hbc0:=fun W=>ztr (w4 wr T k n c) W x y
 rw[hWb]at hbc0;unfold w4;clear hWb;generalize (Obj.cells #[.int .u8 c.toNat] 5)=o1;generalize (Obj.cells #[.string ⟨#[c]⟩] 9)=o2;generalize (Value.string ⟨#[c]⟩)=S;generalize (Value.slice (some ⟨T,0,none⟩) n 2)=V2;have hsz:((((wr.alloc o1).alloc o2).setCell ⟨T,k,none⟩ S).setCell ⟨T+1,256,none⟩ V2).heap.size=wr.heap.size+1+1:=by simp[World.setCell]
 have hbc:=hbc0 ((((wr.alloc o1).alloc o2).setCell ⟨T,k,none⟩ S).setCell ⟨T+1,256,none⟩ V2);rw[hsz]at hbc;refine⟨?_,?_,?_,?_,fun p h1 h2 => ?_,?_,?_⟩
 ·exact(((((hR.alloc o1).alloc o2).setOther (a:=⟨T,k,none⟩) oC S).set 256 V2).alloc _).set _ V3
 ·exact(((((hTr.alloc o1).alloc o2).set k S).setOther (a:=⟨T+1,256,none⟩) oC V2).alloc _).setOther (a:=⟨T+1,c.toNat,none⟩) oC V3
 ·rw[World.cell?_drew,World.cell?_setCell_other _ _ _ _ (by intro h;have:=congrArg Addr.block h;simp at this;omega)];exact hbc.1
 ·rw[World.cell?_drew,World.cell?_setCell_other _ _ _ _ (by intro h;have:=congrArg Addr.block h;simp at this;omega)];exact hbc.2
 ·refine World.cell?_of_block (w:=wr) ?_;show(World.setCell _ _ _).heap[p.block]? = _;rw[Below.heap_setCell _ _ _ _ oB,Below.heap_alloc _ _ _ (by rw[hsz];omega),Below.heap_setCell _ _ _ _ oB,Below.heap_setCell _ _ _ _ oB,Below.heap_alloc _ _ _ oB,Below.heap_alloc _ _ _ h2]
 ·have hsz2:wr.heap.size+1+1=((((wr.alloc o1).alloc o2).setCell ⟨T,k,none⟩ S).setCell ⟨T+1,256,none⟩ V2).heap.size:=hsz.symm;exact(((((((Below.refl T wr).alloc oA o1).alloc oB o2).setCell (p:=⟨T,k,none⟩) (wF _) S).setCell (p:=⟨T+1,256,none⟩) (Nat.le_succ _) V2).alloc oA _).setCell (p:=⟨T+1,c.toNat,none⟩) (Nat.le_succ _) V3).drew
 ·show _<=(World.setCell _ _ _).heap.size;simp[World.setCell];omega
set_option maxHeartbeats 4000000 in
set_option maxRecDepth 1000000 in
def zti(q ro cap:Nat)(a b a1 a2 b1 b2:UInt8)(w:World)(hab:a≠b)
  (hc:w.cell? ⟨q,4,none⟩=some (.slice (some ⟨ro,0,none⟩) 4 cap)) (h0:w.cell? ⟨ro,0,none⟩=some (.string ⟨#[a]⟩)) (h1:w.cell? ⟨ro,1,none⟩=some (.string ⟨#[a1,a2]⟩)) (h2:w.cell? ⟨ro,2,none⟩=some (.string ⟨#[b]⟩)) (h3:w.cell? ⟨ro,3,none⟩=some (.string ⟨#[b1,b2]⟩)) :
  Calls Tryz.prog 231 #[.pointer (some ⟨q,0,none⟩)] w fun e w'=>∃R,e = .returned (.iface 312 (.pointer (some ⟨R,0,none⟩)))/\mr R a b a1 a2 b1 b2 w'/\Below w.heap.size w w':=by
 go_enter Tryz.func231,Tryz.ntmps231
 go_wp2
 go_loopg [4,5] 2 (fun gk s4 s5 wx=>wx=w/\((s5 = .int .i64 0/\s4 = .bool true/\gk=2)\/(s5 = .int .i64 2/\s4 = .bool false/\gk=1)\/(s5 = .int .i64 4/\s4 = .bool false/\gk=0)))
 case atStart=>exact⟨rfl,Or.inl ⟨rfl,rfl,rfl⟩⟩
 case round=>
  obtain⟨rfl,⟨rfl,rfl,rfl⟩|⟨rfl,rfl,rfl⟩|⟨rfl,rfl,rfl⟩⟩:=hrel
  ·go_wp2
   go_roundg 1
   case measure=>exact Nat.lt_succ_self _
   case rel=>exact⟨rfl,Or.inr (Or.inl ⟨rfl,rfl,rfl⟩)⟩
  ·go_wp2
   go_roundg 0
   case measure=>exact Nat.lt_succ_self _
   case rel=>exact⟨rfl,Or.inr (Or.inr ⟨rfl,rfl,rfl⟩)⟩
  ·have hmk:=mk2;obtain⟨W1,hW1⟩:∃W1,wr.alloc (.cells #[.string ⟨#[]⟩,.string ⟨#[]⟩] 9)=W1:=⟨_,rfl⟩;have hz1:W1.heap.size=wr.heap.size+1:=by rw[← hW1];simp
   have hT1:W1.rowIs wr.heap.size 9 2 (fun _ => .string ⟨#[]⟩):=by rw[← hW1];exact World.rowIs_alloc wr _ _ _ (fun i hi=>by match i,hi with|0,_=>rfl|1,_=>rfl)
   have hb1:Below wr.heap.size wr W1:=by rw[← hW1];exact(Below.refl _ _).alloc (wF _) _
   obtain⟨ROW,hst,hrow⟩:=z32 W1 wr.heap.size;rw[hz1]at hst hrow;have hT2:=(hT1.alloc (.cells Tryz.zeroCells311 311)).of_block (setRow_other (W1.alloc (.cells Tryz.zeroCells311 311)) (wr.heap.size+1) wr.heap.size ROW oA)
   have hb2:=below_setRow (hb1.alloc hb1.size (.cells Tryz.zeroCells311 311)) (Nat.le_succ wr.heap.size) ROW;obtain⟨W2,hW2⟩:∃W2,(W1.alloc (.cells Tryz.zeroCells311 311)).setRow (wr.heap.size+1) ROW=W2:=⟨_,rfl⟩;rw[hW2]at hst hrow hT2 hb2;have HB2:Aside (W2.rowIs (wr.heap.size+1) 311 257 (zr (.slice (some ⟨wr.heap.size,0,none⟩) 0 2))/\W2.rowIs wr.heap.size 9 2 (fun _ => .string ⟨#[]⟩)/\Below wr.heap.size wr W2):=⟨hrow,hT2,hb2⟩
   clear hrow hT2 hb2 hT1 hb1 hW2
   go_wp2
   obtain⟨T,hT⟩:∃T,wr.heap.size=T:=⟨_,rfl⟩;rw[hT]at HB2 ⊢;have hS:Aside (wr.heap.size=T):=hT;clear hst hmk hz1 hW1 hT
   go_loopg [12] 2 (fun gk s12 wx=>Below T wr wx/\T+2<=wx.heap.size/\(
    (s12 = .int .i64 2/\gk=2/\Aside (wx.rowIs (T+1) 311 257 (zr (.slice (some ⟨T,0,none⟩) 0 2))/\wx.rowIs T 9 2 (fun _ => .string ⟨#[]⟩))) \/
    (s12 = .int .i64 0/\gk=1/\∃gb cb,T+2<=gb/\gb<wx.heap.size/\Aside (wx.rowIs (T+1) 311 257 (fun j=>if j=b.toNat then .slice (some ⟨gb,0,none⟩) 2 cb else if j=256 then .slice (some ⟨T,0,none⟩) 1 2 else .slice none 0 0)/\wx.rowIs T 9 2 (fun i=>if i=0 then .string ⟨#[b]⟩ else .string ⟨#[]⟩)/\wx.cell? ⟨gb,0,none⟩=some (.int .u8 b1.toNat)/\wx.cell? ⟨gb,1,none⟩=some (.int .u8 b2.toNat))) \/
    (s12 = .int .i64 (-2)/\gk=0/\Aside (mr (T+1) a b a1 a2 b1 b2 wx))))
   case atStart=>exact⟨HB2.out.2.2,by have:=HB2.out.1.lt;omega,Or.inl ⟨rfl,rfl,HB2.out.1,HB2.out.2.1⟩⟩
   case round=>
    obtain⟨hbx,hsz,h⟩:=hrel;have k0:=(hbx.cell (p:=⟨ro,0,none⟩) (by rw[← hS.out];exact World.block_lt_of_cell? _ _ h0)).trans h0
    have k1:=(hbx.cell (p:=⟨ro,1,none⟩) (by rw[← hS.out];exact World.block_lt_of_cell? _ _ h1)).trans h1
    have k2:=(hbx.cell (p:=⟨ro,2,none⟩) (by rw[← hS.out];exact World.block_lt_of_cell? _ _ h2)).trans h2
    have k3:=(hbx.cell (p:=⟨ro,3,none⟩) (by rw[← hS.out];exact World.block_lt_of_cell? _ _ h3)).trans h3
    clear h0 h1 h2 h3 hc HB2;have e1:=zvp;have e2:=zvo;have e3:=cv1;have e4:=cv2;rcases h with⟨rfl,rfl,hr⟩|⟨rfl,rfl,gb,cb,hgb,hgs,hr⟩|⟨rfl,rfl,hr⟩
    ·have g0:∀h,(⟨#[b]⟩:ByteArray)[0]'h=b:=fun _=>rfl
     have g1:(b.toNat:Int)<256:=by have:=b.toNat_lt;omega
     have g2:b.toNat<256:=b.toNat_lt;have hRb:wr.cell? ⟨T+1,b.toNat,none⟩=some (.slice none 0 0):=by
      rw[hr.out.1.cell oA];unfold zr;rw[qW (by have:=b.toNat_lt;omega)]
     have hR2:wr.cell? ⟨T+1,256,none⟩=some (.slice (some ⟨T,0,none⟩) 0 2):=by rw[hr.out.1.cell oF];rfl
     have hT0:∀o1 o2,((wr.alloc o1).alloc o2).cell? ⟨T,0,none⟩=some (.string ⟨#[]⟩):=fun o1 o2=>((hr.out.2.alloc o1).alloc o2).cell oF
     have hTf:∀o1 o2,((wr.alloc o1).alloc o2).frozen? ⟨T,0,none⟩=false:=fun o1 o2=>((hr.out.2.alloc o1).alloc o2).frozen _
     have hR3:∀o1 o2,((wr.alloc o1).alloc o2).cell? ⟨T+1,256,none⟩=some (.slice (some ⟨T,0,none⟩) 0 2):=fun o1 o2=>by rw[((hr.out.1.alloc o1).alloc o2).cell oF];rfl
     have hRf:∀o1 o2,((wr.alloc o1).alloc o2).frozen? ⟨T+1,256,none⟩=false:=fun o1 o2=>((hr.out.1.alloc o1).alloc o2).frozen _
     have hR4:∀o1 o2 v1 v2 o3,(((((wr.alloc o1).alloc o2).setCell ⟨T,0,none⟩ v1).setCell ⟨T+1,256,none⟩ v2).alloc o3).cell? ⟨T+1,b.toNat,none⟩=some (.slice none 0 0):=fun o1 o2 v1 v2 o3=>by
      rw[((((((hr.out.1.alloc o1).alloc o2).setOther (a:=⟨T,0,none⟩) oC v1).set 256 v2)).alloc o3).cell oA]
      rw[qW oA];unfold zr;rw[qW (by have:=b.toNat_lt;omega)]
     have hRg:∀o1 o2 v1 v2 o3,(((((wr.alloc o1).alloc o2).setCell ⟨T,0,none⟩ v1).setCell ⟨T+1,256,none⟩ v2).alloc o3).frozen? ⟨T+1,b.toNat,none⟩=false:=fun o1 o2 v1 v2 o3=>
      ((((((hr.out.1.alloc o1).alloc o2).setOther (a:=⟨T,0,none⟩) oC v1).set 256 v2)).alloc o3).frozen _
     clear g2
     go_wp2
     go_roundg 1
     case measure=>exact Nat.lt_succ_self _
     case rel=>
      have HS:=zmc wr T 0 1 b b1 b2 hsz hr.out.1 hr.out.2;obtain⟨q1,q2,q3,q4,q5,q6,q7⟩:=HS;have q8:=World.block_lt_of_cell? _ _ q3;refine⟨hbx.trans q6,q7,Or.inr (Or.inl ⟨rfl,rfl,wr.heap.size+1+1,qgm (w4 wr T 0 1 b),oA,q8,(?_:_/\_/\_/\_)⟩)⟩
      refine⟨q1.congr (fun j _ => ?_),q2,q3,q4⟩
      ·show(if _ then _ else if _ then _ else zr _ j)=_
       unfold zr;by_cases h1:j=b.toNat
       ·rw[qX h1,qX h1]
       ·by_cases h2:j=256
        ·rw[qW h1,qX h2,qW h1,qX h2]
        ·rw[qW h1,qW h2,qW h2,qW h1,qW h2]
    ·have g0:∀h,(⟨#[a]⟩:ByteArray)[0]'h=a:=fun _=>rfl
     have g1:(a.toNat:Int)<256:=by have:=a.toNat_lt;omega
     have g2:a.toNat<256:=a.toNat_lt;have hne:¬a.toNat=b.toNat:=fun h=>hab (UInt8.toNat_inj.1 h)
     have HNE:Aside (¬a.toNat=b.toNat):=hne;have hRb:wr.cell? ⟨T+1,a.toNat,none⟩=some (.slice none 0 0):=by
      rw[hr.out.1.cell oA];rw[qW oA,qW oA]
     have hR2:wr.cell? ⟨T+1,256,none⟩=some (.slice (some ⟨T,0,none⟩) 1 2):=by rw[hr.out.1.cell oF];rw[qW (by have:=b.toNat_lt;omega),qX rfl]
     have hT0:∀o1 o2,((wr.alloc o1).alloc o2).cell? ⟨T,1,none⟩=some (.string ⟨#[]⟩):=fun o1 o2=>((hr.out.2.1.alloc o1).alloc o2).cell oF
     have hTf:∀o1 o2,((wr.alloc o1).alloc o2).frozen? ⟨T,1,none⟩=false:=fun o1 o2=>((hr.out.2.1.alloc o1).alloc o2).frozen _
     have hR3:∀o1 o2,((wr.alloc o1).alloc o2).cell? ⟨T+1,256,none⟩=some (.slice (some ⟨T,0,none⟩) 1 2):=fun o1 o2=>by rw[((hr.out.1.alloc o1).alloc o2).cell oF];rw[qW (by have:=b.toNat_lt;omega),qX rfl]
     have hRf:∀o1 o2,((wr.alloc o1).alloc o2).frozen? ⟨T+1,256,none⟩=false:=fun o1 o2=>((hr.out.1.alloc o1).alloc o2).frozen _
     have hR4:∀o1 o2 v1 v2 o3,(((((wr.alloc o1).alloc o2).setCell ⟨T,1,none⟩ v1).setCell ⟨T+1,256,none⟩ v2).alloc o3).cell? ⟨T+1,a.toNat,none⟩=some (.slice none 0 0):=fun o1 o2 v1 v2 o3=>by
      rw[((((((hr.out.1.alloc o1).alloc o2).setOther (a:=⟨T,1,none⟩) oC v1).set 256 v2)).alloc o3).cell oA]
      rw[qW oA];rw[qW oA,qW oA]
     have hRg:∀o1 o2 v1 v2 o3,(((((wr.alloc o1).alloc o2).setCell ⟨T,1,none⟩ v1).setCell ⟨T+1,256,none⟩ v2).alloc o3).frozen? ⟨T+1,a.toNat,none⟩=false:=fun o1 o2 v1 v2 o3=>
      ((((((hr.out.1.alloc o1).alloc o2).setOther (a:=⟨T,1,none⟩) oC v1).set 256 v2)).alloc o3).frozen _
     clear g2 hne
     go_wp2
     go_roundg 0
     case measure=>exact Nat.lt_succ_self _
     case rel=>
      have HS:=zmc wr T 1 2 a a1 a2 hsz hr.out.1 hr.out.2.1;obtain⟨q1,q2,q3,q4,q5,q6,q7⟩:=HS;have hgbR:=(q5 ⟨gb,0,none⟩ hgb hgs).trans hr.out.2.2.1;have hgbS:=(q5 ⟨gb,1,none⟩ hgb hgs).trans hr.out.2.2.2;have hB:mr (T+1) a b a1 a2 b1 b2 (w5 wr T 1 2 a a1 a2):=by
       refine⟨wr.heap.size+1+1,gb,T,qgm (w4 wr T 1 2 a),cb,2,fun d => ?_,?_,?_,?_,q3,q4,hgbR,hgbS⟩
       ·rw[q1.cell (by have:=d.toNat_lt;omega)]
        unfold rv;by_cases h1:d=a
        ·rw[qX (congrArg _ h1),qX h1]
        ·rw[qW (fun h=>h1 (UInt8.toNat_inj.1 h)),qW h1,qW (by have:=d.toNat_lt;omega)]
         by_cases h2:d=b
         ·rw[qX (congrArg _ h2),qX h2]
         ·rw[qW (fun h=>h2 (UInt8.toNat_inj.1 h)),qW h2,qW (by have:=d.toNat_lt;omega)]
       ·rw[q1.cell oF,qW (by have:=a.toNat_lt;omega),qX rfl]
       ·rw[q2.cell oF];rfl
       ·rw[q2.cell oF];rfl
      exact⟨hbx.trans q6,q7,Or.inr (Or.inr ⟨rfl,rfl,hB⟩)⟩
    ·go_wp2
     go_ret
     exact⟨T+1,rfl,hr.out,by rw[hS.out];exact hbx⟩
end Go.Proofs.Repl
namespace Go.Proofs.YtgpcmiimfgghdaaGreatDoor.Once
open Go.Sym(oD)
def disable(w:World):(callFunc 288 #[]).run Tryz.prog w = .ok (.value (.tuple #[])) w:=run_call_mark0 Tryz.func288 oD oD oD .disable oD w
def enable(w:World):(callFunc 290 #[]).run Tryz.prog w = .ok (.value (.tuple #[])) w:=run_call_mark0 Tryz.func290 oD oD oD .enable oD w
def acquire(a:Addr)(w:World):(callFunc 291 #[.pointer (some a)]).run Tryz.prog w = .ok (.value (.tuple #[])) w:=run_call_marked Tryz.func291 oD oD oD .acquire oD a w
def releaseMerge(a:Addr)(w:World):(callFunc 293 #[.pointer (some a)]).run Tryz.prog w = .ok (.value (.tuple #[])) w:=run_call_marked Tryz.func293 oD oD oD .releaseMerge oD a w
set_option maxHeartbeats 1600000 in
def z38(a:Addr)(x:Value)(u:FrameMode)(w:World)(hc:w.cell? a=some x)(hz:w.frozen? a=false) :
  CallsD Tryz.prog 255 #[.pointer (some a),.bool true] u w fun e u' w'=>u'=u/\(e = .returned (.tuple #[])/\w'=w.drew.setCell a (.int .u32 1)):=by
 have hc':w.drew.cell? a=some x:=by go_simp
 have hz':w.drew.frozen? a=false:=by go_simp
 have hst:=run_call_store (P:=Tryz.prog) Tryz.func276 oD oD oD oD (k := .u32) (y:=1) hc' hz'
 go_enter_d Tryz.func255,Tryz.ntmps255
 go_wp2
 go_region_calls
 all_goals (go_end0;exact⟨rfl,rfl⟩)
set_option maxHeartbeats 1600000 in
def z5c(a:Addr)(u:FrameMode)(w:World)(hc:w.cell? a=some (.int .i32 1))(hz:w.frozen? a=false) :
  CallsD Tryz.prog 254 #[.pointer (some a)] u w fun e u' w'=>u'=u/\(e = .returned (.tuple #[])/\w'=w.setCell a (.int .i32 0)):=by
 have hd:=disable;have he:=enable;have hr:=releaseMerge;have hadd:=run_call_add (P:=Tryz.prog) Tryz.func294 oD oD oD .i32 oD (y := -1) (s:=0) hc hz (by simp[go_sem];rfl)
 have hcv:=run_convert_to_unsafe (P:=Tryz.prog) (src:=336) (dst:=210) Tryz.underlying336 Tryz.underlying210 oD hc
 go_enter_d Tryz.func254,Tryz.ntmps254
 go_wp2
 go_end0
 go_wp2
 go_end0
 exact⟨rfl,rfl⟩
set_option maxHeartbeats 1600000 in
def zyc(a:Addr)(w:World)(hc:w.cell? a=some (.int .i32 0))(hz:w.frozen? a=false) :
  Calls Tryz.prog 253 #[.pointer (some a)] w fun e w'=>e = .returned (.tuple #[])/\w'=w.setCell a (.int .i32 1):=by
 have hd:=disable;have he:=enable;have ha:=acquire;have hcas:=run_call_cas_hit (P:=Tryz.prog) Tryz.func289 oD oD oD .i32 oD (y:=1) hc hz
 have hc':(w.setCell a (.int .i32 1)).cell? a=some (.int .i32 1):=World.cell?_setCell_same w a _ hc;have hcv:=run_convert_to_unsafe (P:=Tryz.prog) (src:=336) (dst:=210) Tryz.underlying336 Tryz.underlying210 oD hc'
 go_enter Tryz.func253,Tryz.ntmps253
 go_wp2
 first|go_end0|(simp only[Exit.inBlock,Exit.then];refine bodyPost_ret (results_none rfl _ _ _) rfl ?_)|refine bodyPost_ret (results_none rfl _ _ _) rfl ?_
 go_wp2
 go_end0
 exact⟨rfl,rfl⟩
end Go.Proofs.YtgpcmiimfgghdaaGreatDoor.Once
namespace Go.Proofs.YtgpcmiimfgghdaaGreatDoor.Once
open Go.Sym(oC oD)
set_option maxHeartbeats 1600000 in
def z3u(b:Nat)(w:World)(R:World->Prop)
  (h0:w.cell? ⟨b,0,none⟩=some (.int .u32 0)) (h1:w.cell? ⟨b,0+1,none⟩=some (.int .i32 0)) (f0:w.frozen? ⟨b,0,none⟩=false) (f1:w.frozen? ⟨b,0+1,none⟩=false)
  (hf:Calls Tryz.prog 201 #[.pointer (some ⟨b,0,none⟩)] (w.setCell ⟨b,0+1,none⟩ (.int .i32 1)) fun e w'=>e = .returned (.tuple #[])/\R w')
  (hR:∀w',R w'->w'.cell? ⟨b,0,none⟩=some (.int .u32 0)/\w'.frozen? ⟨b,0,none⟩=false/\w'.cell? ⟨b,0+1,none⟩=some (.int .i32 1)/\w'.frozen? ⟨b,0+1,none⟩=false) :
  Calls Tryz.prog 230 #[.pointer (some ⟨b,0,none⟩),.func (.func 201) #[.pointer (some ⟨b,0,none⟩)] #[]] w fun e w'=>e = .returned (.tuple #[])/\∃w1,R w1/\w'=(w1.drew.setCell ⟨b,0,none⟩ (.int .u32 1)).setCell ⟨b,0+1,none⟩ (.int .i32 0):=by
 have hl:=run_call_load (P:=Tryz.prog) Tryz.func252 oD oD oD .u32 oD (w:=w.setCell ⟨b,0+1,none⟩ (.int .i32 1)) (a:=⟨b,0,none⟩) (x:=0) ((World.cell?_setCell_other _ ⟨b,0+1,none⟩ ⟨b,0,none⟩ _ oC).trans h0)
 have hnot:∀(x:Bool)(w:World),(Op.unary .not (.bool x)).run Tryz.prog w = .ok (.bool (!x)) w:=fun _ _=>rfl
 go_enter_defers Tryz.func230,Tryz.ntmps230
 go_wp2_with (first|(go_at_call 253;refine(zyc ⟨b,0+1,none⟩ _ (by go_simp) (by go_simp)).mono ?_;rintro e w' ⟨rfl,rfl⟩)|(go_at_call 229;go_in)|(go_at_call 201;refine hf.mono ?_;rintro e w' ⟨rfl,hw⟩))
 obtain⟨r0,rf0,r1,rf1⟩:=hR w' hw
 first|go_end0|skip
 first|go_wp2|skip
 refine leaves_cons (f:=255) (args:=#[.pointer (some ⟨b,0,none⟩),.bool true]) oC (by simp[go_sem]) ?_
 refine(z38 ⟨b,0,none⟩ (.int .u32 0) .returning _ r0 rf0).mono ?_;rintro e u' w'' ⟨rfl,rfl,rfl⟩
 refine leaves_cons (f:=254) (args:=#[.pointer (some ⟨b,0+1,none⟩)]) (by simp[settle]) (by simp[go_sem]) ?_
 have r1':(w'.drew.setCell ⟨b,0,none⟩ (.int .u32 1)).cell? ⟨b,0+1,none⟩=some (.int .i32 1):=by
  refine(World.cell?_setCell_other _ ⟨b,0,none⟩ ⟨b,0+1,none⟩ _ oC).trans ?_
  rw[World.cell?_drew];exact r1
 refine(z5c ⟨b,0+1,none⟩ _ _ r1' (by simp[rf1])).mono ?_
 rintro e u' w'' ⟨rfl,rfl,rfl⟩
 simp[Leaves,settle,results,Tryz.results230];exact⟨w',hw,rfl⟩
set_option maxHeartbeats 1600000 in
def zgs(b:Nat)(w:World)(R:World->Prop)
  (h0:w.cell? ⟨b,0,none⟩=some (.int .u32 0)) (h1:w.cell? ⟨b,0+1,none⟩=some (.int .i32 0)) (f0:w.frozen? ⟨b,0,none⟩=false) (f1:w.frozen? ⟨b,0+1,none⟩=false)
  (hf:Calls Tryz.prog 201 #[.pointer (some ⟨b,0,none⟩)] (w.setCell ⟨b,0+1,none⟩ (.int .i32 1)) fun e w'=>e = .returned (.tuple #[])/\R w')
  (hR:∀w',R w'->w'.cell? ⟨b,0,none⟩=some (.int .u32 0)/\w'.frozen? ⟨b,0,none⟩=false/\w'.cell? ⟨b,0+1,none⟩=some (.int .i32 1)/\w'.frozen? ⟨b,0+1,none⟩=false) :
  Calls Tryz.prog 200 #[.pointer (some ⟨b,0,none⟩),.func (.func 201) #[.pointer (some ⟨b,0,none⟩)] #[]] w fun e w'=>e = .returned (.tuple #[])/\∃w1,R w1/\w'=(w1.drew.setCell ⟨b,0,none⟩ (.int .u32 1)).setCell ⟨b,0+1,none⟩ (.int .i32 0):=by
 have hl:=run_call_load (P:=Tryz.prog) Tryz.func252 oD oD oD .u32 oD h0
 have hnot:∀(x:Bool)(w:World),(Op.unary .not (.bool x)).run Tryz.prog w = .ok (.bool (!x)) w:=fun _ _=>rfl
 go_enter Tryz.func200,Tryz.ntmps200
 go_wp2_with (first|(go_at_call 229;go_in)|(go_at_call 230;refine(z3u b w R h0 h1 f0 f1 hf hR).mono ?_;rintro e w' ⟨rfl,w1,hw1,rfl⟩))
 go_end0
 exact⟨rfl,w1,hw1,rfl⟩
set_option maxHeartbeats 1600000 in
def zu5(a:Addr)(d:Int)(hd:¬d=0)(fv:Value)(w:World)(h0:w.cell? a=some (.int .u32 d)) :
  Calls Tryz.prog 200 #[.pointer (some a),fv] w fun e w'=>e = .returned (.tuple #[])/\w'=w:=by
 have hl:=run_call_load (P:=Tryz.prog) Tryz.func252 oD oD oD .u32 oD h0
 have hnot:∀(x:Bool)(w:World),(Op.unary .not (.bool x)).run Tryz.prog w = .ok (.bool (!x)) w:=fun _ _=>rfl
 have hd':(d != 0)=true:=by simp[hd]
 go_enter Tryz.func200,Tryz.ntmps200
 go_wp2
 go_end0
 exact⟨rfl,rfl⟩
end Go.Proofs.YtgpcmiimfgghdaaGreatDoor.Once
namespace Go.Proofs.YtgpcmiimfgghdaaGreatDoor.Once
open Go.Sym(oC)
set_option maxHeartbeats 1600000 in
def replace_first(b:Nat)(s:ByteArray)(w:World)(R:World->Prop)(Q:Value->World->Prop)
  (h0:w.cell? ⟨b,0,none⟩=some (.int .u32 0)) (h1:w.cell? ⟨b,0+1,none⟩=some (.int .i32 0)) (f0:w.frozen? ⟨b,0,none⟩=false) (f1:w.frozen? ⟨b,0+1,none⟩=false)
  (hf:Calls Tryz.prog 201 #[.pointer (some ⟨b,0,none⟩)] (w.setCell ⟨b,0+1,none⟩ (.int .i32 1)) fun e w'=>e = .returned (.tuple #[])/\R w')
  (hR:∀w',R w'->w'.cell? ⟨b,0,none⟩=some (.int .u32 0)/\w'.frozen? ⟨b,0,none⟩=false/\w'.cell? ⟨b,0+1,none⟩=some (.int .i32 1)/\w'.frozen? ⟨b,0+1,none⟩=false)
  (hg:∀w',R w'->∃g,w'.cell? ⟨b,3,none⟩=some (.iface 308 (.pointer (some ⟨g,0,none⟩))) /\
   Calls Tryz.prog 352 #[.pointer (some ⟨g,0,none⟩),.string s] ((w'.drew.setCell ⟨b,0,none⟩ (.int .u32 1)).setCell ⟨b,0+1,none⟩ (.int .i32 0)) fun e w''=>∃v,e = .returned v/\Q v w'') :
  Calls Tryz.prog 161 #[.pointer (some ⟨b,0,none⟩),.string s] w fun e w'=>∃v,e = .returned v/\Q v w':=by
 have hme : ∀ (g : Nat) (w : World), (method 503 308 (.pointer (some ⟨g, 0, none⟩)) "Replace").run Tryz.prog w = .ok (352, .pointer (some ⟨g, 0, none⟩)) w := fun _ _ => by kernel_rfl
 go_enter Tryz.func161,Tryz.ntmps161
 go_wp2_with (first|(go_at_call 200;refine(zgs b w R h0 h1 f0 f1 hf hR).mono ?_;rintro e w' ⟨rfl,w1,hw1,rfl⟩;obtain⟨g,hg1,hg2⟩:=hg w1 hw1;have hc3:((w1.drew.setCell ⟨b,0,none⟩ (.int .u32 1)).setCell ⟨b,0+1,none⟩ (.int .i32 0)).cell? ⟨b,3,none⟩=some (.iface 308 (.pointer (some ⟨g,0,none⟩))):=((World.cell?_setCell_other _ ⟨b,0+1,none⟩ ⟨b,3,none⟩ _ oC).trans ((World.cell?_setCell_other _ ⟨b,0,none⟩ ⟨b,3,none⟩ _ oC).trans (by rw[World.cell?_drew];exact hg1))))|(go_at_call 352;refine hg2.mono ?_;rintro e w' ⟨v,rfl,hq⟩))
 go_ret
 exact⟨_,rfl,hq⟩
set_option maxHeartbeats 1600000 in
def replace_done(b g:Nat)(s:ByteArray)(w:World)(Q:Value->World->Prop)(d:Int)(hd:¬d=0)
  (h0:w.cell? ⟨b,0,none⟩=some (.int .u32 d)) (hc3:w.cell? ⟨b,3,none⟩=some (.iface 308 (.pointer (some ⟨g,0,none⟩))))
  (hg2:Calls Tryz.prog 352 #[.pointer (some ⟨g,0,none⟩),.string s] w fun e w''=>∃v,e = .returned v/\Q v w'') :
  Calls Tryz.prog 161 #[.pointer (some ⟨b,0,none⟩),.string s] w fun e w'=>∃v,e = .returned v/\Q v w':=by
 have hme : ∀ (g : Nat) (w : World), (method 503 308 (.pointer (some ⟨g, 0, none⟩)) "Replace").run Tryz.prog w = .ok (352, .pointer (some ⟨g, 0, none⟩)) w := fun _ _ => by kernel_rfl
 go_enter Tryz.func161,Tryz.ntmps161
 go_wp2_with (first|(go_at_call 200;refine(zu5 ⟨b,0,none⟩ d hd _ w h0).mono ?_;rintro e w' ⟨rfl,rfl⟩)|(go_at_call 352;refine hg2.mono ?_;rintro e w' ⟨v,rfl,hq⟩))
 go_ret
 exact⟨_,rfl,hq⟩
set_option maxHeartbeats 1600000 in
def replaceS_first(b:Nat)(s:ByteArray)(w:World)(R:World->Prop)(Q:Value->World->Prop)
  (h0:w.cell? ⟨b,0,none⟩=some (.int .u32 0)) (h1:w.cell? ⟨b,0+1,none⟩=some (.int .i32 0)) (f0:w.frozen? ⟨b,0,none⟩=false) (f1:w.frozen? ⟨b,0+1,none⟩=false)
  (hf:Calls Tryz.prog 201 #[.pointer (some ⟨b,0,none⟩)] (w.setCell ⟨b,0+1,none⟩ (.int .i32 1)) fun e w'=>e = .returned (.tuple #[])/\R w')
  (hR:∀w',R w'->w'.cell? ⟨b,0,none⟩=some (.int .u32 0)/\w'.frozen? ⟨b,0,none⟩=false/\w'.cell? ⟨b,0+1,none⟩=some (.int .i32 1)/\w'.frozen? ⟨b,0+1,none⟩=false)
  (hg:∀w',R w'->∃g,w'.cell? ⟨b,3,none⟩=some (.iface 312 (.pointer (some ⟨g,0,none⟩))) /\
   Calls Tryz.prog 354 #[.pointer (some ⟨g,0,none⟩),.string s] ((w'.drew.setCell ⟨b,0,none⟩ (.int .u32 1)).setCell ⟨b,0+1,none⟩ (.int .i32 0)) fun e w''=>∃v,e = .returned v/\Q v w'') :
  Calls Tryz.prog 161 #[.pointer (some ⟨b,0,none⟩),.string s] w fun e w'=>∃v,e = .returned v/\Q v w':=by
 have hme : ∀ (g : Nat) (w : World), (method 503 312 (.pointer (some ⟨g, 0, none⟩)) "Replace").run Tryz.prog w = .ok (354, .pointer (some ⟨g, 0, none⟩)) w := fun _ _ => by kernel_rfl
 go_enter Tryz.func161,Tryz.ntmps161
 go_wp2_with (first|(go_at_call 200;refine(zgs b w R h0 h1 f0 f1 hf hR).mono ?_;rintro e w' ⟨rfl,w1,hw1,rfl⟩;obtain⟨g,hg1,hg2⟩:=hg w1 hw1;have hc3:((w1.drew.setCell ⟨b,0,none⟩ (.int .u32 1)).setCell ⟨b,0+1,none⟩ (.int .i32 0)).cell? ⟨b,3,none⟩=some (.iface 312 (.pointer (some ⟨g,0,none⟩))):=((World.cell?_setCell_other _ ⟨b,0+1,none⟩ ⟨b,3,none⟩ _ oC).trans ((World.cell?_setCell_other _ ⟨b,0,none⟩ ⟨b,3,none⟩ _ oC).trans (by rw[World.cell?_drew];exact hg1))))|(go_at_call 354;refine hg2.mono ?_;rintro e w' ⟨v,rfl,hq⟩))
 go_ret
 exact⟨_,rfl,hq⟩
end Go.Proofs.YtgpcmiimfgghdaaGreatDoor.Once
namespace Go.Sym
open Go.RowKit
variable[LC]
def cv.blocks_none{G:Gh}{hp:List (Nat×ah)}{w:World}(hm:cv G hp w){b:Nat}(h:sr G hp b)(o:Nat):G.imm b o=none:=by
 obtain⟨n,bx,hl,ha⟩:=h;have hb:=hm.holds n bx hl
 cases bx with
 |cells cs T=>obtain⟨B,vs,h1,_,_,_,h5⟩:=hb;simp only[Gh.at,h1,qI]at ha;subst ha;exact h5 o
 |row τ l E=>
  obtain⟨a,c,h1,h2⟩:=hb;rcases h2 with⟨rfl,_⟩|⟨g,vs,fz,rfl,_,_,_,_,_,_,_,h9⟩
  ·simp only[Gh.at,h1]at ha;cases ha
  ·simp only[Gh.at,h1,qI]at ha;subst ha;exact h9 o
 |loop st pe f m fr ps tag D=>obtain⟨B,tmps,DB,h1,_,_,_,_,h5⟩:=hb;simp only[Gh.at,h1,qI]at ha;subst ha;exact h5 o
 |dfr=>obtain⟨B,h1,_,h5⟩:=hb;simp only[Gh.at,h1,qI]at ha;subst ha;exact h5 o
 |it s p=>obtain⟨B,h1,_,h5⟩:=hb;simp only[Gh.at,h1,qI]at ha;subst ha;exact h5 o
 |dead=>cases ha
def de.gone{P:Program}{f:FuncId}{xs:List AV}{hp:List (Nat×ah)}{r:AV}
  (h:∀(w:World)(G:Gh)(vs:List Value),cv G hp w->am xs G vs->Calls P f vs.toArray w fun e w'=>∃v,e = .returned v/\aj r G v/\e7 (sr G hp) w w'):de P f xs hp r []:=by
 intro w G vs hm hr;refine(h w G vs hm hr).mono ?_;rintro e w' ⟨v,rfl,hv,hs⟩
 have hblk:∀b o v,G.imm b o=some v->w'.heap[b]? = w.heap[b]? := fun b o v hv=>hs.block b (World.block_lt_of_cell? _ _ (hm.agree b o v hv)) fun hb=>by
  rw[hm.blocks_none hb o]at hv;cases hv
 refine⟨v,G,rfl,⟨⟨fun b o v hv=>by rw[World.cell?_of_block (w:=w) (hblk b o v hv)];exact hm.agree b o v hv,hm.one,fun n bx h=>(by cases h),fun n m bx bx' b h=>(by cases h),LC.mono (fun _ _ _ h=>h) hblk hm.tab⟩,hs,fun _ _ _ h=>h,fun _ _ _ h => .inl h,fun n bx b h=>(by cases h),fun _ _ _ _ h=>h,fun _ _ _ _ h=>h⟩,hv⟩
end Go.Sym
set_option linter.unusedVariables false
namespace Go.Proofs.Repl
open Go.Shelf Go.RowKit Go.Lib Go.Sym
def mr.setCell{R q n:Nat}{u:Int}{a b a1 a2 b1 b2:UInt8}{w:World}(h:mr R a b a1 a2 b1 b2 w)(hq:w.cell? ⟨q,0,none⟩=some (.int .u32 u))(v:Value):mr R a b a1 a2 b1 b2 (w.setCell ⟨q,n,none⟩ v):=by
 obtain⟨ga,gb,gt,ca,cb,ct,h1,h2,h3,h4,h5,h6,h7,h8⟩:=h.ex;have kR:¬R=q:=fun e=>by
  have:=h1 0;subst e;rw[show(0:UInt8).toNat=0 from rfl,hq]at this
  unfold rv at this;split at this
  ·cases this
  ·split at this<;>cases this
 have kt:¬gt=q:=fun e=>by subst e;rw[hq]at h3;cases h3
 have ka:¬ga=q:=fun e=>by subst e;rw[hq]at h5;cases h5
 have kb:¬gb=q:=fun e=>by subst e;rw[hq]at h7;cases h7
 have k:∀{p:Nat}{o:Nat}{x:Value},¬p=q->w.cell? ⟨p,o,none⟩=some x->(w.setCell ⟨q,n,none⟩ v).cell? ⟨p,o,none⟩=some x:=fun{p o x} hp hx=>by
  rw[World.cell?_of_block (w:=w) (Below.heap_setCell w ⟨q,n,none⟩ v p hp)];exact hx
 exact⟨ga,gb,gt,ca,cb,ct,fun c=>k kR (h1 c),k kR h2,k kt h3,k kt h4,k ka h5,k ka h6,k kb h7,k kb h8⟩
structure Once(q:Nat)(w w':World):Prop where
 bel:e7 (fun k=>k=q) w w'
 c0:w'.cell? ⟨q,0,none⟩=some (.int .u32 0)
 c1:w'.cell? ⟨q,0+1,none⟩=some (.int .i32 1)
 f0:w'.frozen? ⟨q,0,none⟩=false
 f1:w'.frozen? ⟨q,0+1,none⟩=false
def ztb(S:Nat->Prop)(w:World):e7 S w w.drew:=⟨rfl,rfl,rfl,wF _,fun _ _ _=>rfl⟩
def q5g{S:Nat->Prop}{w w':World}(h:Below w.heap.size w w'):e7 S w w':=⟨h.os,h.tape,h.output,h.size,fun k hk _=>h.block k hk⟩
def qn3{q:Nat}{w w':World}(h:e7 (fun k=>k=q) w w')(n:Nat)(v:Value):e7 (fun k=>k=q) w (w'.setCell ⟨q,n,none⟩ v):=
 ⟨h.os,h.tape,h.output,by simp[World.setCell];exact h.size,fun k hk hn=>(Below.heap_setCell w' ⟨q,n,none⟩ v k hn).trans (h.block k hk hn)⟩
def q5h{S:Nat->Prop}{a b c:World}(h:e7 S a b)(k:e7 S b c):e7 S a c:=
 ⟨k.os.trans h.os,k.tape.trans h.tape,k.output.trans h.output,Nat.le_trans h.size k.size,fun i hi hn=>(k.block i (Nat.lt_of_lt_of_le hi h.size) hn).trans (h.block i hi hn)⟩
set_option maxHeartbeats 1600000 in
def ztl(q ro cap:Nat)(v3:Value)(a b a1 a2 b1 b2:UInt8)(w:World)(hab:a≠b)
  (c0:w.cell? ⟨q,0,none⟩=some (.int .u32 0)) (c1:w.cell? ⟨q,0+1,none⟩=some (.int .i32 1)) (hf:∀j,w.frozen? ⟨q,j,none⟩=false) (c3:w.cell? ⟨q,3,none⟩=some v3)
  (hc:w.cell? ⟨q,4,none⟩=some (.slice (some ⟨ro,0,none⟩) 4 cap)) (h0:w.cell? ⟨ro,0,none⟩=some (.string ⟨#[a]⟩)) (h1:w.cell? ⟨ro,1,none⟩=some (.string ⟨#[a1,a2]⟩)) (h2:w.cell? ⟨ro,2,none⟩=some (.string ⟨#[b]⟩)) (h3:w.cell? ⟨ro,3,none⟩=some (.string ⟨#[b1,b2]⟩)) :
  Calls Tryz.prog 201 #[.pointer (some ⟨q,0,none⟩)] w fun e w'=>e = .returned (.tuple #[])/\Once q w w'/\∃R,w'.cell? ⟨q,3,none⟩=some (.iface 312 (.pointer (some ⟨R,0,none⟩)))/\mr R a b a1 a2 b1 b2 w':=by
 have hqlt:q<w.heap.size:=World.block_lt_of_cell? _ _ c0;have hB:=zti q ro cap a b a1 a2 b1 b2 w hab hc h0 h1 h2 h3
 go_enter Tryz.func201,Tryz.ntmps201
 go_wp2_with (go_at_call 231;go_must (refine hB.mono ?_;rintro e W ⟨R,rfl,hBu,hbe⟩;have k0:∀{j:Nat}{v:Value},w.cell? ⟨q,j,none⟩=some v->W.cell? ⟨q,j,none⟩=some v:=(fun hj=>(hbe.cell (World.block_lt_of_cell? _ _ hj)).trans hj);have kf:∀j,W.frozen? ⟨q,j,none⟩=false:=(fun j=>(hbe.frozen (p:=⟨q,j,none⟩) hqlt).trans (hf j));have d0:=k0 c0;have d1:=k0 c1;have d3:=k0 c3;have d4:=k0 hc;clear hB hf k0))
 have d0':(W.setCell ⟨q,3,none⟩ (.iface 312 (.pointer (some ⟨R,0,none⟩)))).cell? ⟨q,0,none⟩=some (.int .u32 0):=by rw[World.cell?_setCell_other _ _ _ _ oC];exact d0
 have d1':(W.setCell ⟨q,3,none⟩ (.iface 312 (.pointer (some ⟨R,0,none⟩)))).cell? ⟨q,0+1,none⟩=some (.int .i32 1):=by rw[World.cell?_setCell_other _ _ _ _ oC];exact d1
 have d3':=World.cell?_setCell_same W ⟨q,3,none⟩ (.iface 312 (.pointer (some ⟨R,0,none⟩))) d3
 go_end0
 refine⟨rfl,⟨qn3 (qn3 (q5g hbe) 3 _) 4 _,?_,?_,?_,?_⟩,R,?_,(hBu.setCell d0 _).setCell d0' _⟩
 ·rw[World.cell?_setCell_other _ _ _ _ oC];exact d0'
 ·rw[World.cell?_setCell_other _ _ _ _ oC];exact d1'
 ·simp[kf]
 ·simp[kf]
 ·rw[World.cell?_setCell_other _ _ _ _ oC];exact d3'
def replS(q ro cap:Nat)(v3:Value)(a b a1 a2 b1 b2:UInt8)(s:ByteArray)(w:World)(hab:a≠b)(hs:s.size<=1000000)
  (c0:w.cell? ⟨q,0,none⟩=some (.int .u32 0)) (c1:w.cell? ⟨q,0+1,none⟩=some (.int .i32 0)) (hf:∀j,w.frozen? ⟨q,j,none⟩=false) (c3:w.cell? ⟨q,3,none⟩=some v3)
  (hc:w.cell? ⟨q,4,none⟩=some (.slice (some ⟨ro,0,none⟩) 4 cap)) (h0:w.cell? ⟨ro,0,none⟩=some (.string ⟨#[a]⟩)) (h1:w.cell? ⟨ro,1,none⟩=some (.string ⟨#[a1,a2]⟩)) (h2:w.cell? ⟨ro,2,none⟩=some (.string ⟨#[b]⟩)) (h3:w.cell? ⟨ro,3,none⟩=some (.string ⟨#[b1,b2]⟩)) :
  Calls Tryz.prog 161 #[.pointer (some ⟨q,0,none⟩),.string s] w fun e w'=>∃v,e = .returned v/\v = .string ⟨(fe a b [a1,a2] [b1,b2] s.data.toList).toArray⟩/\e7 (fun k=>k=q) w w':=by
 have hne:¬ro=q:=fun e=>by subst e;rw[c0]at h0;cases h0
 have k:∀{p:Addr}{x:Value},p≠⟨q,0+1,none⟩->w.cell? p=some x->(w.setCell ⟨q,0+1,none⟩ (.int .i32 1)).cell? p=some x:=fun{p x} hp hx=>by
  rw[World.cell?_setCell_other _ _ _ _ (fun e=>hp e.symm)];exact hx
 have kb:e7 (fun k=>k=q) w (w.setCell ⟨q,0+1,none⟩ (.int .i32 1)):=qn3 (q5g (Below.refl _ _)) _ _
 refine Go.Proofs.YtgpcmiimfgghdaaGreatDoor.Once.replaceS_first q s w (fun w'=>Once q (w.setCell ⟨q,0+1,none⟩ (.int .i32 1)) w'/\∃R,w'.cell? ⟨q,3,none⟩=some (.iface 312 (.pointer (some ⟨R,0,none⟩)))/\mr R a b a1 a2 b1 b2 w') (fun v w'=>v = .string ⟨(fe a b [a1,a2] [b1,b2] s.data.toList).toArray⟩/\e7 (fun k=>k=q) w w') c0 c1 (hf _) (hf _) ?_ ?_ ?_
 ·exact ztl q ro cap v3 a b a1 a2 b1 b2 _ hab (k oC c0) (World.cell?_setCell_same w _ _ c1) (fun j=>by simp[hf]) (k oC c3) (k oC hc) (k (by intro h;exact hne (congrArg Addr.block h)) h0) (k (by intro h;exact hne (congrArg Addr.block h)) h1) (k (by intro h;exact hne (congrArg Addr.block h)) h2) (k (by intro h;exact hne (congrArg Addr.block h)) h3)
 ·rintro w' ⟨ho,_⟩
  exact⟨ho.c0,ho.f0,ho.c1,ho.f1⟩
 ·rintro w' ⟨ho,R,hR,hBu⟩
  refine⟨R,hR,?_⟩;have e0:w'.drew.cell? ⟨q,0,none⟩=some (.int .u32 0):=by rw[World.cell?_drew];exact ho.c0
  have e1:=World.cell?_setCell_same w'.drew ⟨q,0,none⟩ (.int .u32 1) e0;have hB2:mr R a b a1 a2 b1 b2 ((w'.drew.setCell ⟨q,0,none⟩ (.int .u32 1)).setCell ⟨q,0+1,none⟩ (.int .i32 0)):=
   ((hBu.below (Below.refl _ w').drew).setCell e0 _).setCell e1 _
  have hBel:e7 (fun k=>k=q) w ((w'.drew.setCell ⟨q,0,none⟩ (.int .u32 1)).setCell ⟨q,0+1,none⟩ (.int .i32 0)):=
   qn3 (qn3 (q5h (q5h kb ho.bel) (ztb _ _)) 0 _) (0+1) _
  refine(ztp R a b a1 a2 b1 b2 s _ hab hs hB2).mono ?_;rintro e w2 ⟨rfl,hb2⟩
  exact⟨_,rfl,rfl,q5h hBel (q5g hb2)⟩
end Go.Proofs.Repl
namespace Go.Sym
open Go.Proofs Go.RowKit
variable[LC]
def z1u(a b a1 a2 b1 b2:UInt8)(s:Bs)(p2:Int)(hab:a≠b)(hs:s.length<=1000000) :
  de Tryz.prog 161 [.ptr 0 0,.str s] [(0,.cells [.int .u32 0,.int .i32 0,.int .u32 p2,.val .nilIface,.own 1] 240),(1,.row .str [[a],[a1,a2],[b],[b1,b2]] 9)] (.str (fe a b [a1,a2] [b1,b2] s)) []:=by
 refine de.gone fun w G vs hm hr => ?_
 match vs,hr with
 |[v1,v2],hr=>
 obtain⟨⟨q,hG,rfl⟩,r2,_⟩:=hr;have r2:v2 = .string ⟨s.toArray⟩:=r2;subst r2;obtain⟨B,cs,g1,g2,g3,g4,g5⟩:=hm.holds 0 _ rfl;rw[show G.box 0=some q from hG]at g1
 cases g1
 obtain⟨ad,c,us,o1,o2,o3,o4⟩:=(hm.holds 1 (.row .str [[a],[a1,a2],[b],[b1,b2]] 9) rfl).rowAt;obtain⟨u0,c0,x0⟩:=lh g3 (i:=0) rfl;obtain⟨u1,c1,x1⟩:=lh g3 (i:=1) rfl;obtain⟨u3,c3,x3⟩:=lh g3 (i:=3) rfl;obtain⟨u4,c4,x4⟩:=lh g3 (i:=4) rfl;have x0:u0 = .int .u32 0:=x0;have x1:u1 = .int .i32 0:=x1;obtain⟨ad',n',c',x5,x4⟩:=x4;rw[o1]at x5;cases x5
 subst x0 x1 x4;have k:∀{i:Nat}{v:Value},cs.toList[i]? = some v->w.cell? ⟨q,i,none⟩=some v:=fun{i v} h=>cell_of_heap g2 h
 obtain⟨ho1,ho2⟩:=o2;rcases ho2 with⟨_,h0,_⟩|⟨g,vr,fz,rfl,e1,_,e3,e4,e5,e6,_⟩
 ·cases h0
 ·have hus:us=[.string ⟨#[a]⟩,.string ⟨#[a1,a2]⟩,.string ⟨#[b]⟩,.string ⟨#[b1,b2]⟩]:=by
   match us,o3 with
   |[y0,y1,y2,y3],⟨z0,z1,z2,z3,_⟩=>
    have z0:y0 = .string ⟨#[a]⟩:=z0;have z1:y1 = .string ⟨#[a1,a2]⟩:=z1;have z2:y2 = .string ⟨#[b]⟩:=z2;have z3:y3 = .string ⟨#[b1,b2]⟩:=z3;rw[z0,z1,z2,z3]
  have kr:∀{i:Nat}{v:Value},us[i]? = some v->w.cell? ⟨g,i,none⟩=some v:=fun{i v} h=>by
   rw[← e6,List.getElem?_take]at h;split at h
   ·exact cell_of_heap e1 h
   ·cases h
  subst hus;refine(Go.Proofs.Repl.replS q g c u3 a b a1 a2 b1 b2 ⟨s.toArray⟩ w hab (by rw[tx];exact hs) (k c0) (k c1) (fun j=>by simp[World.frozen?,g2]) (k c3) (k c4) (kr (i:=0) rfl) (kr (i:=1) rfl) (kr (i:=2) rfl) (kr (i:=3) rfl)).mono ?_
  rintro e w' ⟨v,rfl,rfl,hb⟩
  refine⟨_,rfl,rfl,⟨hb.os,hb.tape,hb.output,hb.size,fun k hk hn=>hb.block k hk (fun e=>hn ?_)⟩⟩
  subst e;exact⟨0,_,rfl,hG⟩
def zks:IF:=⟨.fn 161,[.ptr 0 0,.h .str],[(0,.cells [.h (.int .u32),.h (.int .i32),.h (.int .u32),.c .nilIface,.own 1] 240),(1,.row .str 9)],_,RS.mk (.h .str) []⟩
def z1v:(zks.e zu).Sound Tryz.prog:=fun d d' r h=>by
 obtain⟨_,s,_⟩:=d;obtain⟨⟨p0,p1,p2,_,_,_⟩,on,_⟩:=d';have h:zu s p0 p1 p2 on=some r:=h;obtain⟨a,a1,a2,b,b1,b2,rfl,rfl,rfl,hab,hs,rfl⟩:=z1y h;exact⟨Tryz.call161,z1u a b a1 a2 b1 b2 s p2 hab hs⟩
end Go.Sym
namespace Go.Sym
open Go.Proofs Go.RowKit
open Go.Proofs.Tryz
variable[LC]
def ztd:Builder.Extra Tryz.prog Tryz.lays105_ren:={
 sizeBuilder:=oD
 liesBuilder:=oD
 t5:=Tryz.lays105.t5
 a5:=Tryz.lays105.a5
 z5:=Tryz.lays105.z5
 v5:=Tryz.lays105.v5
 infoByte:=oD
 cellsByte:=oD
 sizeByte:=oD
 neB5:=by decide }
def z1q{w:World}(s:Bs)(n:Int)(d1:0<=n)(d2:n<=9223372036854775807)(d3:s.length*n.toNat<=140737488355328) :
  Calls Tryz.prog 62 #[.string ⟨s.toArray⟩,.int .i64 n] w fun e w'=>e = .returned (.string ⟨(Lib.repeatL s n.toNat).toArray⟩)/\cm w w':=by
 have hn:n=((n.toNat:Nat):Int):=oA
 have key:=Any.strings_Repeat Tryz.lays105 ztd ⟨s.toArray⟩ n.toNat w oA (by rw[tx];exact d3)
 rw[← hn]at key;exact key.mono fun e w'⟨he,hw⟩=>⟨he,cm.of_below hw⟩
def zkp:IF:=⟨.fn 62,[.h .str,.h (.int .i64)],[],_,RS.mk (.h .str) []⟩
def z1r:(zkp.e qf7).Sound Tryz.prog:=fun d d' r h=>by
 obtain⟨s,n,_⟩:=d;have h:qf7 s n=some r:=h;unfold qf7 at h;cases hd:decide (0<=(show Int from n)/\(show Int from n)<=9223372036854775807/\List.length (α:=UInt8) s*(show Int from n).toNat<=140737488355328)<;>rw[hd]at h<;>simp only[qT,qF,reduceCtorEq]at h
 have h:=qJ h;subst h;obtain⟨d1,d2,d3⟩:=of_decide_eq_true hd;refine⟨call62,de.data fun w G vs hm hr => ?_⟩
 match vs,hr with
 |[u,v],⟨h1,h2,_⟩=>
  have h1:u = .string ⟨s.toArray⟩:=h1;have h2:v = .int .i64 n:=h2;subst h1 h2;exact(z1q s n d1 d2 d3).mono fun e w'⟨he,hw⟩=>⟨_,he,rfl,hw⟩
end Go.Sym
namespace Go.Sym
noncomputable section
open Go.Proofs
set_option linter.unusedVariables false
set_option maxRecDepth 100000
set_option maxHeartbeats 2000000
open Tryz
abbrev wT : Ty := .tree (.prod (.list (.prod .str .str)) (.list .byte))
abbrev wL : Ty := .list (.prod .str .str)
abbrev wP : Ty := .prod .str .str
abbrev wH : Pt := .h (.int .i64)
abbrev wI : Ty := .int .i64
abbrev wB : Ty := .list .byte
abbrev wN : Pt := .c .nilS
abbrev wS : Pt := .h .str
abbrev wG : Program := Tryz.prog
section
variable(fu:Nat)
def qoq:Nat->Option ((τ:Ty)×List τ.den)|1=>some ⟨.int .u64,z4h⟩|2=>some ⟨.byte,q9x⟩|3=>some ⟨.prod .byte .byte,q9y⟩|_=>none
abbrev qhv(f:Nat)(p:List Nat):Option (Code×Code):=some (xg 0 (sub (z8 (u7 wG f)) p),xg 1 (sub (z8 (u7 wG f)) p))
def zx1:Nat->Option (Code×Code)|0=>qhv 32 [0,1,0,1,1,1]|1=>qhv 120 [0,1,0,1,1,1]|2=>qhv 56 [0,1,0,1,1]|3=>qhv 56 [0,1,0,1,1,1,1]|4=>qhv 10 [0,1,0,1,1,1,1]|5=>qhv 57 [0,1,1]|_=>none
instance:LC:=⟨zx1,qoq,[0],[6,7],[(1,20),(2,256),(3,32)]⟩
def zd8:wG.follows .mixedOrders=true:=oD
def etys:List (Nat×Ty):=[(3,.int .i64),(4,.bool),(5,.byte),(9,.str),(23,.list .byte),(33,.tree (.prod wL wB)),(48,.prod .str .str),(84,.prod .str .str),(158,.prod .str (.prod .str (.prod wI .bool))),(267,.prod .str (.prod wI (.prod .bool .str)))]
abbrev fx{i:IF}(calls:List (EP wG):=[])(ls:List LB:=[])(sub:Bool:=false)(tags:List (List Nat×Nat):=[])(ht:∀p t,pf p tags=some t->∀g ps x y,Sym.sub (z8 (u7 wG (qvs i.key))) p = .rangeFunc g ps x y->LC.lc t=some (x,y):=by exact pp)(hf:wG.funcs[qvs i.key]? = some (u7 wG (qvs i.key)):=by kernel_rfl):Fx wG i:=Fx.at etys zd8 (qvs i.key) calls ls sub tags ht hf
abbrev fy{i:IF}(f:FuncId)(calls:List (EP wG):=[])(ls:List LB:=[])(sub:Bool:=false)(tags:List (List Nat×Nat):=[])(ht:∀p t,pf p tags=some t->∀g ps x y,Sym.sub (z8 (u7 wG f)) p = .rangeFunc g ps x y->LC.lc t=some (x,y):=by exact pp)(hf:wG.funcs[f]? = some (u7 wG f):=by kernel_rfl):Fx wG i:=Fx.at etys zd8 f calls ls sub tags ht hf
def zq0:(q1e 202 zi).Sound wG:=zqz func202 oD oD oD oD
def zqy:(q1d 280 zi).Sound wG:=zqx func280 oD oD oD oD
def jq:EI wG ⟨.fn 16,[wH,wH],[],_,RS.mk (.h (.prod wI wI)) []⟩:=(fx).fi cd
def x1s:EI wG ⟨.fn 142,[.h .byte],[],_,RS.mk (.h .bool) []⟩:=(fx).fi qr8
def x2(fu:Nat):Fx wG ⟨.fn 141,[wS,.fn 142 []],[],_,RS.mk (.h .bool) []⟩:=fx [x1s.p] [lb 104 [(0,wS),(1,.fn 142 []),(7,wH),(8,wH)]]
def vfc:Nat->(x2 fu).L 0:=Fx.lq (qlh fu) (q08 fu) (fun r0=>[r0.s])
def x2s:=(x2 fu).fi (q07 fu) [(vfc fu fu).s]
def x3s:EI wG ⟨.fn 101,[wS],[],_,RS.mk (.h .bool) []⟩:=(fx [(x2s fu).p]).fi (qr7 fu)
def x4s:EI wG ⟨.fn 239,[wH],[],_,RS.mk (.h .bool) []⟩:=(fx).fi q32
def x5(fu:Nat):Fx wG ⟨.fn 195,[wS],[],_,RS.mk (.tup [.arr .bool,.h .bool]) []⟩:=fx [] [lb 208 [(0,wS),(2,.el 32 1),(4,wH)] [(32,.row .bool 243)]]
def vgq:Nat->(x5 fu).L 0:=Fx.lq (q31 fu) (zdy fu) (fun r0=>[r0.s])
def x5s:=(x5 fu).fi (qf9 fu) [(vgq fu fu).s]
def x6s:EI wG ⟨.fn 264,[wS,.h .byte],[],_,RS.mk (wH) []⟩:=(fx [⟨q1d 280 zi,zqy⟩]).fi ql3
def x7s:EI wG ⟨.fn 240,[wS,.h .byte],[],_,RS.mk (wH) []⟩:=(fx [x6s.p]).fi qm3
def x8s:EI wG ⟨.fn 262,[.h (.int .i32)],[],_,RS.mk (.h .bool) []⟩:=(fx).fi qtu
def x9(fu:Nat):Fx wG ⟨.fn 238,[wS,.h (.int .i32)],[],_,RS.mk (wH) []⟩:=fx [x7s.p,x8s.p] [lb 3528 [(175,.ptr 32 0)] [(32,.it)],lb 117301840 [(0,wS),(7,wS),(8,wH),(9,wH),(12,wH)],lb 7331364 [(0,wS),(7,wS),(8,wH),(9,wH)],lb 458208 [(0,wS),(7,wS),(8,wH),(9,wH)],lb 13 [(0,wS),(1,.h (.int .i32)),(160,.h .bool)]]
def viv:Nat->(x9 fu).L 0:=Fx.lq (qm5 fu) (q3j fu) (fun r1=>[r1.s])
def viy(r2:(x9 fu).L 3):Nat->(x9 fu).L 1:=Fx.lq (q3m fu r2.f) (zdq fu r2.f) (fun r4=>[r4.s])
def vix(r2:(x9 fu).L 3):(x9 fu).L 2:=Fx.jm (q3l fu r2.f) [(viy fu r2 fu).s]
def viw:Nat->(x9 fu).L 3:=Fx.lq (qth fu) (q3k fu) (fun r2=>[(vix fu r2).s])
def viu:(x9 fu).L 4:=Fx.jm (qm4 fu) [(viv fu fu).s,(viw fu fu).s]
def x9s:=(x9 fu).fi (qcm fu) [(viu fu).s]
def zao:EI wG ⟨.fn 225,[.el 0 1,.h .byte],[(0,.row .bool 243)],_,RS.mk (.h .bool) [(0,.row .bool 243)]⟩:=(fx).fi qf8
def x11:Fx wG ⟨.fn 215,[wS,wS],[],_,RS.mk (wH) []⟩:=fx [x4s.p,(x5s fu).p,(x9s fu).p,zao.p] [lb 470 [(0,wS),(5,.h (.int .i32))],lb 62864 [(0,wS),(6,.el 32 1),(8,wH)] [(32,.row .bool 243)],lb 1000 [(1,wS),(45,.ptr 32 0)] [(32,.it)],lb 124 [(0,wS),(1,wS)]]
def z67:(x11 fu).L 0:=Fx.jm (q3i fu)
def z68:Nat->(x11 fu).L 1:=Fx.lq (qm1 fu) (q3g fu) (fun r1=>[r1.s])
def z7a:Nat->(x11 fu).L 2:=Fx.lq (qm2 fu) (q3h fu) (fun r3=>[r3.s])
def z69:(x11 fu).L 3:=Fx.jm (qtg fu) [(z7a fu fu).s]
def z7b:=(x11 fu).fi (qtf fu) [(z67 fu).s,(z68 fu fu).s,(z69 fu).s]
def z7q:EI wG ⟨.fn 180,[wS,wS],[],_,RS.mk (.h .bool) []⟩:=(fx [(z7b fu).p]).fi (qtc fu)
def z8j:EI wG ⟨.fn 143,[wS],[],_,RS.mk (.h .bool) []⟩:=(fx [(z7q fu).p]).fi (q1z fu)
def qx3:EI wG ⟨.fn 90,[.h .byte],[],_,RS.mk (.h .bool) []⟩:=(fx).fi ru
def z9j:EI wG ⟨.fn 102,[wS],[],_,RS.mk (.h .bool) []⟩:=(fx [(z8j fu).p,qx3.p]).fi (qsb fu)
def x16(fu:Nat):Fx wG ⟨.fn 103,[wS,wH],[],_,RS.mk (wH) []⟩:=fx [qx3.p] [lb 3729 [(0,wS),(5,wH),(6,wH),(26,.h .bool)],lb 464 [(0,wS),(5,wH),(6,wH)]]
def z9x(r0:(x16 fu).L 1):(x16 fu).L 0:=Fx.jm (qsa fu r0.f) [r0.s]
def z9w:Nat->(x16 fu).L 1:=Fx.lq (qly fu) (q10 fu) (fun r0=>[(z9x fu r0).s])
def z9y:=(x16 fu).fi (qr9 fu) [(z9w fu fu).s]
def jr:EI wG ⟨.fn 18,[],[],_,RS.mk (.h (.prod wI wI)) []⟩:=(fx).fi dh
def x18:Fx wG ⟨.fn 65,[wS,wS],[],_,RS.mk (.tup [.own 0,.h (.prod wI wI)]) [(0,.row .str 9)]⟩:=fx [(x3s fu).p,jq.p,(z9j fu).p,(z9y fu).p,jr.p] [lb 4072 [(5,.ptr 32 0),(8,.own 33),(55,.own 33),(56,wH),(57,wH)] [(32,.dat (.prod wI wI) 28),(33,.row .str 9)],lb 126 [(5,.ptr 32 0),(6,wS),(8,.own 33)] [(32,.dat (.prod wI wI) 28),(33,.row .str 9)],lb 992 [(5,.ptr 32 0),(6,wS),(7,wH),(8,.own 33)] [(32,.dat (.prod wI wI) 28),(33,.row .str 9)]]
def vb7:Nat->(x18 fu).L 0:=Fx.lq (qlx fu) (q1y fu) (fun r2=>[r2.s])
def vb6:(x18 fu).L 1:=Fx.jm (qlw fu) [(vb7 fu fu).s]
def vb5:Nat->(x18 fu).L 2:=Fx.lq (qlv fu) (q1x fu) (fun r0=>[(vb6 fu).s,r0.s])
def zbp:=(x18 fu).fi (qfk fu) [(vb5 fu fu).s]
def li:EI wG ⟨.fn 15,[.h (.prod wI wI)],[],_,RS.mk (.h .bool) []⟩:=(fx).fi ef
def x20:Fx wG ⟨.fn 36,[.h wL],[],_,RS.mk (.h (.prod wI wI)) []⟩:=fx [jq.p,(zbp fu).p,li.p,jr.p] [lb 232 [(2,.ptr 32 0),(11,.h wL),(12,wH),(13,wH)] [(32,.dat (.prod wI wI) 28)]]
def veo:Nat->(x20 fu).L 0:=Fx.lq (ql1 fu) (q13 fu) (fun r0=>[r0.s])
def zb2:=(x20 fu).fi (qfm fu) [(veo fu fu).s]
def x21(fu:Nat):Fx wG ⟨.fn 59,[wS],[],_,RS.mk (wS) []⟩:=fx [] [lb 232 [(3,.own 32),(8,.own 32),(9,wH),(10,wH)] [(32,.row .byte 5)]]
def ve3:Nat->(x21 fu).L 0:=Fx.lq (ws fu) (qfi fu) (fun r0=>[r0.s])
def zpm:=(x21 fu).fi (zh fu) [(ve3 fu fu).s]
def rh:EI wG ⟨.fn 30,[wS,wS],[],_,RS.mk (.h .bool) []⟩:=(fx [(zpm fu).p]).fi (fw fu)
def zb8:EI wG ⟨.fn 162,[wS,wS],[],_,RS.mk (.h .bool) []⟩:=(fx).fi qb8
def ve4:EI wG ⟨.fn 127,[wS,wS],[],_,RS.mk (wS) []⟩:=(fx [zb8.p]).fi q15
def ve5:EI wG ⟨.fn 91,[wS,wS],[],_,RS.mk (wS) []⟩:=(fx [ve4.p]).fi qto
def x26(fu:Nat):Fx wG ⟨.fn 60,[wS],[],_,RS.mk (wS) []⟩:=fx [qx3.p,ve5.p] [lb 232 [(0,wS),(3,.own 32),(8,wH),(9,wH)] [(32,.row .byte 5)]]
def ve6:Nat->(x26 fu).L 0:=Fx.lq (qb5 fu) (qr6 fu) (fun r0=>[r0.s])
def zpo:=(x26 fu).fi (qlu fu) [(ve6 fu fu).s]
def zpp:EI wG ⟨.fn 31,[.h wP],[],_,RS.mk (wS) []⟩:=(fx [(zpm fu).p,(zpo fu).p]).fi (qlt fu)
def x28:Fx wG ⟨.fn 13,[.h wL,.h (.list .str)],[],_,RS.mk (.tup [.own 0,.h (.prod wI wI)]) [(0,.row .byte 5)]⟩:=fx [(zb2 fu).p,li.p,jq.p,jr.p,(rh fu).p,(zpp fu).p] [lb 4148425 [(0,.h wL),(5,.ptr 32 0),(7,.own 33),(8,.own 34),(10,wS),(11,wH),(24,.h (.list .str)),(25,wH),(26,wH),(50,.h .bool)] [(32,.dat (.prod wI wI) 28),(33,.row .bool 4),(34,.row .byte 5)],lb 1037104 [(0,.h wL),(5,.ptr 32 0),(7,.own 33),(8,.own 34),(10,wS),(11,wH),(24,.h (.list .str)),(25,wH),(26,wH)] [(32,.dat (.prod wI wI) 28),(33,.row .bool 4),(34,.row .byte 5)],lb 2024 [(0,.h wL),(5,.ptr 32 0),(7,.own 33),(8,.own 34),(24,.h (.list .str)),(25,wH),(26,wH)] [(32,.dat (.prod wI wI) 28),(33,.row .bool 4),(34,.row .byte 5)]]
def ve9(r0:(x28 fu).L 2)(r1:(x28 fu).L 1):(x28 fu).L 0:=Fx.jm (q1u fu r0.f r1.f) [r0.s,r1.s]
def ve8(r0:(x28 fu).L 2):Nat->(x28 fu).L 1:=Fx.lq (q1t fu r0.f) (zdd fu r0.f) (fun r1=>[(ve9 fu r0 r1).s,r0.s])
def ve7:Nat->(x28 fu).L 2:=Fx.lq (q1s fu) (zdc fu) (fun r0=>[(ve8 fu r0 fu).s])
def vfa:=(x28 fu).fi (zdb fu) [(ve7 fu fu).s]
def vfb:EI wG ⟨.fn 92,[.h wB,.h wB,wH],[],_,RS.mk (.fn 128 [.ptr 0 0,.ptr 1 0,.ptr 2 0]) [(0,.cells [.h wB] 23),(1,.cells [.h wB] 23),(2,.cells [wH] 3)]⟩:=(fx).fi q1k
def vfe:EI wG ⟨.fn 61,[.h wB,.h wB],[],_,RS.mk (.fn 128 [.ptr 0 0,.ptr 1 0,.ptr 2 0]) [(0,.cells [.h wB] 23),(1,.cells [.h wB] 23),(2,.cells [wH] 3)]⟩:=(fx [vfb.p]).fi q1f
def vff:EI wG ⟨.yld 0,[.h wB],[(0,.loop .ready none 32 27 [(3,.ptr 1 0),(4,.ptr 2 0)] [11] 0 3),(1,.cells [.own 4] 23),(2,.cells [wH] 3),(3,.dfr),(4,.row .byte 5)],_,RS.mk (.c (.bool true)) [(0,.loop .ready none 32 27 [(3,.ptr 1 0),(4,.ptr 2 0)] [11] 0 3),(1,.cells [.own 5] 23),(2,.cells [wH] 3),(3,.dfr),(4,.dead),(5,.row .byte 5)]⟩:=(fy 32 [(zpo fu).p,⟨zkp.e qf7,z1r⟩] [] false [([0,1,0,1,1,1],0)] (qw rfl pp)).fo (qls fu) [] 0 [0,1,0,1,1,1]
def x32:Fx wG ⟨.fn 128,[.yld 0,.ptr 1 0,.ptr 2 0,.ptr 3 0],[(0,.loop .ready none 32 27 [(3,.ptr 4 0),(4,.ptr 5 0)] [11] 0 6),(1,.cells [.h wB] 23),(2,.cells [.h wB] 23),(3,.cells [wH] 3),(4,.cells [.own 7] 23),(5,.cells [wH] 3),(6,.dfr),(7,.row .byte 5)],_,RS.mk (.tup []) [(0,.loop .ready none 32 27 [(3,.ptr 4 0),(4,.ptr 5 0)] [11] 0 6),(1,.cells [.h wB] 23),(2,.cells [.h wB] 23),(3,.cells [wH] 3),(4,.cells [.own 8] 23),(5,.cells [wH] 3),(6,.dfr),(7,.dead),(8,.row .byte 5)]⟩:=fx [⟨q5l.e uj,zfe oF⟩,(vff fu).p] [lb 320 [(0,.yld 0),(2,.ptr 2 0)] [(0,.loop .ready none 32 27 [(3,.ptr 4 0),(4,.ptr 5 0)] [11] 0 6),(1,.cells [.h wB] 23),(2,.cells [.h wB] 23),(3,.cells [wH] 3),(4,.cells [.own 32] 23),(5,.cells [wH] 3),(6,.dfr),(7,.dead),(32,.row .byte 5)],lb 96 [(0,.yld 0),(1,.ptr 1 0),(2,.ptr 2 0),(3,.ptr 3 0)] [(0,.loop .ready none 32 27 [(3,.ptr 4 0),(4,.ptr 5 0)] [11] 0 6),(1,.cells [.h wB] 23),(2,.cells [.h wB] 23),(3,.cells [wH] 3),(4,.cells [.own 32] 23),(5,.cells [wH] 3),(6,.dfr),(7,.dead),(32,.row .byte 5)]]
def vfg:Nat->(x32 fu).L 0:=Fx.lq (q1n fu) (zc7 fu) (fun r0=>[])
def vfh:Nat->(x32 fu).L 1:=Fx.lq (qlm fu) (q1m fu) (fun r1=>[r1.s])
def vfi:=(x32 fu).fi (q1l fu) [(vfg fu fu).s,(vfh fu fu).s]
def zpq:EI wG ⟨.fn 32,[.h wB],[],_,RS.mk (.own 0) [(0,.row .byte 5)]⟩:=(fx [vfe.p,(vfi fu).p] [] false [([0,1,0,1,1,1],0)] (qw rfl pp)).fi (qlr fu)
def vfj:EI wG ⟨.fn 14,[.h wB],[],_,RS.mk (.tup [.own 0,.h (.prod wI wI)]) [(0,.row .byte 5)]⟩:=(fx [jq.p,(zpq fu).p,jr.p]).fi (zda fu)
def x35:Fx wG ⟨.fn 80,[.h (.prod wL wB)],[],_,RS.mk (.own 0) [(0,.row .byte 5)]⟩:=fx [(zbp fu).p] [lb 119608 [(1,.ptr 32 0),(3,.own 34),(11,.h wL),(12,wH),(13,wH),(25,.own 33),(26,wH),(27,wH)] [(32,.dat (.prod wL wB) 25),(33,.row .str 9),(34,.row .byte 5)],lb 232 [(1,.ptr 32 0),(3,.own 33),(11,.h wL),(12,wH),(13,wH)] [(32,.dat (.prod wL wB) 25),(33,.row .byte 5)]]
def vfl(r0:(x35 fu).L 1):Nat->(x35 fu).L 0:=Fx.lq (qfx fu r0.f) (q2q fu r0.f) (fun r1=>[r1.s,r0.s])
def vfk:Nat->(x35 fu).L 1:=Fx.lq (qcc fu) (q2p fu) (fun r0=>[(vfl fu r0 fu).s])
def vfm:=(x35 fu).fi (q2o fu) [(vfk fu fu).s]
def x36(fu:Nat):Fx wG ⟨.fn 118,[.h wB],[],_,RS.mk (wH) []⟩:=fx [] [lb 14924 [(0,.h wB),(3,wH),(4,wH),(5,.h .byte)],lb 7461 [(0,.h wB),(3,wH),(4,wH),(5,.h .byte),(32,.h .bool)],lb 464 [(0,.h wB),(3,wH),(4,wH)]]
def vfp(r0:(x36 fu).L 2):(x36 fu).L 0:=Fx.jm (q1a fu r0.f) [r0.s]
def vfo(r0:(x36 fu).L 2):(x36 fu).L 1:=Fx.jm (qfh fu r0.f) [r0.s,(vfp fu r0).s]
def vfn:Nat->(x36 fu).L 2:=Fx.lq (qb2 fu) (q09 fu) (fun r0=>[(vfo fu r0).s])
def zpr:=(x36 fu).fi (qfg fu) [(vfn fu fu).s]
def vfq:EI wG ⟨.fn 81,[.h wB],[],_,RS.mk (.h (.prod wI wI)) []⟩:=(fx [(zpr fu).p,jq.p,jr.p]).fi (qsq fu)
def vfr:EI wG ⟨.fn 54,[.h (.prod wL wB)],[],_,RS.mk (.h (.prod wI wI)) []⟩:=(fx [(zb2 fu).p,li.p,(vfm fu).p,jq.p,(vfq fu).p]).fi (qsp fu)
def x39(fu:Nat):Fx wG ⟨.fn 193,[wS,.h .byte],[],_,RS.mk (wS) []⟩:=fx [] [lb 96 [(0,wS),(1,.h .byte)]]
def vfs:Nat->(x39 fu).L 0:=Fx.lq (q35 fu) (zdz fu) (fun r0=>[r0.s])
def zpt:=(x39 fu).fi (q34 fu) [(vfs fu fu).s]
def x40(fu:Nat):Fx wG ⟨.fn 196,[wS,.el 0 1],[(0,.row .bool 243)],_,RS.mk (wS) [(0,.row .bool 243)]⟩:=fx [zao.p] [lb 96 [(0,wS),(1,.el 0 1)] [(0,.row .bool 243)]]
def vfu:Nat->(x40 fu).L 0:=Fx.lq (qne fu) (q33 fu) (fun r0=>[r0.s])
def zpv:=(x40 fu).fi (qnd fu) [(vfu fu fu).s]
def x41:Fx wG ⟨.fn 245,[wS,wS],[],_,RS.mk (wS) []⟩:=fx [(zpt fu).p,(x5s fu).p,(zpv fu).p] [lb 60 [(0,wS),(1,wS)],lb 29 [(0,wS),(1,wS),(21,.h .bool)],lb 28 [(0,wS),(1,wS)],lb 13 [(0,wS),(1,wS),(12,.h .bool)]]
def vfy:(x41 fu).L 0:=Fx.jm (q3u fu)
def vfx:(x41 fu).L 1:=Fx.jm (qtl fu) [(vfy fu).s]
def vfw:(x41 fu).L 2:=Fx.jm (q3t fu) [(vfx fu).s]
def vfv:(x41 fu).L 3:=Fx.jm (qtk fu) [(vfw fu).s]
def vfz:=(x41 fu).fi (qtj fu) [(vfv fu).s]
def qqd:EI wG ⟨.fn 220,[.ptr 0 0],[(0,.cells [wS] 263)],_,RS.mk (.tup []) [(0,.cells [wS] 263)]⟩:=(fx [(vfz fu).p]).fi (zp fu)
def qqe:EI wG ⟨.fn 217,[.h .byte],[],_,RS.mk (.h .bool) []⟩:=(fx [x7s.p]).fi ry
def x44:Fx wG ⟨.fn 216,[.ptr 0 0,.fn 217 []],[(0,.cells [wS] 263)],_,RS.mk (wS) [(0,.cells [wS] 263)]⟩:=fx [(qqd fu).p,qqe.p] [lb 482 [(0,.ptr 0 0),(1,.fn 217 []),(5,wH)] [(0,.cells [wS] 263)],lb 481 [(0,.ptr 0 0),(1,.fn 217 []),(5,wH),(25,.h .bool)] [(0,.cells [wS] 263)],lb 480 [(0,.ptr 0 0),(1,.fn 217 []),(5,wH)] [(0,.cells [wS] 263)]]
def vf2(r0:(x44 fu).L 2):(x44 fu).L 0:=Fx.jm (zdf fu r0.f) [r0.s]
def vf1(r0:(x44 fu).L 2):(x44 fu).L 1:=Fx.jm (q2k fu r0.f) [(vf2 fu r0).s]
def vf0:Nat->(x44 fu).L 2:=Fx.lq (qmk fu) (zde fu) (fun r0=>[(vf1 fu r0).s])
def vf3:=(x44 fu).fi (qmj fu) [(vf0 fu fu).s]
def zcc:EI wG ⟨.fn 218,[.ptr 0 0,.h .byte],[(0,.cells [wS] 263)],_,RS.mk (.h .bool) [(0,.cells [wS] 263)]⟩:=(fx [(qqd fu).p]).fi (qca fu)
def vf4:EI wG ⟨.fn 241,[.h .byte],[],_,RS.mk (.h .bool) []⟩:=(fx [qqe.p]).fi qmi
def x47:Fx wG ⟨.fn 216,[.ptr 0 0,.fn 241 []],[(0,.cells [wS] 263)],_,RS.mk (wS) [(0,.cells [wS] 263)]⟩:=fx [(qqd fu).p,vf4.p] [lb 482 [(0,.ptr 0 0),(1,.fn 241 []),(5,wH)] [(0,.cells [wS] 263)],lb 481 [(0,.ptr 0 0),(1,.fn 241 []),(5,wH),(25,.h .bool)] [(0,.cells [wS] 263)],lb 480 [(0,.ptr 0 0),(1,.fn 241 []),(5,wH)] [(0,.cells [wS] 263)]]
def vf7(r0:(x47 fu).L 2):(x47 fu).L 0:=Fx.jm (zdh fu r0.f) [r0.s]
def vf6(r0:(x47 fu).L 2):(x47 fu).L 1:=Fx.jm (q2l fu r0.f) [(vf7 fu r0).s]
def vf5:Nat->(x47 fu).L 2:=Fx.lq (qml fu) (zdg fu) (fun r0=>[(vf6 fu r0).s])
def vf8:=(x47 fu).fi (qsm fu) [(vf5 fu fu).s]
def vf9:EI wG ⟨.fn 265,[.h .byte],[],_,RS.mk (.h .bool) []⟩:=(fx [qqe.p]).fi qmn
def x49:Fx wG ⟨.fn 216,[.ptr 0 0,.fn 265 []],[(0,.cells [wS] 263)],_,RS.mk (wS) [(0,.cells [wS] 263)]⟩:=fx [(qqd fu).p,vf9.p] [lb 482 [(0,.ptr 0 0),(1,.fn 265 []),(5,wH)] [(0,.cells [wS] 263)],lb 481 [(0,.ptr 0 0),(1,.fn 265 []),(5,wH),(25,.h .bool)] [(0,.cells [wS] 263)],lb 480 [(0,.ptr 0 0),(1,.fn 265 []),(5,wH)] [(0,.cells [wS] 263)]]
def vgc(r0:(x49 fu).L 2):(x49 fu).L 0:=Fx.jm (zdj fu r0.f) [r0.s]
def vgb(r0:(x49 fu).L 2):(x49 fu).L 1:=Fx.jm (q2m fu r0.f) [(vgc fu r0).s]
def vga:Nat->(x49 fu).L 2:=Fx.lq (qmm fu) (zdi fu) (fun r0=>[(vgb fu r0).s])
def vgd:=(x49 fu).fi (qsn fu) [(vga fu fu).s]
def x50:Fx wG ⟨.fn 242,[.ptr 0 0],[(0,.cells [wS] 263)],_,RS.mk (.tup [wS,.h .bool]) [(0,.cells [wS] 263)]⟩:=fx [(zcc fu).p,(vgd fu).p] [lb 976 [(0,.ptr 0 0),(4,.own 32),(5,wH)] [(0,.cells [wS] 263),(32,.row .byte 5)]]
def vgf:Nat->(x50 fu).L 0:=Fx.lq (qmo fu) (q2n fu) (fun r0=>[r0.s])
def vgg:=(x50 fu).fi (qso fu) [(vgf fu fu).s]
def x51:Fx wG ⟨.fn 249,[wS,wS],[],_,RS.mk (wH) []⟩:=fx [x6s.p] [lb 57 [(0,wS),(1,wS),(5,wH),(16,.h .bool)]]
def vgh:x51.L 0:=Fx.jm qfo
def vgi:=x51.fi qfn [(vgh).s]
def vgj:EI wG ⟨.fn 224,[wS,wS],[],_,RS.mk (.tup [wS,wS,.h .bool]) []⟩:=(fx [vgi.p]).fi ql2
def zpz:EI wG ⟨.fn 191,[wS,wS],[],_,RS.mk (.tup [wS,wS,.h .bool]) []⟩:=(fx [vgj.p]).fi wy
def vgk:EI wG ⟨.fn 266,[wS,wS],[],_,RS.mk (.tup [wS,.h .bool]) []⟩:=(fx [zb8.p]).fi q14
def vgl:EI wG ⟨.fn 243,[wS,wS],[],_,RS.mk (.tup [wS,.h .bool]) []⟩:=(fx [vgk.p]).fi qtd
def q8v:LC.glob 1=some ⟨.int .u64,Lib.pow10Tab⟩:=rfl
def q8w:(1,20)∈LC.sizes:=oF
def vgm:EI wG ⟨.fn 219,[.ptr 0 0],[(0,.cells [wS] 263)],_,RS.mk (.tup [.h (.prod .str (.prod wI (.prod .bool .str))),.h .bool]) [(0,.cells [wS] 263)]⟩:=(fx [(vf8 fu).p,(zcc fu).p,(vgg fu).p,zpz.p,vgl.p,⟨zjg.e qb3,zzf q8v q8w oF oF⟩]).fi (qsl fu)
def zp0:EI wG ⟨.fn 246,[.h (.prod .str (.prod wI (.prod .bool .str))),.ptr 0 0],[(0,.dat (.prod .str (.prod wI (.prod .bool .str))) 267)],_,RS.mk (.h .bool) [(0,.dat (.prod .str (.prod wI (.prod .bool .str))) 267)]⟩:=(fx [(rh fu).p]).fi (qmc fu)
def x58:Fx wG ⟨.fn 268,[.h (.list (.prod .str (.prod wI (.prod .bool .str)))),.fn 246 [.ptr 0 0]],[(0,.dat (.prod .str (.prod wI (.prod .bool .str))) 267)],_,RS.mk (wH) [(0,.dat (.prod .str (.prod wI (.prod .bool .str))) 267)]⟩:=fx [(zp0 fu).p] [lb 104 [(0,.h (.list (.prod .str (.prod wI (.prod .bool .str))))),(1,.fn 246 [.ptr 0 0]),(7,wH),(8,wH)] [(0,.dat (.prod .str (.prod wI (.prod .bool .str))) 267)]]
def vgn:Nat->(x58 fu).L 0:=Fx.lq (qm0 fu) (q3f fu) (fun r0=>[r0.s])
def vgo:=(x58 fu).fi (q3e fu) [(vgn fu fu).s]
def vgp:EI wG ⟨.fn 247,[.h (.list (.prod .str (.prod wI (.prod .bool .str)))),.fn 246 [.ptr 0 0]],[(0,.dat (.prod .str (.prod wI (.prod .bool .str))) 267)],_,RS.mk (.h .bool) [(0,.dat (.prod .str (.prod wI (.prod .bool .str))) 267)]⟩:=(fx [(vgo fu).p]).fi (qs9 fu)
def x61:Fx wG ⟨.fn 261,[.h .byte],[],_,RS.mk (.tup [.h .byte,.h .bool]) []⟩:=fx [] [lb 103 [(0,.h .byte),(13,.h .bool)],lb 25 [(0,.h .byte),(4,.h .bool)]]
def vgs:x61.L 0:=Fx.jm q1c
def vgr:x61.L 1:=Fx.jm q1b [(vgs).s]
def vgt:=x61.fi wq [(vgr).s]
def zp3:EI wG ⟨.fn 237,[wS],[],_,RS.mk (.tup [.h .byte,.h .bool]) []⟩:=(fx [vgt.p]).fi wt
def x63:Fx wG ⟨.fn 271,[.h (.prod .str (.prod wI (.prod .bool .str)))],[],_,RS.mk (wS) []⟩:=fx [(rh fu).p,zp3.p] [lb 4048 [(3,wS),(4,.own 32),(5,wH)] [(32,.row .byte 5)],lb 62 [(3,wS)],lb 61 [(3,wS),(26,.h .bool)]]
def vgw:Nat->(x63 fu).L 0:=Fx.lq (qmg fu) (q2i fu) (fun r2=>[r2.s])
def vgv:(x63 fu).L 1:=Fx.jm (qfv fu) [(vgw fu fu).s]
def vgu:(x63 fu).L 2:=Fx.jm (zo fu) [(vgv fu).s]
def vgx:=(x63 fu).fi (qsj fu) [(vgu fu).s]
def zhe:LC.glob 2=some ⟨.byte,q9x⟩:=rfl
def zeg:LC.glob 3=some ⟨.prod .byte .byte,q9y⟩:=rfl
def zhd:qgu q9x=true:=oD
def zef:qgv q9y=true:=oD
def x64:Fx wG ⟨.fn 248,[.own 0],[(0,.row (.prod .str (.prod wI (.prod .bool .str))) 267)],_,RS.mk (.tup [.h wP,.h .bool]) [(0,.dead)]⟩:=fx [⟨zl5.e qcl,z3x⟩,(vgx fu).p,⟨zmv.e qcn,z4z zhe zeg zhd zef⟩] [lb 2024 [(2,.ptr 32 0),(4,.ptr 33 0),(28,.own 34),(29,wH),(30,wH)] [(0,.dead),(32,.dat wP 84),(33,.dat wP 84),(34,.row (.prod .str (.prod wI (.prod .bool .str))) 267)]] true
def vgy:Nat->(x64 fu).L 0:=Fx.lq (ql9 fu) (q2b fu) (fun r0=>[r0.s])
def vgz:=(x64 fu).fi (ql8 fu) [(vgy fu fu).s]
def x65:Fx wG ⟨.fn 221,[.h (.list (.prod .str (.prod wI (.prod .bool .str))))],[],_,RS.mk (.tup [.own 0,.h .bool]) [(0,.row wP 84)]⟩:=fx [(vgp fu).p,(zp0 fu).p,(vgz fu).p] [lb 3827623 [(0,.h (.list (.prod .str (.prod wI (.prod .bool .str))))),(4,.own 34),(6,.ptr 32 0),(7,.fn 246 [.ptr 32 0]),(8,.own 33),(13,.h (.list (.prod .str (.prod wI (.prod .bool .str))))),(14,wH),(15,wH),(26,.h (.list (.prod .str (.prod wI (.prod .bool .str))))),(27,wH),(28,wH)] [(32,.dat (.prod .str (.prod wI (.prod .bool .str))) 267),(33,.row (.prod .str (.prod wI (.prod .bool .str))) 267),(34,.row wP 84)],lb 956904 [(0,.h (.list (.prod .str (.prod wI (.prod .bool .str))))),(4,.own 33),(6,.ptr 32 0),(7,.fn 246 [.ptr 32 0]),(8,.own 34),(13,.h (.list (.prod .str (.prod wI (.prod .bool .str))))),(14,wH),(15,wH),(26,.h (.list (.prod .str (.prod wI (.prod .bool .str))))),(27,wH),(28,wH)] [(32,.dat (.prod .str (.prod wI (.prod .bool .str))) 267),(33,.row wP 84),(34,.row (.prod .str (.prod wI (.prod .bool .str))) 267)],lb 232 [(0,.h (.list (.prod .str (.prod wI (.prod .bool .str))))),(4,.own 32),(13,.h (.list (.prod .str (.prod wI (.prod .bool .str))))),(14,wH),(15,wH)] [(32,.row wP 84)]]
def vg2(r0:(x65 fu).L 2)(r1:(x65 fu).L 1):(x65 fu).L 0:=Fx.jm (qme fu r0.f r1.f) [r1.s]
def vg1(r0:(x65 fu).L 2):Nat->(x65 fu).L 1:=Fx.lq (qmd fu r0.f) (q2f fu r0.f) (fun r1=>[(vg2 fu r0 r1).s,r0.s])
def vg0:Nat->(x65 fu).L 2:=Fx.lq (qfu fu) (q2e fu) (fun r0=>[r0.s,(vg1 fu r0 fu).s])
def vg3:=(x65 fu).fi (qft fu) [(vg0 fu fu).s]
def x66:Fx wG ⟨.fn 183,[wS],[],_,.two (RS.mk (.tup [.agg [wS,wS,wN],.h .bool]) []) (RS.mk (.tup [.agg [wS,wS,.own 0],.h .bool]) [(0,.row wP 84)])⟩:=fx [(vf3 fu).p,(zcc fu).p,(vgm fu).p,(qqd fu).p,(vg3 fu).p] [lb 16352 [(2,.ptr 32 0),(4,.ptr 33 0),(5,.ptr 34 0),(7,.own 35)] [(32,.cells [wS,wS,wN] 81),(33,.cells [wS] 263),(34,.cells [wS,wS,wN] 81),(35,.row (.prod .str (.prod wI (.prod .bool .str))) 267)],lb 510 [(2,.ptr 32 0),(4,.ptr 33 0),(5,.ptr 34 0)] [(32,.cells [wS,wS,wN] 81),(33,.cells [wS] 263),(34,.cells [wS,wS,wN] 81)],lb 509 [(2,.ptr 32 0),(4,.ptr 33 0),(5,.ptr 34 0),(33,.h .bool)] [(32,.cells [wS,wS,wN] 81),(33,.cells [wS] 263),(34,.cells [wS,wS,wN] 81)]]
def vg6:Nat->(x66 fu).L 0:=Fx.lq (qmf fu) (q2g fu) (fun r2=>[r2.s])
def vg5:(x66 fu).L 1:=Fx.jm (q2h fu) [(vg6 fu fu).s]
def vg4:(x66 fu).L 2:=Fx.jm (zn fu) [(vg5 fu).s]
def vg7:=(x66 fu).fi (qsi fu) [(vg4 fu).s]
def x67(fu:Nat):Fx wG ⟨.fn 141,[wS,.fn 217 []],[],_,RS.mk (.h .bool) []⟩:=fx [qqe.p] [lb 104 [(0,wS),(1,.fn 217 []),(7,wH),(8,wH)]]
def vg8:Nat->(x67 fu).L 0:=Fx.lq (qli fu) (zc3 fu) (fun r0=>[r0.s])
def vg9:=(x67 fu).fi (qrw fu) [(vg8 fu fu).s]
def zp7:EI wG ⟨.fn 184,[wS],[],_,RS.mk (.h .bool) []⟩:=(fx [(vg9 fu).p]).fi (qcb fu)
def vha:EI wG ⟨.fn 186,[.h wP,.ptr 0 0],[(0,.dat wP 84)],_,RS.mk (.h .bool) [(0,.dat wP 84)]⟩:=(fx [(rh fu).p]).fi (q18 fu)
def x70:Fx wG ⟨.fn 154,[.h wL,.fn 186 [.ptr 0 0]],[(0,.dat wP 84)],_,RS.mk (wH) [(0,.dat wP 84)]⟩:=fx [(vha fu).p] [lb 104 [(0,.h wL),(1,.fn 186 [.ptr 0 0]),(7,wH),(8,wH)] [(0,.dat wP 84)]]
def vhb:Nat->(x70 fu).L 0:=Fx.lq (qmz fu) (q3c fu) (fun r0=>[r0.s])
def vhc:=(x70 fu).fi (q3b fu) [(vhb fu fu).s]
def vhd:EI wG ⟨.fn 185,[.h wL,.fn 186 [.ptr 0 0]],[(0,.dat wP 84)],_,RS.mk (.h .bool) [(0,.dat wP 84)]⟩:=(fx [(vhc fu).p]).fi (qs8 fu)
def x72:Fx wG ⟨.fn 155,[.h (.prod .str (.prod .str wL))],[],_,RS.mk (.h (.prod wI wI)) []⟩:=fx [(zp7 fu).p,jq.p,jr.p,(vhd fu).p,⟨zm8.e qco,z5n zhe zeg zhd zef⟩] [lb 31333 [(1,.ptr 32 0),(2,.ptr 33 0),(3,wH),(4,.ptr 34 0),(22,.h wL),(23,wH),(24,wH),(29,.h .bool)] [(32,.dat (.prod .str (.prod .str wL)) 81),(33,.dat (.prod wI wI) 28),(34,.dat wP 84)],lb 488 [(1,.ptr 32 0),(2,.ptr 33 0),(22,.h wL),(23,wH),(24,wH)] [(32,.dat (.prod .str (.prod .str wL)) 81),(33,.dat (.prod wI wI) 28)],lb 28 [(1,.ptr 32 0),(2,.ptr 33 0)] [(32,.dat (.prod .str (.prod .str wL)) 81),(33,.dat (.prod wI wI) 28)],lb 13 [(1,.ptr 32 0),(2,.ptr 33 0),(14,.h .bool)] [(32,.dat (.prod .str (.prod .str wL)) 81),(33,.dat (.prod wI wI) 28)]]
def vhh(r2:(x72 fu).L 1):(x72 fu).L 0:=Fx.jm (qb9 fu r2.f) [r2.s]
def vhg:Nat->(x72 fu).L 1:=Fx.lq (qfr fu) (q19 fu) (fun r2=>[(vhh fu r2).s])
def vhf:(x72 fu).L 2:=Fx.jm (q2a fu) [(vhg fu fu).s]
def vhe:(x72 fu).L 3:=Fx.jm (qfq fu) [(vhf fu).s]
def zcj:=(x72 fu).fi (wv fu) [(vhe fu).s]
def vhi:EI wG ⟨.fn 153,[wS],[],_,.two (RS.mk (.tup [.agg [wS,wS,wN],.agg [wH,wH]]) []) (RS.mk (.tup [.agg [wS,wS,.own 0],.agg [wH,wH]]) [(0,.row wP 84)])⟩:=(fx [jq.p,(vg7 fu).p,(zcj fu).p,li.p,jr.p]).fi (ql6 fu)
def x74:Fx wG ⟨.fn 121,[.h wL],[],_,.two (RS.mk (.tup [.agg [wS,wS,wN],wH,.h .bool]) []) (RS.mk (.tup [.agg [wS,wS,.own 0],wH,.h .bool]) [(0,.row wP 84)])⟩:=fx [(rh fu).p,(vhi fu).p,li.p] [lb 935 [(0,.h wL),(2,.ptr 32 0),(5,wH),(10,.h wL),(11,wH),(12,wH)] [(32,.cells [wS,wS,wN] 81)],lb 232 [(0,.h wL),(2,.ptr 32 0),(5,wH),(10,.h wL),(11,wH),(12,wH)] [(32,.cells [wS,wS,wN] 81)]]
def vhk(r0:(x74 fu).L 1):(x74 fu).L 0:=Fx.jm (qfz fu r0.f) [r0.s]
def vhj:Nat->(x74 fu).L 1:=Fx.lq (zq fu) (qss fu) (fun r0=>[(vhk fu r0).s])
def zck:=(x74 fu).fi (qfy fu) [(vhj fu fu).s]
def x75:Fx wG ⟨.fn 148,[.h (.prod .str (.prod .str wL)),wS],[],_,RS.mk (.tup [wS,.h .bool,.h (.prod wI wI)]) []⟩:=fx [(zcj fu).p,li.p,(rh fu).p,jr.p] [lb 232 [(1,wS),(6,.ptr 32 0),(16,.h wL),(17,wH),(18,wH)] [(32,.dat (.prod wI wI) 28)]]
def vhl:Nat->(x75 fu).L 0:=Fx.lq (ql5 fu) (q16 fu) (fun r0=>[r0.s])
def zqd:=(x75 fu).fi (ql4 fu) [(vhl fu fu).s]
def vhm:EI wG ⟨.fn 149,[.h .byte],[],_,RS.mk (.h .bool) []⟩:=(fx).fi qmq
def x77(fu:Nat):Fx wG ⟨.fn 141,[wS,.fn 149 []],[],_,RS.mk (.h .bool) []⟩:=fx [vhm.p] [lb 104 [(0,wS),(1,.fn 149 []),(7,wH),(8,wH)]]
def vhn:Nat->(x77 fu).L 0:=Fx.lq (qlj fu) (zc4 fu) (fun r0=>[r0.s])
def vho:=(x77 fu).fi (qrx fu) [(vhn fu fu).s]
def vhp:EI wG ⟨.fn 150,[wS,wS],[],_,RS.mk (.h .bool) []⟩:=(fx [zb8.p]).fi qte
def x79:Fx wG ⟨.fn 119,[.h wL],[],_,RS.mk (.tup [wS,.h .bool]) []⟩:=fx [(zck fu).p,(rh fu).p,(zqd fu).p,(vho fu).p,vhp.p] [lb 30 [(4,.ptr 32 0)] [(32,.cells [wS,wS,.own 33] 81),(33,.row wP 84)],lb 29 [(4,.ptr 32 0),(24,.h .bool)] [(32,.cells [wS,wS,.own 33] 81),(33,.row wP 84)]]
def vhr:(x79 fu).L 0:=Fx.jm (q2w fu)
def vhq:(x79 fu).L 1:=Fx.jm (qcd fu) [(vhr fu).s]
def vhs:=(x79 fu).fi (qsu fu) [(vhq fu).s]
def vht:EI wG ⟨.fn 151,[.h wB],[],_,RS.mk (.fn 181 [.ptr 0 0]) [(0,.cells [.h wB] 23)]⟩:=(fx).fi q21
def x81(fu:Nat):Fx wG ⟨.fn 194,[wS,.h .byte],[],_,RS.mk (wS) []⟩:=fx [] [lb 96 [(0,wS),(1,.h .byte)]]
def vhu:Nat->(x81 fu).L 0:=Fx.lq (q38 fu) (zd0 fu) (fun r0=>[r0.s])
def zqh:=(x81 fu).fi (q37 fu) [(vhu fu fu).s]
def x82(fu:Nat):Fx wG ⟨.fn 197,[wS,.el 0 1],[(0,.row .bool 243)],_,RS.mk (wS) [(0,.row .bool 243)]⟩:=fx [zao.p] [lb 96 [(0,wS),(1,.el 0 1)] [(0,.row .bool 243)]]
def vhv:Nat->(x82 fu).L 0:=Fx.lq (qng fu) (q36 fu) (fun r0=>[r0.s])
def zqj:=(x82 fu).fi (qnf fu) [(vhv fu fu).s]
def x83:Fx wG ⟨.fn 182,[wS,wS],[],_,RS.mk (wS) []⟩:=fx [(zqh fu).p,(x5s fu).p,(zqj fu).p] [lb 60 [(0,wS),(1,wS)],lb 29 [(0,wS),(1,wS),(21,.h .bool)],lb 28 [(0,wS),(1,wS)],lb 13 [(0,wS),(1,wS),(12,.h .bool)]]
def vhz:(x83 fu).L 0:=Fx.jm (q3w fu)
def vhy:(x83 fu).L 1:=Fx.jm (qtn fu) [(vhz fu).s]
def vhx:(x83 fu).L 2:=Fx.jm (q3v fu) [(vhy fu).s]
def vhw:(x83 fu).L 3:=Fx.jm (qtm fu) [(vhx fu).s]
def zqk:=(x83 fu).fi (qm8 fu) [(vhw fu).s]
def vh0:EI wG ⟨.fn 152,[wS,wS],[],_,RS.mk (wH) []⟩:=(fx [(zqk fu).p]).fi (qs2 fu)
def vh1:EI wG ⟨.yld 0,[wH,wS],[(0,.loop .ready none 120 51 [(2,.ptr 1 0),(3,.ptr 2 0),(4,.ptr 3 0),(5,.ptr 4 0),(6,.ptr 5 0)] [12,13] 1 6),(1,.cells [.h wB] 23),(2,.cells [wS] 9),(3,.cells [.own 7] 77),(4,.cells [.own 8] 77),(5,.cells [wH] 3),(6,.dfr),(7,.row wB 23),(8,.row wB 23)],_,.two (RS.mk (.c (.bool true)) [(0,.loop .ready none 120 51 [(2,.ptr 1 0),(3,.ptr 2 0),(4,.ptr 3 0),(5,.ptr 4 0),(6,.ptr 5 0)] [12,13] 1 6),(1,.cells [.h wB] 23),(2,.cells [wS] 9),(3,.cells [.own 9] 77),(4,.cells [.own 10] 77),(5,.cells [wH] 3),(6,.dfr),(7,.dead),(8,.dead),(9,.row wB 23),(10,.row wB 23)]) (RS.mk (.c (.bool false)) [(0,.loop .done (some .ret) 120 51 [(2,.ptr 1 0),(3,.ptr 2 0),(4,.ptr 3 0),(5,.ptr 4 0),(6,.ptr 5 0)] [12,13] 1 6),(1,.cells [.h wB] 23),(2,.cells [wS] 9),(3,.cells [.own 9] 77),(4,.cells [.own 9] 77),(5,.cells [wH] 3),(6,.dfr),(7,.dead),(8,.dead),(9,.row wB 23)])⟩:=(fy 120 [(vh0 fu).p] [] false [([0,1,0,1,1,1],1)] (qw rfl pp)).fo (qf1 fu) [] 0 [0,1,0,1,1,1]
def x86:Fx wG ⟨.fn 181,[.yld 0,.ptr 1 0],[(0,.loop .ready none 120 51 [(2,.ptr 2 0),(3,.ptr 3 0),(4,.ptr 4 0),(5,.ptr 5 0),(6,.ptr 6 0)] [12,13] 1 7),(1,.cells [.h wB] 23),(2,.cells [.h wB] 23),(3,.cells [wS] 9),(4,.cells [.own 8] 77),(5,.cells [.own 9] 77),(6,.cells [wH] 3),(7,.dfr),(8,.row wB 23),(9,.row wB 23)],_,.two (RS.mk (.tup []) [(0,.loop .done (some .ret) 120 51 [(2,.ptr 2 0),(3,.ptr 3 0),(4,.ptr 4 0),(5,.ptr 5 0),(6,.ptr 6 0)] [12,13] 1 7),(1,.cells [.h wB] 23),(2,.cells [.h wB] 23),(3,.cells [wS] 9),(4,.cells [.own 10] 77),(5,.cells [.own 10] 77),(6,.cells [wH] 3),(7,.dfr),(8,.dead),(9,.dead),(10,.row wB 23)]) (RS.mk (.tup []) [(0,.loop .ready none 120 51 [(2,.ptr 2 0),(3,.ptr 3 0),(4,.ptr 4 0),(5,.ptr 5 0),(6,.ptr 6 0)] [12,13] 1 7),(1,.cells [.h wB] 23),(2,.cells [.h wB] 23),(3,.cells [wS] 9),(4,.cells [.own 10] 77),(5,.cells [.own 11] 77),(6,.cells [wH] 3),(7,.dfr),(8,.dead),(9,.dead),(10,.row wB 23),(11,.row wB 23)])⟩:=fx [⟨q5l.e uj,zfe oF⟩,(vh1 fu).p] [lb 48 [(0,.yld 0),(1,.ptr 1 0),(3,wH)] [(0,.loop .ready none 120 51 [(2,.ptr 2 0),(3,.ptr 3 0),(4,.ptr 4 0),(5,.ptr 5 0),(6,.ptr 6 0)] [12,13] 1 7),(1,.cells [.h wB] 23),(2,.cells [.h wB] 23),(3,.cells [wS] 9),(4,.cells [.own 32] 77),(5,.cells [.own 33] 77),(6,.cells [wH] 3),(7,.dfr),(8,.dead),(9,.dead),(32,.row wB 23),(33,.row wB 23)]]
def vh2:Nat->(x86 fu).L 0:=Fx.lq (qcf fu) (q24 fu) (fun r0=>[r0.s])
def vh3:=(x86 fu).fi (q23 fu) [(vh2 fu fu).s]
def vh4:EI wG ⟨.fn 120,[.h wB,wS],[],_,RS.mk (.own 0) [(0,.row wB 23)]⟩:=(fx [vht.p,(vh3 fu).p] [] false [([0,1,0,1,1,1],1)] (qw rfl pp)).fi (qsw fu)
def zco:EI wG ⟨.fn 84,[.h wL,.h wB,wH],[],_,RS.mk (.own 0) [(0,.row wB 23)]⟩:=(fx [(vhs fu).p,(vh4 fu).p]).fi (qce fu)
def zcp:EI wG ⟨.fn 123,[.h wP],[],_,RS.mk (.h .bool) []⟩:=(fx [(rh fu).p]).fi (qf0 fu)
def x90:Fx wG ⟨.fn 154,[.h wL,.fn 123 []],[],_,RS.mk (wH) []⟩:=fx [(zcp fu).p] [lb 104 [(0,.h wL),(1,.fn 123 []),(7,wH),(8,wH)]]
def vh6:Nat->(x90 fu).L 0:=Fx.lq (qf6 fu) (q3d fu) (fun r0=>[r0.s])
def zqn:=(x90 fu).fi (qtb fu) [(vh6 fu fu).s]
def x91:Fx wG ⟨.fn 122,[.h wL,.fn 123 []],[],_,RS.mk (.h wL) []⟩:=fx [(zqn fu).p,(zcp fu).p] [lb 976 [(0,.h wL),(1,.fn 123 []),(5,wH),(6,wH)]] true
def vh7:Nat->(x91 fu).L 0:=Fx.lq (q29 fu) (zdp fu) (fun r0=>[r0.s])
def vh8:=(x91 fu).fi (zdo fu) [(vh7 fu fu).s]
def vh9:EI wG ⟨.fn 188,[.h .byte],[],_,RS.mk (.h .bool) []⟩:=(fx).fi qma
def x93(fu:Nat):Fx wG ⟨.fn 141,[wS,.fn 188 []],[],_,RS.mk (.h .bool) []⟩:=fx [vh9.p] [lb 104 [(0,wS),(1,.fn 188 []),(7,wH),(8,wH)]]
def vib:Nat->(x93 fu).L 0:=Fx.lq (qlk fu) (zc5 fu) (fun r0=>[r0.s])
def vic:=(x93 fu).fi (qry fu) [(vib fu fu).s]
def zqq:EI wG ⟨.fn 159,[.own 0],[(0,.row .str 9)],_,RS.mk (.ptr 1 0) [(0,.dead),(1,.cells [.h (.int .u32),.h (.int .i32),.h (.int .u32),.c .nilIface,.own 2] 240),(2,.row .str 9)]⟩:=(fx [] [] true).fi qm6
def yz(fu:Nat):Fx wG ⟨.fn 231,[.ptr 0 0],[(0,.cells [.h (.int .u32),.h (.int .i32),.h (.int .u32),.c .nilIface,.own 1] 240),(1,.row .str 9)],_,RS.mk (.iel 308 2 1) [(0,.cells [.h (.int .u32),.h (.int .i32),.h (.int .u32),.c .nilIface,.own 3] 240),(1,.dead),(2,.row .byte 307),(3,.row .str 9)]⟩:=fx [] [lb 2003 [(3,.own 32),(4,.h .bool),(5,wH)] [(0,.cells [.h (.int .u32),.h (.int .i32),.h (.int .u32),.c .nilIface,.own 32] 240),(1,.dead),(32,.row .str 9)],lb 129744 [(3,.own 32),(6,.el 33 1),(8,wH)] [(0,.cells [.h (.int .u32),.h (.int .i32),.h (.int .u32),.c .nilIface,.own 32] 240),(1,.dead),(32,.row .str 9),(33,.row .byte 307)],lb 32424 [(3,.own 32),(6,.el 33 1),(61,wH)] [(0,.cells [.h (.int .u32),.h (.int .i32),.h (.int .u32),.c .nilIface,.own 32] 240),(1,.dead),(32,.row .str 9),(33,.row .byte 307)],lb 16336 [(3,.own 32),(11,.ptr 33 0),(12,wH)] [(0,.cells [.h (.int .u32),.h (.int .i32),.h (.int .u32),.c .nilIface,.own 32] 240),(1,.dead),(32,.row .str 9),(33,.cells [wN,wN,wN,wN,wN,wN,wN,wN,wN,wN,wN,wN,wN,wN,wN,wN,wN,wN,wN,wN,wN,wN,wN,wN,wN,wN,wN,wN,wN,wN,wN,wN,wN,wN,wN,wN,wN,wN,wN,wN,wN,wN,wN,wN,wN,wN,wN,wN,wN,wN,wN,wN,wN,wN,wN,wN,wN,wN,wN,wN,wN,wN,wN,wN,wN,wN,wN,wN,wN,wN,wN,wN,wN,wN,wN,wN,wN,wN,wN,wN,wN,wN,wN,wN,wN,wN,wN,wN,wN,wN,wN,wN,wN,wN,wN,wN,wN,wN,wN,wN,wN,wN,wN,wN,wN,wN,wN,wN,wN,wN,wN,wN,wN,wN,wN,wN,wN,wN,wN,wN,wN,wN,wN,wN,wN,wN,wN,wN,wN,wN,wN,wN,wN,wN,wN,wN,wN,wN,wN,wN,wN,wN,wN,wN,wN,wN,wN,wN,wN,wN,wN,wN,wN,wN,wN,wN,wN,wN,wN,wN,wN,wN,wN,wN,wN,wN,wN,wN,wN,wN,wN,wN,wN,wN,wN,wN,wN,wN,wN,wN,wN,wN,wN,wN,wN,wN,wN,wN,wN,wN,wN,wN,wN,wN,wN,wN,wN,wN,wN,wN,wN,wN,wN,wN,wN,wN,wN,wN,wN,wN,wN,wN,wN,wN,wN,wN,wN,wN,wN,wN,wN,wN,wN,wN,wN,wN,wN,wN,wN,wN,wN,wN,wN,wN,wN,wN,wN,wN,wN,wN,wN,wN,wN,wN,wN,wN,wN,wN,wN,wN,wN,wN,wN,wN,wN,wN,.own 34] 311),(34,.row .str 9)],lb 2000 [(3,.own 32),(4,.h .bool),(5,wH)] [(0,.cells [.h (.int .u32),.h (.int .i32),.h (.int .u32),.c .nilIface,.own 32] 240),(1,.dead),(32,.row .str 9)],lb 30 [(3,.own 32)] [(0,.cells [.h (.int .u32),.h (.int .i32),.h (.int .u32),.c .nilIface,.own 32] 240),(1,.dead),(32,.row .str 9)],lb 29 [(3,.own 32),(28,.h .bool)] [(0,.cells [.h (.int .u32),.h (.int .i32),.h (.int .u32),.c .nilIface,.own 32] 240),(1,.dead),(32,.row .str 9)]]
def vig(r2:(yz fu).L 4):(yz fu).L 0:=Fx.jm (q3p fu r2.f) [r2.s]
def vij:Nat->(yz fu).L 1:=Fx.lq (q3s fu) (zdv fu) (fun r6=>[r6.s])
def vih:Nat->(yz fu).L 2:=Fx.lq (q3q fu) (zdt fu) (fun r4=>[r4.s,(vij fu fu).s])
def vii:Nat->(yz fu).L 3:=Fx.lq (q3r fu) (zdu fu) (fun r5=>[])
def vif:Nat->(yz fu).L 4:=Fx.lq (q3o fu) (zds fu) (fun r2=>[(vig fu r2).s,(vih fu fu).s,(vii fu fu).s])
def vie:(yz fu).L 5:=Fx.jm (zdw fu) [(vif fu fu).s]
def vid:(yz fu).L 6:=Fx.jm (q3n fu) [(vie fu).s]
def vik:=(yz fu).fi (zdr fu) [(vid fu).s]
def zct:IF:=⟨.fn 201,[.ptr 0 0],[(0,.cells [.h (.int .u32),.h (.int .i32),.h (.int .u32),.c .nilIface,.own 1] 240),(1,.row .str 9)],_,RS.mk (.tup []) [(0,.cells [.h (.int .u32),.h (.int .i32),.h (.int .u32),.iel 308 2 1,.own 3] 240),(1,.dead),(2,.row .byte 307),(3,.row .str 9)]⟩
def x96:Fx wG zct:=fx [(vik fu).p]
def vim:EI wG zct:=(x96 fu).fi (qti fu)
def zq4:(zct.e (qti fu)).Sound wG:=(vim fu).h
def zcu:IF:=⟨.fn 352,[.el 0 1,wS],[(0,.row .byte 307)],_,RS.mk (wS) [(0,.row .byte 307)]⟩
def x97(fu:Nat):Fx wG zcu:=fx [] [lb 14925 [(0,.el 0 1),(1,wS),(5,.own 32),(6,wH),(7,.h .byte)] [(0,.row .byte 307),(32,.row .byte 5)],lb 464 [(0,.el 0 1),(1,wS),(5,.own 32),(6,wH)] [(0,.row .byte 307),(32,.row .byte 5)],lb 464 [(0,.el 0 1),(1,wS),(5,wN),(6,wH)] [(0,.row .byte 307)]]
def zqr(r2:(x97 fu).L 1):(x97 fu).L 0:=Fx.jm (qnb fu r2.f) [r2.s]
def vio:Nat->(x97 fu).L 1:=Fx.lq (qnc fu) (q30 fu) (fun r2=>[(zqr fu r2).s,r2.s])
def vin:Nat->(x97 fu).L 2:=Fx.lq (qna fu) (q3z fu) (fun r0=>[r0.s,(zqr fu (vio fu fu)).s])
def vip:EI wG zcu:=(x97 fu).fi (qm9 fu) [(vin fu fu).s]
def zdx:(zcu.e (qm9 fu)).Sound wG:=(vip fu).h
def zkq:IF:=⟨.fn 161,[.ptr 0 0,wS],[(0,.cells [.h (.int .u32),.h (.int .i32),.h (.int .u32),.c .nilIface,.own 1] 240),(1,.row .str 9)],_,RS.mk (wS) [(0,.cells [.h (.int .u32),.h (.int .i32),.h (.int .u32),.iel 308 2 1,.u] 240),(1,.dead),(2,.row .byte 307)]⟩
def zkr:IF:=⟨.fn 161,[.ptr 0 0,wS],[(0,.cells [.h (.int .u32),.h (.int .i32),.h (.int .u32),.iel 308 1 1,.u] 240),(1,.row .byte 307)],_,RS.mk (wS) [(0,.cells [.h (.int .u32),.h (.int .i32),.h (.int .u32),.iel 308 1 1,.u] 240),(1,.row .byte 307)]⟩
def zq2(s:Bs)(p0 p1 p2:Int)(on:List Bs)(r:Bs×Int×Int×Int×Bs)(hr:qcj fu s p0 p1 p2 on=some r) :
  de wG 161 [.ptr 0 0,.str s] [(0,.cells [.int .u32 p0,.int .i32 p1,.int .u32 p2,.val .nilIface,.own 1] 240),(1,.row .str on 9)] (.str r.1) [(0,.cells [.int .u32 r.2.1,.int .i32 r.2.2.1,.int .u32 r.2.2.2.1,.iface 308 (.oel 2 1 0 0),.undef] 240),(1,.dead),(2,.row .byte r.2.2.2.2 307)]:=by
 unfold qcj at hr;cases hc:decide (p0=0)&&decide (p1=0)<;>rw[hc]at hr<;>simp only[qT,qF,reduceCtorEq]at hr
 simp only[qA,decide_eq_true_eq]at hc;obtain⟨rfl,rfl⟩:=hc;obtain⟨x,hx,hr⟩:=Option.bind_eq_some_iff.1 hr;obtain⟨x0,x1,x2,tab,on'⟩:=x;simp only at hr;cases hc2:decide (x0=0)&&decide (x1=1)<;>rw[hc2]at hr<;>simp only[qT,qF,reduceCtorEq]at hr
 simp only[qA,decide_eq_true_eq]at hc2;obtain⟨rfl,rfl⟩:=hc2;obtain⟨y,hy,hr⟩:=Option.bind_eq_some_iff.1 hr;obtain⟨out,tab'⟩:=y;simp only[qI]at hr;subst hr;have hB:de wG 201 [.ptr 0 0] [(0,.cells [.int .u32 0,.int .i32 1,.int .u32 p2,.val .nilIface,.own 1] 240),(1,.row .str on 9)] (.tup []) [(0,.cells [.int .u32 0,.int .i32 1,.int .u32 x2,.iface 308 (.oel 2 1 0 0),.own 3] 240),(1,.dead),(2,.row .byte tab 307),(3,.row .str on' 9)]:=
  (zq4 fu ((),()) (((0:Int),((1:Int),(p2,((),((),()))))),(on,())) ((0:Int),(1:Int),x2,tab,on') hx).2
 have hP:de wG 352 [.oel 0 1 0 0,.str s] [(0,.row .byte tab 307)] (.str out) [(0,.row .byte tab' 307)]:=
  (zdx fu ((),(s,())) (tab,()) (out,tab') hy).2
 intro w G vs hm hv;show Calls _ _ _ _ (p8 w G [(0,.cells [.int .u32 0,.int .i32 0,.int .u32 p2,.val .nilIface,.own 1] 240),(1,.row .str on 9)] (.str out) [(0,.cells [.int .u32 1,.int .i32 0,.int .u32 x2,.iface 308 (.oel 2 1 0 0),.undef] 240),(1,.dead),(2,.row .byte tab' 307)]);have hm:cv G [(0,.cells [.int .u32 0,.int .i32 0,.int .u32 p2,.val .nilIface,.own 1] 240),(1,.row .str on 9)] w:=hm;have hv:am [.ptr 0 0,.str s] G vs:=hv
 match vs,hv with
 |[v1,v2],hv=>
 obtain⟨⟨B,hGB,rfl⟩,rfl,_⟩:=hv;have hid:∀n b,ag ([(0,.cells [.int .u32 0,.int .i32 0,.int .u32 p2,.val .nilIface,.own 1] 240),(1,.row .str on 9)]:List (Nat×ah)) n=some b->ay [(0,0),(1,1)] n=some n/\d7 (ay [(0,0),(1,1)]) b=b:=by
  intro n b h
  match n,h with
  |0,h=>cases h;exact⟨rfl,rfl⟩
  |1,h=>cases h;exact⟨rfl,rfl⟩
  |n+2,h=>cases h
 have hr0:=ak.start (N:=[(0,0),(1,1)]) hm hid (fun n h=>by
  match n,h with
  |0,h=>cases h
  |1,h=>cases h
  | n+2,h=>rfl) 4
 have hGB0:(G.view [(0,0),(1,1)]).box 0=some B:=hGB;obtain⟨c0,e0,r0,z0⟩:=hr0.cellAt (i:=0) rfl hGB0 rfl;obtain⟨c1,e1,r1,z1⟩:=hr0.cellAt (i:=1) rfl hGB0 rfl;have r0:c0 = .int .u32 0:=r0;have r1:c1 = .int .i32 0:=r1;subst r0 r1;have hr1:=hr0.setCellAt (i:=1) (x := .int .i32 1) (v := .int .i32 1) rfl hGB0 rfl rfl
 -- the building
 have hmB:cv ((G.view [(0,0),(1,1)]).view [(0,0),(1,1)]) [(0,.cells [.int .u32 0,.int .i32 1,.int .u32 p2,.val .nilIface,.own 1] 240),(1,.row .str on 9)] (w.setCell ⟨B,1,none⟩ (.int .i32 1)):=
  hr1.fin.mem.view (names:=[(0,0),(1,1)]) rfl (fun m m' n h1 h2=>by
   match m,m',h1,h2 with
   |0,0,_,_=>rfl|1,1,_,_=>rfl|0,1,h1,h2=>cases h1;cases h2
   |1,0,h1,h2=>cases h1;cases h2
   |0,m'+2,_,h2=>cases h2
   |1,m'+2,_,h2=>cases h2
   | m+2,_,h1,_=>cases h1)
 have hcB:=hB (w.setCell ⟨B,1,none⟩ (.int .i32 1)) ((G.view [(0,0),(1,1)]).view [(0,0),(1,1)]) [.pointer (some ⟨B,0,none⟩)] hmB ⟨⟨B,hGB,rfl⟩,trivial⟩
 let s2:St:={ n:=4,fr:=[(0,.tup [])],hp:=[(0,.cells [.int .u32 0,.int .i32 1,.int .u32 x2,.iface 308 (.oel 66 1 0 0),.own 67] 240),(1,.dead),(66,.row .byte tab 307),(67,.row .str on' 9),(0,.dead),(1,.dead),(0,.cells [.int .u32 0,.int .i32 1,.int .u32 p2,.val .nilIface,.own 1] 240),(0,.cells [.int .u32 0,.int .i32 0,.int .u32 p2,.val .nilIface,.own 1] 240),(1,.row .str on 9)],nx:=64,df:=[] }
 let hp0:List (Nat×ah):=[(0,.cells [.int .u32 0,.int .i32 0,.int .u32 p2,.val .nilIface,.own 1] 240),(1,.row .str on 9)]
 let R:World->Prop:=fun w'=>∃G2 a2,ak w (G.view [(0,0),(1,1)]) hp0 G2 s2 a2 w'
 have hBw:∀{w':World}{G2:Gh}{a2:Act},ak w (G.view [(0,0),(1,1)]) hp0 G2 s2 a2 w'->G2.box 0=some B:=fun h=>h.fin.keep 0 _ B rfl hGB0
 refine(Go.Proofs.YtgpcmiimfgghdaaGreatDoor.Once.replace_first B ⟨s.toArray⟩ w R (fun v w'=>∃G4,Fin w G hp0 G4 [(0,.cells [.int .u32 1,.int .i32 0,.int .u32 x2,.iface 308 (.oel 2 1 0 0),.undef] 240),(1,.dead),(2,.row .byte tab' 307)] w'/\aj (.str out) G4 v) e0 e1 z0 z1 ?_ ?_ ?_).mono ?_
 ·refine hcB.mono ?_;intro e w' hpost;obtain⟨G2,v,he,hr2⟩:=qoz hr1 (t:=0) (names:=[(0,0),(1,1)]) (hpv:=[(0,.cells [.int .u32 0,.int .i32 1,.int .u32 p2,.val .nilIface,.own 1] 240),(1,.row .str on 9)]) (hp:=[(0,.cells [.int .u32 0,.int .i32 1,.int .u32 p2,.val .nilIface,.own 1] 240),(1,.row .str on 9)]) rfl rfl (show 0<4 by decide) rfl rfl (by repeat (first|trivial|refine⟨rfl,?_⟩)) hpost
  obtain⟨u,u1,u2⟩:=hr2.frame 0 _ rfl;have u3:u=v:=by simpa [Act.put] using u1.symm
  obtain⟨us,h1,h2⟩:=u2;have:us=#[]:=by
   cases hq:us.toList with|nil=>simpa using hq|cons _ _=>rw[hq]at h2;exact h2.elim
  subst this;subst u3;exact⟨by rw[he,h1],G2,_,hr2⟩
 ·rintro w' ⟨G2,a2,hr2⟩
  obtain⟨d0,f0,q0,y0⟩:=hr2.cellAt (i:=0) rfl (hBw hr2) rfl;obtain⟨d1,f1,q1,y1⟩:=hr2.cellAt (i:=1) rfl (hBw hr2) rfl;have q0:d0 = .int .u32 0:=q0;have q1:d1 = .int .i32 1:=q1;subst q0 q1;exact⟨f0,y0,f1,y1⟩
 ·rintro w' ⟨G2,a2,hr2⟩
  obtain⟨d3,f3,q3,_⟩:=hr2.cellAt (i:=3) rfl (hBw hr2) rfl;obtain⟨u3,rfl,g,n3,c3,o3,rfl⟩:=q3;refine⟨g,by simpa using f3,?_⟩
  have hr3:=(hr2.drewOk.setCellAt (i:=0) (x := .int .u32 1) (v := .int .u32 1) rfl (hBw hr2) rfl rfl).setCellAt (i:=0+1) (x := .int .i32 0) (v := .int .i32 0) rfl (hBw hr2) rfl rfl;have hmP:cv (G2.view [(0,66)]) [(0,.row .byte tab 307)] ((w'.drew.setCell ⟨B,0,none⟩ (.int .u32 1)).setCell ⟨B,0+1,none⟩ (.int .i32 0)):=
   hr3.fin.mem.view (names:=[(0,66)]) rfl (fun m m' n h1 h2=>by
    cases m with
    |zero=>cases m' with|zero=>rfl|succ m'=>cases h2
    | succ m=>cases h1)
  have hcP:=hP _ (G2.view [(0,66)]) [.pointer (some ⟨g,0,none⟩),.string ⟨s.toArray⟩] hmP ⟨⟨g,n3,c3,o3,oC⟩,rfl,trivial⟩
  refine hcP.mono ?_;intro e w4 hpost;obtain⟨G4,v,he,hr4⟩:=qoz hr3 (t:=1) (names:=[(0,66)]) (hpv:=[(0,.row .byte tab 307)]) (hp:=[(0,.row .byte tab 307)]) rfl rfl (show 1<4 by decide) rfl rfl ⟨rfl,trivial⟩ hpost
  obtain⟨u,u1,u2⟩:=hr4.frame 1 _ rfl;have u3:u=v:=by
   have hs:=hr3.size;have hlt:1<a2.tmps.size:=by rw[hs];exact(show 1<4 by decide)
   simp only[Act.put]at u1;rw[Array.getElem?_setIfInBounds]at u1;simp[hlt]at u1;exact u1.symm
  subst u3;obtain⟨G5,k1,k2⟩:=qvm hr4 (ids:=[(0,0),(1,1)]) (fun n bx h=>by
   match n,h with
   |0,h=>rfl|1,h=>rfl| n+2,h=>cases h) (v := .str out) (p := wS) (hp:=[(0,.cells [.h (.int .u32),.h (.int .i32),.h (.int .u32),.iel 308 2 1,.u] 240),(1,.dead),(2,.row .byte 307)]) (y:=(out,(((1:Int),((0:Int),(x2,((),((),()))))),((),(tab',()))))) (by rfl)
  exact⟨u,he,G5,k1.only hid,k2 u u2⟩
 ·rintro e w4 ⟨v,rfl,G4,k1,k2⟩
  exact⟨v,G4,rfl,k1,k2⟩
def z1w:(zkq.e (qcj fu)).Sound wG:=fun d d' r hr=>
 ⟨call161,zq2 fu d.2.1 d'.1.1 d'.1.2.1 d'.1.2.2.1 d'.2.1 r hr⟩
def zq3(s:Bs)(p0 p1 p2:Int)(tab:Bs)(r:Bs×Int×Int×Int×Bs)(hr:qck fu s p0 p1 p2 tab=some r) :
  de wG 161 [.ptr 0 0,.str s] [(0,.cells [.int .u32 p0,.int .i32 p1,.int .u32 p2,.iface 308 (.oel 1 1 0 0),.undef] 240),(1,.row .byte tab 307)] (.str r.1) [(0,.cells [.int .u32 r.2.1,.int .i32 r.2.2.1,.int .u32 r.2.2.2.1,.iface 308 (.oel 1 1 0 0),.undef] 240),(1,.row .byte r.2.2.2.2 307)]:=by
 unfold qck at hr;cases hc : !decide (p0=0)<;>rw[hc]at hr<;>simp only[qT,qF,reduceCtorEq]at hr
 simp only[Bool.not_eq_true',decide_eq_false_iff_not]at hc;obtain⟨y,hy,hr⟩:=Option.bind_eq_some_iff.1 hr;obtain⟨out,tab'⟩:=y;simp only[qI]at hr;subst hr;have hP:de wG 352 [.oel 0 1 0 0,.str s] [(0,.row .byte tab 307)] (.str out) [(0,.row .byte tab' 307)]:=
  (zdx fu ((),(s,())) (tab,()) (out,tab') hy).2
 intro w G vs hm hv
 let hp0:List (Nat×ah):=[(0,.cells [.int .u32 p0,.int .i32 p1,.int .u32 p2,.iface 308 (.oel 1 1 0 0),.undef] 240),(1,.row .byte tab 307)]
 show Calls _ _ _ _ (p8 w G hp0 (.str out) [(0,.cells [.int .u32 p0,.int .i32 p1,.int .u32 p2,.iface 308 (.oel 1 1 0 0),.undef] 240),(1,.row .byte tab' 307)]);have hm:cv G hp0 w:=hm;have hv:am [.ptr 0 0,.str s] G vs:=hv
 match vs,hv with
 |[v1,v2],hv=>
 obtain⟨⟨B,hGB,rfl⟩,rfl,_⟩:=hv;have hid:∀n b,ag hp0 n=some b->ay [(0,0),(1,1)] n=some n/\d7 (ay [(0,0),(1,1)]) b=b:=by
  intro n b h
  match n,h with
  |0,h=>cases h;exact⟨rfl,rfl⟩
  |1,h=>cases h;exact⟨rfl,rfl⟩
  |n+2,h=>cases h
 have hr0:=ak.start (N:=[(0,0),(1,1)]) hm hid (fun n h=>by
  match n,h with
  |0,h=>cases h
  |1,h=>cases h
  | n+2,h=>rfl) 4
 have hGB0:(G.view [(0,0),(1,1)]).box 0=some B:=hGB;obtain⟨c0,e0,r0,_⟩:=hr0.cellAt (i:=0) rfl hGB0 rfl;have r0:c0 = .int .u32 p0:=r0;subst r0;obtain⟨d3,f3,q3,_⟩:=hr0.cellAt (i:=3) rfl hGB0 rfl;obtain⟨u3,rfl,g,n3,c3,o3,rfl⟩:=q3;have hmP:cv ((G.view [(0,0),(1,1)]).view [(0,1)]) [(0,.row .byte tab 307)] w:=
  hr0.fin.mem.view (names:=[(0,1)]) rfl (fun m m' n h1 h2=>by
   cases m with
   |zero=>cases m' with|zero=>rfl|succ m'=>cases h2
   | succ m=>cases h1)
 have hcP:=hP w ((G.view [(0,0),(1,1)]).view [(0,1)]) [.pointer (some ⟨g,0,none⟩),.string ⟨s.toArray⟩] hmP ⟨⟨g,n3,c3,o3,oC⟩,rfl,trivial⟩
 refine(Go.Proofs.YtgpcmiimfgghdaaGreatDoor.Once.replace_done B g ⟨s.toArray⟩ w (fun v w'=>∃G4,Fin w G hp0 G4 [(0,.cells [.int .u32 p0,.int .i32 p1,.int .u32 p2,.iface 308 (.oel 1 1 0 0),.undef] 240),(1,.row .byte tab' 307)] w'/\aj (.str out) G4 v) p0 hc e0 (by simpa using f3) ?_).mono ?_
 ·refine hcP.mono ?_;intro e w4 hpost;obtain⟨G4,v,he,hr4⟩:=qoz hr0 (t:=1) (names:=[(0,1)]) (hpv:=[(0,.row .byte tab 307)]) (hp:=[(0,.row .byte tab 307)]) rfl rfl (show 1<4 by decide) rfl rfl ⟨rfl,trivial⟩ hpost
  obtain⟨u,u1,u2⟩:=hr4.frame 1 _ rfl;have u3:u=v:=by simpa [Act.put] using u1.symm
  subst u3;obtain⟨G5,k1,k2⟩:=qvm hr4 (ids:=[(0,0),(1,1)]) (fun n bx h=>by
   match n,h with
   |0,h=>rfl|1,h=>rfl| n+2,h=>cases h) (v := .str out) (p := wS) (hp:=[(0,.cells [.h (.int .u32),.h (.int .i32),.h (.int .u32),.iel 308 1 1,.u] 240),(1,.row .byte 307)]) (y:=(out,((p0,(p1,(p2,((),((),()))))),(tab',())))) (by rfl)
  exact⟨u,he,G5,k1.only hid,k2 u u2⟩
 ·rintro e w4 ⟨v,rfl,G4,k1,k2⟩
  exact⟨v,G4,rfl,k1,k2⟩
def z1x:(zkr.e (qck fu)).Sound wG:=fun d d' r hr=>
 ⟨call161,zq3 fu d.2.1 d'.1.1 d'.1.2.1 d'.1.2.2.1 d'.2.1 r hr⟩
end
end
noncomputable section
open Go.Proofs
set_option linter.unusedVariables false
set_option maxRecDepth 100000
set_option maxHeartbeats 2000000
open Tryz
section
variable(fu:Nat)
def viq:EI wG ⟨.fn 223,[.h .byte],[],_,RS.mk (.h .byte) []⟩:=(fx).fi rx
def x99(fu:Nat):Fx wG ⟨.fn 189,[wS],[],_,RS.mk (.own 0) [(0,.row .str 9)]⟩:=fx [qqe.p,viq.p] [lb 29902 [(0,wS),(3,.own 32),(5,wS),(9,wH),(10,wH)] [(32,.row .str 9)],lb 232 [(0,wS),(3,.own 32),(9,wH),(10,wH)] [(32,.row .str 9)]]
def vis(r0:(x99 fu).L 1):(x99 fu).L 0:=Fx.jm (qmh fu r0.f) [r0.s]
def vir:Nat->(x99 fu).L 1:=Fx.lq (qfw fu) (q2j fu) (fun r0=>[(vis fu r0).s])
def vit:=(x99 fu).fi (qsk fu) [(vir fu fu).s]
def qxy:Fx wG ⟨.fn 156,[.h wP],[],_,RS.mk (wS) []⟩:=fx [(zp7 fu).p,(vic fu).p,zqq.p,⟨zks.e zu,z1v⟩,(vit fu).p,⟨q7b.e om,zie q8v q8w⟩] [lb 1000 [(1,.ptr 32 0),(3,wS),(38,.own 33),(39,wH),(40,wH)] [(32,.dat wP 84),(33,.row .str 9)],lb 30 [(1,.ptr 32 0)] [(32,.dat wP 84)],lb 29 [(1,.ptr 32 0),(24,.h .bool)] [(32,.dat wP 84)]]
def z6b:Nat->(qxy fu).L 0:=Fx.lq (qmb fu) (q2c fu) (fun r2=>[r2.s])
def z6a:(qxy fu).L 1:=Fx.jm (q2d fu) [(z6b fu fu).s]
def z59:(qxy fu).L 2:=Fx.jm (qfs fu) [(z6a fu).s]
def z6c:=(qxy fu).fi (qsh fu) [(z59 fu).s]
def znl:Fx wG ⟨.fn 124,[.h (.prod .str (.prod .str wL))],[],_,RS.mk (.tup [wS,.h (.prod wI wI)]) []⟩:=fx [(zcj fu).p,li.p,(z6c fu).p,jq.p,jr.p] [lb 488 [(3,.ptr 32 0),(5,wS),(20,.h wL),(21,wH),(22,wH)] [(32,.dat (.prod wI wI) 28)]]
def z6d:Nat->(znl fu).L 0:=Fx.lq (ql7 fu) (q17 fu) (fun r0=>[r0.s])
def znm:=(znl fu).fi (qfp fu) [(z6d fu fu).s]
def znn:Fx wG ⟨.fn 122,[.own 0,.fn 123 []],[(0,.row wP 84)],_,RS.mk (.own 1) [(0,.dead),(1,.row wP 84)]⟩:=fx [(zqn fu).p,(zcp fu).p] [lb 976 [(0,.own 32),(1,.fn 123 []),(5,wH),(6,wH)] [(0,.dead),(32,.row wP 84)]] true
def z6e:Nat->(znn fu).L 0:=Fx.lq (qmy fu) (q3a fu) (fun r0=>[r0.s])
def z6f:=(znn fu).fi (qta fu) [(z6e fu fu).s]
def zno:EI wG ⟨.fn 85,[.h wL],[],_,RS.mk (.tup [.own 0,.h .bool]) [(0,.row wP 48)]⟩:=(fx [(zck fu).p,(vh8 fu).p,(znm fu).p,li.p,⟨quv.e gv,q5v⟩,(z6f fu).p]).fi (qmp fu)
def zan:EI wG ⟨.fn 164,[.h wB,.h .byte],[],_,RS.mk (wH) []⟩:=(fx [⟨q1e 202 zi,zq0⟩]).fi wu
def znp:EI wG ⟨.fn 17,[.h wB,.h wB],[],_,RS.mk (.h .bool) []⟩:=(fx).fi qll
def znq:EI wG ⟨.fn 211,[.h wB,.h wB],[],_,RS.mk (.h .bool) []⟩:=(fx [znp.p]).fi qfj
def znr:EI wG ⟨.fn 190,[.h wB,.h wB],[],_,RS.mk (.h wB) []⟩:=(fx [znq.p]).fi zj
def z6g:EI wG ⟨.fn 157,[.h wB],[],_,RS.mk (.tup [wS,wH]) []⟩:=(fx [zan.p,znr.p]).fi qsf
def z6h:EI wG ⟨.fn 192,[wS],[],_,RS.mk (.h .bool) []⟩:=(fx [(zbp fu).p,li.p]).fi (qsg fu)
def z6i:EI wG ⟨.fn 158,[wS],[],_,RS.mk (.tup [.h wP,.h .bool]) []⟩:=(fx [zpz.p,(zqk fu).p,(z6h fu).p]).fi (qse fu)
def qpz:Fx wG ⟨.fn 160,[wS,wS],[],_,RS.mk (wS) []⟩:=fx [(zqh fu).p,(zpt fu).p,(x5s fu).p,(zqj fu).p,(zpv fu).p] [lb 60 [(0,wS),(1,wS)],lb 29 [(0,wS),(1,wS),(21,.h .bool)],lb 28 [(0,wS),(1,wS)],lb 13 [(0,wS),(1,wS),(12,.h .bool)]]
def z6m:(qpz fu).L 0:=Fx.jm (q3y fu)
def z6l:(qpz fu).L 1:=Fx.jm (qtq fu) [(z6m fu).s]
def z6k:(qpz fu).L 2:=Fx.jm (q3x fu) [(z6l fu).s]
def z6j:(qpz fu).L 3:=Fx.jm (qtp fu) [(z6k fu).s]
def z6n:=(qpz fu).fi (qm7 fu) [(z6j fu).s]
def yn:Fx wG ⟨.fn 125,[.h wB],[],_,RS.mk (.tup [.own 0,wH,.h (.prod wI wI)]) [(0,.row wP 48)]⟩:=fx [jq.p,z6g.p,qx3.p,zqq.p,⟨zkq.e (qcj fu),z1w fu⟩,(z6n fu).p,jr.p,(z6i fu).p,⟨zkr.e (qck fu),z1x fu⟩] [lb 8168 [(4,.ptr 32 0),(5,.own 33),(6,wH),(11,.ptr 34 0),(77,wH),(78,wH)] [(32,.dat (.prod wI wI) 28),(33,.row wP 48),(34,.cells [.h (.int .u32),.h (.int .i32),.h (.int .u32),.iel 308 35 1,.u] 240),(35,.row .byte 307)],lb 8168 [(4,.ptr 32 0),(5,.own 35),(6,wH),(11,.ptr 33 0),(77,wH),(78,.c (.int .i64 0))] [(32,.dat (.prod wI wI) 28),(33,.cells [.h (.int .u32),.h (.int .i32),.h (.int .u32),.c .nilIface,.own 34] 240),(34,.row .str 9),(35,.row wP 48)],lb 252 [(4,.ptr 32 0),(5,.own 33),(6,wH)] [(32,.dat (.prod wI wI) 28),(33,.row wP 48)],lb 15918 [(0,.h wB),(4,.ptr 32 0),(5,.own 33),(6,wH),(7,wS),(8,wH)] [(32,.dat (.prod wI wI) 28),(33,.row wP 48)],lb 15917 [(0,.h wB),(4,.ptr 32 0),(5,.own 33),(6,wH),(7,wS),(8,wH),(41,.h .bool)] [(32,.dat (.prod wI wI) 28),(33,.row wP 48)],lb 992 [(0,.h wB),(4,.ptr 32 0),(5,.own 33),(6,wH)] [(32,.dat (.prod wI wI) 28),(33,.row wP 48)]]
def z6s:Nat->(yn fu).L 0:=Fx.lq (ql0 fu) (q12 fu) (fun r5=>[r5.s])
def z6q:Nat->(yn fu).L 1:=Fx.lq (zm fu) (qlz fu) (fun r3=>[(z6s fu fu).s])
def zns:(yn fu).L 2:=Fx.jm (qfl fu) [(z6q fu fu).s]
def z6r(r0:(yn fu).L 5):(yn fu).L 3:=Fx.jm (qsd fu r0.f) [(zns fu).s,r0.s]
def z6p(r0:(yn fu).L 5):(yn fu).L 4:=Fx.jm (qb7 fu r0.f) [r0.s,(z6r fu r0).s]
def z6o:Nat->(yn fu).L 5:=Fx.lq (qb6 fu) (q11 fu) (fun r0=>[(zns fu).s,(z6p fu r0).s])
def z6t:=(yn fu).fi (qsc fu) [(z6o fu fu).s]
def qa8:IF:=⟨.fn 86,[.ptr 0 0,.h wB,wH],[(0,.dat (.prod wI (.prod wI wI)) 98)],_,RS.mk (.tup [.h wT,.h .bool]) [(0,.dat (.prod wI (.prod wI wI)) 98)]⟩
def znt(s110:EI wG qa8)(fu:Nat):Fx wG ⟨.fn 55,[.ptr 0 0,.own 1,.h wB,wH],[(0,.dat (.prod wI (.prod wI wI)) 98),(1,.row wP 48)],_,RS.mk (.tup [.h wT,.h .bool]) [(0,.dat (.prod wI (.prod wI wI)) 98),(1,.dead)]⟩:=fx [⟨quv.e gv,q5v⟩,⟨q5w.e gv,zf3⟩,(zco fu).p,(zno fu).p,s110.p] [lb 16360 [(0,.ptr 0 0),(3,wH),(8,.ptr 32 0),(10,.ptr 33 0),(48,.own 34),(49,wH),(50,wH)] [(0,.dat (.prod wI (.prod wI wI)) 98),(1,.dead),(32,.cells [wN,wN,wN] 33),(33,.cells [.own 35,wN,.own 36] 33),(34,.row wB 23),(35,.row wP 48),(36,.row wT 33)]]
def z6u(s110:EI wG qa8)(fu:Nat):Nat->(znt s110 fu).L 0:=Fx.lq (qcg s110.f fu) (q25 s110.f fu) (fun r0=>[r0.s])
def z6v(s110:EI wG qa8)(fu:Nat):=(znt s110 fu).fi (zt s110.f fu) [(z6u s110 fu fu).s]
def z6w(s110:EI wG qa8)(fu:Nat):Fx wG qa8:=fx [(z6t fu).p,li.p,jq.p,(z6v s110 fu).p]
def z6x(s110:EI wG qa8)(fu:Nat):EI wG qa8:=(z6w s110 fu).fi (qs4 s110.f fu)
def z6y:EI wG qa8 := .rc (ww fu) (fun r=>qs4 r fu) (fun _ _=>rfl) (fun _=>rfl) (fun s110=>z6x s110 fu) (fun _=>rfl) fu
def znu:Fx wG ⟨.fn 55,[.ptr 0 0,.h wL,.h wB,wH],[(0,.dat (.prod wI (.prod wI wI)) 98)],_,RS.mk (.tup [.h wT,.h .bool]) [(0,.dat (.prod wI (.prod wI wI)) 98)]⟩:=fx [⟨quv.e gv,q5v⟩,⟨q5w.e gv,zf3⟩,(zco fu).p,(zno fu).p,(z6y fu).p] [lb 16360 [(0,.ptr 0 0),(3,wH),(8,.ptr 32 0),(10,.ptr 33 0),(48,.own 34),(49,wH),(50,wH)] [(0,.dat (.prod wI (.prod wI wI)) 98),(32,.cells [wN,wN,wN] 33),(33,.cells [.own 35,wN,.own 36] 33),(34,.row wB 23),(35,.row wP 48),(36,.row wT 33)]]
def z6z:Nat->(znu fu).L 0:=Fx.lq (qmu fu) (zdn fu) (fun r0=>[r0.s])
def z60:=(znu fu).fi (qs3 fu) [(z6z fu fu).s]
def znv:EI wG ⟨.fn 58,[.h wT],[],_,RS.mk (.fn 88 [.ptr 0 0]) [(0,.dat wT 33)]⟩:=(fx).fi qf2
def z61:EI wG ⟨.yld 0,[wH,.agg [.h wL,.h wB,.h (.list wT),wH]],[(0,.loop .ready none 56 36 [(2,.ptr 1 0),(3,.ptr 2 0)] [11,12] 2 3),(1,.dat (.prod wI wI) 28),(2,.cells [.h .bool] 4),(3,.dfr)],_,.two (RS.mk (.c (.bool false)) [(0,.loop .done (some .ret) 56 36 [(2,.ptr 1 0),(3,.ptr 2 0)] [11,12] 2 3),(1,.dat (.prod wI wI) 28),(2,.cells [.h .bool] 4),(3,.dfr)]) (RS.mk (.c (.bool true)) [(0,.loop .ready none 56 36 [(2,.ptr 1 0),(3,.ptr 2 0)] [11,12] 2 3),(1,.dat (.prod wI wI) 28),(2,.cells [.h .bool] 4),(3,.dfr)])⟩:=(fy 56 [jq.p] [] false [([0,1,0,1,1],2)] (qw rfl pp)).fo q2u [] 0 [0,1,0,1,1]
def qie:IF:=⟨.fn 89,[.h wT,wH,.ptr 0 0,.ptr 1 0,.ptr 2 0],[(0,.cells [.yld 3] 132),(1,.cells [wH] 3),(2,.cells [.fn 89 [.ptr 0 0,.ptr 1 0,.ptr 2 0]] 133),(3,.loop .ready none 56 36 [(2,.ptr 4 0),(3,.ptr 5 0)] [11,12] 2 6),(4,.dat (.prod wI wI) 28),(5,.cells [.h .bool] 4),(6,.dfr)],_,.two (RS.mk (.c (.bool false)) [(0,.cells [.yld 3] 132),(1,.cells [wH] 3),(2,.cells [.fn 89 [.ptr 0 0,.ptr 1 0,.ptr 2 0]] 133),(3,.loop .done (some .ret) 56 36 [(2,.ptr 4 0),(3,.ptr 5 0)] [11,12] 2 6),(4,.dat (.prod wI wI) 28),(5,.cells [.h .bool] 4),(6,.dfr)]) (RS.mk (.c (.bool true)) [(0,.cells [.yld 3] 132),(1,.cells [wH] 3),(2,.cells [.fn 89 [.ptr 0 0,.ptr 1 0,.ptr 2 0]] 133),(3,.loop .ready none 56 36 [(2,.ptr 4 0),(3,.ptr 5 0)] [11,12] 2 6),(4,.dat (.prod wI wI) 28),(5,.cells [.h .bool] 4),(6,.dfr)])⟩
def znw(s124:EI wG qie)(fu:Nat):Fx wG qie:=fx [z61.p,s124.p] [lb 488 [(1,wH),(4,.ptr 2 0),(20,.h (.list wT)),(21,wH),(22,wH)] [(0,.cells [.yld 3] 132),(1,.cells [wH] 3),(2,.cells [.fn 89 [.ptr 0 0,.ptr 1 0,.ptr 2 0]] 133),(3,.loop .ready none 56 36 [(2,.ptr 4 0),(3,.ptr 5 0)] [11,12] 2 6),(4,.dat (.prod wI wI) 28),(5,.cells [.h .bool] 4),(6,.dfr)]]
def z63(s124:EI wG qie)(fu:Nat):Nat->(znw s124 fu).L 0:=Fx.lq (qmr s124.f fu) (q2x s124.f fu) (fun r0=>[r0.s])
def z62(s124:EI wG qie)(fu:Nat):EI wG qie:=(znw s124 fu).fi (qsy s124.f fu) [(z63 s124 fu fu).s]
def z64:EI wG qie := .rc (qf3 fu) (fun r=>qsy r fu) (fun _ _=>rfl) (fun _=>rfl) (fun s124=>z62 s124 fu) (fun _=>rfl) fu
def z65:EI wG ⟨.fn 88,[.yld 0,.ptr 1 0],[(0,.loop .ready none 56 36 [(2,.ptr 2 0),(3,.ptr 3 0)] [11,12] 2 4),(1,.dat wT 33),(2,.dat (.prod wI wI) 28),(3,.cells [.h .bool] 4),(4,.dfr)],_,.two (RS.mk (.tup []) [(0,.loop .done (some .ret) 56 36 [(2,.ptr 2 0),(3,.ptr 3 0)] [11,12] 2 4),(1,.dat wT 33),(2,.dat (.prod wI wI) 28),(3,.cells [.h .bool] 4),(4,.dfr)]) (RS.mk (.tup []) [(0,.loop .ready none 56 36 [(2,.ptr 2 0),(3,.ptr 3 0)] [11,12] 2 4),(1,.dat wT 33),(2,.dat (.prod wI wI) 28),(3,.cells [.h .bool] 4),(4,.dfr)])⟩:=(fx [(z64 fu).p]).fi (qsx fu)
def zaw:Fx wG ⟨.fn 126,[.h wT],[],_,RS.mk (wH) []⟩:=fx [(zck fu).p,(rh fu).p,(zqd fu).p,(znm fu).p,li.p] [lb 30 [(1,.ptr 32 0),(3,.ptr 33 0),(4,wH)] [(32,.dat wT 33),(33,.cells [wS,wS,.own 34] 81),(34,.row wP 84)],lb 29 [(1,.ptr 32 0),(3,.ptr 33 0),(4,wH),(31,.h .bool)] [(32,.dat wT 33),(33,.cells [wS,wS,.own 34] 81),(34,.row wP 84)]]
def z7d:(zaw fu).L 0:=Fx.jm (q26 fu)
def z7c:(zaw fu).L 1:=Fx.jm (rz fu) [(z7d fu).s]
def z7e:=(zaw fu).fi (qs5 fu) [(z7c fu).s]
def z7f:EI wG ⟨.fn 87,[.h (.prod wT wI)],[],_,RS.mk (wH) []⟩:=(fx [(zb2 fu).p,li.p,(z7e fu).p,(zpr fu).p,(zco fu).p]).fi (qsv fu)
def z7g:EI wG ⟨.yld 0,[wH,.agg [.h wL,.h wB,.h (.list wT),wH]],[(0,.loop .ready none 56 36 [(2,.ptr 1 0)] [26,27] 3 2),(1,.dat (.prod wI wI) 28),(2,.dfr)],_,.two (RS.mk (.c (.bool false)) [(0,.loop .done (some .ret) 56 36 [(2,.ptr 1 0)] [26,27] 3 2),(1,.dat (.prod wI wI) 28),(2,.dfr)]) (RS.mk (.c (.bool true)) [(0,.loop .ready none 56 36 [(2,.ptr 1 0)] [26,27] 3 2),(1,.dat (.prod wI wI) 28),(2,.dfr)])⟩:=(fy 56 [(z7f fu).p,jq.p] [] false [([0,1,0,1,1,1,1],3)] (qw rfl pp)).fo (q2v fu) [] 0 [0,1,0,1,1,1,1]
def qif:IF:=⟨.fn 89,[.h wT,wH,.ptr 0 0,.ptr 1 0,.ptr 2 0],[(0,.cells [.yld 3] 132),(1,.cells [wH] 3),(2,.cells [.fn 89 [.ptr 0 0,.ptr 1 0,.ptr 2 0]] 133),(3,.loop .ready none 56 36 [(2,.ptr 4 0)] [26,27] 3 5),(4,.dat (.prod wI wI) 28),(5,.dfr)],_,.two (RS.mk (.c (.bool false)) [(0,.cells [.yld 3] 132),(1,.cells [wH] 3),(2,.cells [.fn 89 [.ptr 0 0,.ptr 1 0,.ptr 2 0]] 133),(3,.loop .done (some .ret) 56 36 [(2,.ptr 4 0)] [26,27] 3 5),(4,.dat (.prod wI wI) 28),(5,.dfr)]) (RS.mk (.c (.bool true)) [(0,.cells [.yld 3] 132),(1,.cells [wH] 3),(2,.cells [.fn 89 [.ptr 0 0,.ptr 1 0,.ptr 2 0]] 133),(3,.loop .ready none 56 36 [(2,.ptr 4 0)] [26,27] 3 5),(4,.dat (.prod wI wI) 28),(5,.dfr)])⟩
def znx(s127:EI wG qif)(fu:Nat):Fx wG qif:=fx [(z7g fu).p,s127.p] [lb 488 [(1,wH),(4,.ptr 2 0),(20,.h (.list wT)),(21,wH),(22,wH)] [(0,.cells [.yld 3] 132),(1,.cells [wH] 3),(2,.cells [.fn 89 [.ptr 0 0,.ptr 1 0,.ptr 2 0]] 133),(3,.loop .ready none 56 36 [(2,.ptr 4 0)] [26,27] 3 5),(4,.dat (.prod wI wI) 28),(5,.dfr)]]
def z7i(s127:EI wG qif)(fu:Nat):Nat->(znx s127 fu).L 0:=Fx.lq (qms s127.f fu) (q2y s127.f fu) (fun r0=>[r0.s])
def z7h(s127:EI wG qif)(fu:Nat):EI wG qif:=(znx s127 fu).fi (qsz s127.f fu) [(z7i s127 fu fu).s]
def z7j:EI wG qif := .rc (qf4 fu) (fun r=>qsz r fu) (fun _ _=>rfl) (fun _=>rfl) (fun s127=>z7h s127 fu) (fun _=>rfl) fu
def z7k:EI wG ⟨.fn 88,[.yld 0,.ptr 1 0],[(0,.loop .ready none 56 36 [(2,.ptr 2 0)] [26,27] 3 3),(1,.dat wT 33),(2,.dat (.prod wI wI) 28),(3,.dfr)],_,.two (RS.mk (.tup []) [(0,.loop .done (some .ret) 56 36 [(2,.ptr 2 0)] [26,27] 3 3),(1,.dat wT 33),(2,.dat (.prod wI wI) 28),(3,.dfr)]) (RS.mk (.tup []) [(0,.loop .ready none 56 36 [(2,.ptr 2 0)] [26,27] 3 3),(1,.dat wT 33),(2,.dat (.prod wI wI) 28),(3,.dfr)])⟩:=(fx [(z7j fu).p]).fi (qs1 fu)
def z7l:EI wG ⟨.fn 56,[.h wT],[],_,RS.mk (.h (.prod wI wI)) []⟩:=(fx [znv.p,(z65 fu).p,jq.p,(z7k fu).p,jr.p] [] false [([0,1,0,1,1],2),([0,1,0,1,1,1,1],3)] (qw rfl (qw rfl pp))).fi (qst fu)
def z7m:EI wG ⟨.fn 28,[.h (.prod wL wB)],[],_,RS.mk (.tup [.h wT,.h (.prod wI wI)]) []⟩:=(fx [(vfr fu).p,li.p,(z60 fu).p,(z7l fu).p,jq.p,jr.p]).fi (qsr fu)
def z7n:EI wG ⟨.fn 29,[.h wT],[],_,RS.mk (.fn 57 [.ptr 0 0]) [(0,.dat wT 33)]⟩:=(fx).fi q2r
def z7o:EI wG ⟨.fn 170,[wS,.h .byte],[],_,RS.mk (.agg [wS,.fn 204 [.ptr 0 0],.fn 206 []]) [(0,.cells [.h .byte] 5)]⟩:=(fx).fi qtt
def z7p:EI wG ⟨.fn 136,[wS],[],_,.two (RS.mk (.tup [.agg [wS,.fn 204 [.ptr 0 0],.fn 206 []],.h .bool]) [(0,.cells [.h .byte] 5)]) (.two (RS.mk (.tup [.agg [wS,.fn 171 [],.fn 172 []],.h .bool]) []) (.two (RS.mk (.tup [.agg [wS,.fn 173 [],.fn 174 []],.h .bool]) []) (RS.mk (.tup [.agg [wS,.c .nilFunc,.c .nilFunc],.h .bool]) [])))⟩:=(fx [z7o.p,(rh fu).p]).fi (qts fu)
def z7r:EI wG ⟨.fn 99,[.h wB,wS],[],_,.two (RS.mk (.tup [.agg [wS,.fn 204 [.ptr 0 0],.fn 206 []],.h (.prod wI wI)]) [(0,.cells [.h .byte] 5)]) (.two (RS.mk (.tup [.agg [wS,.fn 171 [],.fn 172 []],.h (.prod wI wI)]) []) (.two (RS.mk (.tup [.agg [wS,.fn 173 [],.fn 174 []],.h (.prod wI wI)]) []) (RS.mk (.tup [.agg [wS,.c .nilFunc,.c .nilFunc],.h (.prod wI wI)]) [])))⟩:=(fx [(z7p fu).p,jq.p,jr.p]).fi (q39 fu)
def z7s:EI wG ⟨.fn 206,[.h wB],[],_,RS.mk (.tup [.own 0,.h (.prod wI wI)]) [(0,.row .byte 5)]⟩:=(fx [jr.p]).fi qtr
def zny(fu:Nat):Fx wG ⟨.fn 172,[.h wB],[],_,RS.mk (.tup [.own 0,.h (.prod wI wI)]) [(0,.row .byte 5)]⟩:=fx [jq.p,jr.p,zan.p] [lb 1000 [(3,.ptr 32 0),(4,.own 33),(5,wH),(6,wH),(14,.h wB),(15,wH),(16,wH)] [(32,.dat (.prod wI wI) 28),(33,.row .byte 5)]]
def z7t:Nat->(zny fu).L 0:=Fx.lq (qb1 fu) (qrv fu) (fun r0=>[r0.s])
def z7u:=(zny fu).fi (qru fu) [(z7t fu fu).s]
def znz(fu:Nat):Fx wG ⟨.fn 233,[.h wB,.h .byte],[],_,RS.mk (.h wB) []⟩:=fx [] [lb 96 [(0,.h wB),(1,.h .byte)]]
def z7v:Nat->(znz fu).L 0:=Fx.lq (q1q fu) (zc9 fu) (fun r0=>[r0.s])
def z7w:=(znz fu).fi (zc8 fu) [(z7v fu fu).s]
def zn0(fu:Nat):Fx wG ⟨.fn 234,[wS],[],_,RS.mk (.tup [.arr .bool,.h .bool]) []⟩:=fx [] [lb 208 [(0,wS),(2,.el 32 1),(4,wH)] [(32,.row .bool 280)]]
def z7x:Nat->(zn0 fu).L 0:=Fx.lq (q1j fu) (zc6 fu) (fun r0=>[r0.s])
def z7y:=(zn0 fu).fi (q1i fu) [(z7x fu fu).s]
def z7z:EI wG ⟨.fn 258,[.el 0 1,.h .byte],[(0,.row .bool 280)],_,RS.mk (.h .bool) [(0,.row .bool 280)]⟩:=(fx).fi qr2
def zn1(fu:Nat):Fx wG ⟨.fn 235,[.h wB,.el 0 1],[(0,.row .bool 280)],_,RS.mk (.h wB) [(0,.row .bool 280)]⟩:=fx [z7z.p] [lb 96 [(0,.h wB),(1,.el 0 1)] [(0,.row .bool 280)]]
def z71:Nat->(zn1 fu).L 0:=Fx.lq (qln fu) (q1p fu) (fun r0=>[r0.s])
def z73:=(zn1 fu).fi (q1o fu) [(z71 fu fu).s]
def qp2:Fx wG ⟨.fn 210,[.h wB,wS],[],_,RS.mk (.h wB) []⟩:=fx [(z7w fu).p,(z7y fu).p,(z73 fu).p] [lb 60 [(0,.h wB),(1,wS)],lb 29 [(0,.h wB),(1,wS),(22,.h .bool)],lb 28 [(0,.h wB),(1,wS)],lb 13 [(0,.h wB),(1,wS),(13,.h .bool)]]
def z8a:(qp2 fu).L 0:=Fx.jm (q1h fu)
def z79:(qp2 fu).L 1:=Fx.jm (qr1 fu) [(z8a fu).s]
def z78:(qp2 fu).L 2:=Fx.jm (q1g fu) [(z79 fu).s]
def z74:(qp2 fu).L 3:=Fx.jm (qr0 fu) [(z78 fu).s]
def z8b:=(qp2 fu).fi (qrz fu) [(z74 fu).s]
def zn2(fu:Nat):Fx wG ⟨.fn 212,[.h wB],[],_,RS.mk (.own 0) [(0,.row .byte 5)]⟩:=fx [zp3.p] [lb 464 [(0,.h wB),(3,.own 32),(4,wH)] [(32,.row .byte 5)]]
def z8c:Nat->(zn2 fu).L 0:=Fx.lq (qci fu) (qs7 fu) (fun r0=>[r0.s])
def z8d:=(zn2 fu).fi (q28 fu) [(z8c fu fu).s]
def qa9:Fx wG ⟨.fn 174,[.h wB],[],_,RS.mk (.tup [.own 0,.h (.prod wI wI)]) [(0,.row .byte 5)]⟩:=fx [jq.p,zan.p,jr.p,znr.p,(z8b fu).p,znq.p,(z8d fu).p] [lb 123646 [(0,.h wB),(3,.ptr 32 0),(4,.own 33),(5,wH),(6,.h wB),(7,.h wB)] [(32,.dat (.prod wI wI) 28),(33,.row .byte 5)],lb 15454 [(0,.h wB),(3,.ptr 32 0),(4,.own 33),(5,wH),(6,.h wB)] [(32,.dat (.prod wI wI) 28),(33,.row .byte 5)],lb 3862 [(0,.h wB),(3,.ptr 32 0),(4,.own 33),(5,wH)] [(32,.dat (.prod wI wI) 28),(33,.row .byte 5)],lb 480 [(0,.h wB),(3,.ptr 32 0),(4,.own 33)] [(32,.dat (.prod wI wI) 28),(33,.row .byte 5)]]
def z8h(r0:(qa9 fu).L 3):(qa9 fu).L 0:=Fx.jm (qmx fu r0.f) [r0.s]
def z8g(r0:(qa9 fu).L 3):(qa9 fu).L 1:=Fx.jm (qmw fu r0.f) [(z8h fu r0).s]
def z8f(r0:(qa9 fu).L 3):(qa9 fu).L 2:=Fx.jm (qch fu r0.f) [(z8g fu r0).s]
def z8e:Nat->(qa9 fu).L 3:=Fx.lq (qmv fu) (q27 fu) (fun r0=>[(z8f fu r0).s])
def z8i:=(qa9 fu).fi (qs6 fu) [(z8e fu fu).s]
def z8k:EI wG ⟨.fn 63,[.h wB,wS],[],_,RS.mk (.tup [.own 0,.h (.prod wI wI)]) [(0,.row .byte 5)]⟩:=(fx [(z7r fu).p,li.p,z7s.p,(z7u fu).p,(z8i fu).p]).fi (qnh fu)
def zn3:Fx wG ⟨.fn 33,[.h wT],[],_,RS.mk (.own 0) [(0,.row .byte 5)]⟩:=fx [(rh fu).p,(z8k fu).p] [lb 104 [(1,.ptr 32 0),(10,.h wL),(11,wH),(12,wH)] [(32,.dat wT 33)]]
def z8l:Nat->(zn3 fu).L 0:=Fx.lq (qni fu) (q4a fu) (fun r0=>[r0.s])
def z8m:=(zn3 fu).fi (qtv fu) [(z8l fu fu).s]
def qd1:Fx wG ⟨.yld 0,[wH,.agg [.h wL,.h wB,.h (.list wT)]],[(0,.loop .ready none 10 79 [(6,.ptr 1 0)] [24,25] 4 2),(1,.cells [.own 3] 23),(2,.dfr),(3,.row .byte 5)],_,RS.mk (.c (.bool true)) [(0,.loop .ready none 10 79 [(6,.ptr 1 0)] [24,25] 4 2),(1,.cells [.own 4] 23),(2,.dfr),(3,.dead),(4,.row .byte 5)]⟩:=fy 10 [(rh fu).p,(z8m fu).p,(zpq fu).p,(zpp fu).p,⟨q7b.e om,zie q8v q8w⟩] [lb 256679 [(6,.ptr 1 0),(8,.ptr 32 0),(9,.own 33),(10,wN),(27,.h wL),(28,wH),(29,wH)] [(0,.loop .busy none 10 79 [(6,.ptr 1 0)] [24,25] 4 2),(1,.cells [.own 34] 23),(2,.dfr),(3,.dead),(32,.dat wT 33),(33,.row .byte 5),(34,.row .byte 5)],lb 2053427 [(6,.ptr 1 0),(8,.ptr 32 0),(9,.own 35),(10,wN),(12,.ptr 33 0),(27,.h wL),(28,wH),(29,wH),(42,.h .bool)] [(0,.loop .busy none 10 79 [(6,.ptr 1 0)] [24,25] 4 2),(1,.cells [.own 34] 23),(2,.dfr),(3,.dead),(32,.dat wT 33),(33,.dat wP 48),(34,.row .byte 5),(35,.row .byte 5)],lb 16046 [(6,.ptr 1 0),(8,.ptr 32 0),(9,.own 35),(10,.own 33)] [(0,.loop .busy none 10 79 [(6,.ptr 1 0)] [24,25] 4 2),(1,.cells [.own 34] 23),(2,.dfr),(3,.dead),(32,.dat wT 33),(33,.row .byte 5),(34,.row .byte 5),(35,.row .byte 5)],lb 64168 [(6,.ptr 1 0),(8,.ptr 32 0),(9,.own 34),(10,wN),(27,.h wL),(28,wH),(29,wH)] [(0,.loop .busy none 10 79 [(6,.ptr 1 0)] [24,25] 4 2),(1,.cells [.own 33] 23),(2,.dfr),(3,.dead),(32,.dat wT 33),(33,.row .byte 5),(34,.row .byte 5)]] false [([0,1,0,1,1,1,1],4)] (qw rfl pp)
def z8q(r0:(qd1 fu).L 3):(qd1 fu).L 0:=Fx.jm (qlp fu r0.f) [r0.s]
def z8o(r0:(qd1 fu).L 3):(qd1 fu).L 1:=Fx.jm (qb4 fu r0.f) [(z8q fu r0).s]
def z8p:(qd1 fu).L 2:=Fx.jm (qlo fu)
def z8n:Nat->(qd1 fu).L 3:=Fx.lq (zl fu) (q1v fu) (fun r0=>[(z8o fu r0).s,(z8p fu).s])
def z8r:=(qd1 fu).fo (qr3 fu) [(z8n fu fu).s] 0 [0,1,0,1,1,1,1]
def z8s:EI wG ⟨.yld 0,[wH,.agg [.h wL,.h wB,.h (.list wT),wH]],[(0,.loop .ready none 57 15 [(2,.ptr 1 0)] [7,8] 5 2),(1,.cells [.yld 3] 101),(2,.dfr),(3,.loop .ready none 10 79 [(6,.ptr 4 0)] [24,25] 4 5),(4,.cells [.own 6] 23),(5,.dfr),(6,.row .byte 5)],_,RS.mk (.c (.bool true)) [(0,.loop .ready none 57 15 [(2,.ptr 1 0)] [7,8] 5 2),(1,.cells [.yld 3] 101),(2,.dfr),(3,.loop .ready none 10 79 [(6,.ptr 4 0)] [24,25] 4 5),(4,.cells [.own 7] 23),(5,.dfr),(6,.dead),(7,.row .byte 5)]⟩:=(fy 57 [(z8r fu).p] [] false [([0,1,1],5)] (qw rfl pp)).fo (q2t fu) [] 0 [0,1,1]
def qii:IF:=⟨.fn 89,[.h wT,wH,.ptr 0 0,.ptr 1 0,.ptr 2 0],[(0,.cells [.yld 3] 132),(1,.cells [wH] 3),(2,.cells [.fn 89 [.ptr 0 0,.ptr 1 0,.ptr 2 0]] 133),(3,.loop .ready none 57 15 [(2,.ptr 4 0)] [7,8] 5 5),(4,.cells [.yld 6] 101),(5,.dfr),(6,.loop .ready none 10 79 [(6,.ptr 7 0)] [24,25] 4 8),(7,.cells [.own 9] 23),(8,.dfr),(9,.row .byte 5)],_,RS.mk (.c (.bool true)) [(0,.cells [.yld 3] 132),(1,.cells [wH] 3),(2,.cells [.fn 89 [.ptr 0 0,.ptr 1 0,.ptr 2 0]] 133),(3,.loop .ready none 57 15 [(2,.ptr 4 0)] [7,8] 5 5),(4,.cells [.yld 6] 101),(5,.dfr),(6,.loop .ready none 10 79 [(6,.ptr 7 0)] [24,25] 4 8),(7,.cells [.own 10] 23),(8,.dfr),(9,.dead),(10,.row .byte 5)]⟩
def zn4(s134:EI wG qii)(fu:Nat):Fx wG qii:=fx [(z8s fu).p,s134.p] [lb 488 [(1,wH),(4,.ptr 2 0),(20,.h (.list wT)),(21,wH),(22,wH)] [(0,.cells [.yld 3] 132),(1,.cells [wH] 3),(2,.cells [.fn 89 [.ptr 0 0,.ptr 1 0,.ptr 2 0]] 133),(3,.loop .ready none 57 15 [(2,.ptr 4 0)] [7,8] 5 5),(4,.cells [.yld 6] 101),(5,.dfr),(6,.loop .ready none 10 79 [(6,.ptr 7 0)] [24,25] 4 8),(7,.cells [.own 32] 23),(8,.dfr),(9,.dead),(32,.row .byte 5)]]
def z8u(s134:EI wG qii)(fu:Nat):Nat->(zn4 s134 fu).L 0:=Fx.lq (qmt s134.f fu) (q2z s134.f fu) (fun r0=>[r0.s])
def z8t(s134:EI wG qii)(fu:Nat):EI wG qii:=(zn4 s134 fu).fi (qs0 s134.f fu) [(z8u s134 fu fu).s]
def z8v:EI wG qii := .rc (qf5 fu) (fun r=>qs0 r fu) (fun _ _=>rfl) (fun _=>rfl) (fun s134=>z8t s134 fu) (fun _=>rfl) fu
def z8w:EI wG ⟨.fn 88,[.yld 0,.ptr 1 0],[(0,.loop .ready none 57 15 [(2,.ptr 2 0)] [7,8] 5 3),(1,.dat wT 33),(2,.cells [.yld 4] 101),(3,.dfr),(4,.loop .ready none 10 79 [(6,.ptr 5 0)] [24,25] 4 6),(5,.cells [.own 7] 23),(6,.dfr),(7,.row .byte 5)],_,RS.mk (.tup []) [(0,.loop .ready none 57 15 [(2,.ptr 2 0)] [7,8] 5 3),(1,.dat wT 33),(2,.cells [.yld 4] 101),(3,.dfr),(4,.loop .ready none 10 79 [(6,.ptr 5 0)] [24,25] 4 6),(5,.cells [.own 8] 23),(6,.dfr),(7,.dead),(8,.row .byte 5)]⟩:=(fx [(z8v fu).p]).fi (q20 fu)
def z8x:EI wG ⟨.fn 57,[.yld 0,.ptr 1 0],[(0,.loop .ready none 10 79 [(6,.ptr 2 0)] [24,25] 4 3),(1,.dat wT 33),(2,.cells [.own 4] 23),(3,.dfr),(4,.row .byte 5)],_,RS.mk (.tup []) [(0,.loop .ready none 10 79 [(6,.ptr 2 0)] [24,25] 4 3),(1,.dat wT 33),(2,.cells [.own 5] 23),(3,.dfr),(4,.dead),(5,.row .byte 5)]⟩:=(fx [znv.p,(z8w fu).p] [] false [([0,1,1],5)] (qw rfl pp)).fi (q2s fu)
def qx2:EI wG ⟨.fn 10,[.h (.prod wL wB)],[],_,RS.mk (.tup [.own 0,.h (.prod wI wI)]) [(0,.row .byte 5)]⟩:=(fx [(z7m fu).p,li.p,z7n.p,(z8x fu).p,jr.p] [] false [([0,1,0,1,1,1,1],4)] (qw rfl pp)).fi (zk fu)
def zn5:EI wG ⟨.fn 5,[],[],_,RS.mk (.h .bool) []⟩:=(fx [(vfa fu).p,(vfj fu).p,(qx2 fu).p]).fi (qrt fu)
def z8y:EI wG ⟨.fn 6,[.h (.prod wL wB),.h (.prod wL wB)],[],_,RS.mk (.tup [.h .bool,.h (.prod wI wI)]) []⟩:=(fx [(qx2 fu).p,li.p,jq.p,znp.p,jr.p]).fi (qr4 fu)
def vz:EI wG ⟨.fn 8,[wH,wH],[],_,RS.mk (.h (.prod wI wI)) []⟩:=(fx).fi fa
def yp:EI wG ⟨.fn 69,[wH,wH,wH],[],_,RS.mk (.h .bool) []⟩:=(fx).fi gg
def zn6(fu:Nat):Fx wG ⟨.fn 76,[wS],[],_,RS.mk (.h .bool) []⟩:=fx [yp.p] [lb 208 [(0,wS),(3,wH)]]
def z8z:Nat->(zn6 fu).L 0:=Fx.lq (qje fu) (qys fu) (fun r0=>[r0.s])
def zn7:=(zn6 fu).fi (qjd fu) [(z8z fu fu).s]
def zn8(fu:Nat):Fx wG ⟨.fn 144,[.h .byte,wS],[],_,RS.mk (.h .bool) []⟩:=fx [] [lb 208 [(0,.h .byte),(1,wS),(5,wH)]]
def z81:Nat->(zn8 fu).L 0:=Fx.lq (qes fu) (qq0 fu) (fun r0=>[r0.s])
def za1:=(zn8 fu).fi (y8 fu) [(z81 fu fu).s]
def qd2:EI wG ⟨.fn 74,[.h .byte],[],_,RS.mk (.h .bool) []⟩:=(fx).fi iw
def qd3(fu:Nat):Fx wG ⟨.fn 77,[wS],[],_,RS.mk (wS) []⟩:=fx [qd2.p] [lb 98 [(0,wS)],lb 224 [(0,wS)],lb 97 [(0,wS),(10,.h .bool)],lb 96 [(0,wS)]]
def z84(r0:(qd3 fu).L 3):(qd3 fu).L 0:=Fx.jm (qzy fu r0.f) [r0.s]
def z86:Nat->(qd3 fu).L 1:=Fx.lq (qke fu) (qzx fu) (fun r3=>[r3.s])
def z83(r0:(qd3 fu).L 3):(qd3 fu).L 2:=Fx.jm (qkd fu r0.f) [(z84 fu r0).s,(z86 fu fu).s]
def z82:Nat->(qd3 fu).L 3:=Fx.lq (qkc fu) (qzw fu) (fun r0=>[(z83 fu r0).s])
def zn9:=(qd3 fu).fi (qq9 fu) [(z82 fu fu).s]
def zoa:Fx wG ⟨.fn 104,[wS,wS],[],_,RS.mk (wH) []⟩:=fx [(zn7 fu).p,(za1 fu).p,(zn9 fu).p] [lb 976 [(1,wS),(5,wH)]]
def z87:Nat->(zoa fu).L 0:=Fx.lq (qec fu) (qyr fu) (fun r0=>[r0.s])
def z88:=(zoa fu).fi (qjc fu) [(z87 fu fu).s]
def mp(fu:Nat):Fx wG ⟨.fn 67,[wS,wS],[],_,RS.mk (.own 0) [(0,.row .str 9)]⟩:=fx [qd2.p] [lb 979 [(5,wS),(6,.own 32),(7,wH)] [(32,.row wI 3)],lb 3913 [(5,wS),(6,.own 32),(7,wH),(37,.h .bool)] [(32,.row wI 3)],lb 520531 [(5,wS),(6,.own 32),(8,.own 33),(9,wH),(10,wH),(11,wH)] [(32,.row wI 3),(33,.row .str 9)],lb 4164243 [(5,wS),(6,.own 32),(8,.own 33),(9,wH),(10,wH),(11,wH),(12,wH),(69,.h .bool)] [(32,.row wI 3),(33,.row .str 9)],lb 520528 [(5,wS),(6,.own 32),(8,.own 33),(9,wH),(10,wH),(11,wH)] [(32,.row wI 3),(33,.row .str 9)],lb 4064 [(5,wS),(6,.own 32),(8,.own 33),(9,wH)] [(32,.row wI 3),(33,.row .str 9)],lb 976 [(5,wS),(6,.own 32),(7,wH)] [(32,.row wI 3)]]
def z9c(r0:(mp fu).L 6):(mp fu).L 0:=Fx.jm (qqs fu r0.f) [r0.s]
def z9a(r0:(mp fu).L 6):(mp fu).L 1:=Fx.jm (qqr fu r0.f) [(z9c fu r0).s]
def z9f(r2:(mp fu).L 5)(r4:(mp fu).L 4):(mp fu).L 2:=Fx.jm (qqt fu r2.f r4.f) [r4.s]
def z9e(r2:(mp fu).L 5)(r4:(mp fu).L 4):(mp fu).L 3:=Fx.jm (qjj fu r2.f r4.f) [(z9f fu r2 r4).s]
def z9d(r2:(mp fu).L 5):Nat->(mp fu).L 4:=Fx.lq (qbf fu r2.f) (qyv fu r2.f) (fun r4=>[(z9e fu r2 r4).s,r2.s])
def z9b:Nat->(mp fu).L 5:=Fx.lq (wi fu) (qqq fu) (fun r2=>[(z9d fu r2 fu).s])
def z89:Nat->(mp fu).L 6:=Fx.lq (qed fu) (qqp fu) (fun r0=>[(z9a fu r0).s,(z9b fu fu).s])
def zob:=(mp fu).fi (qji fu) [(z89 fu fu).s]
def zoc:Fx wG ⟨.fn 66,[wS,wS],[],_,RS.mk (.h (.prod wI wI)) []⟩:=fx [(z88 fu).p,vz.p,(zob fu).p] [lb 976 [(4,.ptr 32 0),(5,.own 33),(6,wH)] [(32,.dat (.prod wI wI) 28),(33,.row .str 9)]]
def z9g:Nat->(zoc fu).L 0:=Fx.lq (qjh fu) (qyu fu) (fun r0=>[r0.s])
def z9h:=(zoc fu).fi (qqo fu) [(z9g fu fu).s]
def zod:Fx wG ⟨.fn 37,[.h wL],[],_,RS.mk (.h (.prod wI wI)) []⟩:=fx [vz.p,(z9h fu).p] [lb 464 [(0,.h wL),(2,.ptr 32 0),(3,wH)] [(32,.dat (.prod wI wI) 28)]]
def z9i:Nat->(zod fu).L 0:=Fx.lq (qjg fu) (qyt fu) (fun r0=>[r0.s])
def zoe:=(zod fu).fi (qjf fu) [(z9i fu fu).s]
def qx5:Fx wG ⟨.fn 38,[.h wL],[],_,RS.mk (.own 0) [(0,.row .byte 5)]⟩:=fx [(zob fu).p] [lb 59696 [(0,.h wL),(3,wS),(4,wH),(5,.own 32),(6,wH)] [(32,.row .str 9)],lb 464 [(0,.h wL),(3,wS),(4,wH)]]
def z9l(r0:(qx5 fu).L 1):Nat->(qx5 fu).L 0:=Fx.lq (qee fu r0.f) (qyy fu r0.f) (fun r1=>[r1.s,r0.s])
def z9k:Nat->(qx5 fu).L 1:=Fx.lq (qbg fu) (qyx fu) (fun r0=>[(z9l fu r0 fu).s])
def z9m:=(qx5 fu).fi (qyw fu) [(z9k fu fu).s]
def za6:EI wG ⟨.fn 49,[.h wB,wH],[],_,RS.mk (.h .bool) []⟩:=(fx).fi ue
def qx6(fu:Nat):Fx wG ⟨.fn 39,[.h wB],[],_,RS.mk (.h (.prod wI wI)) []⟩:=fx [za6.p,vz.p] [lb 7461 [(0,.h wB),(2,.ptr 32 0),(3,wH),(4,wH),(29,.h .bool)] [(32,.dat (.prod wI wI) 28)],lb 464 [(0,.h wB),(2,.ptr 32 0),(3,wH),(4,wH)] [(32,.dat (.prod wI wI) 28)]]
def z9o(r0:(qx6 fu).L 1):(qx6 fu).L 0:=Fx.jm (qrg fu r0.f) [r0.s]
def z9n:Nat->(qx6 fu).L 1:=Fx.lq (qkt fu) (q0g fu) (fun r0=>[r0.s,(z9o fu r0).s])
def zof:=(qx6 fu).fi (qrf fu) [(z9n fu fu).s]
def z9p:EI wG ⟨.fn 19,[.h (.prod wL wB)],[],_,RS.mk (.h (.prod wI wI)) []⟩:=(fx [(zoe fu).p,vz.p,(z9m fu).p,(zof fu).p]).fi (qrn fu)
def zog(fu:Nat):Fx wG ⟨.fn 47,[wS],[],_,RS.mk (wS) []⟩:=fx [yp.p] [lb 464 [(3,.own 32),(4,wH)] [(32,.row .byte 5)]]
def z9q:Nat->(zog fu).L 0:=Fx.lq (wl fu) (qek fu) (fun r0=>[r0.s])
def qx8:=(zog fu).fi (rq fu) [(z9q fu fu).s]
def v7:EI wG ⟨.fn 23,[wS,wS],[],_,RS.mk (.h .bool) []⟩:=(fx [(qx8 fu).p]).fi (fg fu)
def zoh:Fx wG ⟨.fn 50,[.h wL,wS],[],_,RS.mk (.own 0) [(0,.row .str 9)]⟩:=fx [(v7 fu).p] [lb 464 [(0,.h wL),(1,wS),(5,.own 32),(6,wH)] [(32,.row .str 9)]]
def z9r:Nat->(zoh fu).L 0:=Fx.lq (qe0 fu) (qz3 fu) (fun r0=>[r0.s])
def za8:=(zoh fu).fi (qkh fu) [(z9r fu fu).s]
def zoi(fu:Nat):Fx wG ⟨.fn 105,[wS,wH],[],_,RS.mk (wH) []⟩:=fx [qd2.p] [lb 96 [(0,wS),(1,wH)]]
def z9s:Nat->(zoi fu).L 0:=Fx.lq (qkp fu) (qz9 fu) (fun r0=>[r0.s])
def z9t:=(zoi fu).fi (ui fu) [(z9s fu fu).s]
def zba:EI wG ⟨.fn 114,[.h .byte],[],_,RS.mk (.h .bool) []⟩:=(fx [yp.p,(za1 fu).p]).fi (qez fu)
def zoj:Fx wG ⟨.fn 106,[wS,wH,wS],[],_,RS.mk (wH) []⟩:=fx [(zba fu).p,(za1 fu).p] [lb 96 [(0,wS),(1,wH),(2,wS)]]
def z9u:Nat->(zoj fu).L 0:=Fx.lq (qko fu) (qz8 fu) (fun r0=>[r0.s])
def z9v:=(zoj fu).fi (qe2 fu) [(z9u fu fu).s]
def zok(fu:Nat):Fx wG ⟨.fn 75,[wS,wS,wH],[],_,RS.mk (wH) []⟩:=fx [] [lb 208 [(0,wS),(1,wS),(7,wH)]]
def z9z:Nat->(zok fu).L 0:=Fx.lq (qbe fu) (qqn fu) (fun r0=>[r0.s])
def zol:=(zok fu).fi (y6 fu) [(z9z fu fu).s]
def qil(fu:Nat):Fx wG ⟨.fn 145,[wS,wH,wH],[],_,RS.mk (wH) []⟩:=fx [yp.p] [lb 1865 [(0,wS),(1,wH),(2,wH),(7,wH),(8,wH)],lb 3729 [(0,wS),(1,wH),(2,wH),(7,wH),(8,wH),(24,.h .bool)],lb 464 [(0,wS),(1,wH),(2,wH),(7,wH),(8,wH)]]
def z92(r0:(qil fu).L 2):(qil fu).L 0:=Fx.jm (qz6 fu r0.f) [r0.s]
def z91(r0:(qil fu).L 2):(qil fu).L 1:=Fx.jm (qkl fu r0.f) [(z92 fu r0).s]
def z90:Nat->(qil fu).L 2:=Fx.lq (qkk fu) (qz5 fu) (fun r0=>[(z91 fu r0).s])
def z93:=(qil fu).fi (qkj fu) [(z90 fu fu).s]
def qp4:IF:=⟨.fn 53,[.h (.int .u64)],[],_,RS.mk (wS) []⟩
def z94(s181:EI wG qp4)(fu:Nat):Fx wG qp4:=fx [s181.p]
def z95(s181:EI wG qp4)(fu:Nat):EI wG qp4:=(z94 s181 fu).fi (qra s181.f fu)
def z96:EI wG qp4 := .rc (qki fu) (fun r=>qra r fu) (fun _ _=>rfl) (fun _=>rfl) (fun s181=>z95 s181 fu) (fun _=>rfl) fu
def zbd:EI wG ⟨.fn 27,[wH],[],_,RS.mk (wS) []⟩:=(fx [(z96 fu).p]).fi (rr fu)
def zbe:Fx wG ⟨.fn 107,[wS,wS],[],_,RS.mk (.tup [.h (.prod .str (.prod .str (.prod wI .bool))),.h .bool]) []⟩:=fx [(zol fu).p,(z93 fu).p,(zbd fu).p] [lb 254 [(4,.ptr 32 0),(7,wS),(8,.ptr 33 0)] [(32,.dat (.prod .str (.prod .str (.prod wI .bool))) 158),(33,.dat (.prod .str (.prod .str (.prod wI .bool))) 158)],lb 253 [(4,.ptr 32 0),(7,wS),(8,.ptr 33 0),(37,.h .bool)] [(32,.dat (.prod .str (.prod .str (.prod wI .bool))) 158),(33,.dat (.prod .str (.prod .str (.prod wI .bool))) 158)]]
def z98:(zbe fu).L 0:=Fx.jm (qe1 fu)
def z97:(zbe fu).L 1:=Fx.jm (qkm fu) [(z98 fu).s]
def z99:=(zbe fu).fi (qrb fu) [(z97 fu).s]
def qp5(fu:Nat):Fx wG ⟨.fn 146,[wS,wH],[],_,RS.mk (.tup [wH,wH]) []⟩:=fx [yp.p] [lb 32720 [(0,wS),(1,wH),(7,wH),(8,wH),(9,wH),(10,wH)],lb 2044 [(0,wS),(1,wH),(7,wH),(8,wH),(9,wH)],lb 1021 [(0,wS),(1,wH),(7,wH),(8,wH),(9,wH),(43,.h .bool)],lb 1020 [(0,wS),(1,wH),(7,wH),(8,wH),(9,wH)]]
def vad:Nat->(qp5 fu).L 0:=Fx.lq (wn fu) (qq8 fu) (fun r3=>[r3.s])
def vac:(qp5 fu).L 1:=Fx.jm (zc0 fu) [(vad fu fu).s]
def vab:(qp5 fu).L 2:=Fx.jm (qka fu) [(vac fu).s]
def vaa:(qp5 fu).L 3:=Fx.jm (wm fu) [(vab fu).s]
def zom:=(qp5 fu).fi (qj9 fu) [(vaa fu).s]
def zbg:Fx wG ⟨.fn 147,[wH],[],_,RS.mk (wS) []⟩:=fx [yp.p] [lb 28 [(0,wH)],lb 13 [(0,wH),(9,.h .bool)]]
def vaf:zbg.L 0:=Fx.jm qz1
def vae:zbg.L 1:=Fx.jm qz0 [(vaf).s]
def vag:=zbg.fi qzz [(vae).s]
def zoo:Fx wG ⟨.fn 109,[wS],[],_,RS.mk (wS) []⟩:=fx [(zom fu).p,vag.p] [lb 976 [(0,wS),(3,wS),(4,.h .bool),(5,wH)]]
def vah:Nat->(zoo fu).L 0:=Fx.lq (qkn fu) (qz7 fu) (fun r0=>[r0.s])
def vai:=(zoo fu).fi (qrc fu) [(vah fu fu).s]
def zop:Fx wG ⟨.fn 117,[.h .byte],[],_,RS.mk (wH) []⟩:=fx [(qx8 fu).p] [lb 208 [(0,.h .byte),(3,wH)]]
def vaj:Nat->(zop fu).L 0:=Fx.lq (wj fu) (qef fu) (fun r0=>[r0.s])
def zoq:=(zop fu).fi (oh fu) [(vaj fu fu).s]
def qx9:Fx wG ⟨.fn 108,[wS],[],_,RS.mk (wS) []⟩:=fx [(zoq fu).p] [lb 1865 [(0,wS),(3,wS),(4,wH),(37,.h .bool)],lb 464 [(0,wS),(3,wS),(4,wH)]]
def vam(r0:(qx9 fu).L 1):(qx9 fu).L 0:=Fx.jm (zb fu r0.f) [r0.s]
def vak:Nat->(qx9 fu).L 1:=Fx.lq (qe4 fu) (q0b fu) (fun r0=>[(vam fu r0).s])
def van:=(qx9 fu).fi (qre fu) [(vak fu fu).s]
def bn:Fx wG ⟨.fn 71,[wS],[],_,RS.mk (.tup [.h (.prod .str (.prod .str wL)),.h .bool]) []⟩:=fx [(z9t fu).p,(z9v fu).p,(v7 fu).p,(z99 fu).p,(vai fu).p,(qx8 fu).p,(van fu).p] [lb 137423747722 [(0,wS),(2,.ptr 32 0),(4,wH),(6,.ptr 33 0),(7,.own 34),(8,wS),(9,wS)] [(32,.cells [wS,wS,wN] 81),(33,.cells [wS,wS,wN] 81),(34,.row (.prod .str (.prod .str (.prod wI .bool))) 158)],lb 137423747721 [(0,wS),(2,.ptr 32 0),(4,wH),(6,.ptr 33 0),(7,.own 34),(8,wS),(9,wS),(140,.h .bool)] [(32,.cells [wS,wS,wN] 81),(33,.cells [wS,wS,wN] 81),(34,.row (.prod .str (.prod .str (.prod wI .bool))) 158)],lb 137423747720 [(0,wS),(2,.ptr 32 0),(4,wH),(6,.ptr 33 0),(7,.own 34),(8,wS),(9,wS)] [(32,.cells [wS,wS,wN] 81),(33,.cells [wS,wS,wN] 81),(34,.row (.prod .str (.prod .str (.prod wI .bool))) 158)],lb 268405758 [(0,wS),(2,.ptr 32 0),(4,wH),(6,.ptr 33 0),(7,.own 34),(8,wS),(9,wS)] [(32,.cells [wS,wS,wN] 81),(33,.cells [wS,wS,wN] 81),(34,.row (.prod .str (.prod .str (.prod wI .bool))) 158)],lb 34355936929 [(0,wS),(2,.ptr 32 0),(4,wH),(6,.ptr 33 0),(7,.own 34),(8,wS),(9,wS),(129,.h .bool)] [(32,.cells [wS,wS,wN] 81),(33,.cells [wS,wS,wN] 81),(34,.row (.prod .str (.prod .str (.prod wI .bool))) 158)],lb 34355936928 [(0,wS),(2,.ptr 32 0),(4,wH),(6,.ptr 33 0),(7,.own 34),(8,wS),(9,wS)] [(32,.cells [wS,wS,wN] 81),(33,.cells [wS,wS,wN] 81),(34,.row (.prod .str (.prod .str (.prod wI .bool))) 158)],lb 268405757 [(0,wS),(2,.ptr 32 0),(4,wH),(6,.ptr 33 0),(7,.own 34),(8,wS),(9,wS),(117,.h .bool)] [(32,.cells [wS,wS,wN] 81),(33,.cells [wS,wS,wN] 81),(34,.row (.prod .str (.prod .str (.prod wI .bool))) 158)],lb 33550718 [(0,wS),(2,.ptr 32 0),(4,wH),(6,.ptr 33 0),(7,.own 34),(8,wS)] [(32,.cells [wS,wS,wN] 81),(33,.cells [wS,wS,wN] 81),(34,.row (.prod .str (.prod .str (.prod wI .bool))) 158)],lb 33550717 [(0,wS),(2,.ptr 32 0),(4,wH),(6,.ptr 33 0),(7,.own 34),(8,wS),(102,.h .bool)] [(32,.cells [wS,wS,wN] 81),(33,.cells [wS,wS,wN] 81),(34,.row (.prod .str (.prod .str (.prod wI .bool))) 158)],lb 268423763 [(2,.ptr 32 0),(6,.ptr 33 0),(7,.own 34),(12,wH),(13,.h .bool),(14,wH)] [(32,.cells [wS,wS,wN] 81),(33,.cells [wS,wS,.own 35] 81),(34,.row (.prod .str (.prod .str (.prod wI .bool))) 158),(35,.row wP 84)],lb 1073695187 [(2,.ptr 32 0),(6,.ptr 33 0),(7,.own 34),(12,wH),(13,.h .bool),(15,wH),(16,wH)] [(32,.cells [wS,wS,wN] 81),(33,.cells [wS,wS,.own 35] 81),(34,.row (.prod .str (.prod .str (.prod wI .bool))) 158),(35,.row wP 84)],lb 4397855658579 [(2,.ptr 32 0),(6,.ptr 33 0),(7,.own 34),(12,wH),(15,wH),(17,wS),(18,wH),(19,wH),(20,wH)] [(32,.cells [wS,wS,wN] 81),(33,.cells [wS,wS,.own 35] 81),(34,.row (.prod .str (.prod .str (.prod wI .bool))) 158),(35,.row wP 84)],lb 17591422634313 [(2,.ptr 32 0),(6,.ptr 33 0),(7,.own 34),(12,wH),(15,wH),(17,wS),(18,wH),(19,wH),(20,wH),(283,.h .bool)] [(32,.cells [wS,wS,wN] 81),(33,.cells [wS,wS,.own 35] 81),(34,.row (.prod .str (.prod .str (.prod wI .bool))) 158),(35,.row wP 84)],lb 17179123667 [(2,.ptr 32 0),(6,.ptr 33 0),(7,.own 34),(12,wH),(15,wH),(17,wS),(18,wH)] [(32,.cells [wS,wS,wN] 81),(33,.cells [wS,wS,.own 35] 81),(34,.row (.prod .str (.prod .str (.prod wI .bool))) 158),(35,.row wP 84)],lb 1099463914655 [(2,.ptr 32 0),(6,.ptr 33 0),(7,.own 34),(12,wH),(15,wH),(17,wS),(18,wH),(21,wS)] [(32,.cells [wS,wS,wN] 81),(33,.cells [wS,wS,.own 35] 81),(34,.row (.prod .str (.prod .str (.prod wI .bool))) 158),(35,.row wP 84)],lb 8795711317237 [(2,.ptr 32 0),(6,.ptr 33 0),(7,.own 34),(12,wH),(15,wH),(17,wS),(18,wH),(21,wS)] [(32,.cells [wS,wS,wN] 81),(33,.cells [wS,wS,.own 35] 81),(34,.row (.prod .str (.prod .str (.prod wI .bool))) 158),(35,.row wP 84)],lb 17591422634473 [(2,.ptr 32 0),(6,.ptr 33 0),(7,.own 34),(12,wH),(15,wH),(17,wS),(18,wH),(21,wS),(310,.h .bool)] [(32,.cells [wS,wS,wN] 81),(33,.cells [wS,wS,.own 35] 81),(34,.row (.prod .str (.prod .str (.prod wI .bool))) 158),(35,.row wP 84)],lb 4397855658576 [(2,.ptr 32 0),(6,.ptr 33 0),(7,.own 34),(12,wH),(15,wH),(17,wS),(18,wH),(19,wH),(20,wH)] [(32,.cells [wS,wS,wN] 81),(33,.cells [wS,wS,.own 35] 81),(34,.row (.prod .str (.prod .str (.prod wI .bool))) 158),(35,.row wP 84)],lb 17179123664 [(2,.ptr 32 0),(6,.ptr 33 0),(7,.own 34),(12,wH),(15,wH),(17,wS),(18,wH)] [(32,.cells [wS,wS,wN] 81),(33,.cells [wS,wS,.own 35] 81),(34,.row (.prod .str (.prod .str (.prod wI .bool))) 158),(35,.row wP 84)],lb 1073695184 [(2,.ptr 32 0),(6,.ptr 33 0),(7,.own 34),(12,wH),(13,.h .bool),(15,wH),(16,wH)] [(32,.cells [wS,wS,wN] 81),(33,.cells [wS,wS,.own 35] 81),(34,.row (.prod .str (.prod .str (.prod wI .bool))) 158),(35,.row wP 84)],lb 268423760 [(2,.ptr 32 0),(6,.ptr 33 0),(7,.own 34),(12,wH),(13,.h .bool),(14,wH)] [(32,.cells [wS,wS,wN] 81),(33,.cells [wS,wS,.own 35] 81),(34,.row (.prod .str (.prod .str (.prod wI .bool))) 158),(35,.row wP 84)],lb 1048528 [(2,.ptr 32 0),(6,.ptr 33 0),(7,.own 34),(12,wH)] [(32,.cells [wS,wS,wN] 81),(33,.cells [wS,wS,.own 35] 81),(34,.row (.prod .str (.prod .str (.prod wI .bool))) 158),(35,.row wP 84)],lb 262112 [(0,wS),(2,.ptr 32 0),(4,wH),(6,.ptr 33 0),(7,.own 34)] [(32,.cells [wS,wS,wN] 81),(33,.cells [wS,wS,wN] 81),(34,.row (.prod .str (.prod .str (.prod wI .bool))) 158)],lb 254 [(0,wS),(2,.ptr 32 0),(4,wH),(6,.ptr 33 0)] [(32,.cells [wS,wS,wN] 81),(33,.cells [wS,wS,wN] 81)],lb 253 [(0,wS),(2,.ptr 32 0),(4,wH),(6,.ptr 33 0),(49,.h .bool)] [(32,.cells [wS,wS,wN] 81),(33,.cells [wS,wS,wN] 81)]]
def vax(r2:(bn fu).L 22)(r9:(bn fu).L 5):(bn fu).L 0:=Fx.jm (qjv fu r2.f r9.f) [r9.s]
def vau(r2:(bn fu).L 22)(r9:(bn fu).L 5):(bn fu).L 1:=Fx.jm (qeo fu r2.f r9.f) [(vax fu r2 r9).s]
def vat(r2:(bn fu).L 22)(r9:(bn fu).L 5):(bn fu).L 2:=Fx.jm (qzg fu r2.f r9.f) [(vau fu r2 r9).s]
def zor(r2:(bn fu).L 22):(bn fu).L 3:=Fx.jm (qbp fu r2.f) [r2.s]
def vaq(r2:(bn fu).L 22)(r9:(bn fu).L 5):(bn fu).L 4:=Fx.jm (qen fu r2.f r9.f) [(vat fu r2 r9).s,(zor fu r2).s]
def vba(r2:(bn fu).L 22):Nat->(bn fu).L 5:=Fx.lq (y7 fu r2.f) (qqz fu r2.f) (fun r9=>[(vaq fu r2 r9).s])
def va8(r2:(bn fu).L 22):(bn fu).L 6:=Fx.jm (qj0 fu r2.f) [(vba fu r2 fu).s,(zor fu r2).s]
def va6(r2:(bn fu).L 22):(bn fu).L 7:=Fx.jm (qzi fu r2.f) [(va8 fu r2).s]
def va4(r2:(bn fu).L 22):(bn fu).L 8:=Fx.jm (qjy fu r2.f) [(va6 fu r2).s]
def vav(r4:(bn fu).L 21)(r6:(bn fu).L 20):(bn fu).L 9:=Fx.jm (qju fu r4.f r6.f) [r6.s]
def var(r4:(bn fu).L 21)(r8:(bn fu).L 19):(bn fu).L 10:=Fx.jm (qjt fu r4.f r8.f) [r8.s]
def va0(r4:(bn fu).L 21)(r13:(bn fu).L 18)(r17:(bn fu).L 17):(bn fu).L 11:=Fx.jm (qeq fu r4.f r13.f r17.f) [r17.s]
def vay(r4:(bn fu).L 21)(r13:(bn fu).L 18)(r17:(bn fu).L 17):(bn fu).L 12:=Fx.jm (qjw fu r4.f r13.f r17.f) [(va0 fu r4 r13 r17).s]
def va3(r4:(bn fu).L 21)(r13:(bn fu).L 18):(bn fu).L 13:=Fx.jm (qzh fu r4.f r13.f) [r13.s]
def zos(r4:(bn fu).L 21)(r13:(bn fu).L 18):(bn fu).L 14:=Fx.jm (qer fu r4.f r13.f) [(va3 fu r4 r13).s]
def va2(r4:(bn fu).L 21)(r13:(bn fu).L 18):(bn fu).L 15:=Fx.jm (qjx fu r4.f r13.f) [(zos fu r4 r13).s]
def va1(r4:(bn fu).L 21)(r13:(bn fu).L 18):(bn fu).L 16:=Fx.jm (uf fu r4.f r13.f) [(va2 fu r4 r13).s]
def vaw(r4:(bn fu).L 21)(r13:(bn fu).L 18):Nat->(bn fu).L 17:=Fx.lq (mu fu r4.f r13.f) (qbn fu r4.f r13.f) (fun r17=>[(vay fu r4 r13 r17).s,(va1 fu r4 r13).s,(zos fu r4 r13).s])
def vas(r4:(bn fu).L 21):Nat->(bn fu).L 18:=Fx.lq (ol fu r4.f) (qbm fu r4.f) (fun r13=>[(vaw fu r4 r13 fu).s,r4.s])
def va9(r4:(bn fu).L 21):Nat->(bn fu).L 19:=Fx.lq (ug fu r4.f) (qem fu r4.f) (fun r8=>[(var fu r4 r8).s,r4.s,(vas fu r4 fu).s])
def va7(r4:(bn fu).L 21):Nat->(bn fu).L 20:=Fx.lq (qjz fu r4.f) (qze fu r4.f) (fun r6=>[(vav fu r4 r6).s,(va9 fu r4 fu).s])
def va5:Nat->(bn fu).L 21:=Fx.lq (py fu) (qzd fu) (fun r4=>[(va7 fu r4 fu).s])
def vaz:Nat->(bn fu).L 22:=Fx.lq (qep fu) (qzc fu) (fun r2=>[(va4 fu r2).s,(va5 fu fu).s])
def vap:(bn fu).L 23:=Fx.jm (qzf fu) [(vaz fu fu).s]
def vao:(bn fu).L 24:=Fx.jm (qbo fu) [(vap fu).s]
def vbb:=(bn fu).fi (qjs fu) [(vao fu).s]
end
end
noncomputable section
open Go.Proofs
set_option linter.unusedVariables false
set_option maxRecDepth 100000
set_option maxHeartbeats 2000000
open Tryz
section
variable(fu:Nat)
def zou:Fx wG ⟨.fn 110,[wS],[],_,RS.mk (.h .bool) []⟩:=fx [(zba fu).p,yp.p] [lb 208 [(0,wS),(3,wH)]]
def vbc:Nat->(zou fu).L 0:=Fx.lq (qkb fu) (qzv fu) (fun r0=>[r0.s])
def zov:=(zou fu).fi (qbw fu) [(vbc fu fu).s]
def zow:Fx wG ⟨.fn 111,[wS],[],_,RS.mk (.h .bool) []⟩:=fx [(zom fu).p] [lb 208 [(0,wS),(3,wH)]]
def vbd:Nat->(zow fu).L 0:=Fx.lq (qkg fu) (qz2 fu) (fun r0=>[r0.s])
def vbe:=(zow fu).fi (qkf fu) [(vbd fu fu).s]
def wd:Fx wG ⟨.fn 72,[.h (.prod .str (.prod .str wL))],[],_,RS.mk (.h (.prod wI wI)) []⟩:=fx [(zov fu).p,vz.p,(v7 fu).p,(vbe fu).p] [lb 500944 [(1,.ptr 32 0),(2,.ptr 33 0),(3,wH),(4,.ptr 34 0),(5,wH)] [(32,.dat (.prod .str (.prod .str wL)) 81),(33,.dat (.prod wI wI) 28),(34,.dat wP 84)],lb 31308 [(1,.ptr 32 0),(2,.ptr 33 0),(3,wH),(4,.ptr 34 0)] [(32,.dat (.prod .str (.prod .str wL)) 81),(33,.dat (.prod wI wI) 28),(34,.dat wP 84)],lb 15653 [(1,.ptr 32 0),(2,.ptr 33 0),(3,wH),(4,.ptr 34 0),(43,.h .bool)] [(32,.dat (.prod .str (.prod .str wL)) 81),(33,.dat (.prod wI wI) 28),(34,.dat wP 84)],lb 976 [(1,.ptr 32 0),(2,.ptr 33 0),(3,wH)] [(32,.dat (.prod .str (.prod .str wL)) 81),(33,.dat (.prod wI wI) 28)],lb 28 [(1,.ptr 32 0),(2,.ptr 33 0)] [(32,.dat (.prod .str (.prod .str wL)) 81),(33,.dat (.prod wI wI) 28)],lb 13 [(1,.ptr 32 0),(2,.ptr 33 0),(15,.h .bool)] [(32,.dat (.prod .str (.prod .str wL)) 81),(33,.dat (.prod wI wI) 28)]]
def vbk(r2:(wd fu).L 3):Nat->(wd fu).L 0:=Fx.lq (qjr fu r2.f) (qy9 fu r2.f) (fun r5=>[r5.s,r2.s])
def vbj(r2:(wd fu).L 3):(wd fu).L 1:=Fx.jm (qzb fu r2.f) [(vbk fu r2 fu).s]
def vbi(r2:(wd fu).L 3):(wd fu).L 2:=Fx.jm (qbl fu r2.f) [(vbj fu r2).s]
def vbh:Nat->(wd fu).L 3:=Fx.lq (qbk fu) (qy8 fu) (fun r2=>[(vbi fu r2).s])
def vbg:(wd fu).L 4:=Fx.jm (qza fu) [(vbh fu fu).s]
def vbf:(wd fu).L 5:=Fx.jm (qel fu) [(vbg fu).s]
def vbl:=(wd fu).fi (qqy fu) [(vbf fu).s]
def zbl:Fx wG ⟨.fn 42,[.h wL],[],_,RS.mk (.tup [.h (.prod .str (.prod .str wL)),.h .bool]) []⟩:=fx [(za8 fu).p,(vbb fu).p,(vbl fu).p] [lb 30 [(2,.ptr 32 0),(4,.own 33)] [(32,.cells [wS,wS,wN] 81),(33,.row .str 9)],lb 29 [(2,.ptr 32 0),(4,.own 33),(18,.h .bool)] [(32,.cells [wS,wS,wN] 81),(33,.row .str 9)]]
def vbn:(zbl fu).L 0:=Fx.jm (q00 fu)
def vbm:(zbl fu).L 1:=Fx.jm (qrr fu) [(vbn fu).s]
def zbm:=(zbl fu).fi (qfd fu) [(vbm fu).s]
def zox:Fx wG ⟨.fn 68,[.h (.prod .str (.prod .str wL)),wS],[],_,RS.mk (.tup [wS,.h .bool]) []⟩:=fx [(v7 fu).p] [lb 208 [(1,wS),(2,.ptr 32 0),(6,wH)] [(32,.dat (.prod .str (.prod .str wL)) 81)]]
def vbo:Nat->(zox fu).L 0:=Fx.lq (qj3 fu) (qzk fu) (fun r0=>[r0.s])
def zoy:=(zox fu).fi (qq1 fu) [(vbo fu fu).s]
def qyb:Fx wG ⟨.fn 40,[.h wL],[],_,RS.mk (.tup [wS,.h .bool]) []⟩:=fx [(zbm fu).p,(v7 fu).p,(zoy fu).p,yp.p] [lb 2000 [(6,wS),(7,.h .bool),(8,wH)],lb 30 [(4,.ptr 32 0)] [(32,.dat (.prod .str (.prod .str wL)) 81)],lb 29 [(4,.ptr 32 0),(21,.h .bool)] [(32,.dat (.prod .str (.prod .str wL)) 81)]]
def vbr:Nat->(qyb fu).L 0:=Fx.lq (qks fu) (q0e fu) (fun r2=>[r2.s])
def vbq:(qyb fu).L 1:=Fx.jm (q0f fu) [(vbr fu fu).s]
def vbp:(qyb fu).L 2:=Fx.jm (qkr fu) [(vbq fu).s]
def zoz:=(qyb fu).fi (qkq fu) [(vbp fu).s]
def qip(fu:Nat):Fx wG ⟨.fn 70,[wS,wS],[],_,RS.mk (wH) []⟩:=fx [qd2.p] [lb 226 [(0,wS),(1,wS),(5,wH)],lb 225 [(0,wS),(1,wS),(5,wH),(16,.h .bool)],lb 224 [(0,wS),(1,wS),(5,wH)]]
def vbu(r0:(qip fu).L 2):(qip fu).L 0:=Fx.jm (q0w fu r0.f) [r0.s]
def vbt(r0:(qip fu).L 2):(qip fu).L 1:=Fx.jm (qfb fu r0.f) [(vbu fu r0).s]
def vbs:Nat->(qip fu).L 2:=Fx.lq (qfa fu) (q0v fu) (fun r0=>[(vbt fu r0).s])
def vbv:=(qip fu).fi (q0u fu) [(vbs fu fu).s]
def kp:Fx wG ⟨.fn 41,[.h wB,wS],[],_,RS.mk (.own 0) [(0,.row wB 23)]⟩:=fx [za6.p,(vbv fu).p] [lb 63650 [(0,.h wB),(1,wS),(5,.own 32),(6,wH),(7,wH),(8,wH)] [(32,.row wB 23)],lb 254716 [(0,.h wB),(1,wS),(5,.own 32),(6,wH),(9,wH),(10,wH)] [(32,.row wB 23)],lb 509429 [(0,.h wB),(1,wS),(5,.own 32),(9,wH),(10,wH)] [(32,.row wB 23)],lb 8150859 [(0,.h wB),(1,wS),(5,.own 32),(6,wH),(9,wH),(10,wH),(11,wH)] [(32,.row wB 23)],lb 31838 [(0,.h wB),(1,wS),(5,.own 32),(6,wH),(7,wH),(8,wH),(9,wH)] [(32,.row wB 23)],lb 63649 [(0,.h wB),(1,wS),(5,.own 32),(6,wH),(7,wH),(8,wH),(26,.h .bool)] [(32,.row wB 23)],lb 63648 [(0,.h wB),(1,wS),(5,.own 32),(6,wH),(7,wH),(8,wH)] [(32,.row wB 23)],lb 992 [(0,.h wB),(1,wS),(5,.own 32),(6,wH),(7,wH)] [(32,.row wB 23)]]
def vbz(r0:(kp fu).L 7)(r1:(kp fu).L 6):(kp fu).L 0:=Fx.jm (q0n fu r0.f r1.f) [r1.s]
def zo1(r0:(kp fu).L 7):(kp fu).L 1:=Fx.jm (qe6 fu r0.f) [r0.s]
def zo0(r0:(kp fu).L 7):(kp fu).L 2:=Fx.jm (qbx fu r0.f) [(zo1 fu r0).s]
def vb1(r0:(kp fu).L 7):(kp fu).L 3:=Fx.jm (qby fu r0.f) [(zo0 fu r0).s]
def vb0(r0:(kp fu).L 7):(kp fu).L 4:=Fx.jm (qkz fu r0.f) [(vb1 fu r0).s,(zo0 fu r0).s,(zo1 fu r0).s]
def vby(r0:(kp fu).L 7)(r1:(kp fu).L 6):(kp fu).L 5:=Fx.jm (qky fu r0.f r1.f) [(vbz fu r0 r1).s,(vb0 fu r0).s]
def vbx(r0:(kp fu).L 7):Nat->(kp fu).L 6:=Fx.lq (qkx fu r0.f) (q0m fu r0.f) (fun r1=>[(vby fu r0 r1).s])
def vbw:Nat->(kp fu).L 7:=Fx.lq (zf fu) (q0l fu) (fun r0=>[(vbx fu r0 fu).s])
def zo2:=(kp fu).fi (qri fu) [(vbw fu fu).s]
def qyc(fu:Nat):Fx wG ⟨.fn 112,[wS],[],_,RS.mk (wS) []⟩:=fx [] [lb 3729 [(0,wS),(3,wS),(4,wH),(20,.h .bool)],lb 464 [(0,wS),(3,wS),(4,wH)]]
def vb3(r0:(qyc fu).L 1):(qyc fu).L 0:=Fx.jm (qbr fu r0.f) [r0.s]
def vb2:Nat->(qyc fu).L 1:=Fx.lq (qbq fu) (qzn fu) (fun r0=>[(vb3 fu r0).s])
def vb4:=(qyc fu).fi (qq4 fu) [(vb2 fu fu).s]
def vb8:EI wG ⟨.fn 113,[.h .byte],[],_,RS.mk (wS) []⟩:=(fx).fi uh
def ub:Fx wG ⟨.fn 73,[.h wP],[],_,RS.mk (wS) []⟩:=fx [(zov fu).p,yp.p,(vb4 fu).p,vb8.p,(zba fu).p,(zbd fu).p] [lb 979 [(1,.ptr 32 0),(3,.h .bool),(4,wH)] [(32,.dat wP 84)],lb 32723 [(1,.ptr 32 0),(5,wS),(6,wS),(7,wH),(8,wH)] [(32,.dat wP 84)],lb 523559 [(1,.ptr 32 0),(5,wS),(6,wS),(7,wH),(8,wH),(9,wS)] [(32,.dat wP 84)],lb 1047116 [(1,.ptr 32 0),(5,wS),(6,wS),(7,wH),(8,wH),(9,wS)] [(32,.dat wP 84)],lb 32720 [(1,.ptr 32 0),(5,wS),(6,wS),(7,wH),(8,wH)] [(32,.dat wP 84)],lb 976 [(1,.ptr 32 0),(3,.h .bool),(4,wH)] [(32,.dat wP 84)]]
def vca(r0:(ub fu).L 5):(ub fu).L 0:=Fx.jm (qj5 fu r0.f) [r0.s]
def vce(r2:(ub fu).L 4):(ub fu).L 1:=Fx.jm (qq3 fu r2.f) [r2.s]
def vcd(r2:(ub fu).L 4):(ub fu).L 2:=Fx.jm (qj7 fu r2.f) [(vce fu r2).s]
def vcc(r2:(ub fu).L 4):(ub fu).L 3:=Fx.jm (qj6 fu r2.f) [(vcd fu r2).s]
def vcb:Nat->(ub fu).L 4:=Fx.lq (qet fu) (qzm fu) (fun r2=>[(vcc fu r2).s])
def vb9:Nat->(ub fu).L 5:=Fx.lq (qj4 fu) (qzl fu) (fun r0=>[(vca fu r0).s,(vcb fu fu).s])
def vcf:=(ub fu).fi (qq2 fu) [(vb9 fu fu).s]
def zo5:Fx wG ⟨.fn 43,[.h (.prod .str (.prod .str wL))],[],_,RS.mk (wS) []⟩:=fx [(vcf fu).p] [lb 464 [(1,.ptr 32 0),(3,wS),(4,wH)] [(32,.dat (.prod .str (.prod .str wL)) 81)]]
def vcg:Nat->(zo5 fu).L 0:=Fx.lq (qj2 fu) (qzj fu) (fun r0=>[r0.s])
def zo6:=(zo5 fu).fi (qj1 fu) [(vcg fu fu).s]
def zo7:Fx wG ⟨.fn 44,[.h wL,wS],[],_,RS.mk (.own 0) [(0,.row wP 48)]⟩:=fx [(v7 fu).p] [lb 464 [(0,.h wL),(1,wS),(5,.own 32),(6,wH)] [(32,.row wP 48)]]
def vch:Nat->(zo7 fu).L 0:=Fx.lq (qlg fu) (q06 fu) (fun r0=>[r0.s])
def vci:=(zo7 fu).fi (q05 fu) [(vch fu fu).s]
def dd:Fx wG ⟨.fn 45,[.h wB],[],_,RS.mk (.tup [.own 0,wH,.h (.prod wI wI)]) [(0,.row wP 48)]⟩:=fx [vz.p,qd2.p,(zol fu).p,(zn7 fu).p,(zn9 fu).p] [lb 63650 [(0,.h wB),(4,.ptr 32 0),(5,.own 33),(6,wH),(7,wH)] [(32,.dat (.prod wI wI) 28),(33,.row wP 48)],lb 2085459 [(4,.ptr 32 0),(5,.own 33),(6,wH),(13,wH),(14,.own 34),(15,wH)] [(32,.dat (.prod wI wI) 28),(33,.row wP 48),(34,.row .byte 5)],lb 8341833 [(4,.ptr 32 0),(5,.own 33),(6,wH),(13,wH),(14,.own 34),(15,wH),(166,.h .bool)] [(32,.dat (.prod wI wI) 28),(33,.row wP 48),(34,.row .byte 5)],lb 2085456 [(4,.ptr 32 0),(5,.own 33),(6,wH),(13,wH),(14,.own 34),(15,wH)] [(32,.dat (.prod wI wI) 28),(33,.row wP 48),(34,.row .byte 5)],lb 8144 [(4,.ptr 32 0),(5,.own 33),(6,wH),(13,wH)] [(32,.dat (.prod wI wI) 28),(33,.row wP 48)],lb 252 [(4,.ptr 32 0),(5,.own 33),(6,wH)] [(32,.dat (.prod wI wI) 28),(33,.row wP 48)],lb 130416610 [(0,.h wB),(4,.ptr 32 0),(5,.own 33),(6,wH),(9,wH),(10,wS),(11,wH),(12,wS)] [(32,.dat (.prod wI wI) 28),(33,.row wP 48)],lb 130416609 [(0,.h wB),(4,.ptr 32 0),(5,.own 33),(6,wH),(9,wH),(10,wS),(11,wH),(12,wS),(114,.h .bool)] [(32,.dat (.prod wI wI) 28),(33,.row wP 48)],lb 130416608 [(0,.h wB),(4,.ptr 32 0),(5,.own 33),(6,wH),(9,wH),(10,wS),(11,wH),(12,wS)] [(32,.dat (.prod wI wI) 28),(33,.row wP 48)],lb 1018878 [(0,.h wB),(4,.ptr 32 0),(5,.own 33),(6,wH),(9,wH),(10,wS)] [(32,.dat (.prod wI wI) 28),(33,.row wP 48)],lb 1018877 [(0,.h wB),(4,.ptr 32 0),(5,.own 33),(6,wH),(9,wH),(10,wS),(80,.h .bool)] [(32,.dat (.prod wI wI) 28),(33,.row wP 48)],lb 127358 [(0,.h wB),(4,.ptr 32 0),(5,.own 33),(6,wH),(8,wH),(9,wH)] [(32,.dat (.prod wI wI) 28),(33,.row wP 48)],lb 31838 [(0,.h wB),(4,.ptr 32 0),(5,.own 33),(6,wH),(7,wH),(8,wH)] [(32,.dat (.prod wI wI) 28),(33,.row wP 48)],lb 31837 [(0,.h wB),(4,.ptr 32 0),(5,.own 33),(6,wH),(7,wH),(8,wH),(55,.h .bool)] [(32,.dat (.prod wI wI) 28),(33,.row wP 48)],lb 63649 [(0,.h wB),(4,.ptr 32 0),(5,.own 33),(6,wH),(7,wH),(35,.h .bool)] [(32,.dat (.prod wI wI) 28),(33,.row wP 48)],lb 63648 [(0,.h wB),(4,.ptr 32 0),(5,.own 33),(6,wH),(7,wH)] [(32,.dat (.prod wI wI) 28),(33,.row wP 48)],lb 992 [(0,.h wB),(4,.ptr 32 0),(5,.own 33),(6,wH)] [(32,.dat (.prod wI wI) 28),(33,.row wP 48)]]
def vcu(r0:(dd fu).L 16)(r1:(dd fu).L 15):(dd fu).L 0:=Fx.jm (zcz fu r0.f r1.f) [r1.s]
def vcr(r4:(dd fu).L 4)(r14:(dd fu).L 3):(dd fu).L 1:=Fx.jm (qq7 fu r4.f r14.f) [r14.s]
def vcq(r4:(dd fu).L 4)(r14:(dd fu).L 3):(dd fu).L 2:=Fx.jm (qq6 fu r4.f r14.f) [(vcr fu r4 r14).s]
def vcp(r4:(dd fu).L 4):Nat->(dd fu).L 3:=Fx.lq (qbs fu r4.f) (qzr fu r4.f) (fun r14=>[(vcq fu r4 r14).s,r4.s])
def vct:Nat->(dd fu).L 4:=Fx.lq (qbv fu) (qzs fu) (fun r4=>[(vcp fu r4 fu).s])
def qyd:(dd fu).L 5:=Fx.jm (qbt fu) [(vct fu fu).s]
def vco(r0:(dd fu).L 16)(r11:(dd fu).L 8):(dd fu).L 6:=Fx.jm (qzu fu r0.f r11.f) [r11.s]
def vcn(r0:(dd fu).L 16)(r11:(dd fu).L 8):(dd fu).L 7:=Fx.jm (qeu fu r0.f r11.f) [(vco fu r0 r11).s,(qyd fu).s,r0.s]
def vcm(r0:(dd fu).L 16):Nat->(dd fu).L 8:=Fx.lq (qj8 fu r0.f) (qzq fu r0.f) (fun r11=>[(vcn fu r0 r11).s])
def vcl(r0:(dd fu).L 16):(dd fu).L 9:=Fx.jm (qzt fu r0.f) [(qyd fu).s,(vcm fu r0 fu).s]
def vcy(r0:(dd fu).L 16):(dd fu).L 10:=Fx.jm (qey fu r0.f) [r0.s,(vcl fu r0).s]
def vcx(r0:(dd fu).L 16):(dd fu).L 11:=Fx.jm (qex fu r0.f) [(qyd fu).s,(vcy fu r0).s]
def vcw(r0:(dd fu).L 16):(dd fu).L 12:=Fx.jm (qew fu r0.f) [(vcx fu r0).s]
def vcv(r0:(dd fu).L 16):(dd fu).L 13:=Fx.jm (qev fu r0.f) [(vcw fu r0).s]
def vcs(r0:(dd fu).L 16)(r1:(dd fu).L 15):(dd fu).L 14:=Fx.jm (qbu fu r0.f r1.f) [(vcu fu r0 r1).s,(vcv fu r0).s]
def vck(r0:(dd fu).L 16):Nat->(dd fu).L 15:=Fx.lq (za fu r0.f) (qzp fu r0.f) (fun r1=>[(vcs fu r0 r1).s])
def vcj:Nat->(dd fu).L 16:=Fx.lq (y9 fu) (qzo fu) (fun r0=>[(vck fu r0 fu).s,(qyd fu).s])
def vcz:=(dd fu).fi (qq5 fu) [(vcj fu fu).s]
def q9:IF:=⟨.fn 20,[.h wL,.h wB,wH,wH],[],_,RS.mk (.tup [.h wT,wH,.h (.prod wI wI)]) []⟩
def yu(s167:EI wG q9)(fu:Nat):Fx wG q9:=fx [vz.p,(zoz fu).p,(zo2 fu).p,(zbm fu).p,(v7 fu).p,(zo6 fu).p,(vci fu).p,(vcz fu).p,s167.p] [lb 32723 [(0,.h wL),(2,wH),(3,wH),(8,.ptr 32 0),(10,.ptr 33 0),(11,.ptr 34 0),(14,.own 35),(15,.ptr 36 0),(17,.ptr 37 0),(18,wH)] [(32,.cells [wN,wN,wN] 33),(33,.dat (.prod wI wI) 28),(34,.cells [.h wL,.h wB,wN] 33),(35,.row wB 23),(36,.dat (.prod .str (.prod .str wL)) 81),(37,.cells [wS,wS,.own 38] 81),(38,.row wP 84)],lb 1048528 [(2,wH),(8,.ptr 32 0),(10,.ptr 33 0),(11,.ptr 34 0),(14,.own 35),(20,.ptr 36 0),(21,wH),(22,wH)] [(32,.cells [wN,wN,wN] 33),(33,.dat (.prod wI wI) 28),(34,.cells [.h wL,.h wB,wN] 33),(35,.row wB 23),(36,.cells [.own 37,wN,.own 38] 33),(37,.row wP 48),(38,.row wT 33)],lb 8190 [(0,.h wL),(2,wH),(3,wH),(8,.ptr 32 0),(10,.ptr 33 0),(11,.ptr 34 0),(14,.own 35),(19,wS)] [(32,.cells [wN,wN,wN] 33),(33,.dat (.prod wI wI) 28),(34,.cells [.h wL,.h wB,wN] 33),(35,.row wB 23)],lb 8189 [(0,.h wL),(2,wH),(3,wH),(8,.ptr 32 0),(10,.ptr 33 0),(11,.ptr 34 0),(14,.own 35),(19,wS),(100,.h .bool)] [(32,.cells [wN,wN,wN] 33),(33,.dat (.prod wI wI) 28),(34,.cells [.h wL,.h wB,wN] 33),(35,.row wB 23)],lb 32720 [(0,.h wL),(2,wH),(3,wH),(8,.ptr 32 0),(10,.ptr 33 0),(11,.ptr 34 0),(14,.own 35),(15,.ptr 36 0),(17,.ptr 37 0),(18,wH)] [(32,.cells [wN,wN,wN] 33),(33,.dat (.prod wI wI) 28),(34,.cells [.h wL,.h wB,wN] 33),(35,.row wB 23),(36,.dat (.prod .str (.prod .str wL)) 81),(37,.cells [wS,wS,.own 38] 81),(38,.row wP 84)],lb 126 [(0,.h wL),(1,.h wB),(2,wH),(3,wH),(8,.ptr 32 0),(10,.ptr 33 0),(11,.ptr 34 0),(12,wS)] [(32,.cells [wN,wN,wN] 33),(33,.dat (.prod wI wI) 28),(34,.cells [.h wL,.h wB,wN] 33)],lb 125 [(0,.h wL),(1,.h wB),(2,wH),(3,wH),(8,.ptr 32 0),(10,.ptr 33 0),(11,.ptr 34 0),(12,wS),(48,.h .bool)] [(32,.cells [wN,wN,wN] 33),(33,.dat (.prod wI wI) 28),(34,.cells [.h wL,.h wB,wN] 33)]]
def vc4(s167:EI wG q9)(fu:Nat)(r2:(yu s167 fu).L 4):(yu s167 fu).L 0:=Fx.jm (qld s167.f fu r2.f) [r2.s]
def vc7(s167:EI wG q9)(fu:Nat):Nat->(yu s167 fu).L 1:=Fx.lq (qlf s167.f fu) (q02 s167.f fu) (fun r6=>[r6.s])
def vc6(s167:EI wG q9)(fu:Nat):(yu s167 fu).L 2:=Fx.jm (q04 s167.f fu) [(vc7 s167 fu fu).s]
def vc5(s167:EI wG q9)(fu:Nat):(yu s167 fu).L 3:=Fx.jm (qle s167.f fu) [(vc6 s167 fu).s]
def vc3(s167:EI wG q9)(fu:Nat):Nat->(yu s167 fu).L 4:=Fx.lq (qlc s167.f fu) (q01 s167.f fu) (fun r2=>[(vc4 s167 fu r2).s,(vc5 s167 fu).s])
def vc2(s167:EI wG q9)(fu:Nat):(yu s167 fu).L 5:=Fx.jm (q03 s167.f fu) [(vc3 s167 fu fu).s]
def vc1(s167:EI wG q9)(fu:Nat):(yu s167 fu).L 6:=Fx.jm (wo s167.f fu) [(vc2 s167 fu).s]
def vc0(s167:EI wG q9)(fu:Nat):EI wG q9:=(yu s167 fu).fi (qlb s167.f fu) [(vc1 s167 fu).s]
def vc8:EI wG q9 := .rc (pz fu) (fun r=>qlb r fu) (fun _ _=>rfl) (fun _=>rfl) (fun s167=>vc0 s167 fu) (fun _=>rfl) fu
def qit:IF:=⟨.fn 22,[.h wT,wH],[],_,RS.mk (.tup [.h (.list wT),.h (.list wI)]) []⟩
def zo9(s200:EI wG qit)(fu:Nat):Fx wG qit:=fx [s200.p] [lb 976 [(1,wH),(2,.ptr 32 0),(6,.own 33),(7,.own 34),(8,wH)] [(32,.dat wT 33),(33,.row wT 33),(34,.row wI 3)]]
def vda(s200:EI wG qit)(fu:Nat):Nat->(zo9 s200 fu).L 0:=Fx.lq (qk1 s200.f fu) (q0p s200.f fu) (fun r0=>[r0.s])
def vc9(s200:EI wG qit)(fu:Nat):EI wG qit:=(zo9 s200 fu).fi (qrm s200.f fu) [(vda s200 fu fu).s]
def zpa:EI wG qit := .rc (qe7 fu) (fun r=>qrm r fu) (fun _ _=>rfl) (fun _=>rfl) (fun s200=>vc9 s200 fu) (fun _=>rfl) fu
def qqa:Fx wG ⟨.fn 46,[.h wT,wH],[],_,RS.mk (wH) []⟩:=fx [(zoe fu).p,(zbm fu).p,(zoy fu).p,(v7 fu).p,(zof fu).p,(zoz fu).p,(zo2 fu).p,(zo6 fu).p,(za8 fu).p] [lb 7870 [],lb 7869 [(72,.h .bool)],lb 1966 [(2,.ptr 32 0),(6,.ptr 33 0)] [(32,.dat wT 33),(33,.dat (.prod .str (.prod .str wL)) 81)],lb 1965 [(2,.ptr 32 0),(6,.ptr 33 0),(58,.h .bool)] [(32,.dat wT 33),(33,.dat (.prod .str (.prod .str wL)) 81)]]
def vde:(qqa fu).L 0:=Fx.jm (zc1 fu)
def vdd:(qqa fu).L 1:=Fx.jm (qk5 fu) [(vde fu).s]
def vdc:(qqa fu).L 2:=Fx.jm (q0x fu) [(vdd fu).s]
def vdb:(qqa fu).L 3:=Fx.jm (rt fu) [(vdc fu).s]
def vdf:=(qqa fu).fi (qro fu) [(vdb fu).s]
def zbw:Fx wG ⟨.fn 21,[.h wT],[],_,RS.mk (.h (.prod wI wI)) []⟩:=fx [(zpa fu).p,vz.p,(vdf fu).p] [lb 2000 [(2,.ptr 32 0),(3,.h (.list wT)),(4,.h (.list wI)),(6,wH)] [(32,.dat (.prod wI wI) 28)],lb 976 [(2,.ptr 32 0),(3,.h (.list wT)),(4,.h (.list wI)),(5,wH)] [(32,.dat (.prod wI wI) 28)]]
def vdh:Nat->(zbw fu).L 0:=Fx.lq (qk7 fu) (q0z fu) (fun r1=>[r1.s])
def vdg:Nat->(zbw fu).L 1:=Fx.lq (qk6 fu) (q0y fu) (fun r0=>[r0.s,(vdh fu fu).s])
def vdi:=(zbw fu).fi (qrp fu) [(vdg fu fu).s]
def zpb:EI wG ⟨.fn 7,[.h (.prod wL wB)],[],_,RS.mk (.tup [.h wT,.h (.prod wI wI)]) []⟩:=(fx [(z9p fu).p,(vc8 fu).p,(vdi fu).p,vz.p]).fi (qfc fu)
def vdk:EI wG ⟨.fn 51,[wS],[],_,RS.mk (wH) []⟩:=(fx [(v7 fu).p]).fi (qkw fu)
def zpd(fu:Nat):Fx wG ⟨.fn 115,[.h .byte],[],_,RS.mk (wH) []⟩:=fx [] [lb 208 [(0,.h .byte),(3,wH)]]
def vdl:Nat->(zpd fu).L 0:=Fx.lq (zd fu) (q0d fu) (fun r0=>[r0.s])
def vdm:=(zpd fu).fi (q0c fu) [(vdl fu fu).s]
def zpe(fu:Nat):Fx wG ⟨.fn 116,[.h (.list wI)],[],_,RS.mk (wH) []⟩:=fx [] [lb 464 [(0,.h (.list wI)),(3,wH),(4,wH)]]
def vdn:Nat->(zpe fu).L 0:=Fx.lq (qe3 fu) (qrd fu) (fun r0=>[r0.s])
def vdo:=(zpe fu).fi (q0a fu) [(vdn fu fu).s]
def mq:Fx wG ⟨.fn 78,[.h wB],[],_,RS.mk (.own 0) [(0,.row .byte 5)]⟩:=fx [(vdm fu).p,(vdo fu).p] [lb 119396 [(0,.h wB),(3,.own 32),(4,wH),(5,wH),(6,wH)] [(32,.row wI 3)],lb 59697 [(0,.h wB),(3,.own 32),(4,wH),(5,wH),(6,wH),(32,.h .bool)] [(32,.row wI 3)],lb 59696 [(0,.h wB),(3,.own 32),(4,wH),(5,wH),(6,wH)] [(32,.row wI 3)],lb 1864 [(0,.h wB),(3,.own 32),(4,wH)] [(32,.row wI 3)],lb 2000 [(3,.h (.list wI)),(7,.own 33),(8,wH)] [(33,.row .byte 5)],lb 465 [(0,.h wB),(3,.own 32),(4,wH),(19,.h .bool)] [(32,.row wI 3)],lb 464 [(0,.h wB),(3,.own 32),(4,wH)] [(32,.row wI 3)]]
def vdv(r0:(mq fu).L 6)(r4:(mq fu).L 2):(mq fu).L 0:=Fx.jm (qy2 fu r0.f r4.f) [r4.s]
def vdu(r0:(mq fu).L 6)(r4:(mq fu).L 2):(mq fu).L 1:=Fx.jm (qqv fu r0.f r4.f) [(vdv fu r0 r4).s,r0.s]
def vdt(r0:(mq fu).L 6):Nat->(mq fu).L 2:=Fx.lq (rp fu r0.f) (qjk fu r0.f) (fun r4=>[(vdu fu r0 r4).s])
def vdr(r0:(mq fu).L 6):(mq fu).L 3:=Fx.jm (qy1 fu r0.f) [(vdt fu r0 fu).s]
def vds:Nat->(mq fu).L 4:=Fx.lq (qeh fu) (qy0 fu) (fun r3=>[r3.s])
def vdq(r0:(mq fu).L 6):(mq fu).L 5:=Fx.jm (qjl fu r0.f) [(vdr fu r0).s,(vds fu fu).s]
def vdp:Nat->(mq fu).L 6:=Fx.lq (qeg fu) (qqu fu) (fun r0=>[(vdq fu r0).s])
def vdw:=(mq fu).fi (qyz fu) [(vdp fu fu).s]
def d5:Fx wG ⟨.fn 79,[.h wB],[],_,RS.mk (.own 0) [(0,.row .byte 5)]⟩:=fx [qd2.p,(zoq fu).p] [lb 29858 [(0,.h wB),(3,.own 32),(4,wH),(5,wH)] [(32,.row .byte 5)],lb 478178 [(0,.h wB),(3,.own 32),(4,wH),(5,wH),(6,wH),(7,wH)] [(32,.row .byte 5)],lb 7651283 [(0,.h wB),(3,.own 32),(5,wH),(6,wH),(7,wH),(8,.h .bool),(9,wH)] [(32,.row .byte 5)],lb 30605129 [(0,.h wB),(3,.own 32),(5,wH),(6,wH),(7,wH),(8,.h .bool),(9,wH),(110,.h .bool)] [(32,.row .byte 5)],lb 7651280 [(0,.h wB),(3,.own 32),(5,wH),(6,wH),(7,wH),(8,.h .bool),(9,wH)] [(32,.row .byte 5)],lb 478204 [(0,.h wB),(3,.own 32),(4,wH),(5,wH),(6,wH),(7,wH),(8,.h .bool)] [(32,.row .byte 5)],lb 239100 [(0,.h wB),(3,.own 32),(4,wH),(5,wH),(6,wH),(7,wH),(8,.h .bool)] [(32,.row .byte 5)],lb 478177 [(0,.h wB),(3,.own 32),(4,wH),(5,wH),(6,wH),(7,wH),(59,.h .bool)] [(32,.row .byte 5)],lb 478176 [(0,.h wB),(3,.own 32),(4,wH),(5,wH),(6,wH),(7,wH)] [(32,.row .byte 5)],lb 14942 [(0,.h wB),(3,.own 32),(4,wH),(5,wH),(6,wH)] [(32,.row .byte 5)],lb 14941 [(0,.h wB),(3,.own 32),(4,wH),(5,wH),(6,wH),(45,.h .bool)] [(32,.row .byte 5)],lb 29857 [(0,.h wB),(3,.own 32),(4,wH),(5,wH),(25,.h .bool)] [(32,.row .byte 5)],lb 29856 [(0,.h wB),(3,.own 32),(4,wH),(5,wH)] [(32,.row .byte 5)],lb 464 [(0,.h wB),(3,.own 32),(4,wH)] [(32,.row .byte 5)]]
def vd4(r0:(d5 fu).L 13)(r1:(d5 fu).L 12):(d5 fu).L 0:=Fx.jm (qy6 fu r0.f r1.f) [r1.s]
def vd9(r0:(d5 fu).L 13)(r6:(d5 fu).L 8):(d5 fu).L 1:=Fx.jm (qy7 fu r0.f r6.f) [r6.s]
def vd2(r0:(d5 fu).L 13)(r11:(d5 fu).L 4):(d5 fu).L 2:=Fx.jm (qjn fu r0.f r11.f) [r11.s]
def vd1(r0:(d5 fu).L 13)(r11:(d5 fu).L 4):(d5 fu).L 3:=Fx.jm (wk fu r0.f r11.f) [(vd2 fu r0 r11).s]
def vd0(r0:(d5 fu).L 13):Nat->(d5 fu).L 4:=Fx.lq (px fu r0.f) (qqx fu r0.f) (fun r11=>[(vd1 fu r0 r11).s,r0.s])
def vdz(r0:(d5 fu).L 13):(d5 fu).L 5:=Fx.jm (qjm fu r0.f) [(vd0 fu r0 fu).s]
def vea(r0:(d5 fu).L 13):(d5 fu).L 6:=Fx.jm (qjq fu r0.f) [(vdz fu r0).s]
def vd8(r0:(d5 fu).L 13)(r6:(d5 fu).L 8):(d5 fu).L 7:=Fx.jm (qej fu r0.f r6.f) [(vd9 fu r0 r6).s,(vea fu r0).s]
def vd7(r0:(d5 fu).L 13):Nat->(d5 fu).L 8:=Fx.lq (qjp fu r0.f) (qy5 fu r0.f) (fun r6=>[(vd8 fu r0 r6).s])
def vd6(r0:(d5 fu).L 13):(d5 fu).L 9:=Fx.jm (qjo fu r0.f) [(vd7 fu r0 fu).s]
def vd5(r0:(d5 fu).L 13):(d5 fu).L 10:=Fx.jm (qbj fu r0.f) [(vd6 fu r0).s]
def vd3(r0:(d5 fu).L 13)(r1:(d5 fu).L 12):(d5 fu).L 11:=Fx.jm (qbi fu r0.f r1.f) [(vd4 fu r0 r1).s,(vd5 fu r0).s]
def vdy(r0:(d5 fu).L 13):Nat->(d5 fu).L 12:=Fx.lq (qbh fu r0.f) (qy4 fu r0.f) (fun r1=>[(vd3 fu r0 r1).s])
def vdx:Nat->(d5 fu).L 13:=Fx.lq (qei fu) (qqw fu) (fun r0=>[(vdy fu r0 fu).s])
def veb:=(d5 fu).fi (qy3 fu) [(vdx fu fu).s]
def vec:EI wG ⟨.fn 52,[.h wB,wH],[],_,RS.mk (.h wB) []⟩:=(fx [(vdw fu).p,(veb fu).p]).fi (qrs fu)
def zpf:Fx wG ⟨.fn 26,[.h wT],[],_,RS.mk (.h wB) []⟩:=fx [(za8 fu).p,(vdk fu).p,(vec fu).p] [lb 464 [(1,.ptr 32 0),(3,.own 33),(4,wH)] [(32,.dat wT 33),(33,.row .str 9)]]
def ved:Nat->(zpf fu).L 0:=Fx.lq (qk0 fu) (q0o fu) (fun r0=>[r0.s])
def vee:=(zpf fu).fi (qrj fu) [(ved fu fu).s]
def qiy(fu:Nat):Fx wG ⟨.fn 48,[wS],[],_,RS.mk (wS) []⟩:=fx [qd2.p] [lb 467 [(0,wS),(3,wS),(4,wH)],lb 7463 [(0,wS),(3,wS),(4,wH),(40,.h .bool)],lb 464 [(0,wS),(3,wS),(4,wH)]]
def zpg(r0:(qiy fu).L 2):(qiy fu).L 0:=Fx.jm (qk9 fu r0.f) [r0.s]
def veg(r0:(qiy fu).L 2):(qiy fu).L 1:=Fx.jm (qla fu r0.f) [(zpg fu r0).s]
def vef:Nat->(qiy fu).L 2:=Fx.lq (qb0 fu) (qrq fu) (fun r0=>[(zpg fu r0).s,(veg fu r0).s])
def zph:=(qiy fu).fi (qk8 fu) [(vef fu fu).s]
def ra:Fx wG ⟨.fn 25,[.h wB],[],_,RS.mk (wS) []⟩:=fx [za6.p,(zph fu).p] [lb 62626 [(0,.h wB),(3,wS),(4,wH),(5,wH),(6,wH)],lb 2004832 [(0,.h wB),(3,wS),(4,wH),(6,wH),(7,wS)],lb 62625 [(0,.h wB),(3,wS),(4,wH),(5,wH),(6,wH),(22,.h .bool)],lb 62624 [(0,.h wB),(3,wS),(4,wH),(5,wH),(6,wH)],lb 976 [(0,.h wB),(3,wS),(4,wH),(5,wH)]]
def vek(r0:(ra fu).L 4)(r1:(ra fu).L 3):(ra fu).L 0:=Fx.jm (q0k fu r0.f r1.f) [r1.s]
def vel(r0:(ra fu).L 4):Nat->(ra fu).L 1:=Fx.lq (qkv fu r0.f) (q0j fu r0.f) (fun r4=>[r4.s,r0.s])
def vej(r0:(ra fu).L 4)(r1:(ra fu).L 3):(ra fu).L 2:=Fx.jm (ze fu r0.f r1.f) [(vek fu r0 r1).s,r0.s,(vel fu r0 fu).s]
def vei(r0:(ra fu).L 4):Nat->(ra fu).L 3:=Fx.lq (qku fu r0.f) (q0i fu r0.f) (fun r1=>[(vej fu r0 r1).s])
def veh:Nat->(ra fu).L 4:=Fx.lq (qe5 fu) (q0h fu) (fun r0=>[(vei fu r0 fu).s])
def vem:=(ra fu).fi (qrh fu) [(veh fu fu).s]
def ven:EI wG ⟨.fn 24,[.h wP],[],_,RS.mk (wS) []⟩:=(fx [(qx8 fu).p,(zph fu).p]).fi (qrk fu)
def rf:Fx wG ⟨.fn 9,[.h wT],[],_,RS.mk (wS) []⟩:=fx [(zpa fu).p,(v7 fu).p,(vee fu).p,(vem fu).p,(ven fu).p,(zbd fu).p] [lb 250451 [(3,.h (.list wT)),(5,wS),(6,wH),(7,wS),(8,wH)],lb 2003603 [(3,.h (.list wT)),(5,wS),(6,wH),(7,wS),(8,wH),(9,.ptr 32 0),(49,.h .bool)] [(32,.dat wP 48)],lb 31311 [(3,.h (.list wT)),(5,wS),(6,wH),(7,wS),(10,wS)],lb 250448 [(3,.h (.list wT)),(5,wS),(6,wH),(7,wS),(8,wH)],lb 976 [(3,.h (.list wT)),(5,wS),(6,wH)]]
def vet(r0:(rf fu).L 4)(r1:(rf fu).L 3):(rf fu).L 0:=Fx.jm (qk3 fu r0.f r1.f) [r1.s]
def ver(r0:(rf fu).L 4)(r1:(rf fu).L 3):(rf fu).L 1:=Fx.jm (qbz fu r0.f r1.f) [(vet fu r0 r1).s]
def ves(r0:(rf fu).L 4):(rf fu).L 2:=Fx.jm (qk2 fu r0.f) [r0.s]
def veq(r0:(rf fu).L 4):Nat->(rf fu).L 3:=Fx.lq (zg fu r0.f) (q0r fu r0.f) (fun r1=>[(ver fu r0 r1).s,(ves fu r0).s])
def vep:Nat->(rf fu).L 4:=Fx.lq (qe9 fu) (q0q fu) (fun r0=>[(veq fu r0 fu).s])
def zpj:=(rf fu).fi (qe8 fu) [(vep fu fu).s]
def zb4:IF:=⟨.fn 3,[.h (.prod wL wB),.h (.prod wL wB)],[],_,RS.mk (.h .bool) []⟩
def veu:Fx wG zb4:=fx [(zn5 fu).p,(z8y fu).p,(zpb fu).p,vz.p,(zpj fu).p]
def vev:EI wG zb4:=(veu fu).fi (qff fu)
def zqw:(zb4.e (qff fu)).Sound wG:=(vev fu).h
def zpk(fu:Nat):Fx wG ⟨.fn 35,[.h wB],[],_,RS.mk (.h (.int .u64)) []⟩:=fx [] [lb 232 [(3,.h (.int .u64)),(6,.h wB),(7,wH),(8,wH)]]
def vew:Nat->(zpk fu).L 0:=Fx.lq (qlq fu) (q1w fu) (fun r0=>[r0.s])
def vex:=(zpk fu).fi (qr5 fu) [(vew fu fu).s]
def vey:EI wG ⟨.fn 11,[.h (.prod wL wB)],[],_,RS.mk (.tup [.h (.int .u64),.h (.prod wI wI)]) []⟩:=(fx [(qx2 fu).p,li.p,(vex fu).p,jr.p]).fi (q1r fu)
def zpl(fu:Nat):Fx wG ⟨.fn 12,[wS],[],_,RS.mk (.h (.int .u64)) []⟩:=fx [] [lb 464 [(0,wS),(3,.h (.int .u64)),(4,wH)]]
def vez:Nat->(zpl fu).L 0:=Fx.lq (qk4 fu) (q0t fu) (fun r0=>[r0.s])
def ve0:=(zpl fu).fi (q0s fu) [(vez fu fu).s]
def zb6:IF:=⟨.fn 4,[.h (.prod wL wB)],[],_,RS.mk (.h .bool) []⟩
def ve1:Fx wG zb6:=fx [(zn5 fu).p,(qx2 fu).p,(vey fu).p,(zpb fu).p,(zpj fu).p,(ve0 fu).p]
def ve2:EI wG zb6:=(ve1 fu).fi (qfe fu)
def zqv:(zb6.e (qfe fu)).Sound wG:=(ve2 fu).h
end
end
end Go.Sym
