/- What the claim rests on, part 4: gathered texts. -/
import Derived.Shelf.LaysC
import Derived.Shelf.LaysM
import Derived.Shelf.SlGeneric
import Derived.Shelf.SlLaysF0
import Derived.Ground.NamesProg
import Derived.Test.YtbcijcbgdaggdaaGreatDoorProg
import Derived.Below
import Derived.Tactics
import Derived.Tactics2
import Derived.Laws.AppendOwn
import Derived.Shelf.Strconv.Itoa4
import Derived.Shelf.Bytes.SlIndexWhole
import Derived.Shelf.Strconv.AtoiAll
import Derived.Shelf.Strconv.ErrVarAll
import Derived.Shelf.SlicesE.Clone
import Derived.Shelf.SlSortCmp.NoneTotal
import Derived.Shelf.Strings.BuilderCap
import Derived.Shelf.Unicode.DecodeAny
import Derived.Laws.DeepStrings4
import Derived.Deep.LoopGhost
import Derived.Deep.DeepCutAuto
import Derived.Deep.DeepFit
import Derived.Deep.DeepMust
import Derived.Shelf.Unicode.ValidAny
import Derived.Shelf.Strings.Count
import Derived.Deep.OwnRows
import Derived.Laws.CopyRow
import Derived.Laws.IdiomStrings
import Derived.Laws.CopyOwn
import Derived.Lib.SlBytesConst
import Derived.Test.YtbcijcbgdaggdaaGreatDoorRows
import Derived.Defers
import Derived.Laws.Pointers
import Derived.Laws.LoneSync
import Derived.RegionTactic
import Derived.RegionCalls
import Derived.ChangeAlike
import Derived.Laws.NewBlocks
import Derived.Laws.ByValue
import Derived.Shelf.Strings.Repeat
import Derived.Test.YtbcijcbgdaggdaaGreatDoorSyT3
set_option maxRecDepth 100000
set_option linter.defProp false
set_option linter.unusedSimpArgs false
set_option linter.unusedVariables false
namespace Go.Proofs
open Go.Shelf
def Tryz.lfn{α:Type}{a:Option α}{b c:α}(h:a=some b)(e:b=c:=by kernel_rfl):a=some c:=h.trans (congrArg some e)
def Tryz.uniR:Go.Shelf.Ren:=⟨fun|99=>99|105=>67|115=>22|129=>189|138=>359|143=>362|165=>100|166=>101|167=>289|169=>103|170=>102|171=>38|172=>270|185=>139|187=>154|195=>360|196=>208|197=>239|205=>323|206=>142|212=>98|217=>267|218=>361|219=>257|224=>184|225=>266|240=>143|241=>144|243=>69|244=>284|245=>285|246=>104|247=>300|253=>183|254=>185|255=>194|259=>236|260=>258|263=>140|264=>141|266=>283|267=>276|270=>288|276=>186|277=>187|279=>301|280=>302|281=>303|282=>304|283=>145|284=>146|285=>147|286=>148|287=>321|291=>222|314=>290|316=>322|317=>188|318=>190|319=>191|320=>192|321=>329|322=>330|337=>223|338=>224|n=>n,fun|0=>0|2=>2|3=>3|4=>4|5=>5|9=>9|12=>12|20=>20|21=>21|37=>23|46=>144|51=>182|53=>46|70=>147|72=>149|75=>152|76=>153|80=>156|85=>348|105=>179|109=>145|119=>267|127=>187|138=>269|139=>270|143=>374|145=>376|146=>183|148=>185|164=>221|167=>347|168=>350|171=>188|173=>191|175=>363|210=>366|212=>225|213=>226|232=>290|233=>291|n=>n,fun|1=>0|3=>2|4=>3|15=>6|16=>7|17=>1|18=>4|19=>5|n=>n⟩
abbrev Tryz.laysM171_ren:Go.Shelf.Ren:=Tryz.uniR
def Tryz.laysM171:Go.Proofs.LaysM.n171 Tryz.prog Tryz.laysM171_ren:={
 mixed:=by kernel_rfl
 f129:=Tryz.lfn Tryz.func189
 f171:=Tryz.lfn Tryz.func38
 f243:=Tryz.lfn Tryz.func69
 f246:=Tryz.lfn Tryz.func104
 f283:=Tryz.lfn Tryz.func145
 f284:=Tryz.lfn Tryz.func146
 f285:=Tryz.lfn Tryz.func147
 f286:=Tryz.lfn Tryz.func148
 f317:=Tryz.lfn Tryz.func188
 f318:=Tryz.lfn Tryz.func190
 f319:=Tryz.lfn Tryz.func191
 f320:=Tryz.lfn Tryz.func192
 f337:=Tryz.lfn Tryz.func223
 f338:=Tryz.lfn Tryz.func224
 t0:=Tryz.underlying0
 a0:=Tryz.isAgg0
 z0:=Tryz.sizeOf0
 v0:=Tryz.zeroValue0
 t2:=Tryz.underlying2
 a2:=Tryz.isAgg2
 z2:=Tryz.sizeOf2
 v2:=Tryz.zeroValue2
 t3:=Tryz.underlying3
 a3:=Tryz.isAgg3
 z3:=Tryz.sizeOf3
 v3:=Tryz.zeroValue3
 t4:=Tryz.underlying4
 a4:=Tryz.isAgg4
 z4:=Tryz.sizeOf4
 v4:=Tryz.zeroValue4
 t5:=Tryz.underlying5
 a5:=Tryz.isAgg5
 z5:=Tryz.sizeOf5
 v5:=Tryz.zeroValue5
 t9:=Tryz.underlying9
 a9:=Tryz.isAgg9
 z9:=Tryz.sizeOf9
 v9:=Tryz.zeroValue9
 t20:=Tryz.underlying20
 a20:=Tryz.isAgg20
 z20:=Tryz.sizeOf20
 v20:=Tryz.zeroValue20
 t37:=Tryz.underlying23
 a37:=Tryz.isAgg23
 z37:=Tryz.sizeOf23
 v37:=Tryz.zeroValue23
 t46:=Tryz.underlying144
 a46:=Tryz.isAgg144
 z46:=Tryz.sizeOf144
 v46:=Tryz.zeroValue144
 t51:=Tryz.underlying182
 a51:=Tryz.isAgg182
 z51:=Tryz.sizeOf182
 v51:=Tryz.zeroValue182
 t53:=Tryz.underlying46
 a53:=Tryz.isAgg46
 z53:=Tryz.sizeOf46
 v53:=Tryz.zeroValue46
 t171:=Tryz.underlying188
 a171:=Tryz.isAgg188
 z171:=Tryz.sizeOf188
 v171:=Tryz.zeroValue188
 t173:=Tryz.underlying191
 a173:=Tryz.isAgg191
 z173:=Tryz.sizeOf191
 v173:=Tryz.zeroValue191
 t212:=Tryz.underlying225
 a212:=Tryz.isAgg225
 z212:=Tryz.sizeOf225
 v212:=Tryz.zeroValue225
 t213:=Tryz.underlying226
 a213:=Tryz.isAgg226
 z213:=Tryz.sizeOf226
 t232:=Tryz.underlying290
 a232:=Tryz.isAgg290
 z232:=Tryz.sizeOf290
 v232:=Tryz.zeroValue290
 t233:=Tryz.underlying291
 a233:=Tryz.isAgg291
 z233:=Tryz.sizeOf291
 v233:=Tryz.zeroValue291
 g17:=by kernel_rfl
 g18:=by kernel_rfl
 g19:=by kernel_rfl
 i0:=by kernel_rfl
 i2:=by kernel_rfl
 i3:=by kernel_rfl
 i4:=by kernel_rfl
 i5:=by kernel_rfl
 i9:=by kernel_rfl
 i20:=by kernel_rfl
 i37:=by kernel_rfl
 i46:=by kernel_rfl
 i51:=by kernel_rfl
 i53:=by kernel_rfl
 i171:=by kernel_rfl
 i173:=by kernel_rfl
 i212:=by kernel_rfl
 i232:=by kernel_rfl
 i233:=by kernel_rfl
 m17:=by kernel_rfl
 m18:=by kernel_rfl
 m19:=by kernel_rfl }
abbrev Tryz.laysC172_ren:Go.Shelf.Ren:=Tryz.uniR
def Tryz.laysC172:Go.Proofs.LaysC.n172 Tryz.prog Tryz.laysC172_ren:={ Tryz.laysM171 with
 f172:=Tryz.lfn Tryz.func270
 f205:=Tryz.lfn Tryz.func323
 f244:=Tryz.lfn Tryz.func284
 f245:=Tryz.lfn Tryz.func285
 f247:=Tryz.lfn Tryz.func300
 f279:=Tryz.lfn Tryz.func301
 f280:=Tryz.lfn Tryz.func302
 f281:=Tryz.lfn Tryz.func303
 f282:=Tryz.lfn Tryz.func304
 f287:=Tryz.lfn Tryz.func321
 f316:=Tryz.lfn Tryz.func322
 f321:=Tryz.lfn Tryz.func329
 f322:=Tryz.lfn Tryz.func330
 t21:=Tryz.underlying21
 a21:=Tryz.isAgg21
 z21:=Tryz.sizeOf21
 v21:=Tryz.zeroValue21
 t75:=Tryz.underlying152
 a75:=Tryz.isAgg152
 z75:=Tryz.sizeOf152
 v75:=Tryz.zeroValue152
 t76:=Tryz.underlying153
 a76:=Tryz.isAgg153
 z76:=Tryz.sizeOf153
 v76:=Tryz.zeroValue153
 t85:=Tryz.underlying348
 a85:=Tryz.isAgg348
 z85:=Tryz.sizeOf348
 v85:=Tryz.zeroValue348
 t127:=Tryz.underlying187
 a127:=Tryz.isAgg187
 z127:=Tryz.sizeOf187
 v127:=Tryz.zeroValue187
 t143:=Tryz.underlying374
 a143:=Tryz.isAgg374
 z143:=Tryz.sizeOf374
 v143:=Tryz.zeroValue374
 t145:=Tryz.underlying376
 a145:=Tryz.isAgg376
 z145:=Tryz.sizeOf376
 v145:=Tryz.zeroValue376
 t167:=Tryz.underlying347
 a167:=Tryz.isAgg347
 z167:=Tryz.sizeOf347
 v167:=Tryz.zeroValue347
 t168:=Tryz.underlying350
 a168:=Tryz.isAgg350
 z168:=Tryz.sizeOf350
 v168:=Tryz.zeroValue350
 t175:=Tryz.underlying363
 a175:=Tryz.isAgg363
 z175:=Tryz.sizeOf363
 v175:=Tryz.zeroValue363
 t210:=Tryz.underlying366
 a210:=Tryz.isAgg366
 z210:=Tryz.sizeOf366
 v210:=Tryz.zeroValue366
 g15:=by kernel_rfl
 g16:=by kernel_rfl
 t80:=Tryz.underlying156
 a80:=Tryz.isAgg156
 z80:=Tryz.sizeOf156
 v80:=Tryz.zeroValue156
 i21:=by kernel_rfl
 i75:=by kernel_rfl
 i76:=by kernel_rfl
 i80:=by kernel_rfl
 i85:=by kernel_rfl
 i127:=by kernel_rfl
 i143:=by kernel_rfl
 i145:=by kernel_rfl
 i167:=by kernel_rfl
 i168:=by kernel_rfl
 i175:=by kernel_rfl
 i210:=by kernel_rfl
 m15:=by kernel_rfl
 m16:=by kernel_rfl
 c0:=by kernel_rfl
 c2:=by kernel_rfl
 c3:=by kernel_rfl
 c4:=by kernel_rfl
 c5:=by kernel_rfl
 c9:=by kernel_rfl
 c20:=by kernel_rfl
 c21:=by kernel_rfl
 c37:=by kernel_rfl
 c46:=by kernel_rfl
 c51:=by kernel_rfl
 c53:=by kernel_rfl
 c75:=by kernel_rfl
 c76:=by kernel_rfl
 c80:=by kernel_rfl
 c85:=by kernel_rfl
 c127:=by kernel_rfl
 c143:=by kernel_rfl
 c145:=by kernel_rfl
 c167:=by kernel_rfl
 c168:=by kernel_rfl
 c171:=by kernel_rfl
 c173:=by kernel_rfl
 c175:=by kernel_rfl
 c210:=by kernel_rfl
 c212:=by kernel_rfl
 c213:=by kernel_rfl
 c232:=by kernel_rfl
 c233:=by kernel_rfl }
abbrev Tryz.lays185_ren:Go.Shelf.Ren:=Tryz.uniR
def Tryz.lays185:Go.Proofs.Lays.n185 Tryz.prog Tryz.lays185_ren:={ Tryz.laysM171 with
 f115:=Tryz.lfn Tryz.func22
 f185:=Tryz.lfn Tryz.func139
 f187:=Tryz.lfn Tryz.func154
 f224:=Tryz.lfn Tryz.func184
 f253:=Tryz.lfn Tryz.func183
 f254:=Tryz.lfn Tryz.func185
 f255:=Tryz.lfn Tryz.func194
 f291:=Tryz.lfn Tryz.func222
 t146:=Tryz.underlying183
 a146:=Tryz.isAgg183
 z146:=Tryz.sizeOf183
 v146:=Tryz.zeroValue183
 g1:=by kernel_rfl }
abbrev Tryz.lays138_ren:Go.Shelf.Ren:=Tryz.uniR
def Tryz.lays138:Go.Proofs.Lays.n138 Tryz.prog Tryz.lays138_ren:={ Tryz.laysM171,Tryz.lays185 with
 f138:=Tryz.lfn Tryz.func359
 f143:=Tryz.lfn Tryz.func362
 f195:=Tryz.lfn Tryz.func360
 f217:=Tryz.lfn Tryz.func267
 f218:=Tryz.lfn Tryz.func361
 f219:=Tryz.lfn Tryz.func257
 f225:=Tryz.lfn Tryz.func266
 f266:=Tryz.lfn Tryz.func283
 f267:=Tryz.lfn Tryz.func276
 f314:=Tryz.lfn Tryz.func290 }
abbrev Tryz.lays165_ren:Go.Shelf.Ren:=Tryz.uniR
def Tryz.lays165:Go.Proofs.Lays.n165 Tryz.prog Tryz.lays165_ren:={ Tryz.laysM171 with
 f165:=Tryz.lfn Tryz.func100
 f240:=Tryz.lfn Tryz.func143
 f241:=Tryz.lfn Tryz.func144
 f276:=Tryz.lfn Tryz.func186
 f277:=Tryz.lfn Tryz.func187
 t70:=Tryz.underlying147
 a70:=Tryz.isAgg147
 z70:=Tryz.sizeOf147
 v70:=Tryz.zeroValue147
 t72:=Tryz.underlying149
 a72:=Tryz.isAgg149
 z72:=Tryz.sizeOf149
 v72:=Tryz.zeroValue149
 t164:=Tryz.underlying221
 a164:=Tryz.isAgg221
 z164:=Tryz.sizeOf221
 v164:=Tryz.zeroValue221 }
abbrev Tryz.lays169_ren:Go.Shelf.Ren:=Tryz.uniR
def Tryz.lays169:Go.Proofs.Lays.n169 Tryz.prog Tryz.lays169_ren:={ Tryz.laysM171,Tryz.lays165,Tryz.laysC172 with
 f169:=Tryz.lfn Tryz.func103 }
abbrev Tryz.lays196_ren:Go.Shelf.Ren:=Tryz.uniR
def Tryz.lays196:Go.Proofs.Lays.n196 Tryz.prog Tryz.lays196_ren:={ Tryz.laysM171 with
 f196:=Tryz.lfn Tryz.func208
 f259:=Tryz.lfn Tryz.func236
 t12:=Tryz.underlying12
 a12:=Tryz.isAgg12
 z12:=Tryz.sizeOf12
 v12:=Tryz.zeroValue12
 t119:=Tryz.underlying267
 a119:=Tryz.isAgg267
 z119:=Tryz.sizeOf267
 t138:=Tryz.underlying269
 a138:=Tryz.isAgg269
 z138:=Tryz.sizeOf269
 v138:=Tryz.zeroValue269
 t139:=Tryz.underlying270
 a139:=Tryz.isAgg270
 z139:=Tryz.sizeOf270
 v139:=Tryz.zeroValue270
 g3:=by kernel_rfl
 g4:=by kernel_rfl }
abbrev Tryz.lays197_ren:Go.Shelf.Ren:=Tryz.uniR
def Tryz.lays197:Go.Proofs.Lays.n197 Tryz.prog Tryz.lays197_ren:={ Tryz.laysM171,Tryz.laysC172,Tryz.lays196 with
 f197:=Tryz.lfn Tryz.func239
 f260:=Tryz.lfn Tryz.func258
 t105:=Tryz.underlying179
 a105:=Tryz.isAgg179
 z105:=Tryz.sizeOf179
 v105:=Tryz.zeroValue179 }
abbrev Tryz.lays105_ren:Go.Shelf.Ren:=Tryz.uniR
def Tryz.lays105:Go.Proofs.Lays.n105 Tryz.prog Tryz.lays105_ren:={ Tryz.laysM171,Tryz.lays165,Tryz.lays169,Tryz.laysC172,Tryz.lays185 with
 f99:=Tryz.lfn Tryz.func99
 f105:=Tryz.lfn Tryz.func67
 f166:=Tryz.lfn Tryz.func101
 f170:=Tryz.lfn Tryz.func102
 f206:=Tryz.lfn Tryz.func142
 f212:=Tryz.lfn Tryz.func98
 f263:=Tryz.lfn Tryz.func140
 f264:=Tryz.lfn Tryz.func141
 t109:=Tryz.underlying145
 a109:=Tryz.isAgg145
 z109:=Tryz.sizeOf145
 v109:=Tryz.zeroValue145
 t148:=Tryz.underlying185
 a148:=Tryz.isAgg185
 z148:=Tryz.sizeOf185
 v148:=Tryz.zeroValue185 }
def Tryz.sortP_ren:Go.Shelf.Ren:=⟨fun|6=>272|15=>287|14=>286|28=>313|29=>189|20=>305|21=>306|22=>307|23=>308|24=>309|25=>310|26=>311|27=>312|46=>324|47=>325|48=>326|49=>327|50=>328|57=>331|n=>n,fun|22=>279|24=>281|25=>319|3=>3|39=>144|0=>0|53=>182|55=>46|4=>4|46=>355|45=>354|50=>296|5=>5|9=>9|66=>368|70=>372|76=>377|77=>204|n=>n,fun|n=>n⟩
def Tryz.sortP:Go.Proofs.SlLaysF0.n6 Tryz.prog Tryz.sortP_ren:={
 mixed:=by kernel_rfl
 f6:=⟨Tryz.f272.name,by decide,Tryz.lfn Tryz.func272⟩
 f14:=⟨Tryz.f286.name,by decide,Tryz.lfn Tryz.func286⟩
 f15:=Tryz.lfn Tryz.func287
 f20:=⟨Tryz.f305.name,by decide,Tryz.lfn Tryz.func305⟩
 f21:=⟨Tryz.f306.name,by decide,Tryz.lfn Tryz.func306⟩
 f22:=⟨Tryz.f307.name,by decide,Tryz.lfn Tryz.func307⟩
 f23:=⟨Tryz.f308.name,by decide,Tryz.lfn Tryz.func308⟩
 f24:=⟨Tryz.f309.name,by decide,Tryz.lfn Tryz.func309⟩
 f25:=⟨Tryz.f310.name,by decide,Tryz.lfn Tryz.func310⟩
 f26:=⟨Tryz.f311.name,by decide,Tryz.lfn Tryz.func311⟩
 f27:=⟨Tryz.f312.name,by decide,Tryz.lfn Tryz.func312⟩
 f28:=Tryz.lfn Tryz.func313
 f29:=Tryz.lfn Tryz.func189
 f46:=⟨Tryz.f324.name,by decide,Tryz.lfn Tryz.func324⟩
 f47:=Tryz.lfn Tryz.func325
 f48:=Tryz.lfn Tryz.func326
 f49:=⟨Tryz.f327.name,by decide,Tryz.lfn Tryz.func327⟩
 f50:=⟨Tryz.f328.name,by decide,Tryz.lfn Tryz.func328⟩
 f57:=⟨Tryz.f331.name,by decide,Tryz.lfn Tryz.func331⟩
 t0:=Tryz.underlying0
 a0:=Tryz.isAgg0
 z0:=Tryz.sizeOf0
 v0:=Tryz.zeroValue0
 t3:=Tryz.underlying3
 a3:=Tryz.isAgg3
 z3:=Tryz.sizeOf3
 v3:=Tryz.zeroValue3
 t4:=Tryz.underlying4
 a4:=Tryz.isAgg4
 z4:=Tryz.sizeOf4
 v4:=Tryz.zeroValue4
 t5:=Tryz.underlying5
 a5:=Tryz.isAgg5
 z5:=Tryz.sizeOf5
 v5:=Tryz.zeroValue5
 t9:=Tryz.underlying9
 a9:=Tryz.isAgg9
 z9:=Tryz.sizeOf9
 v9:=Tryz.zeroValue9
 t22:=Tryz.underlying279
 a22:=Tryz.isAgg279
 z22:=Tryz.sizeOf279
 v22:=Tryz.zeroValue279
 t25:=Tryz.underlying319
 a25:=Tryz.isAgg319
 z25:=Tryz.sizeOf319
 v25:=Tryz.zeroValue319
 t39:=Tryz.underlying144
 a39:=Tryz.isAgg144
 z39:=Tryz.sizeOf144
 v39:=Tryz.zeroValue144
 t45:=Tryz.underlying354
 a45:=Tryz.isAgg354
 z45:=Tryz.sizeOf354
 v45:=Tryz.zeroValue354
 t46:=Tryz.underlying355
 a46:=Tryz.isAgg355
 z46:=Tryz.sizeOf355
 v46:=Tryz.zeroValue355
 t50:=Tryz.underlying296
 a50:=Tryz.isAgg296
 z50:=Tryz.sizeOf296
 v50:=Tryz.zeroValue296
 t53:=Tryz.underlying182
 a53:=Tryz.isAgg182
 z53:=Tryz.sizeOf182
 v53:=Tryz.zeroValue182
 t55:=Tryz.underlying46
 a55:=Tryz.isAgg46
 z55:=Tryz.sizeOf46
 v55:=Tryz.zeroValue46
 t66:=Tryz.underlying368
 a66:=Tryz.isAgg368
 z66:=Tryz.sizeOf368
 v66:=Tryz.zeroValue368
 t70:=Tryz.underlying372
 a70:=Tryz.isAgg372
 z70:=Tryz.sizeOf372
 v70:=Tryz.zeroValue372
 t76:=Tryz.underlying377
 a76:=Tryz.isAgg377
 z76:=Tryz.sizeOf377
 v76:=Tryz.zeroValue377
 t77:=Tryz.underlying204
 a77:=Tryz.isAgg204
 z77:=Tryz.sizeOf204
 v77:=Tryz.zeroValue204 }
end Go.Proofs
namespace Go.Sym
open Go.RowKit
variable[LC]
def cw.data{P:Program}{f:FuncId}{xs:List AV}{r:AV}
  (h:∀(w:World)(G:Gh)(vs:List Value),cg G [] w->ak xs G vs->Calls P f vs.toArray w fun e w'=>∃v,e = .returned v/\aj r G v/\bu w w'):cw P f xs [] r []:=by
 intro w G vs hm hr;refine(h w G vs hm hr).mono ?_;rintro e w' ⟨v,rfl,hv,hs⟩
 refine⟨v,G,rfl,?_,hv⟩;exact(qcb hm).extend (new:=[]) (Gh.le.refl G) hs (fun _ _ _ h => .inl h) (fun b o v hv=>by
  have hc:=hm.agree b o v hv;have hlt:=World.block_lt_of_cell? _ _ hc;rw[World.cell?_of_block (w:=w) (hs.block b hlt (fun h=>h))];exact hc) hm.one (fun n bx h=>by cases h) (fun n bx h=>by cases h) (fun n m bx bx' b h=>by cases h)
def bu.of_below{w w':World}(h:Below w.heap.size w w'):bu w w':=⟨h.os,h.tape,h.output,h.size,fun k hk _=>h.block k hk⟩
def bu.refl(w:World):bu w w:=⟨rfl,rfl,rfl,wF _,fun _ _ _=>rfl⟩
def cw.fresh{P:Program}{f:FuncId}{xs:List AV}{τ:Ty}{l:List τ.den}{E:TypeId}
  (h:∀(w:World)(G:Gh)(vs:List Value),cg G [] w->ak xs G vs->Calls P f vs.toArray w fun e w'=>∃ad c us,e = .returned (.slice ad l.length c)/\fc w' E τ.sz ad l.length c us/\ak (l.flatMap τ.enc) G.data us/\(∀b,cq ad=some b->w.heap.size<=b)/\bu w w') :
  cw P f xs [] (.own 0) [(0,.row τ l E)]:=by
 intro w G vs hm hr;refine(h w G vs hm hr).mono ?_;rintro e w' ⟨ad,c,us,rfl,hrow,hus,hb,hs⟩
 let G':Gh:={ imm:=G.imm,box:=fun _=>none,own:=fun m=>bif Nat.beq m 0 then some (ad,l.length,c) else none }
 have hself:(G'.own 0)=some (ad,l.length,c):=rfl;have hag:∀b o v,G.imm b o=some v->w'.cell? ⟨b,o,none⟩=some v:=fun b o v hv=>by
  have hc:=hm.agree b o v hv;have hlt:=World.block_lt_of_cell? _ _ hc;rw[World.cell?_of_block (w:=w) (hs.block b hlt (fun h=>h))];exact hc
 have hlt:∀b o v,G.imm b o=some v->b<w.heap.size:=fun b o v hv=>World.block_lt_of_cell? _ _ (hm.agree b o v hv)
 have hlk:∀m b,ae [(0,ah.row τ l E)] m=some b->m=0/\b = .row τ l E:=fun m b hh=>by
  simp only[ae]at hh;cases hb:Nat.beq 0 m
  ·rw[hb]at hh;cases hh
  ·rw[hb]at hh;simp only[qT,qI]at hh;exact⟨(qN hb).symm,hh.symm⟩
 have hat:G'.at 0 (.row τ l E)=cq ad:=by
  simp only[Gh.at,hself];cases ad<;>rfl
 refine⟨.slice ad l.length c,G',rfl,⟨⟨hag,hm.one,fun m b hh => ?_,fun m m' b b' c' h1 h2 _ _ => ?_,LC.mono (fun _ _ _ h=>h) (fun b o v h=>hs.block b (hlt b o v h) fun h=>h) hm.tab⟩,⟨hs.os,hs.tape,hs.output,hs.size,fun k hk _=>hs.block k hk fun h=>h⟩,fun _ _ _ h=>h,fun _ _ _ h => .inl h,fun m b c' h1 h2 => ?_,fun _ _ _ h=>(by cases h),fun _ _ _ h=>(by cases h)⟩,ad,l.length,c,hself,rfl⟩
 ·obtain⟨rfl,rfl⟩:=hlk m b hh;refine cz.row hself hrow (ak.data_le (fun _ _ _ h=>h) hus) fun b hb' o => ?_
  cases hq:G.imm b o with|none=>rfl|some v=>have:=hlt b o v hq;have:=hb b hb';omega
 ·obtain⟨rfl,_⟩:=hlk m b h1;obtain⟨rfl,_⟩:=hlk m' b' h2;rfl
 ·obtain⟨rfl,rfl⟩:=hlk m b h1;rw[hat]at h2;exact .inl (hb c' h2)
def zcd{P:Program}{G:Gh}{w:World}(hm:cg G [] w){τ:Ty}{l:List τ.den}{v:Value}(h:aj (.sl τ l) G v) :
  ∃news,(∀w,(Builtin.lenOf v).run P w = .ok l.length w)/\(∀w',(∀k,k<w.heap.size->w'.heap[k]? = w.heap[k]?)->(Builtin.firstCells τ.sz l.length v).run P w' = .ok news.toArray w')/\ak (l.flatMap τ.enc) G.data news/\∀u∈news,u.oneCell'=true:=by
 let s:St:={ n:=0,fr:=[],hp:=[],nx:=0,df:=[] }
 have hr:ai w G.data [] G.data s { tmps:=#[],defers:=[] } w:=
  ⟨⟨[],rfl,rfl⟩,rfl,fun i x h=>(by cases h),fun _ _ _=>⟨rfl,rfl⟩,qcb ⟨hm.agree,hm.one,fun _ _ h=>(by cases h),fun _ _ _ _ _ h=>(by cases h),hm.tab⟩⟩
 rcases qii hr (x := .sl τ l) (v:=v) (flat:=l.flatMap τ.enc) (n:=l.length) h rfl with⟨b,hb,_⟩|⟨ad,c,us,rfl,h1,h2,h3⟩
 ·cases hb
 ·refine⟨us,fun w=>by simp[Builtin.lenOf],fun w' hw' => ?_,h1,h2⟩
  have hul:us.length=l.length*τ.sz:=by rw[← h1.length,nd]
  cases ad with
  |none=>
   have:us=[]:=by
    rcases h3 with h3|⟨_,_,h3,_⟩
    ·exact h3
    ·cases h3
   subst this;simp[Builtin.firstCells]
  |some ad=>
   have h3':us=[]\/∃b o,some ad=some (⟨b,o,none⟩:Addr)/\∀j u,us[j]? = some u->w'.cell? ⟨b,o+j,none⟩=some u:=by
    rcases h3 with h3|⟨b,o,h4,h5⟩
    ·exact .inl h3
    ·refine .inr ⟨b,o,h4,fun j u hu => ?_⟩
     have hc:=h5 j u hu;rw[World.cell?_of_block (w:=w) (hw' _ (World.block_lt_of_cell? _ _ hc))];exact hc
   have:=qc7 (P:=P) (w:=w') (ad:=ad) h3';rw[hul]at this;simp[Builtin.firstCells,this]
def zdr{P:Program}{ops:Array Oper}{rest:List Oper}{o:Oper}{a:Act}{w:World}{Q:Exit->Act->World->Prop}(hgd:o.guard=none)(s x:Operand)(t:TypeId)
  (ho:o.op = .call { callee := .builtin .append,args:=#[s,x],argTypes:=#[t,t] }) {E:TypeId} {sz:Nat} (ht:P.underlying t=some (.slice E)) (hz:mg P E=true) (hsz:dv P E=some sz) (ht2:zq P t=true)
  {ad:Option Addr} {n c:Nat} {us:List Value} (hs:a.eval s = .slice ad n c) (hrow:fc w E sz ad n c us) {v:Value} (hx:a.eval x=v) {m:Nat} {news:List Value}
  (ac:∀w,(Builtin.lenOf v).run P w = .ok m w) (hcells:∀w',w'.heap=w.heap->(Builtin.firstCells sz m v).run P w' = .ok news.toArray w') (hnl:news.length=m*sz) (hn1:∀v∈news,v.oneCell'=true) (hmax:n+m<=ax)
  (h:∀ad' c' w',fc w' E sz ad' (n+m) c' (us++news)->(cq ad'=cq ad\/∃g,cq ad'=some g/\w.heap.size<=g)->dz (fun b=>cq ad=some b) w w'->wpList P ops Q rest (a.put o.dst (.slice ad' (n+m) c')) w'):wpList P ops Q (o::rest) a w:=by
 obtain⟨i,z,hi,hz',z1,z2,z3,z4,zs⟩:=qjl hz hsz;rw[← zs]at hrow hcells hnl h;refine wpList_plain hgd fun _ hK => ?_
 obtain⟨ad',c',w',r1,r2,r3,r4⟩:=zbx (ty:=o.type) ht hi hz' z1 z2 z3 z4 ht2 hrow ac hcells hnl hn1 hmax;unfold Oper.wp execOp;simp only[ho,resolve,invoke,builtin,Sem.run_bind,Sem.run_pure,Result.andThen_ok,List.map_toArray,List.map_cons,List.map_nil,hs,hx,r1];exact hK _ _ (h ad' c' w' r2 r3 r4)
end Go.Sym
namespace Go.Sym
open Go.Proofs Go.RowKit Go.Sort
open Go.Proofs.Tryz
variable[LC]
def bu.below{w w':World}(h:bu w w'):Below w.heap.size w w':=⟨h.os,h.tape,h.output,h.size,fun k hk=>h.block k hk (fun h=>h)⟩
def cg.still{G:Gh}{w w':World}(hm:cg G [] w)(hs:bu w w'):cg G [] w':=
 have hlt:∀b o v,G.imm b o=some v->w'.heap[b]? = w.heap[b]? := fun b o v hv=>hs.block b (World.block_lt_of_cell? _ _ (hm.agree b o v hv)) (fun h=>h)
 ⟨fun b o v hv=>by rw[World.cell?_of_block (w:=w) (hlt b o v hv)];exact hm.agree b o v hv,hm.one,fun n bx h=>(by cases h),fun n m bx bx' b h=>(by cases h),LC.mono (fun _ _ _ h=>h) hlt hm.tab⟩
def zp2{G:Gh}{w:World}(hm:cg G [] w)(hg:LC.glob 1=some ⟨.int .u64,Lib.pow10Tab⟩)(hs:(1,20)∈LC.sizes):∃t fr,w.heap[1]? = some (.cells (Lib.pow10Tab.map fun z=>Value.int .u64 z).toArray t fr):=by
 obtain⟨_,cs,t,fr,hh,hz⟩:=hm.tab.2.2.2 _ hs;refine⟨t,fr,hh.trans ?_⟩;congr 2;apply Array.ext
 ·rw[hz];simp[Lib.pow10Tab]
 ·intro j h1 h2;have hj:j<Lib.pow10Tab.length:=by simpa using h2
  have h3:=hm.agree _ _ _ (hm.tab.1 _ _ _ hg j _ (List.getElem?_eq_getElem hj));rw[show j*(Ty.int .u64).sz=j from Nat.mul_one j]at h3
  simp only[World.cell?,hh]at h3;rw[Array.getElem?_eq_getElem h1]at h3;simp only[List.getElem_toArray,List.getElem_map];exact qJ h3
def q8l{G:Gh}{w:World}(hm:cg G [] w)(hg:LC.glob 1=some ⟨.int .u64,Lib.pow10Tab⟩)(hs:(1,20)∈LC.sizes)(n:Int)(h0 : -9223372036854775808<=n)(h1:n<=9223372036854775807) :
  Calls Tryz.prog 38 #[.int .i64 n] w fun e w'=>e = .returned (.string ⟨(Lib.itoa n).toArray⟩)/\bu w w':=
 (Any.strconv_Itoa Tryz.laysM171 n h0 h1 w (by
  unfold Lib.TabIs World.var?;obtain⟨t,fr,hh⟩:=zp2 hm hg hs;rw[show Tryz.prog.globalNamed _=some 1 by kernel_rfl,qB,hh])).mono fun e w'⟨he,k,os,hw⟩=>⟨he,by
   subst hw;refine⟨rfl,rfl,rfl,by simp[grow],fun j hj _ => ?_⟩
   show(w.heap++os)[j]? = _;rw[Array.getElem?_append_left hj]⟩
def qxq:IF:=⟨.fn 38,[.h (.int .i64)],[],_,RS.mk (.h .str) []⟩
def q8m(hg:LC.glob 1=some ⟨.int .u64,Lib.pow10Tab⟩)(hs:(1,20)∈LC.sizes):(qxq.e mh).Sound Tryz.prog:=fun d d' r h=>by
 have h:mh d.1=some r:=h;unfold mh at h;cases hd:decide (-9223372036854775808<=(show Int from d.1)/\(show Int from d.1)<=9223372036854775807)<;>rw[hd]at h<;>simp only[qT,qF,reduceCtorEq]at h
 have h:=qJ h;subst h;have hd:=of_decide_eq_true hd;refine⟨call38,cw.data fun w G vs hm hr => ?_⟩
 match vs,hr with
 |[v],⟨h1,_⟩=>
  have h1:v = .int .i64 d.1:=h1;subst h1;exact(q8l hm hg hs _ hd.1 hd.2).mono fun e w'⟨he,hw⟩=>⟨_,he,rfl,hw⟩
def zm1{G:Gh}{w:World}(hm:cg G [] w)(hi:0∈LC.ints){a b:Bs}{u v:Value}(hu:aj (.sl .byte a) G u)(hv:aj (.sl .byte b) G v)(h2:2<=b.length)(hb:b.length<=maxLen)(ha:a.length<4294967281) :
  Calls Tryz.prog 139 #[u,v] w fun e w'=>e = .returned (.int .i64 (Lib.index a b))/\bu w w':=by
 obtain⟨p,c,rfl,hc,hp⟩:jo 1 (Ty.byte.At G.imm) a u:=hu;obtain⟨q,d,rfl,hd,hq⟩:jo 1 (Ty.byte.At G.imm) b v:=hv;by_cases hlt:a.length<b.length
 ·have h:=Any.bytes_Index_longer Tryz.lays185 p q a.length c b.length d w h2 hlt (by unfold maxLen at hb;omega)
  rw[Lib.index_past (i:=0) (by intro e;subst e;simp at h2) (fun j hj=>absurd hj (Nat.not_lt_zero _)) (by simpa using hlt)]
  exact h.mono fun e w'⟨he,hw⟩=>⟨he,by subst hw;exact bu.refl _⟩
 ·rcases hp with rfl|⟨g,o,rfl,hcells⟩
  ·exact absurd (show([]:Bs).length<b.length from by show 0<_;omega) hlt
  rcases hq with rfl|⟨g',o',rfl,hcells'⟩
  ·exact absurd h2 (by show ¬2<=0;omega)
  obtain⟨k,hk⟩:=hm.tab.2.1 _ hi;have hk:=hm.agree _ _ _ hk;have bb:∀l:Bs,Lib.bytesOf (l.map fun x=>(x.toNat:Int))=l:=fun l=>by
   unfold Lib.bytesOf;rw[List.map_map];have:((fun n:Int=>UInt8.ofNat n.toNat) ∘ fun x:UInt8=>(x.toNat:Int))=id:=by funext x;simp
   rw[this,List.map_id]
  have cl:∀(l:Bs)(g o:Nat),(∀(j:Nat)(x:UInt8),l[j]? = some x->Ty.byte.At G.imm x g (o+j*1))->∀i,i<l.length->w.cell? ((⟨g,o,none⟩:Addr).add i)=some (.int .u8 ((l.map fun x=>(x.toNat:Int)).getD i 0)):=fun l g o h i hi=>by
   have h1:G.imm g (o+i*1)=some (.int .u8 l[i].toNat):=h i _ (List.getElem?_eq_getElem hi);have h1:=hm.agree _ _ _ h1;rw[Nat.mul_one]at h1;rw[Lib.add_plain',h1];simp[List.getD_eq_getElem?_getD,hi]
  have rg:∀l:Bs,∀x∈l.map (fun x=>(x.toNat:Int)),0<=x/\x<256:=fun l x hx=>by
   obtain⟨c,_,rfl⟩:=List.mem_map.1 hx;have:=c.toNat_lt;omega
  have h:=Any.bytes_Index_at Tryz.lays185 ⟨g,o,none⟩ ⟨g',o',none⟩ a.length c b.length d (a.map fun x=>(x.toNat:Int)) (b.map fun x=>(x.toNat:Int)) k w (by simp) (by simp) (rg a) (rg b) (cl a g o hcells) (cl b g' o' hcells') hc ha (by unfold maxLen at hb;omega) hk
  rw[bb,bb]at h;exact h.mono fun e w'⟨he,n,hw⟩=>⟨he,by subst hw;exact⟨rfl,rfl,rfl,wF _,fun _ _ _=>rfl⟩⟩
def qv7:IF:=⟨.fn 139,[.h (.list .byte),.h (.list .byte)],[],_,RS.mk (.h (.int .i64)) []⟩
def q5d(hi:0∈LC.ints):(qv7.e qd).Sound Tryz.prog:=fun d d' r h=>by
 obtain⟨a,b,_⟩:=d;have h:qd a b=some r:=h;unfold qd at h;cases hd:decide (2<=List.length (α:=UInt8) b/\List.length (α:=UInt8) a<4294967281/\List.length (α:=UInt8) b<=maxLen)<;>rw[hd]at h<;>simp only[qT,qF,reduceCtorEq]at h
 have h:=qJ h;subst h;have hd:=of_decide_eq_true hd;refine⟨call139,cw.data fun w G vs hm hr => ?_⟩
 match vs,hr with
 |[u,v],⟨h1,h2,_⟩=>
  exact(zm1 hm hi h1 h2 hd.1 hd.2.2 hd.2.1).mono fun e w'⟨he,hw⟩=>⟨_,he,rfl,hw⟩
end Go.Sym
namespace Go.Sym
open Go.Proofs Go.RowKit Go.Sort
variable[LC]
def bu.trans{w w1 w2:World}(h:bu w w1)(k:bu w1 w2):bu w w2:=
 ⟨k.os.trans h.os,k.tape.trans h.tape,k.output.trans h.output,Nat.le_trans h.size k.size,fun j hj _=>(k.block j (Nat.lt_of_lt_of_le hj h.size) (fun h=>h)).trans (h.block j hj (fun h=>h))⟩
def ziy{l:Bs}{v:Int}(h:Lib.atoiAll l = .ok v) : -9223372036854775808<=v/\v<=9223372036854775807:=by
 unfold Lib.atoiAll at h;split at h
 ·cases h
 ·simp only at h;split at h
  ·cases h
  ·cases h
  ·split at h
   ·cases h
   ·split at h
    ·cases h
    ·rename_i h1 h2;injection h with h
     split at h<;>rename_i h3
     ·simp only[h3,not_true_eq_false,false_and,true_and]at h1 h2;omega
     ·simp only[h3,not_false_eq_true,true_and,false_and]at h1 h2;omega
def zox{G:Gh}{w:World}(hm:cg G [] w)(hg:LC.glob 1=some ⟨.int .u64,Lib.pow10Tab⟩)(hs:(1,20)∈LC.sizes)(h1:6∈LC.ifs)(h2:7∈LC.ifs)(s:Bs)(most:Int)(hl:s.length<=281474976710656) :
  Calls Tryz.prog 252 #[.string ⟨s.toArray⟩,.int .i64 most] w fun e w'=>e = .returned (.tuple #[.int .i64 (nn s most).1,.bool (nn s most).2])/\bu w w':=by
 have hsz:(⟨s.toArray⟩:ByteArray).size=s.length:=p8 s;have hd:(⟨s.toArray⟩:ByteArray).data.toList=s:=by simp
 have bw:∀t:ByteArray,bu w (Lib.bytesWorld w 5 t):=fun t=>by
  refine⟨rfl,rfl,rfl,?_,fun j hj _ => ?_⟩
  ·simp[Lib.bytesWorld,World.freeze]
  ·show((w.heap.push _).modify w.heap.size _)[j]? = _;rw[Array.getElem?_modify,qW (by omega),Array.getElem?_push_lt (by omega)]
   exact(Array.getElem?_eq_getElem hj).symm
 have bad:(Calls Tryz.prog 270 #[.string ⟨s.toArray⟩] w fun e w'=>(∃n t v,e = .returned (.tuple #[.int .i64 n,.iface t v]))/\bu w w') ->
   Calls Tryz.prog 252 #[.string ⟨s.toArray⟩,.int .i64 most] w fun e w'=>e = .returned (.tuple #[.int .i64 0,.bool false])/\bu w w':=fun cA=>by
  clear hg hs hm
  go_enter Tryz.func252,Tryz.ntmps252
  go_wp2_with (go_at_call 270;refine cA.mono ?_;rintro e wa ⟨⟨n,t,v,rfl⟩,sa⟩)
  all_goals (clear cA;go_ret2;exact⟨rfl,sa⟩)
 unfold nn
 cases hA:Lib.atoiAll s with
 |ok v=>
  obtain⟨b1,b2⟩:=ziy hA;have cA:Calls Tryz.prog 270 #[.string ⟨s.toArray⟩] w fun e w'=>e = .returned (.tuple #[.int .i64 v,.nilIface])/\bu w w':=
   (Any.strconv_Atoi_ok Tryz.laysC172 ⟨s.toArray⟩ (by omega) v (by rw[hd];exact hA) w).mono fun e w'⟨he,hw⟩=>⟨he,by
    rcases hw with rfl|⟨t,rfl⟩
    ·exact bu.refl _
    ·exact bw t⟩
  have cI:∀w',bu w w'->Calls Tryz.prog 38 #[.int .i64 v] w' fun e w''=>e = .returned (.string ⟨(Lib.itoa v).toArray⟩)/\bu w' w'':=fun w' h=>q8l (hm.still h) hg hs v b1 b2
  have hse:(⟨(Lib.itoa v).toArray⟩:ByteArray)=⟨s.toArray⟩↔Lib.itoa v=s:=by
   constructor
   ·intro h;have:=congrArg (fun x:ByteArray=>x.data.toList) h;simpa using this
   ·intro h;rw[h]
  show Calls Tryz.prog 252 _ w fun e w'=>e = .returned (.tuple #[.int .i64 (if Lib.itoa v=s/\0<=v/\v<=most then(v,true) else(0,false)).1,.bool (if Lib.itoa v=s/\0<=v/\v<=most then(v,true) else(0,false)).2])/\bu w w'
  generalize Lib.itoa v=t at cI hse ⊢;obtain⟨r,hr⟩:∃r,r=(if t=s/\0<=v/\v<=most then(v,true) else(0,false)):=⟨_,rfl⟩
  rw[← hr];clear hA hg hs hm
  go_enter Tryz.func252,Tryz.ntmps252
  go_wp2_with (first|(go_at_call 270;refine cA.mono ?_;rintro e wa ⟨rfl,sa⟩)|(go_at_call 38;refine(cI _ (by assumption)).mono ?_;rintro e wb ⟨rfl,sb⟩))
  all_goals (clear cA cI;go_ret2)
  all_goals (by_cases q:t=s/\0<=v/\v<=most)
  all_goals first
   |(rw[qX q]at hr;subst hr;first|exact⟨rfl,sa.trans sb⟩|(exfalso;omega)|(exfalso;exact absurd q.1 (by assumption)))
   |(rw[qW q]at hr;subst hr;first|exact⟨rfl,sa.trans sb⟩|(exfalso;exact q ⟨by assumption,by omega,by omega⟩))
 |range=>
  obtain⟨te,pe,hv⟩:=hm.tab.2.2.1 _ h2;have cA:Calls Tryz.prog 270 #[.string ⟨s.toArray⟩] w fun e w'=>(∃n t v,e = .returned (.tuple #[.int .i64 n,.iface t v]))/\bu w w':=
   (Any.strconv_Atoi_range Tryz.laysC172 ⟨s.toArray⟩ (by omega) (by rw[hd];exact hA) _ w (hm.agree _ _ _ hv) (.inr ⟨_,_,rfl⟩)).mono fun e w'⟨N,he,_,_,hw⟩=>⟨⟨_,_,_,he⟩,bu.of_below hw⟩
  exact bad cA
 |_=>
  obtain⟨te,pe,hv⟩:=hm.tab.2.2.1 _ h1;have cA:Calls Tryz.prog 270 #[.string ⟨s.toArray⟩] w fun e w'=>(∃n t v,e = .returned (.tuple #[.int .i64 n,.iface t v]))/\bu w w':=
   (Any.strconv_Atoi_syntax Tryz.laysC172 ⟨s.toArray⟩ (by omega) (by rw[hd];exact hA) _ w (hm.agree _ _ _ hv) (.inr ⟨_,_,rfl⟩)).mono fun e w'⟨N,he,_,_,hw⟩=>⟨⟨_,_,_,he⟩,bu.of_below hw⟩
  exact bad cA
def q9u:IF:=⟨.fn 252,[.h .str,.h (.int .i64)],[],_,RS.mk (.tup [.h (.int .i64),.h .bool]) []⟩
def zoz(hg:LC.glob 1=some ⟨.int .u64,Lib.pow10Tab⟩)(hs:(1,20)∈LC.sizes)(h1:6∈LC.ifs)(h2:7∈LC.ifs):(q9u.e xj).Sound Tryz.prog:=fun d d' r h=>by
 obtain⟨s,most,_⟩:=d;have h:xj s most=some r:=h;unfold xj at h;cases hd:decide (List.length (α:=UInt8) s<=281474976710656)<;>rw[hd]at h<;>simp only[qT,qF,reduceCtorEq]at h
 have h:=qJ h;subst h;refine⟨Tryz.call252,cw.data fun w G vs hm hr => ?_⟩
 match vs,hr with
 |[u,v],⟨e1,e2,_⟩=>
  have e1:u = .string ⟨List.toArray s⟩:=e1;have e2:v = .int .i64 most:=e2;subst e1 e2;exact(zox hm hg hs h1 h2 s most (of_decide_eq_true hd)).mono fun e w'⟨he,hw⟩=>⟨_,he,⟨_,rfl,rfl,rfl,trivial⟩,hw⟩
end Go.Sym
namespace Go.Sym
open Go.Proofs Go.RowKit
variable[LC]
def qn6(w:World)(o:Obj){k:Nat}(hk:k<w.heap.size):(w.alloc o).heap[k]? = w.heap[k]? := by
 show(w.heap.push _)[k]? = _;rw[Array.getElem?_push_lt hk];exact(Array.getElem?_eq_getElem hk).symm
def zbk(w:World)(E:TypeId)(sz:Nat):fc (w.alloc (.cells #[] E)) E sz (some ⟨w.heap.size,0,none⟩) 0 0 []:=
 ⟨by simp,.inr ⟨w.heap.size,#[],(0,0),rfl,by show(w.heap.push _)[w.heap.size]? = _;simp,.inl rfl,wF _,by unfold maxLen;omega,by simp,by simp,by simp⟩⟩
def zkd(l:List (.prod .str .str:Ty).den)(hd:l.length<=ax):cw Tryz.prog 87 [.sl (.prod .str .str) l] [] (.own 0) [(0,.row (.prod .str .str) l 43)]:=by
 refine cw.fresh fun w G vs hm hr => ?_
 match vs,hr with
 |[v],⟨h1,_⟩=>
  obtain⟨news,k1,k2,k3,k4⟩:=zcd (P:=Tryz.prog) hm h1;have hnl:news.length=l.length*(.prod .str .str:Ty).sz:=by rw[← k3.length];exact nd l
  obtain⟨p,c,rfl,hc,hp⟩:jo (.prod .str .str:Ty).sz ((.prod .str .str:Ty).At G.imm) l v:=h1
  cases p with
  |none=>
   have hl:l=[]:=by
    rcases hp with h|⟨_,_,h,_⟩
    ·exact h
    ·cases h
   subst hl;have e0:news=[]:=List.eq_nil_of_length_eq_zero (by rw[hnl];exact Nat.zero_mul _)
   subst e0;have hg:Calls Tryz.prog 87 #[.slice none 0 c] w fun e w'=>e = .returned (.slice none 0 0)/\w'=w:=by
    clear hp hr k1 k2 hm hnl hc hd k3 k4;have q22:∀(w:World)(a:Option Addr)(n c n' c':Nat),(binOp .eql 22 (.slice a n c) (.slice none n' c')).run Tryz.prog w = .ok (.bool a.isNone) w:=fun w a n c n' c'=>Lib.run_eql_slice_nil w _ _ a n c n' c' Tryz.underlying22
    have u22:∀w,Sem.run Tryz.prog (underlying 22) w = .ok (TypeDesc.slice 43) w:=run_underlying Tryz.underlying22
    go_enter Tryz.func87,Tryz.ntmps87
    go_wp2
    go_ret
    exact⟨rfl,rfl⟩
   exact hg.mono fun e w'⟨he,hw⟩=>⟨none,0,[],he,⟨rfl,.inl ⟨rfl,rfl,rfl⟩⟩,k3,fun b hb=>(by cases hb),by subst hw;exact bu.refl _⟩
  |some ad=>
   generalize hn:l.length=n at *;have hg:Calls Tryz.prog 87 #[.slice (some ad) n c] w fun e w'=>∃ad' c',e = .returned (.slice ad' n c')/\fc w' 43 (.prod .str .str:Ty).sz ad' n c' news/\(∀b,cq ad'=some b->w.heap.size<=b)/\bu w w':=by
    clear hm k3 hr hp hn;have q22:∀(w:World)(a:Option Addr)(n c n' c':Nat),(binOp .eql 22 (.slice a n c) (.slice none n' c')).run Tryz.prog w = .ok (.bool a.isNone) w:=fun w a n c n' c'=>Lib.run_eql_slice_nil w _ _ a n c n' c' Tryz.underlying22
    have u22:∀w,Sem.run Tryz.prog (underlying 22) w = .ok (TypeDesc.slice 43) w:=run_underlying Tryz.underlying22
    go_enter Tryz.func87,Tryz.ntmps87
    go_wp2_with (at_builtin;refine zdr rfl _ _ 22 rfl (E:=43) (sz:=(.prod .str .str:Ty).sz) (by kernel_rfl) (by kernel_rfl) (by kernel_rfl) (by kernel_rfl) rfl (zbk w 43 _) rfl k1 ?qc hnl k4 (by omega) ?_)
    case qc=>exact fun w' hw'=>k2 w' fun k hk=>by rw[hw'];exact qn6 w _ hk
    intro ad' c' w1 hrow hblk hbel
    go_wp2
    go_ret
    refine⟨ad',c',rfl,by simpa using hrow,fun b hb => ?_,⟨hbel.os,hbel.tape,hbel.output,Nat.le_trans (by show w.heap.size<=(w.heap.push _).size;simp) hbel.size,fun k hk _ => ?_⟩⟩
    ·rcases hblk with h|⟨g,h,hg⟩
     ·rw[h]at hb;injection hb with hb;have hb:w.heap.size=b:=hb;omega
     ·rw[h]at hb;injection hb with hb
      have:w.heap.size<=(w.alloc (.cells #[] 43)).heap.size:=by show w.heap.size<=(w.heap.push _).size;simp
      omega
    ·rw[hbel.block k (by show k<(w.heap.push _).size;simp;omega) (fun e=>by injection e with e;have e:w.heap.size=k:=e;omega)]
     exact qn6 w _ hk
   exact hg.mono fun e w'⟨ad',c',he,hrow,hb,hs⟩=>⟨ad',c',news,he,hrow,k3,hb,hs⟩
def qm3:IF:=⟨.fn 87,[.h (.list (.prod .str .str))],[],_,RS.mk (.own 0) [(0,.row (.prod .str .str) 43)]⟩
def qwh:(qm3.e (fa (α:=(.prod .str .str:Ty).den))).Sound Tryz.prog:=fun d d' r h=>by
 obtain⟨l,_⟩:=d;have h:(bif decide (List.length (α:=(.prod .str .str:Ty).den) l<=ax) then some (show List (.prod .str .str:Ty).den from l) else none)=some r:=h
 cases hd:decide (List.length (α:=(.prod .str .str:Ty).den) l<=ax)<;>rw[hd]at h<;>simp only[qT,qF,reduceCtorEq]at h
 have h:=qJ h;subst h;exact⟨Tryz.call87,zkd l (of_decide_eq_true hd)⟩
def zke(l:List (.byte:Ty).den)(hd:l.length<=ax):cw Tryz.prog 88 [.sl (.byte) l] [] (.own 0) [(0,.row (.byte) l 5)]:=by
 refine cw.fresh fun w G vs hm hr => ?_
 match vs,hr with
 |[v],⟨h1,_⟩=>
  obtain⟨news,k1,k2,k3,k4⟩:=zcd (P:=Tryz.prog) hm h1;have hnl:news.length=l.length*(.byte:Ty).sz:=by rw[← k3.length];exact nd l
  obtain⟨p,c,rfl,hc,hp⟩:jo (.byte:Ty).sz ((.byte:Ty).At G.imm) l v:=h1
  cases p with
  |none=>
   have hl:l=[]:=by
    rcases hp with h|⟨_,_,h,_⟩
    ·exact h
    ·cases h
   subst hl;have e0:news=[]:=List.eq_nil_of_length_eq_zero (by rw[hnl];exact Nat.zero_mul _)
   subst e0;have hg:Calls Tryz.prog 88 #[.slice none 0 c] w fun e w'=>e = .returned (.slice none 0 0)/\w'=w:=by
    clear hp hr k1 k2 hm hnl hc hd k3 k4;have q22:∀(w:World)(a:Option Addr)(n c n' c':Nat),(binOp .eql 23 (.slice a n c) (.slice none n' c')).run Tryz.prog w = .ok (.bool a.isNone) w:=fun w a n c n' c'=>Lib.run_eql_slice_nil w _ _ a n c n' c' Tryz.underlying23
    have u22:∀w,Sem.run Tryz.prog (underlying 23) w = .ok (TypeDesc.slice 5) w:=run_underlying Tryz.underlying23
    go_enter Tryz.func88,Tryz.ntmps88
    go_wp2
    go_ret
    exact⟨rfl,rfl⟩
   exact hg.mono fun e w'⟨he,hw⟩=>⟨none,0,[],he,⟨rfl,.inl ⟨rfl,rfl,rfl⟩⟩,k3,fun b hb=>(by cases hb),by subst hw;exact bu.refl _⟩
  |some ad=>
   generalize hn:l.length=n at *;have hg:Calls Tryz.prog 88 #[.slice (some ad) n c] w fun e w'=>∃ad' c',e = .returned (.slice ad' n c')/\fc w' 5 (.byte:Ty).sz ad' n c' news/\(∀b,cq ad'=some b->w.heap.size<=b)/\bu w w':=by
    clear hm k3 hr hp hn;have q22:∀(w:World)(a:Option Addr)(n c n' c':Nat),(binOp .eql 23 (.slice a n c) (.slice none n' c')).run Tryz.prog w = .ok (.bool a.isNone) w:=fun w a n c n' c'=>Lib.run_eql_slice_nil w _ _ a n c n' c' Tryz.underlying23
    have u22:∀w,Sem.run Tryz.prog (underlying 23) w = .ok (TypeDesc.slice 5) w:=run_underlying Tryz.underlying23
    go_enter Tryz.func88,Tryz.ntmps88
    go_wp2_with (at_builtin;refine zdr rfl _ _ 23 rfl (E:=5) (sz:=(.byte:Ty).sz) (by kernel_rfl) (by kernel_rfl) (by kernel_rfl) (by kernel_rfl) rfl (zbk w 5 _) rfl k1 ?qc hnl k4 (by omega) ?_)
    case qc=>exact fun w' hw'=>k2 w' fun k hk=>by rw[hw'];exact qn6 w _ hk
    intro ad' c' w1 hrow hblk hbel
    go_wp2
    go_ret
    refine⟨ad',c',rfl,by simpa using hrow,fun b hb => ?_,⟨hbel.os,hbel.tape,hbel.output,Nat.le_trans (by show w.heap.size<=(w.heap.push _).size;simp) hbel.size,fun k hk _ => ?_⟩⟩
    ·rcases hblk with h|⟨g,h,hg⟩
     ·rw[h]at hb;injection hb with hb;have hb:w.heap.size=b:=hb;omega
     ·rw[h]at hb;injection hb with hb
      have:w.heap.size<=(w.alloc (.cells #[] 5)).heap.size:=by show w.heap.size<=(w.heap.push _).size;simp
      omega
    ·rw[hbel.block k (by show k<(w.heap.push _).size;simp;omega) (fun e=>by injection e with e;have e:w.heap.size=k:=e;omega)]
     exact qn6 w _ hk
   exact hg.mono fun e w'⟨ad',c',he,hrow,hb,hs⟩=>⟨ad',c',news,he,hrow,k3,hb,hs⟩
def qwi:IF:=⟨.fn 88,[.h (.list (.byte))],[],_,RS.mk (.own 0) [(0,.row (.byte) 5)]⟩
def q53:(qwi.e (fa (α:=(.byte:Ty).den))).Sound Tryz.prog:=fun d d' r h=>by
 obtain⟨l,_⟩:=d;have h:(bif decide (List.length (α:=(.byte:Ty).den) l<=ax) then some (show List (.byte:Ty).den from l) else none)=some r:=h
 cases hd:decide (List.length (α:=(.byte:Ty).den) l<=ax)<;>rw[hd]at h<;>simp only[qT,qF,reduceCtorEq]at h
 have h:=qJ h;subst h;exact⟨Tryz.call88,zke l (of_decide_eq_true hd)⟩
end Go.Sym
namespace Go.Sym
open Go.Proofs Go.RowKit Go.Sort
variable[LC]
def cw.inPlaceA{ys:List AV}{P:Program}{f:FuncId}{τ:Ty}{l l':List τ.den}{E:TypeId}(ac:l'.length=l.length)(h:∀(w:World)(G:Gh)(ad:Option Addr)(c:Nat)(us vs:List Value),fc w E τ.sz ad l.length c us->ak (l.flatMap τ.enc) G.data us->ak ys G vs ->
  Calls P f (Value.slice ad l.length c::vs).toArray w fun e w'=>e = .returned (.tuple #[])/\∃us',fc w' E τ.sz ad l.length c us'/\ak (l'.flatMap τ.enc) G.data us'/\dz (fun b=>cq ad=some b) w w') :
  cw P f (.own 0::ys) [(0,.row τ l E)] (.tup []) [(0,.row τ l' E)]:=by
 intro w G vs hm hreps;have hl:ae [(0,ah.row τ l E)] 0=some (.row τ l E):=rfl;obtain⟨ad,c,us,h1,h3,h4,h5⟩:=(hm.holds 0 _ hl).rowAt
 match vs,hreps with
 |v::vs,hreps=>
  obtain⟨⟨a',n',c',q1,rfl⟩,hys⟩:=hreps;rw[h1]at q1;simp only[qI,qP]at q1;obtain⟨rfl,rfl,rfl⟩:=q1;refine(h w G ad c us vs h3 h4 hys).mono ?_;rintro e w' ⟨rfl,us',r1,r2,r3⟩
  refine⟨_,G,rfl,?_,#[],rfl,trivial⟩;have hself:=qcb hm;have hbox:cz G w' 0 (.row τ l' E):=cz.row (by rw[ac];exact h1) (by rw[ac];exact r1) r2 (fun b hb=>h5 b hb)
  cases had:cq ad with
  |none=>
   have hst:bu w w':=⟨r3.os,r3.tape,r3.output,r3.size,fun k hk _=>r3.block k hk (fun e=>by rw[had]at e;cases e)⟩
   have hf:=hself.extend (new:=[]) (Gh.le.refl G) hst (fun _ _ _ h => .inl h) (fun b o v hv=>by
    have hc:=hm.agree b o v hv;have hlt:=World.block_lt_of_cell? _ _ hc;rw[World.cell?_of_block (w:=w) (hst.block b hlt (fun h=>h))];exact hc) hm.one (fun n bx h=>by cases h) (fun n bx h=>by cases h) (fun n m bx bx' b h=>by cases h)
   have hlk:∀m b,ae [(0,ah.row τ l' E)] m=some b->m=0/\b = .row τ l' E:=fun m b hh=>by
    simp only[ae]at hh;cases hb:Nat.beq 0 m
    ·rw[hb]at hh;cases hh
    ·rw[hb]at hh;simp only[qT,qI]at hh;exact⟨(qN hb).symm,hh.symm⟩
   have hat:G.at 0 (.row τ l' E)=none:=by
    simp only[Gh.at,h1]
    cases ad with|none=>rfl|some a=>cases had
   refine⟨⟨hf.mem.agree,hf.mem.one,fun m b hh => ?_,fun m m' b b' c h1 h2 h3 _ => ?_,hf.mem.tab⟩,hf.bel,hf.imm_le,hf.imm_new,fun m b c h1 h2 => ?_,hf.keep,hf.keepOwn⟩
   ·obtain⟨rfl,rfl⟩:=hlk m b hh;exact hbox
   ·obtain⟨rfl,_⟩:=hlk m b h1;obtain⟨rfl,_⟩:=hlk m' b' h2;rfl
   ·obtain⟨rfl,rfl⟩:=hlk m b h1;rw[hat]at h2;cases h2
  |some B=>
   have hat:∀l:List τ.den,G.at 0 (.row τ l E)=some B:=fun l=>by
    simp only[Gh.at,h1]
    cases ad with
    |none=>cases had
    |some a=>exact had
   have hf:=hself.update (bx' := .row τ l' E) hl (hat l) (hat l') ⟨r3.os,r3.tape,r3.output,r3.size,fun k hk hne=>r3.block k hk (fun e=>by rw[had]at e;injection e with e;exact hne e.symm)⟩ hbox (h5 B had)
   have hlk:∀m b,ae [(0,ah.row τ l' E)] m=some b->ae (rt [(0,ah.row τ l E)] 0 (.row τ l' E)) m=some b:=fun m b hh=>by
    simp only[ae]at hh;simp only[rt,ae];cases hb:Nat.beq 0 m
    ·rw[hb]at hh;cases hh
    ·rw[hb]at hh;exact hh
   exact⟨⟨hf.mem.agree,hf.mem.one,fun m b hh=>hf.mem.holds m b (hlk m b hh),fun m m' b b' c h1 h2 h3 h4=>hf.mem.apart m m' b b' c (hlk _ _ h1) (hlk _ _ h2) h3 h4,hf.mem.tab⟩,hf.bel,hf.imm_le,hf.imm_new,fun m b c h1 h2=>hf.base m b c (hlk _ _ h1) h2,hf.keep,hf.keepOwn⟩
 |[],hreps=>exact hreps.elim
def zqb(w:World)(n g:Nat)(d:Array Value)(os:Array Obj)(k:Nat)(hk:k<w.heap.size)(hne:k≠g):(grow (putRow id (Sort.ahead w n) g 0 d) os).heap[k]? = w.heap[k]? := by
 show((w.heap.modify g (onCells (putCells id 0 d)))++os)[k]? = _;rw[Array.getElem?_append_left (by simpa using hk),Array.getElem?_modify,qW (by omega)]
def zqc(w:World)(n g:Nat)(d:Array Value)(os:Array Obj){cur:Array Value}{e:TypeId}{fr:Nat×Nat}(hh:w.heap[g]? = some (.cells cur e fr)) :
  (grow (putRow id (Sort.ahead w n) g 0 d) os).heap[g]? = some (.cells (putCells id 0 d cur) e fr):=by
 have hg:g<w.heap.size:=(Array.getElem?_eq_some_iff.1 hh).1;show((w.heap.modify g (onCells (putCells id 0 d)))++os)[g]? = _;rw[Array.getElem?_append_left (by simpa using hg),Array.getElem?_modify,qX rfl,hh]
 rfl
def zqe(zs:List Value)(cur:Array Value)(h:zs.length<=cur.size):(putCells id 0 zs.toArray cur).toList.take zs.length=zs:=by
 apply List.ext_getElem?;intro j;rw[List.getElem?_take];by_cases hj:j<zs.length
 ·rw[qX hj,Array.getElem?_toList];unfold putCells;rw[Array.getElem?_mapIdx,Array.getElem?_eq_getElem (by omega)]
  simp[hj]
 ·rw[qW hj];exact(List.getElem?_eq_none (by omega)).symm
def zqd(w:World)(n g:Nat)(d:Array Value)(os:Array Obj):w.heap.size<=(grow (putRow id (Sort.ahead w n) g 0 d) os).heap.size:=by
 show w.heap.size<=((w.heap.modify g (onCells (putCells id 0 d)))++os).size;simp
def zqa(zs:List Value)(cur:Array Value)(v:Value)(hv:v∈(putCells id 0 zs.toArray cur).toList):v∈cur.toList\/v∈zs:=by
 unfold putCells at hv;rw[Array.mem_toList_iff,Array.mem_mapIdx]at hv;obtain⟨j,hj,rfl⟩:=hv;split
 ·rename_i hj2;have hj3:j<zs.length:=by simpa using hj2
  refine .inr ?_;simp[hj3]
 ·exact .inl (by simp)
end Go.Sym
namespace Go.Sym
open Go.Proofs Go.RowKit Go.Sort
variable[LC]
def q7j{α:Type}[Inhabited α](enc:α->List Value)(k:Nat)(hk:∀x,(enc x).length=k)(l:List α):flatK enc k l.toArray=(l.flatMap enc).toArray:=by
 have key:∀(l:List α)(t:Nat),t<l.length*k->(l.flatMap enc)[t]? = some ((enc l[t/k]!)[t%k]!):=by
  intro l
  induction l with
  |nil=>intro t ht;simp at ht|cons x l ih=>
   intro t ht;have k0:0<k:=by
    rcases Nat.eq_zero_or_pos k with h|h;· subst h;simp at ht
    ·exact h
   rw[List.flatMap_cons];by_cases h:t<k
   ·rw[List.getElem?_append_left (by rw[hk];exact h),Nat.div_eq_of_lt h,Nat.mod_eq_of_lt h,List.getElem?_eq_getElem (by rw[hk];exact h)]
    simp[hk,h]
   ·rw[List.getElem?_append_right (by rw[hk];omega),hk,ih (t-k) (by rw[qL,Nat.add_mul,Nat.one_mul]at ht;omega)]
    obtain⟨u,rfl⟩:∃u,t=u+k:=⟨t-k,by omega⟩
    rw[Nat.add_sub_cancel,Nat.add_mod_right,Nat.add_div_right _ k0];simp
 have ac:(l.flatMap enc).length=l.length*k:=by
  clear key
  induction l with|nil=>simp|cons x l ih=>rw[List.flatMap_cons,qM,hk,ih,qL,Nat.add_mul,Nat.one_mul,Nat.add_comm]
 refine ext_get! (by simp[ac]) fun t ht => ?_
 have ht':t<l.length*k:=by simpa using ht
 rw[get_flatK enc k l.toArray t (by simpa using ht')]
 have:=key l t ht';simp only[List.getElem!_toArray];rw[List.getElem!_eq_getElem?_getD (l:=l.flatMap enc),this];rfl
def ef(x:Pq):List Value:=[.string ⟨x.1.1.toArray⟩,.int .i64 x.1.2.1,.bool x.1.2.2.1,.string ⟨x.1.2.2.2.toArray⟩]
def zcu:SWO (ltOf iw):=by
 have e:∀x y:Pq,ltOf iw x y=decide (x.1.2.1<y.1.2.1):=fun x y=>by
  have:=x.2;have:=y.2;unfold ltOf iw;have h:af (x.1.2.1-y.1.2.1)=x.1.2.1-y.1.2.1:=by unfold af;simp[IntKind.wrap,IntKind.bits,IntKind.signed];omega
  rw[h];by_cases q:x.1.2.1<y.1.2.1<;>simp[q]<;>omega
 exact⟨fun x=>by rw[e];simp,fun x y z h1 h2=>by rw[e]at *;simp at *;omega,fun x y z h1 h2=>by rw[e]at *;simp at *;omega⟩
set_option maxHeartbeats 1000000 in
def zkf(x y:Pq)(W:World):Calls Tryz.prog 273 #[.agg (ef x).toArray,.agg (ef y).toArray] W fun e w'=>e = .returned (.int .i64 (iw x y))/\∃q os',w'=grow (W.drewN q) os':=by
 unfold ef iw;obtain⟨⟨a,n,s,v⟩,hx⟩:=x;obtain⟨⟨a',n',s',v'⟩,hy⟩:=y;simp only;have hw:af (n-n')=wrap64 (n-n'):=by show IntKind.i64.wrap (n-n')=_;rw[IntKind.wrap_i64];unfold Go.RowKit.wrap64;rfl
 rw[hw];clear hx hy hw
 go_enter Tryz.func273,Tryz.ntmps273
 go_wp2
 go_ret
 exact⟨rfl,0,_,by rw[alloc_eq_grow,alloc_eq_grow,grow_grow];rfl⟩
abbrev τQ:Ty := .prod .str (.prod (.int .i64) (.prod .bool .str))
def za9{G:Gh}:∀{l:List Pq}{us:List Value},ak (List.flatMap (β:=AV) τQ.enc (l.map (·.1))) G us->us=l.flatMap ef
 |[],[],_=>rfl|[],_::_,h=>h.elim|x::l,us,h=>by
  match us,h with
  |a::b::c::d::us,h=>
   have h1:a = .string ⟨x.1.1.toArray⟩:=h.1;have h2:b = .int .i64 x.1.2.1:=h.2.1;have h3:c = .bool x.1.2.2.1:=h.2.2.1;have h4:d = .string ⟨x.1.2.2.2.toArray⟩:=h.2.2.2.1;have h5:=za9 (l:=l) h.2.2.2.2;rw[h1,h2,h3,h4,h5];rfl
  |[],h=>exact h.elim|[_],h=>exact h.2.elim|[_,_],h=>exact h.2.2.elim|[_,_,_],h=>exact h.2.2.2.elim
def zba{G:Gh}:∀(l:List Pq),ak (List.flatMap (β:=AV) τQ.enc (l.map (·.1))) G (l.flatMap ef)
 |[]=>trivial|_::l=>⟨rfl,rfl,rfl,rfl,zba l⟩
def zc5:∀(l:List Pc)(q:List Pq),p9 l=some q->l=q.map (·.1)
 |[],_,h=>by cases h;rfl
 |x::l,q,h=>by
  unfold p9 at h;split at h
  ·split at h
   ·rename_i r hr;cases h;rw[zc5 l r hr];rfl
   ·cases h
  ·cases h
def qze(l:List Pq):(g9 l).length=l.length:=by
 have h:=(pdq_sorts (ltOf iw) zcu l.toArray 0 l.length (Lib.bitLen l.length) true true (Nat.zero_le _) (by simp) (Or.inl rfl)).1.1
 unfold g9;rw[Array.length_toList,h];simp
def qnc(x:Pq):(ef x).length=4:=rfl
def q6x(l:List Pq):(l.flatMap ef).length=l.length*4:=by
 induction l with|nil=>rfl|cons x l ih=>rw[List.flatMap_cons,qM,qnc,ih,qL];omega
def zms{w:World}{g:Nat}{vs:Array Value}{fz:Nat×Nat}{E:TypeId}{l:List Pq}(h2:w.heap[g]? = some (.cells vs E fz))(h3:fz=(0,0)\/vs.size<=fz.1)(h4:l.length*4<=vs.size)(h7:vs.toList.take (l.length*4)=l.flatMap ef):HoldsK ef 4 w g 0 l.toArray:=by
 unfold HoldsK;rw[q7j ef 4 qnc];intro j hj;have hl:=q6x l;have hj':j<(l.flatMap ef).length:=by simpa using hj
 have hjv:j<vs.size:=by omega
 refine⟨?_,?_⟩
 ·have hc:(vs.toList.take (l.length*4))[j]? = some ((l.flatMap ef)[j]):=by
   rw[h7,List.getElem?_eq_getElem hj']
  rw[List.getElem?_take,qX]at hc
  simp only[World.cell?,h2,wO];have hg:(l.flatMap ef).toArray[j]! = (l.flatMap ef)[j]:=by rw[getElem!_pos _ j hj];rfl
  rw[hg];simpa using hc
 ·simp only[World.frozen?,h2];rcases h3 with rfl|h3
  ·simp
  ·simp;omega
set_option maxHeartbeats 1000000 in
def zsj(q:List Pq)(ac:q.length<=ax):cw Tryz.prog 272 [.own 0,.fn (.func 273) [] []] [(0,.row τQ (q.map (·.1)) 281)] (.tup []) [(0,.row τQ ((g9 q).map (·.1)) 281)]:=by
 unfold ax at ac
 refine cw.inPlaceA (by show((g9 q).map (·.1)).length=(q.map (·.1)).length;rw[wC,wC,qze]) (fun w G ad c us fvs hrow hreps hfv => ?_)
 have hus:=za9 hreps;have hfv:fvs=[.func (.func 273) #[] #[]]:=by
  match fvs,hfv with
  |[v],⟨h,_⟩=>
   obtain⟨us1,us2,k1,k2,k3⟩:=h;have e1:us1=#[]:=Array.eq_empty_of_size_eq_zero k2.length.symm;have e2:us2=#[]:=Array.eq_empty_of_size_eq_zero k3.length.symm;subst e1;subst e2;rw[k1]
 subst hfv;have hml:(q.map (fun x=>x.1)).length=q.length:=wC ..
 obtain⟨hul,hrow⟩:=hrow
 have hnone:q=[]->Calls Tryz.prog 272 (Value.slice ad (q.map (fun x=>x.1)).length c::[.func (.func 273) #[] #[]]).toArray w fun e w'=>e = .returned (.tuple #[])/\∃us',fc w' 281 τQ.sz ad (q.map (fun x=>x.1)).length c us'/\ak (List.flatMap (β:=AV) τQ.enc ((g9 q).map (·.1))) G.data us'/\dz (fun b=>cq ad=some b) w w':=fun hq=>by
  subst hq;refine(AnyF.slices_SortFunc_none Tryz.sortP ad c (.func (.func 273) #[] #[]) w).mono ?_;rintro e w' ⟨rfl,rfl⟩
  refine⟨rfl,us,⟨hul,hrow⟩,?_,⟨rfl,rfl,rfl,wF _,fun _ _ _=>rfl⟩⟩
  rw[hus];have e:g9 []=[]:=List.eq_nil_of_length_eq_zero (qze []);rw[e];exact trivial
 by_cases hq:q=[]
 ·exact hnone hq
 rcases hrow with⟨rfl,h2,rfl⟩|⟨g,vs,fz,rfl,h2,h3,h4,h5,h6,h7,h8⟩
 ·exact absurd (List.eq_nil_of_length_eq_zero (by rw[← hml];exact h2)) hq
 ·have hlt:g<w.heap.size:=(Array.getElem?_eq_some_iff.1 h2).1;have hs4:τQ.sz=4:=rfl;rw[hs4]at h6 h7 hul;have h4':q.length<=c:=by rw[← hml];exact h4
  have hH:=zms (l:=q) h2 h3 (by omega) (by rw[← hus];have h7':=h7;rw[show(List.length (α:=τQ.den) (q.map fun x=>x.1))=q.length from hml]at h7';exact h7')
  have hcmp:CmpLays Tryz.prog 273 #[] ef 4 iw g 0 q.toArray.size w:=fun m os dk _ x y=>zkf x y _
  have key:=AnyQ.slices_SortFunc_eq (P:=Tryz.prog) Tryz.sortP 4 Tryz.isAgg281 Tryz.sizeOf281 ef qnc (by intro x v hv;simp only[ef,wE,List.not_mem_nil,or_false]at hv;rcases hv with rfl|rfl|rfl|rfl<;>rfl) iw zcu 273 #[] g 0 c q.toArray w Tryz.call273 hcmp hH hlt (by simp;omega)
  have hargs:#[Value.slice (some ⟨g,0,none⟩) (List.length (α:=τQ.den) (List.map (β:=τQ.den) (fun x:Pq=>x.1) q)) c,Value.func (.func 273) #[] #[]]=#[.slice (some ⟨g,0,none⟩) q.toArray.size c,.func (.func 273) #[] #[]]:=by
   rw[show List.length (α:=τQ.den) (List.map (β:=τQ.den) (fun x:Pq=>x.1) q)=q.toArray.size from hml.trans (by simp)]
  refine Eq.mpr (congrArg (fun a=>Calls _ _ a _ _) hargs) (key.mono ?_)
  rintro e w' ⟨rfl,n,os,rfl⟩
  have hsl:=qze q;have hw:sortWorldK ef 4 w g 0 n (pdq (ltOf iw) q.toArray 0 q.toArray.size (Lib.bitLen q.toArray.size) true true) os=grow (putRow id (Sort.ahead w n) g 0 ((g9 q).flatMap ef).toArray) os:=by
   unfold sortWorldK putRowK;rw[show pdq (ltOf iw) q.toArray 0 q.toArray.size (Lib.bitLen q.toArray.size) true true=(g9 q).toArray from by unfold g9;simp,q7j ef 4 qnc]
  rw[hw];have hzl:((g9 q).flatMap ef).length=q.length*4:=by rw[q6x,hsl]
  refine⟨rfl,(g9 q).flatMap ef,⟨?_,.inr ⟨g,putCells id 0 ((g9 q).flatMap ef).toArray vs,fz,rfl,zqc w n g _ os h2,?_,h4,h5,?_,?_,?_⟩⟩,zba _,⟨rfl,rfl,rfl,zqd w n g _ os,fun k hk hne=>zqb w n g _ os k hk (fun e=>hne (by subst e;rfl))⟩⟩
  ·rw[hzl];show q.length*4=(q.map (fun x=>x.1)).length*4;rw[hml]
  ·have:(putCells id 0 ((g9 q).flatMap ef).toArray vs).size=vs.size:=by unfold putCells;rw[Array.size_mapIdx]
   rw[this];exact h3
  ·unfold putCells;rw[Array.size_mapIdx];exact h6
  ·rw[show List.length (α:=τQ.den) (q.map (fun x=>x.1))*τQ.sz=((g9 q).flatMap ef).length from by rw[hzl];show(q.map (fun x=>x.1)).length*4=_;rw[hml]]
   exact zqe _ vs (by rw[hzl];omega)
  ·intro v hv;rcases zqa _ _ _ hv with h|h
   ·exact h8 v h
   ·obtain⟨x,_,hx⟩:=List.mem_flatMap.1 h;simp only[ef,wE,List.not_mem_nil,or_false]at hx;rcases hx with rfl|rfl|rfl|rfl<;>rfl
def zcf:IF:=⟨.fn 272,[.own 0,.fn 273 []],[(0,.row τQ 281)],_,RS.mk (.tup []) [(0,.row τQ 281)]⟩
def zsl:(zcf.e yh).Sound Tryz.prog:=fun d d' r h=>by
 obtain⟨l,_⟩:=d';have h:yh l=some r:=h;unfold yh at h;cases hd:decide (List.length (α:=Pc) l<=ax)<;>rw[hd]at h<;>simp only[qT,qF,reduceCtorEq]at h
 cases hq:p9 l with
 |none=>rw[hq]at h;cases h
 |some q=>
  rw[hq]at h;have h:=qJ h;subst h;have hl:=zc5 l q hq;subst hl;refine⟨Tryz.call272,zsj q ?_⟩;have:=of_decide_eq_true hd
  rwa [wC]at this
end Go.Sym
set_option linter.unusedVariables false
namespace Go.Proofs.ToValid
open Go.Shelf Go.RowKit Go.Lib Go.Sym
def bx:Builder.Extra Tryz.prog Tryz.uniR:={
 sizeBuilder:=by kernel_rfl
 liesBuilder:=by kernel_rfl
 t5:=Tryz.laysM171.t5
 a5:=Tryz.laysM171.a5
 z5:=Tryz.laysM171.z5
 v5:=Tryz.laysM171.v5
 infoByte:=by kernel_rfl
 cellsByte:=by kernel_rfl
 sizeByte:=by kernel_rfl
 neB5:=by decide }
def znm:Lays.n166 Tryz.prog Tryz.uniR:={ Tryz.lays165,Tryz.lays169,Tryz.laysC172 with f166:=Tryz.func101.trans (congrArg some (by kernel_rfl)) }
def znn:Lays.n167 Tryz.prog Tryz.uniR:={ Tryz.lays165,Tryz.lays169,Tryz.laysC172 with f167:=Tryz.func289.trans (congrArg some (by kernel_rfl)) }
def q5w(b:Nat)(p:Option Addr)(n cap:Nat)(w:World)(c1:w.cell? ⟨b,1,none⟩=some (.slice p n cap)) :
  Calls Tryz.prog 288 #[.pointer (some ⟨b,0,none⟩)] w fun e w'=>e = .returned (.int .i64 cap)/\w'=w:=by
 go_enter Tryz.func288,Tryz.ntmps288
 go_wp2
 go_ret
 exact⟨rfl,rfl⟩
def zmi(b n:Nat)(w:World)(hbk:w.heap[b]? = some (.cells #[.pointer none,.slice none 0 0] 149 (0,0)))(hBw:b<=w.heap.size)(hn:n<=281474976710656) :
  Calls Tryz.prog 100 #[.pointer (some ⟨b,0,none⟩),.int .i64 n] w fun e w'=>e = .returned (.tuple #[])/\(Lib.BuilderAt 149 5 b b (.pointer (some ⟨b,0,none⟩)) [] w'/\Below b w w')/\∃p cap,w'.cell? ⟨b,1,none⟩=some (.slice p 0 cap)/\n<=cap:=
 Any.Builder_Grow_fresh_cap Tryz.lays165 bx b b n w (wF _) hbk hBw hn
def qz8(b:Nat)(bs:List Value)(s:ByteArray)(w:World)(h:Lib.IsBuilderF 149 5 b b bs w)(ac:bs.length+s.size<=140737488355328)(hBw:b<=w.heap.size) :
  Calls Tryz.prog 101 #[.pointer (some ⟨b,0,none⟩),.string s] w fun e w'=>e = .returned (.tuple #[.int .i64 s.size,.nilIface])/\(Lib.BuilderAtF 149 5 b b (.pointer (some ⟨b,0,none⟩)) (bs++Lib.strCells s) w'/\Below b w w'/\Lib.OthersKept 5 (some b) w w')/\∀v0,w.cell? ⟨b,1,none⟩=some v0->∃v1,w'.cell? ⟨b,1,none⟩=some v1/\v0.capOf<=v1.capOf:=
 Any.Builder_WriteString_kc znm bx b b bs s w h ac hBw
def zuh(b:Nat)(bs:List Value)(c:Int)(w:World)(h:Lib.IsBuilderF 149 5 b b bs w)(ac:bs.length+1<=140737488355328)(hBw:b<=w.heap.size) :
  Calls Tryz.prog 289 #[.pointer (some ⟨b,0,none⟩),.int .u8 c] w fun e w'=>e = .returned .nilIface/\(Lib.BuilderAtF 149 5 b b (.pointer (some ⟨b,0,none⟩)) (bs++[.int .u8 c]) w'/\Below b w w'/\Lib.OthersKept 5 (some b) w w'):=
 Any.Builder_WriteByte_k znn bx b b bs c w h ac hBw
def zs0(b:Nat)(l:List UInt8)(w:World)(h:Lib.IsBuilderF 149 5 b b (Lib.byteCells l) w)(hBw:b<=w.heap.size) :
  Calls Tryz.prog 103 #[.pointer (some ⟨b,0,none⟩)] w fun e w'=>e = .returned (.string ⟨l.toArray⟩)/\(Lib.IsBuilderF 149 5 b b (Lib.byteCells l) w'/\Below b w w'):=
 Any.Builder_String_any_f Tryz.lays169 bx b b l w h hBw
def q6n(s:ByteArray)(w:World)(hT:Lib.Utf8Tabs 2 3 w) :
  Calls Tryz.prog 239 #[.string s] w fun e w'=>e = .returned (.tuple #[.int .i32 (Lib.decodeGo s).1,.int .i64 (Lib.decodeGo s).2])/\Below w.heap.size w w':=
 Any.utf8_DecodeRuneInString Tryz.lays197 s w hT
def q6s(s:ByteArray)(pos:Nat)(h:pos<s.size):decodeGo (s.extract pos s.size)=Utf8.decode s pos:=by
 have hx:(s.extract pos s.size).data.toList=s.data.toList.drop pos:=by
  rw[extract_data,List.take_of_length_le (by rw[List.length_drop,← size_eq];omega)]
 have hsz:(s.extract pos s.size).size≠0:=by rw[size_eq,hx,List.length_drop,← size_eq];omega
 unfold decodeGo;rw[qW hsz,← decodeL_drop s pos,← hx];rfl
def zds(n:Int)(h0:0<=n:=by omega)(h1:n<=4000000:=by omega):wrap64 n=n:=by unfold wrap64;omega
def zum(p n:Nat)(h:p+n<=4000000):wrap64 ((p:Int)+(n:Int))=(p:Int)+(n:Int):=zds _
def zun(p:Nat)(h:p+1<=4000000):wrap64 ((p:Int)+1)=(p:Int)+1:=zds _
def vI(p k:Nat):Value.int .i64 ((p:Int)+(k:Int)) = .int .i64 ((p+k:Nat):Int):=by rw[Int.natCast_add]
def qa(p:Nat):Value.int .i64 ((p:Int)+1) = .int .i64 ((p+1:Nat):Int):=by rw[Int.natCast_add];rfl
def qz3(rep:Bs)(n:Nat)(inv:Bool)(l:Bs)(hne:l≠[])(h:(Lib.decodeL l).1=65533/\(Lib.decodeL l).2=1):vu rep (n+1) inv l=(if inv then[] else rep)++vu rep n true (l.drop 1):=by
 cases l with|nil=>exact absurd rfl hne|cons c l=>rw[vu,qX h];rfl
def qpq(rep:Bs)(n:Nat)(inv:Bool)(l:Bs)(hne:l≠[])(h:¬((Lib.decodeL l).1=65533/\(Lib.decodeL l).2=1)):vu rep (n+1) inv l=l.take (Lib.decodeL l).2++vu rep n false (l.drop (Lib.decodeL l).2):=by
 cases l with|nil=>exact absurd rfl hne|cons c l=>rw[vu,qW h]
def w6(rep:Bs)(n:Nat)(inv:Bool):vu rep n inv []=[]:=by cases n<;>rfl
def qix(rep:Bs):∀(n m:Nat)(inv:Bool)(l:Bs),l.length<=n->l.length<=m->vu rep n inv l=vu rep m inv l
 |0,m,inv,l,h1,_=>by
  have:l=[]:=by cases l with|nil=>rfl|cons c l=>simp at h1
  subst this;rw[w6,w6]
 |n+1,0,inv,l,_,h2=>by
  have:l=[]:=by cases l with|nil=>rfl|cons c l=>simp at h2
  subst this;rw[w6,w6]
 |n+1,m+1,inv,l,h1,h2=>by
  cases l with
  |nil=>rw[w6,w6]|cons c l=>
   have hw:=Lib.decodeL_width (c::l);simp only[qL]at h1 h2;by_cases h:(Lib.decodeL (c::l)).1=65533/\(Lib.decodeL (c::l)).2=1
   ·rw[qz3 rep n inv _ (by simp) h,qz3 rep m inv _ (by simp) h,qix rep n m true _ (by simp;omega) (by simp;omega)]
   ·rw[qpq rep n inv _ (by simp) h,qpq rep m inv _ (by simp) h,qix rep n m false _ (by simp only[List.length_drop,qL];omega) (by simp only[List.length_drop,qL];omega)]
def zk7(s:ByteArray)(pos:Nat)(h:pos<s.size)(hc:(s.get! pos).toNat<128):Utf8.decode s pos=((s.get! pos).toNat,1):=by
 unfold Utf8.decode;simp only[Nat.add_zero,hc,if_true]
def zk6(s:ByteArray)(pos:Nat)(h:pos<s.size)(hc:¬(s.get! pos).toNat<128)(h1:(Utf8.decode s pos).2=1):(Utf8.decode s pos).1=65533:=by
 revert h1;unfold Utf8.decode;simp only[Nat.add_zero,hc,if_false]
 repeat' split
 all_goals first|(intro _;rfl)|(intro h1;exact absurd h1 (by simp))
def qv8{T e:TypeId}{B b:Nat}{bs:List Value}{W W':World}(h:Lib.IsBuilderF T e B b bs W)(hb:Below W.heap.size W W'):Lib.IsBuilderF T e B b bs W':=by
 have k:∀p,Lib.BuilderAtF T e B b p bs W->Lib.BuilderAtF T e B b p bs W':=fun p h=>by
  have hlt:=h.lt;obtain⟨hB,v,hv,hown,hne⟩:=h;exact⟨hB,v,(hb.block b hlt).trans hv,hown.kept (row:=none) ⟨hb.os,hb.tape,hb.output,hb.size,fun k hk _=>hb.block k hk⟩ (Classical.em _),hne⟩
 exact h.elim (fun x => .inl (k _ x)) (fun x => .inr (k _ x))
set_option maxHeartbeats 4000000 in
set_option maxRecDepth 1000000 in
def tovalid(s rep:ByteArray)(w:World)(hs:s.size<=1000000)(hr:rep.size<=1000)(hT:Lib.Utf8Tabs 2 3 w) :
  Calls Tryz.prog 275 #[.string s,.string rep] w fun e w'=>e = .returned (.string ⟨(vu rep.data.toList s.size false s.data.toList).toArray⟩)/\Below w.heap.size w w':=by
 obtain⟨ANS,hANS⟩:∃ANS,vu rep.data.toList s.size false s.data.toList=ANS:=⟨_,rfl⟩;rw[hANS];have ac:s.data.toList.length=s.size:=(Lib.size_eq s).symm
 go_enter Tryz.func275,Tryz.ntmps275
 go_wp2
 go_loopg [0] s.size (fun gk s0 wx=>s0 = .string s/\∃pos:Nat,wx.heap[w.heap.size]? = some (.cells #[.pointer none,.slice none 0 0] 149 (0,0))/\wx.heap[w.heap.size+1]? = some (.stringIter s pos)/\Below w.heap.size w wx /\
  s.data.toList.take pos++vu rep.data.toList (s.size-pos) false (s.data.toList.drop pos)=ANS/\s.size<=pos+gk/\pos<=s.size)
 case atStart=>
  refine⟨rfl,0,?_,?_,((Below.refl _ w).alloc (wF _) _).alloc (by simp) _,by simpa using hANS,by omega,by omega⟩
  ·have h1:=heap_alloc_new w (.cells #[.pointer none,.slice none 0 0] 149);exact(Below.heap_alloc _ _ _ (by simp)).trans h1
  ·have:=World.iter_heap (w.alloc (.cells #[.pointer none,.slice none 0 0] 149)) s 0;simpa using this
 case round=>
  obtain⟨rfl,pos,hfr,hit,hbw,hsp,hfu,hps⟩:=hrel;by_cases hlt:pos<s.size
  ·obtain⟨g',rfl⟩:∃g',gk=g'+1:=⟨gk-1,by omega⟩
   have hnx:∀ty,(Instr.next (.pointer (some ⟨w.heap.size+1,0,none⟩)) true ty).run Tryz.prog wr=_:=fun ty=>Lib.run_next_any_at wr (w.heap.size+1) s pos ty hit hlt
   have hne:s.data.toList.drop pos≠[]:=by
    intro h0;have:=congrArg List.length h0;rw[List.length_drop,ac]at this;simp at this;omega
   have hwd:=Lib.width_pos s pos;have hwn:pos+(Utf8.decode s pos).2<=s.size:=by
    have:=Lib.decodeL_le _ hne;rw[Lib.decodeL_drop,List.length_drop,ac]at this;omega
   have hgood:=qpq rep.data.toList (s.size-pos-1) false _ hne;have hdg:=q6s s pos hlt;rw[Lib.decodeL_drop]at hgood;obtain⟨R,hR⟩:∃R,(Utf8.decode s pos).1=R:=⟨_,rfl⟩;obtain⟨K,hK⟩:∃K,(Utf8.decode s pos).2=K:=⟨_,rfl⟩;rw[hR,hK]at hnx hgood;rw[hK]at hwd hwn;rw[List.drop_drop,show s.size-pos-1+1=s.size-pos by omega]at hgood
   have hit2:=Lib.iterAt_heap wr (w.heap.size+1) s pos (pos+K) hit;have hbw2:=Lib.below_iterAt hbw (k:=w.heap.size+1) (by omega) s (pos+K)
   have hfr2:(wr.iterAt (w.heap.size+1) s (pos+K)).heap[w.heap.size]? = _:=(Lib.iterAt_other wr (w.heap.size+1) w.heap.size s (pos+K) (by omega)).trans hfr
   obtain⟨W,hWd⟩:∃W,wr.iterAt (w.heap.size+1) s (pos+K)=W:=⟨_,rfl⟩;rw[hWd]at hnx hit2 hbw2 hfr2;clear hit hbw hfr hWd;have HS:Aside (¬(R=65533/\K=1)->s.data.toList.take (pos+K)++vu rep.data.toList (s.size-(pos+K)) false (s.data.toList.drop (pos+K))=ANS):=by
    intro h;rw[← hsp,hgood h,← qS,← List.take_add];congr 1;exact qix _ _ _ _ _ (by rw[List.length_drop,ac];omega) (by rw[List.length_drop,ac];omega)
   have HP:Aside (s.data.toList.take pos++vu rep.data.toList (s.size-pos) false (s.data.toList.drop pos)=ANS):=hsp;clear hgood hsp;have hszW:w.heap.size+1<W.heap.size:=(Array.getElem?_eq_some_iff.1 hit2).1;by_cases h5:R=65533
   ·have h5z:(R:Int)=65533:=by omega
    have cD:=q6n (s.extract pos s.size) W (Utf8Tabs_below hT hbw2);rw[hdg,hR,hK]at cD;by_cases hk:K=1
    ·
     have hkz:(K:Int)=1:=by omega
     have hkb:((K:Int)==1)=true:=by simp[hkz]
     go_wp2_with (go_at_call 239;go_must (refine cD.mono ?_;rintro e W3 ⟨rfl,b3⟩))
     have hfr3:=(b3.block _ (show w.heap.size<W.heap.size by omega)).trans hfr2
     have hbw3:=hbw2.trans (b3.mono (show w.heap.size<=W.heap.size by omega))
     have hs0:=HP.out;clear cD hnx hit2 hfr2 hbw2 hdg HS hszW HP;have cG:=zmi w.heap.size (s.size+rep.size) W3 hfr3 hbw3.size (by omega)
     go_fit cG
     rintro e W4 ⟨rfl,⟨h4,b4⟩,p4,cap4,hc4,hcap4⟩
     have hxs:(s.extract 0 pos).size=pos:=by rw[Lib.size_eq,Lib.extract_data,List.length_take,List.length_drop,ac];omega
     have hxd:(s.extract 0 pos).data.toList=s.data.toList.take pos:=by rw[Lib.extract_data];simp
     have cW:=qz8 w.heap.size [] (s.extract 0 pos) W4 (Lib.IsBuilderF.of (Or.inr h4)) (by rw[hxs];simp;omega) (Nat.le_trans hbw3.size b4.size)
     go_wp2_with (go_at_call 101;go_must (refine cW.mono ?_;rintro e W5 ⟨rfl,⟨h5w,b5,-⟩,hcp⟩))
     have hb5:Below w.heap.size w W5:=(hbw3.trans b4).trans b5;have hcells:[]++Lib.strCells (s.extract 0 pos)=Lib.byteCells (s.data.toList.take pos):=by
      rw[List.nil_append,Lib.strCells_eq,hxd]
     rw[hcells]at h5w;obtain⟨p5,n5,cap5,hc5,hcap5⟩:∃p5 n5 cap5,W5.cell? ⟨w.heap.size,1,none⟩=some (.slice p5 n5 cap5)/\1<=cap5:=by
      obtain⟨v1,hv1,hle⟩:=hcp _ hc4;obtain⟨_,v6,hv6,hown6,_⟩:=h5w;have hv:W5.cell? ⟨w.heap.size,1,none⟩=some v6:=by rw[Lib.cell_of_heap hv6];rfl
      rw[hv1]at hv;have:=qJ hv;subst this;have hle:cap4<=v1.capOf:=hle;rcases hown6.2 with⟨rfl,h0⟩|⟨g6,cap6,_,_,rfl,_⟩
      ·have:cap4<=0:=hle;omega
      ·have:cap4<=cap6:=hle;exact⟨_,_,cap6,hv1,by omega⟩
     clear hcp hc4;have hcapz:¬((cap5:Int)=0):=by omega
     have hcapb:((cap5:Int)==0)=false:=by simp;omega
     have cC:=q5w w.heap.size p5 n5 cap5 W5 hc5;obtain⟨s2,hs2⟩:∃s2,s.extract pos s.size=s2:=⟨_,rfl⟩;have hl2:s2.data.toList=s.data.toList.drop pos:=by
      rw[← hs2,Lib.extract_data,List.take_of_length_le (by rw[List.length_drop,ac];omega)]
     have hz2:s2.size=s.size-pos:=by rw[Lib.size_eq,hl2,List.length_drop,ac]
     go_wp2_with (go_at_call 288;go_must (refine cC.mono ?_;rintro e W6 ⟨rfl,rfl⟩))
     have hrl:rep.data.toList.length=rep.size:=(Lib.size_eq rep).symm
     go_loopg [10,11] s2.size (fun gk s10 s11 wx=>∃(p2:Nat)(acc:List UInt8)(inv:Bool),s10 = .bool inv/\s11 = .int .i64 p2/\Lib.IsBuilderF 149 5 w.heap.size w.heap.size (Lib.byteCells acc) wx/\Below w.heap.size w wx /\
      acc++vu rep.data.toList (s2.size-p2) inv (s2.data.toList.drop p2)=ANS/\s2.size<=p2+gk/\p2<=s2.size/\acc.length<=pos+1001*p2)
     case atStart=>
      refine⟨0,s.data.toList.take pos,false,rfl,rfl,Or.inr h5w,hb5,?_,by omega,by omega,?_⟩
      ·rw[List.drop_zero,hl2,hz2];exact hs0
      ·rw[List.length_take,ac];omega
     case round=>
      obtain⟨p2,acc,inv,rfl,rfl,hI,hbw,hacc,hfu2,hp2,hal⟩:=hrel;have hbs:w.heap.size<=wr.heap.size:=hbw.size;by_cases hlt2:p2<s2.size
      ·obtain⟨g2,rfl⟩:∃g2,gk=g2+1:=⟨gk-1,by omega⟩
       have hne2:s2.data.toList.drop p2≠[]:=by
        intro h0;have:=congrArg List.length h0;rw[List.length_drop,← Lib.size_eq,qZ]at this;omega
       have hwd2:=Lib.width_pos s2 p2;have hwn2:p2+(Utf8.decode s2 p2).2<=s2.size:=by
        have:=Lib.decodeL_le _ hne2;rw[Lib.decodeL_drop,List.length_drop,← Lib.size_eq]at this;omega
       have hgood:=qpq rep.data.toList (s2.size-p2-1) inv _ hne2;have hbad:=qz3 rep.data.toList (s2.size-p2-1) inv _ hne2;have hdg:=q6s s2 p2 hlt2;have hlow:=zk7 s2 p2 hlt2;have hhigh:=zk6 s2 p2 hlt2;rw[Lib.decodeL_drop,List.drop_drop,show s2.size-p2-1+1=s2.size-p2 by omega]at hgood hbad
       have hl3:s2.data.toList.length=s2.size:=(Lib.size_eq s2).symm;obtain⟨c,hc⟩:∃c,s2[p2]'hlt2=c:=⟨_,rfl⟩;have hd2:p2<s2.data.size:=hlt2;have hcd:s2.data[p2]'hd2=c:=hc;have hcg:s2.get! p2=c:=by
        show s2.data[p2]! = c;rw[getElem!_pos s2.data p2 hd2];exact hcd
       rw[hcg]at hlow hhigh;obtain⟨R2,hR2⟩:∃R2,(Utf8.decode s2 p2).1=R2:=⟨_,rfl⟩;obtain⟨K2,hK2⟩:∃K2,(Utf8.decode s2 p2).2=K2:=⟨_,rfl⟩;rw[hK2]at hwd2 hwn2;have HG:Aside (¬(R2=65533/\K2=1)->(acc++(s2.data.toList.drop p2).take K2)++vu rep.data.toList (s2.size-(p2+K2)) false (s2.data.toList.drop (p2+K2))=ANS):=by
        intro h;rw[← hacc,hgood (by rw[hR2,hK2];exact h),hK2,qS]
        congr 2;exact qix _ _ _ _ _ (by rw[List.length_drop,hl3];omega) (by rw[List.length_drop,hl3];omega)
       have HB:Aside (R2=65533/\K2=1->(acc++(if inv then[] else rep.data.toList))++vu rep.data.toList (s2.size-(p2+1)) true (s2.data.toList.drop (p2+1))=ANS):=by
        intro h;rw[← hacc,hbad (by rw[hR2,hK2];exact h),qS]
        congr 2
       have hxl:(s2.extract p2 (p2+K2)).data.toList=(s2.data.toList.drop p2).take K2:=by
        rw[Lib.extract_data,Nat.add_sub_cancel_left]
       have hxz:(s2.extract p2 (p2+K2)).size=K2:=by rw[Lib.size_eq,hxl,List.length_take,List.length_drop,hl3];omega
       have hcl:acc.length<=1001000000:=by omega
       have hbl:(Lib.byteCells acc).length=acc.length:=Lib.byteCells_length acc;clear hgood hbad hacc hs0;have H1:Aside (s2.data.toList.length=s2.size/\(s2.extract p2 (p2+K2)).data.toList=(s2.data.toList.drop p2).take K2/\(Lib.byteCells acc).length=acc.length/\rep.data.toList.length=rep.size):=⟨hl3,hxl,hbl,hrl⟩;have H2:Aside (c.toNat<128->R2=c.toNat/\K2=1):=fun h=>by
        have hd:=hlow h;rw[hd]at hR2 hK2;exact⟨hR2.symm,hK2.symm⟩
       have H3:Aside (¬c.toNat<128->K2=1->R2=65533):=fun h hk=>by
        have:=hhigh h (by rw[hK2];exact hk)
        rw[← hR2];exact this
       have H4:Aside ((List.drop p2 s2.data.toList).take 1=[c]):=by
        show _=_;have hlt':p2<s2.data.toList.length:=by rw[hl3];exact hlt2
        rw[List.drop_eq_getElem_cons hlt',List.take_succ_cons,List.take_zero,Array.getElem_toList,hcd]
       have cD:=q6n (s2.extract p2 s2.size) wr (Utf8Tabs_below hT hbw);rw[hdg,hR2,hK2]at cD;have hsz2:s2.size<=s.size:=by rw[hz2];exact Nat.sub_le _ _
       have HW1:Aside (wrap64 ((p2:Int)+1)=(p2:Int)+1):=zun _ (Nat.le_trans hlt2 (Nat.le_trans hsz2 (Nat.le_trans hs (by decide))))
       have HWK:Aside (wrap64 ((p2:Int)+(K2:Int))=(p2:Int)+(K2:Int)):=zum _ _ (Nat.le_trans hwn2 (Nat.le_trans hsz2 (Nat.le_trans hs (by decide))))
       have HM:Aside (s2.size<=p2+1+g2/\s2.size<=p2+K2+g2/\acc.length+1<=pos+1001*(p2+1)/\acc.length+rep.size<=pos+1001*(p2+1)/\acc.length+K2<=pos+1001*(p2+K2)/\acc.length<=pos+1001*(p2+1)/\acc.length+1<=140737488355328/\acc.length+rep.size<=140737488355328/\acc.length+K2<=140737488355328):=by
        refine⟨?_,?_,?_,?_,?_,?_,?_,?_,?_⟩<;>omega
       clear hal hcl hfu2;clear hcd hcg hlow hhigh hdg hR2 hK2 hl3 hxl hbl hrl hs2 hl2 ac hne2 hz2 hxs hxd hcells hne hR hK;by_cases h128:c.toNat<128
       ·
        obtain⟨_,hk1⟩:=H2.out h128;subst hk1;have H5:Aside (acc++[c]++vu rep.data.toList (s2.size-(p2+1)) false (List.drop (p2+1) s2.data.toList)=ANS):=by
         have:=HG.out (by omega)
         rw[H4.out]at this;exact this
        have cB:=zuh w.heap.size (Lib.byteCells acc) c.toNat wr hI (by rw[H1.out.2.2.1];exact HM.out.2.2.2.2.2.2.1) hbs
        clear HG HB H2 H3 H4 cD;have h128z:(c.toNat:Int)<128:=by omega
        go_wp2_with (go_at_call 289;go_must (refine cB.mono ?_;rintro e W7 ⟨rfl,h7,b7,k7⟩))
        go_roundg g2
        case measure=>exact Nat.lt_succ_self _
        case rel=>
         refine⟨p2+1,acc++[c],false,rfl,by first|exact qa p2|exact(congrArg (Value.int .i64) HW1.out).trans (qa p2),Or.inr ?_,hbw.trans b7,H5.out,HM.out.1,hlt2,by rw[qM];exact HM.out.2.2.1⟩
         rw[Lib.byteCells_append];exact h7
       ·have h128z:¬((c.toNat:Int)<128):=by omega
        by_cases hk:K2=1
        ·have hr2:=H3.out h128 hk;have H5:Aside ((acc++(if inv then[] else rep.data.toList))++vu rep.data.toList (s2.size-(p2+1)) true (List.drop (p2+1) s2.data.toList)=ANS):=HB.out ⟨hr2,hk⟩
         have hkz:(K2:Int)=1:=by omega
         have hkb:((K2:Int)==1)=true:=by simp[hkz]
         clear HG HB H2 H3 H4
         cases inv with
         |true=>
          go_wp2_with (go_at_call 239;go_must (refine cD.mono ?_;rintro e W7 ⟨rfl,b7⟩))
          go_roundg g2
          case measure=>exact Nat.lt_succ_self _
          case rel=>
           refine⟨p2+1,acc,true,rfl,by first|exact qa p2|exact(congrArg (Value.int .i64) HW1.out).trans (qa p2),qv8 hI b7,hbw.trans (b7.mono hbs),?_,HM.out.1,hlt2,HM.out.2.2.2.2.2.1⟩
           have h:(acc++[])++vu rep.data.toList (s2.size-(p2+1)) true (List.drop (p2+1) s2.data.toList)=ANS:=H5.out;rw[List.append_nil]at h;exact h
         |false=>
          go_wp2_with (go_at_call 239;go_must (refine cD.mono ?_;rintro e W7 ⟨rfl,b7⟩))
          have cW:=qz8 w.heap.size (Lib.byteCells acc) rep W7 (qv8 hI b7) (by rw[H1.out.2.2.1];exact HM.out.2.2.2.2.2.2.2.1) (Nat.le_trans hbs b7.size)
          go_wp2_with (go_at_call 101;go_must (refine cW.mono ?_;rintro e W8 ⟨rfl,⟨h8,b8,-⟩,-⟩))
          go_roundg g2
          case measure=>exact Nat.lt_succ_self _
          case rel=>
           refine⟨p2+1,acc++rep.data.toList,true,rfl,by first|exact qa p2|exact(congrArg (Value.int .i64) HW1.out).trans (qa p2),Or.inr ?_,(hbw.trans (b7.mono hbs)).trans b8,?_,HM.out.1,hlt2,by rw[qM,H1.out.2.2.2];exact HM.out.2.2.2.1⟩
           ·rw[Lib.byteCells_append,← Lib.strCells_eq];exact h8
           ·have h:(acc++rep.data.toList)++vu rep.data.toList (s2.size-(p2+1)) true (List.drop (p2+1) s2.data.toList)=ANS:=H5.out;exact h
        ·have hkz:¬((K2:Int)=1):=by omega
         have hkb:((K2:Int)==1)=false:=by simp;omega
         have H5:=HG.out (fun h=>hk h.2)
         go_wp2_with (go_at_call 239;go_must (refine cD.mono ?_;rintro e W7 ⟨rfl,b7⟩))
         have cW:=qz8 w.heap.size (Lib.byteCells acc) (s2.extract p2 (p2+K2)) W7 (qv8 hI b7) (by rw[H1.out.2.2.1,hxz];exact HM.out.2.2.2.2.2.2.2.2) (Nat.le_trans hbs b7.size)
         go_wp2_with (go_at_call 101;go_must (refine cW.mono ?_;rintro e W8 ⟨rfl,⟨h8,b8,-⟩,-⟩))
         go_roundg g2
         case measure=>exact Nat.lt_succ_self _
         case rel=>
          refine⟨p2+K2,acc++(s2.data.toList.drop p2).take K2,false,rfl,by first|exact vI p2 K2|exact(congrArg (Value.int .i64) HWK.out).trans (vI p2 K2),Or.inr ?_,(hbw.trans (b7.mono hbs)).trans b8,H5,HM.out.2.1,hwn2,?_⟩
          ·rw[Lib.byteCells_append,← H1.out.2.1,← Lib.strCells_eq];exact h8
          ·rw[qM,← H1.out.2.1,← Lib.size_eq,hxz];exact HM.out.2.2.2.2.1
      ·
       obtain rfl:p2=s2.size:=by omega
       have cS:=zs0 w.heap.size acc wr hI hbs
       go_wp2_with (go_at_call 103;go_must (refine cS.mono ?_;rintro e W8 ⟨rfl,_,b8⟩))
       go_ret
       refine⟨?_,hbw.trans b8⟩;rw[Lib.size_eq,List.drop_length,w6,List.append_nil]at hacc;subst hacc;rfl
    ·have hkz:¬((K:Int)=1):=by omega
     have hkb:((K:Int)==1)=false:=by simp;omega
     have hs3:=HS.out (fun h=>hk h.2)
     go_wp2_with (go_at_call 239;go_must (refine cD.mono ?_;rintro e W3 ⟨rfl,b3⟩))
     go_roundg g'
     case measure=>omega
     case rel=>exact⟨rfl,pos+K,(b3.block _ (by show _<W.heap.size;omega)).trans hfr2,(b3.block _ (by show _<W.heap.size;omega)).trans hit2,hbw2.trans (b3.mono (by show _<=W.heap.size;omega)),hs3,by omega,hwn⟩
   ·have h5':¬((R:Int)=65533):=by omega
    have hs3:=HS.out (fun h=>h5 h.1)
    go_wp2
    go_roundg g'
    case measure=>omega
    case rel=>exact⟨rfl,pos+K,hfr2,hit2,hbw2,hs3,by omega,hwn⟩
  ·
   obtain rfl:pos=s.size:=by omega
   have hnx:∀ty,(Instr.next (.pointer (some ⟨w.heap.size+1,0,none⟩)) true ty).run Tryz.prog wr=_:=fun ty=>Lib.run_next_end_at wr (w.heap.size+1) s s.size ty hit hlt
   have cC:=q5w w.heap.size none 0 0 wr (by rw[Lib.cell_of_heap hfr];rfl)
   go_wp2_with (go_at_call 288;go_must (refine cC.mono ?_;rintro e W' ⟨rfl,rfl⟩))
   go_ret
   refine⟨?_,hbw⟩;rw[← hsp,← ac,List.drop_length,List.take_length,w6,List.append_nil];rfl
end Go.Proofs.ToValid
namespace Go.Sym
open Go.Proofs Go.RowKit
open Go.Proofs.Tryz
variable[LC]
def qce(t:List UInt8):Bool:=(List.range 256).all fun c=>match t[c]? with|some x=>Nat.beq x.toNat (Lib.firstT c)|none=>false
def qcf(t:List (UInt8×UInt8)):Bool:=(List.range 16).all fun c=>match t[c]? with|some x=>Nat.beq x.1.toNat (Lib.accLo c)&&Nat.beq x.2.toNat (Lib.accHi c)|none=>false
def zdj{G:Gh}{w:World}(hm:cg G [] w){t0:List UInt8}{t1:List (UInt8×UInt8)}(h0:LC.glob 2=some ⟨.byte,t0⟩)(h1:LC.glob 3=some ⟨.prod .byte .byte,t1⟩)(e0:qce t0=true)(e1:qcf t1=true):Lib.Utf8Tabs 2 3 w:=by
 refine⟨fun c hc => ?_,fun i hi => ?_⟩
 ·have h:=List.all_eq_true.1 e0 c (List.mem_range.2 hc)
  cases hx:t0[c]? with
  |none=>rw[hx]at h;cases h
  |some x=>
   rw[hx]at h;have ha:G.imm 2 (c*1)=some (.int .u8 x.toNat):=hm.tab.1 _ _ _ h0 c x hx;rw[Nat.mul_one]at ha;rw[hm.agree _ _ _ ha,qN h]
 ·have h:=List.all_eq_true.1 e1 i (List.mem_range.2 hi)
  cases hx:t1[i]? with
  |none=>rw[hx]at h;cases h
  |some x=>
   rw[hx]at h;simp only[qA]at h;have ha:G.imm 3 (i*2)=some (.int .u8 x.1.toNat)/\G.imm 3 (i*2+1)=some (.int .u8 x.2.toNat):=hm.tab.1 _ _ _ h1 i x hx;rw[Nat.mul_comm]at ha;exact⟨by rw[hm.agree _ _ _ ha.1,qN h.1],by rw[hm.agree _ _ _ ha.2,qN h.2]⟩
def zto{G:Gh}{w:World}(hm:cg G [] w){t0:List UInt8}{t1:List (UInt8×UInt8)}(h0:LC.glob 2=some ⟨.byte,t0⟩)(h1:LC.glob 3=some ⟨.prod .byte .byte,t1⟩)(e0:qce t0=true)(e1:qcf t1=true)(s o:Bs)(d1:s.length<=1000000)(d2:o.length<=1000) :
  Calls Tryz.prog 275 #[.string ⟨s.toArray⟩,.string ⟨o.toArray⟩] w fun e w'=>e = .returned (.string ⟨(vu o s.length false s).toArray⟩)/\bu w w':=by
 refine(ToValid.tovalid ⟨s.toArray⟩ ⟨o.toArray⟩ w (by rw[p8];exact d1) (by rw[p8];exact d2) (zdj hm h0 h1 e0 e1)).mono ?_
 rintro e w' ⟨rfl,hw⟩
 exact⟨by rw[p8],bu.of_below hw⟩
def zc8:IF:=⟨.fn 275,[.h .str,.h .str],[],_,RS.mk (.h .str) []⟩
def ztp{t0:List UInt8}{t1:List (UInt8×UInt8)}(h0:LC.glob 2=some ⟨.byte,t0⟩)(h1:LC.glob 3=some ⟨.prod .byte .byte,t1⟩)(e0:qce t0=true)(e1:qcf t1=true):(zc8.e yi).Sound Tryz.prog:=fun d d' r h=>by
 obtain⟨s,o,_⟩:=d;have h:yi s o=some r:=h;unfold yi at h;cases hd:decide (List.length (α:=UInt8) s<=1000000/\List.length (α:=UInt8) o<=1000)<;>rw[hd]at h<;>simp only[qT,qF,reduceCtorEq]at h
 have h:=qJ h;subst h;obtain⟨d1,d2⟩:=of_decide_eq_true hd;refine⟨call275,cw.data fun w G vs hm hr => ?_⟩
 match vs,hr with
 |[u,v],⟨h1',h2',_⟩=>
  have h1':u = .string ⟨s.toArray⟩:=h1';have h2':v = .string ⟨o.toArray⟩:=h2';subst h1' h2';exact(zto hm h0 h1 e0 e1 s o d1 d2).mono fun e w'⟨he,hw⟩=>⟨_,he,rfl,hw⟩
def zt8{G:Gh}{w:World}(hm:cg G [] w){t0:List UInt8}{t1:List (UInt8×UInt8)}(h0:LC.glob 2=some ⟨.byte,t0⟩)(h1:LC.glob 3=some ⟨.prod .byte .byte,t1⟩)(e0:qce t0=true)(e1:qcf t1=true)(s:Bs)(d1:s.length<=9223372036854775807) :
  Calls Tryz.prog 208 #[.string ⟨s.toArray⟩] w fun e w'=>e = .returned (.bool (Lib.validD s))/\bu w w':=by
 refine(Any.utf8_ValidString Tryz.lays196 ⟨s.toArray⟩ w (by rw[p8];exact d1) (zdj hm h0 h1 e0 e1)).mono ?_
 rintro e w' ⟨rfl,hw⟩
 exact⟨rfl,bu.of_below hw⟩
def zdk:IF:=⟨.fn 208,[.h .str],[],_,RS.mk (.h .bool) []⟩
def zua{t0:List UInt8}{t1:List (UInt8×UInt8)}(h0:LC.glob 2=some ⟨.byte,t0⟩)(h1:LC.glob 3=some ⟨.prod .byte .byte,t1⟩)(e0:qce t0=true)(e1:qcf t1=true):(zdk.e yj).Sound Tryz.prog:=fun d d' r h=>by
 obtain⟨s,_⟩:=d;have h:yj s=some r:=h;unfold yj at h;cases hd:decide (List.length (α:=UInt8) s<=9223372036854775807)<;>rw[hd]at h<;>simp only[qT,qF,reduceCtorEq]at h
 have h:=qJ h;subst h;have d1:=of_decide_eq_true hd;refine⟨call208,cw.data fun w G vs hm hr => ?_⟩
 match vs,hr with
 |[u],⟨h1',_⟩=>
  have h1':u = .string ⟨s.toArray⟩:=h1';subst h1';exact(zt8 hm h0 h1 e0 e1 s d1).mono fun e w'⟨he,hw⟩=>⟨_,he,rfl,hw⟩
end Go.Sym
namespace Go.Sym
open Go.RowKit
variable[LC]
section
variable{P:Program}{vek:World}{vef:Gh}{veh:List (Nat×ah)}{G:Gh}{s:St}{a:Act}{w:World}
def ai.drewOk(hr:ai vek vef veh G s a w):ai vek vef veh G s a w.drew:=
 ⟨hr.defers,hr.size,hr.frame,hr.fresh,⟨⟨hr.fin.mem.agree,hr.fin.mem.one,hr.fin.mem.holds,hr.fin.mem.apart,LC.mono (fun _ _ _ h=>h) (fun _ _ _ _=>rfl) hr.fin.mem.tab⟩,⟨hr.fin.bel.os,hr.fin.bel.tape,hr.fin.bel.output,hr.fin.bel.size,hr.fin.bel.block⟩,hr.fin.imm_le,hr.fin.imm_new,hr.fin.base,hr.fin.keep,hr.fin.keepOwn⟩⟩
def ak.setAt{G:Gh}{x:AV}{v:Value}(hx:aj x G v):∀{xs:List AV}{vs:List Value}{i:Nat},ak xs G vs->ak (xs.set i x) G (vs.set i v)|[],[],_,_=>trivial|_::_,_::_,0,h=>⟨hx,h.2⟩|_::_,_::_,_+1,h=>⟨h.1,ak.setAt hx h.2⟩|[],_::_,_,h=>h.elim|_::_,[],_,h=>h.elim
def ai.setCellAt(hr:ai vek vef veh G s a w){n B i:Nat}{cs:List AV}{T:TypeId}{x:AV}{v:Value}(hn:ae s.hp n=some (.cells cs T))(hB:G.box n=some B)(hx:aj x G v)(h1:v.oneCell'=true) :
  ai vek vef veh G { s with hp:=(n,.cells (cs.set i x) T)::s.hp } a (w.setCell ⟨B,i,none⟩ v):=by
 obtain⟨B',vs,k1,k2,k3,k4,k5⟩:=hr.fin.mem.holds n _ hn;rw[hB]at k1;cases k1;have hheap:(w.setCell ⟨B,i,none⟩ v).heap[B]? = some (.cells (vs.setIfInBounds i v) T (0,0)):=by
  simp[World.setCell,Array.getElem?_modify,k2]
 have hbel:dz (fun b=>b=B) w (w.setCell ⟨B,i,none⟩ v):=
  ⟨rfl,rfl,rfl,by simp[World.setCell],fun k _ hne=>by
   simp only[World.setCell,Array.getElem?_modify];rw[qW (fun e=>hne e.symm)]⟩
 have hat:∀cs',G.at n (.cells cs' T)=some B:=fun _=>hB
 refine⟨hr.defers,hr.size,hr.frame,fun m hm hl=>hr.fresh m hm (by
  simp only[ae]at hl;cases hb:Nat.beq n m
  ·rw[hb]at hl;exact hl
  ·rw[hb]at hl;cases hl),hr.fin.update hn (hat cs) (hat _) hbel ⟨B,_,hB,hheap,?_,?_,k5⟩ k5⟩
 ·rw[Array.toList_setIfInBounds];exact ak.setAt hx k3
 ·intro u hu;rw[Array.toList_setIfInBounds]at hu;rcases List.mem_or_eq_of_mem_set hu with hu|hu
  ·exact k4 u hu
  ·rw[hu];exact h1
def ai.cellAt(hr:ai vek vef veh G s a w){n B i:Nat}{cs:List AV}{T:TypeId}{x:AV}(hn:ae s.hp n=some (.cells cs T))(hB:G.box n=some B)(hx:cs[i]? = some x) :
  ∃v,w.cell? ⟨B,i,none⟩=some v/\aj x G v/\w.frozen? ⟨B,i,none⟩=false:=by
 obtain⟨B',vs,k1,k2,k3,k4,k5⟩:=hr.fin.mem.holds n _ hn;rw[hB]at k1;cases k1;obtain⟨v,v1,v2⟩:=kz k3 hx;refine⟨v,cell_of_heap k2 v1,v2,?_⟩;simp only[World.frozen?,k2];simp
def ai.start{G:Gh}{hp:List (Nat×ah)}{w:World}{N:NM}(hm:cg G hp w)(h:∀n b,ae hp n=some b->aw N n=some n/\dh (aw N) b=b)(hN:∀n,ae hp n=none->az N n=none)(k:Nat) :
  ai w (G.view N) hp (G.view N) { n:=k,fr:=[],hp:=hp,nx:=64,df:=[] } { tmps:=Array.replicate k undef,defers:=[] } w:=by
 refine⟨⟨[],rfl,rfl⟩,by simp,fun i x hx=>(by cases hx),fun m _ hl => ?_,qcb (hm.only h)⟩
 have:=hN m hl;simp[Gh.view,this]
end
end Go.Sym
set_option linter.unusedVariables false
namespace Go.Proofs.Repl
open Go.Shelf Go.RowKit Go.Lib Go.Sym
def rv(a b:UInt8)(ga gb ca cb:Nat)(c:UInt8):Value:=if c=a then .slice (some ⟨ga,0,none⟩) 2 ca else if c=b then .slice (some ⟨gb,0,none⟩) 2 cb else .slice none 0 0
structure li(R:Nat)(a b a1 a2 b1 b2:UInt8)(w:World):Prop where
 ex:∃ga gb gt ca cb ct,(∀c:UInt8,w.cell? ⟨R,c.toNat,none⟩=some (rv a b ga gb ca cb c))/\w.cell? ⟨R,256,none⟩=some (.slice (some ⟨gt,0,none⟩) 2 ct) /\
  w.cell? ⟨gt,0,none⟩=some (.string ⟨#[b]⟩)/\w.cell? ⟨gt,1,none⟩=some (.string ⟨#[a]⟩) /\
  w.cell? ⟨ga,0,none⟩=some (.int .u8 a1.toNat)/\w.cell? ⟨ga,1,none⟩=some (.int .u8 a2.toNat)/\w.cell? ⟨gb,0,none⟩=some (.int .u8 b1.toNat)/\w.cell? ⟨gb,1,none⟩=some (.int .u8 b2.toNat)
def li.below{R:Nat}{a b a1 a2 b1 b2:UInt8}{w w':World}(h:li R a b a1 a2 b1 b2 w)(hb:Below w.heap.size w w'):li R a b a1 a2 b1 b2 w':=by
 have k:∀{p:Addr}{v:Value},w.cell? p=some v->w'.cell? p=some v:=fun{p v} hc=>(hb.cell (World.block_lt_of_cell? _ _ hc)).trans hc
 obtain⟨ga,gb,gt,ca,cb,ct,h1,h2,h3,h4,h5,h6,h7,h8⟩:=h.ex;exact⟨ga,gb,gt,ca,cb,ct,fun c=>k (h1 c),k h2,k h3,k h4,k h5,k h6,k h7,k h8⟩
def q57(s:ByteArray)(c:UInt8)(w:World) :
  Calls Tryz.prog 359 #[.string s,.string ⟨#[c]⟩] w fun e w'=>e = .returned (.int .i64 (Lib.countByte s.data.toList c))/\w'=w:=
 Any.strings_Count_one Tryz.lays138 s c w
def zrs{w:World}{g:Nat}{t:TypeId}{N:Nat}{f:Nat->Value}{cur:Array Value}(hg:w.heap[g]? = some (.cells cur t (0,0)))(hz:cur.size=N)(hc:∀i,i<N->cur[i]? = some (f i)){j:Nat}(hj:j+2<=N)(v1 v2:Value) :
  (w.setRow g (cur.toList.take j++[v1,v2]++cur.toList.drop (j+2)).toArray).rowIs g t N (fun i=>if i=j then v1 else if i=j+1 then v2 else f i):=by
 have hl:cur.toList.length=N:=by simpa using hz
 refine⟨_,setRow_heap w g cur _ t _ hg,by simp;omega,fun i hi => ?_⟩
 simp only[List.getElem?_toArray];rw[qS];by_cases h1:i<j
 ·rw[List.getElem?_append_left (by simp;omega),List.getElem?_take,qX h1,qW (by omega),qW (by omega),← hc i hi];simp
 ·rw[List.getElem?_append_right (by simp;omega),show(cur.toList.take j).length=j by simp;omega]
  by_cases h2:i=j
  ·subst h2;simp
  ·by_cases h3:i=j+1
   ·subst h3;rw[qW h2,qX rfl,show j+1-j=1 by omega];rfl
   ·rw[qW h2,qW h3,List.getElem?_append_right (by simp;omega),List.getElem?_drop,← hc i hi]
    simp;congr 1;omega
def mn(b o n:Nat):(⟨b,o,none⟩:Addr).add n=⟨b,o+n,none⟩:=by unfold Addr.add;split<;>simp_all
def q56{w:World}{G ga j M c:Nat}{f:Nat->Value}{x1 x2:UInt8}(hrow:w.rowIs G 5 M f)(hj:j+2<=M)(h0:w.cell? ⟨ga,0,none⟩=some (.int .u8 x1.toNat))(h1:w.cell? ⟨ga,1,none⟩=some (.int .u8 x2.toNat)) :
  ∃ROW,(Builtin.copy_ #[23,23] 3 #[.slice (some ⟨G,j,none⟩) (M-j) (M-j),.slice (some ⟨ga,0,none⟩) 2 c]).run Tryz.prog w = .ok (.int .i64 2) (w.setRow G ROW) /\
   (w.setRow G ROW).rowIs G 5 M (fun i=>if i=j then .int .u8 x1.toNat else if i=j+1 then .int .u8 x2.toNat else f i):=by
 obtain⟨cur,k1,k2,k3⟩:=hrow;refine⟨_,?_,zrs k1 k2 k3 hj _ _⟩;exact run_copy_row (P:=Tryz.prog) w 23 23 3 5 G j (M-j) (M-j) ⟨ga,0,none⟩ 2 c cur 5 [.int .u8 x1.toNat,.int .u8 x2.toNat] Tryz.underlying23 (by kernel_rfl) k1
  (by show 2=Nat.min 2 (M-j);exact(Nat.min_eq_left (by omega)).symm)
  (fun i v hv=>by
   rw[mn]
   match i,hv with
   |0,hv=>cases hv;exact h0
   |1,hv=>cases hv;exact h1
   | i+2,hv=>cases hv)
  (by show j+2<=cur.size;omega) (fun v hv=>by
   rcases List.mem_cons.1 hv with rfl|hv
   ·rfl
   ·rcases List.mem_cons.1 hv with rfl|hv
    ·rfl
    ·cases hv)
def bv(l:Bs)(j:Nat):Value := .int .u8 (l.getD j 0).toNat
def q5q(l m:Bs)(j:Nat)(h:j<l.length):bv (l++m) j=bv l j:=by unfold bv;rw[List.getD_eq_getElem?_getD,List.getD_eq_getElem?_getD,List.getElem?_append_left h]
def q5p(l m:Bs)(c:UInt8):bv (l++c::m) l.length = .int .u8 c.toNat:=by unfold bv;rw[List.getD_eq_getElem?_getD,List.getElem?_append_right (wF _),Nat.sub_self];rfl
def zjz(l m:Bs)(c d:UInt8):bv (l++c::d::m) (l.length+1) = .int .u8 d.toNat:=by unfold bv;rw[List.getD_eq_getElem?_getD,List.getElem?_append_right (by omega),show l.length+1-l.length=1 by omega];rfl
def qg2(l:Bs)(j:Nat)(h:l.length<=j:=by omega):bv l j = .int .u8 0:=by unfold bv;rw[List.getD_eq_getElem?_getD,List.getElem?_eq_none h];rfl
def q5r(l:Bs)(c d:UInt8)(i:Nat):(if i=l.length then Value.int .u8 c.toNat else if i=l.length+1 then .int .u8 d.toNat else bv l i)=bv (l++[c,d]) i:=by
 by_cases h:i<l.length
 ·rw[qW (by omega),qW (by omega),q5q _ _ _ h]
 ·by_cases h1:i=l.length
  ·subst h1;rw[qX rfl,q5p]
  ·by_cases h2:i=l.length+1
   ·subst h2;rw[qW h1,qX rfl,zjz]
   ·rw[qW h1,qW h2,qg2 _ _,qg2 _ _ (by simp;omega)]
def zj0(l:Bs)(c:UInt8)(i:Nat):(if i=l.length then Value.int .u8 c.toNat else bv l i)=bv (l++[c]) i:=by
 by_cases h:i<l.length
 ·rw[qW (by omega),q5q _ _ _ h]
 ·by_cases h1:i=l.length
  ·subst h1;rw[qX rfl,q5p]
  ·rw[qW h1,qg2 _ _,qg2 _ _ (by simp;omega)]
def vI2(p:Nat):Value.int .i64 ((p:Int)+2) = .int .i64 ((p+2:Nat):Int):=by rw[Int.natCast_add];rfl
def qa(p:Nat):Value.int .i64 ((p:Int)+1) = .int .i64 ((p+1:Nat):Int):=by rw[Int.natCast_add];rfl
def zdt(n:Nat)(h:n<=4000000:=by omega):wrap64 (n:Int)=(n:Int):=by unfold wrap64;omega
def zoq(p:Addr)(n c:Nat)(w:World):(binOp .neq 23 (.slice (some p) n c) (.slice none 0 0)).run Tryz.prog w = .ok (.bool true) w:=by kernel_rfl
def zop(w:World):(binOp .neq 23 (.slice none 0 0) (.slice none 0 0)).run Tryz.prog w = .ok (.bool false) w:=by kernel_rfl
def zlv(p:Addr)(n c:Nat)(w:World):(binOp .eql 23 (.slice (some p) n c) (.slice none 0 0)).run Tryz.prog w = .ok (.bool false) w:=by kernel_rfl
def zlu(w:World):(binOp .eql 23 (.slice none 0 0) (.slice none 0 0)).run Tryz.prog w = .ok (.bool true) w:=by kernel_rfl
set_option maxHeartbeats 4000000 in
set_option maxRecDepth 1000000 in
def zjt(R:Nat)(a b a1 a2 b1 b2:UInt8)(s:ByteArray)(w:World)(hab:a≠b)(hs:s.size<=1000000)(hB:li R a b a1 a2 b1 b2 w) :
  Calls Tryz.prog 357 #[.pointer (some ⟨R,0,none⟩),.string s] w fun e w'=>e = .returned (.string ⟨(ep a b [a1,a2] [b1,b2] s.data.toList).toArray⟩)/\Below w.heap.size w w':=by
 obtain⟨ga,gb,gt,ca,cb,ct,-,hT,ht0,ht1,-⟩:=hB.ex;obtain⟨L,hL⟩:∃L,s.data.toList=L:=⟨_,rfl⟩;have ac:L.length=s.size:=by rw[← hL];exact(Lib.size_eq s).symm
 rw[hL];have HB:Aside (li R a b a1 a2 b1 b2 w):=hB;clear hB;have cBc:=fun w=>q57 s b w
 have cAc:=fun w=>q57 s a w
 rw[hL]at cBc cAc;obtain⟨Z,hZ⟩:∃Z,ix a b L=Z:=⟨_,rfl⟩;have HZ:Aside (ix a b L=Z):=hZ;have hZ2:Z<=2000000:=by
  rw[← hZ];unfold ix;have h1:=List.count_le_length (a:=a) (l:=L);have h2:=List.count_le_length (a:=b) (l:=L);omega
 clear hZ;obtain⟨M,hM⟩:∃M,s.size+Z=M:=⟨_,rfl⟩;have HM:Aside (s.size+Z=M):=hM;have hMb:M<=3000000:=by omega
 clear hM;have hn1:=zoq;have hn2:=zop
 go_enter Tryz.func357,Tryz.ntmps357
 go_upto_if 26 with(fail)
 go_cut [5,6] (fun s5 s6 wx=>s5 = .int .i64 (M:Nat)/\s6 = .bool (decide (0<Z))/\Below w.heap.size w wx)
 case first=>
  obtain⟨X,hX⟩:∃X,L.count b=X:=⟨_,rfl⟩;obtain⟨Y,hY⟩:∃Y,L.count a=Y:=⟨_,rfl⟩;have HXY:Aside (Z=Y+X):=by show Z=Y+X;rw[← HZ.out];unfold ix;rw[hX,hY]
  have hXl:X<=s.size:=by rw[← hX,← ac];exact List.count_le_length
  have hYl:Y<=s.size:=by rw[← hY,← ac];exact List.count_le_length
  have cBc:∀w,Calls Tryz.prog 359 #[.string s,.string ⟨#[b]⟩] w fun e w'=>e = .returned (.int .i64 (X:Nat))/\w'=w:=fun w=>by rw[← hX];exact cBc w
  have cAc:∀w,Calls Tryz.prog 359 #[.string s,.string ⟨#[a]⟩] w fun e w'=>e = .returned (.int .i64 (Y:Nat))/\w'=w:=fun w=>by rw[← hY];exact cAc w
  clear hX hY
  go_wp2
  ·rename_i h16;clear h16
   go_loopg [5,6,32] 2 (fun gk s5 s6 s32 wx=>Below w.heap.size w wx/\((s32 = .int .i64 0/\s5 = .int .i64 (s.size:Nat)/\s6 = .bool false/\gk=2)\/(s32 = .int .i64 1/\s5 = .int .i64 ((s.size+X:Nat):Int)/\s6 = .bool (decide (0<X))/\gk=1)\/(s32 = .int .i64 2/\s5 = .int .i64 ((s.size+(Y+X):Nat):Int)/\s6 = .bool (decide (0<Y+X))/\gk=0)))
   case atStart=>exact⟨Below.refl _ _,Or.inl ⟨rfl,rfl,rfl,rfl⟩⟩
   case round=>
    obtain⟨hbw,h⟩:=hrel;have ht0':wr.cell? ⟨gt,0,none⟩=some (.string ⟨#[b]⟩):=(hbw.cell (World.block_lt_of_cell? _ _ ht0)).trans ht0;have ht1':wr.cell? ⟨gt,1,none⟩=some (.string ⟨#[a]⟩):=(hbw.cell (World.block_lt_of_cell? _ _ ht1)).trans ht1;clear ht0 ht1;rcases h with⟨rfl,rfl,rfl,rfl⟩|⟨rfl,rfl,rfl,rfl⟩|⟨rfl,rfl,rfl,rfl⟩
    ·have cX:=cBc wr;by_cases h0:X=0
     ·subst h0
      go_wp2_with (go_at_call 359;go_must (refine cX.mono ?_;rintro e W1 ⟨rfl,rfl⟩))
      go_roundg 1
      case measure=>omega
      case rel=>exact⟨hbw,Or.inr (Or.inl ⟨rfl,rfl,rfl,rfl⟩)⟩
     ·have hz:¬((X:Int)=0):=by omega
      obtain⟨ga',gb',gt',ca',cb',ct',hR,-⟩:=(HB.out.below hbw).ex;have hRb:wr.cell? ⟨R,b.toNat,none⟩=some (.slice (some ⟨gb',0,none⟩) 2 cb'):=by rw[hR b];unfold rv;rw[qW (fun h=>hab h.symm),qX rfl]
      clear hR;have g0:∀h,(⟨#[b]⟩:ByteArray)[0]'h=b:=fun _=>rfl
      have g1:(b.toNat:Int)<256:=by have:=b.toNat_lt;omega
      go_wp2_with (go_at_call 359;go_must (refine cX.mono ?_;rintro e W1 ⟨rfl,rfl⟩))
      go_region
      all_goals go_wp2
      go_roundg 1
      case measure=>omega
      case rel=>exact⟨hbw.drew,Or.inr (Or.inl ⟨rfl,congrArg _ (by omega),by rw[decide_eq_true (Nat.pos_of_ne_zero h0)],rfl⟩)⟩
    ·have cX:=cAc wr;by_cases h0:Y=0
     ·subst h0
      go_wp2_with (go_at_call 359;go_must (refine cX.mono ?_;rintro e W1 ⟨rfl,rfl⟩))
      go_roundg 0
      case measure=>omega
      case rel=>exact⟨hbw,Or.inr (Or.inr ⟨rfl,congrArg _ (by omega),by rw[wO],rfl⟩)⟩
     ·have hz:¬((Y:Int)=0):=by omega
      obtain⟨ga',gb',gt',ca',cb',ct',hR,-⟩:=(HB.out.below hbw).ex;have hRb:wr.cell? ⟨R,a.toNat,none⟩=some (.slice (some ⟨ga',0,none⟩) 2 ca'):=by rw[hR a];unfold rv;rw[qX rfl]
      clear hR;have g0:∀h,(⟨#[a]⟩:ByteArray)[0]'h=a:=fun _=>rfl
      have g1:(a.toNat:Int)<256:=by have:=a.toNat_lt;omega
      go_wp2_with (go_at_call 359;go_must (refine cX.mono ?_;rintro e W1 ⟨rfl,rfl⟩))
      go_region
      all_goals go_wp2
      go_roundg 0
      case measure=>omega
      case rel=>exact⟨hbw.drew,Or.inr (Or.inr ⟨rfl,congrArg _ (by omega),by rw[decide_eq_true (show 0<Y+X by omega)],rfl⟩)⟩
    ·go_wp2
     go_meet
     case rel=>exact⟨by rw[← HM.out,HXY.out],by rw[HXY.out],hbw⟩
  ·rename_i h16;clear h16
   go_loopg [5,6,10] s.size (fun gk s5 s6 s10 wx=>wx=w/\∃k C:Nat,s10 = .int .i64 k/\s5 = .int .i64 ((s.size+C:Nat):Int)/\s6 = .bool (decide (0<C))/\k<=s.size/\s.size<=k+gk/\Aside (ix a b (L.take k)=C)/\C<=2000000)
   case atStart=>exact⟨rfl,0,0,rfl,rfl,rfl,Nat.zero_le _,by omega,rfl,by omega⟩
   case round=>
    obtain⟨rfl,k,C,rfl,rfl,rfl,hk,hgk,HC,hC⟩:=hrel;by_cases hk2:k<s.size
    ·obtain⟨g,rfl⟩:∃g,gk=g+1:=⟨gk-1,by omega⟩
     obtain⟨c,hc⟩:∃c,s[k]'hk2=c:=⟨_,rfl⟩;have hstep:Aside (ix a b (L.take (k+1))=C+(if c=a then 1 else if c=b then 1 else 0)):=by
      have h1:k<L.length:=by rw[ac];exact hk2
      have h2:L[k]'h1=c:=by subst hL;exact hc
      show _=_;rw[zc3 L k h1,qwj,HC.out,qwk hab,h2]
     have hC3:Aside (ix a b (L.take (k+1))<=2000000):=by
      show _<=_;unfold ix;have h1:=List.count_le_length (a:=a) (l:=L.take (k+1));have h2:=List.count_le_length (a:=b) (l:=L.take (k+1));rw[List.length_take]at h1 h2;omega
     obtain⟨ga',gb',gt',ca',cb',ct',hR,-⟩:=HB.out.ex;have hRc:=hR c;unfold rv at hRc;clear hR;have g1:(c.toNat:Int)<256:=by have:=c.toNat_lt;omega
     by_cases h1:c=a
     ·rw[qX h1]at hRc;rw[qX h1]at hstep;clear h1
      go_wp2
      go_roundg g
      case measure=>omega
      case rel=>exact⟨rfl,k+1,C+1,congrArg _ (by omega),congrArg _ (by omega),by rw[decide_eq_true (Nat.succ_pos C)],by omega,by omega,hstep,by have:=hC3.out;rw[hstep.out]at this;exact this⟩
     ·rw[qW h1]at hRc;rw[qW h1]at hstep;by_cases h2:c=b
      ·rw[qX h2]at hRc;rw[qX h2]at hstep;clear h1 h2
       go_wp2
       go_roundg g
       case measure=>omega
       case rel=>exact⟨rfl,k+1,C+1,congrArg _ (by omega),congrArg _ (by omega),by rw[decide_eq_true (Nat.succ_pos C)],by omega,by omega,hstep,by have:=hC3.out;rw[hstep.out]at this;exact this⟩
      ·rw[qW h2]at hRc;rw[qW h2]at hstep;clear h1 h2
       go_wp2
       go_roundg g
       case measure=>omega
       case rel=>exact⟨rfl,k+1,C,congrArg _ (by omega),congrArg _ (by omega),rfl,by omega,by omega,hstep,hC⟩
    ·obtain rfl:k=s.size:=by omega
     have HC2:C=Z:=by rw[← HC.out,← ac,List.take_length,HZ.out]
     subst HC2
     go_wp2
     go_meet
     case rel=>exact⟨by rw[HM.out],rfl,Below.refl _ _⟩
 case rest=>
  obtain⟨rfl,hs6,hbw⟩:=hcut;cases h0:decide (0<Z)<;>rw[h0]at hs6<;>subst hs6
  ·have hz0:=of_decide_eq_false h0;have hid:=q63 hab [a1,a2] [b1,b2] L (by rw[HZ.out];omega)
   clear h0 hz0;have HI:Aside (ep a b [a1,a2] [b1,b2] L=L):=hid;clear hid
   go_wp2
   go_ret
   exact⟨by rw[HI.out,← hL];rfl,hbw⟩
  ·clear h0;have hmk:∀w:World,(Instr.makeSlice 23 (.int .i64 (M:Int)) (.int .i64 (M:Int))).run Tryz.prog w = .ok (.slice (some ⟨w.heap.size,0,none⟩) M M) (w.alloc (.cells (madeCells #[.int .u8 0] M) 5)):=fun w=>
    run_make_row' (P:=Tryz.prog) 23 5 (.int .u8 0) 1 Tryz.underlying23 (by kernel_rfl) rfl .i64 .i64 M (by omega) (by omega) w
   go_wp2
   obtain⟨G,hG⟩:∃G,wc.heap.size=G:=⟨_,rfl⟩;have hrow0:=World.rowIs_made wc (.int .u8 0) M 5;have hGle:w.heap.size<=G:=by rw[← hG];exact hbw.size
   have hbw1:=hbw.alloc hbw.size (Obj.cells (madeCells #[.int .u8 0] M) 5);rw[hG]at hrow0 ⊢;have hLM:Aside (∀k,(ep a b [a1,a2] [b1,b2] (L.take k)).length<=M):=fun k=>by
    have h1:ep a b [a1,a2] [b1,b2] L=ep a b [a1,a2] [b1,b2] (L.take k)++ep a b [a1,a2] [b1,b2] (L.drop k):=by rw[← qnj,List.take_append_drop]
    have h2:=congrArg List.length h1;rw[qnk hab,ac,HZ.out,HM.out,qM]at h2;omega
   go_loopg [13,14] s.size (fun gk s13 s14 wx=>∃k j:Nat,s13 = .int .i64 j/\s14 = .int .i64 k/\k<=s.size/\s.size<=k+gk/\j<=M/\Aside ((ep a b [a1,a2] [b1,b2] (L.take k)).length=j)/\Aside (wx.rowIs G 5 M (bv (ep a b [a1,a2] [b1,b2] (L.take k))))/\Below w.heap.size w wx)
   case atStart=>exact⟨0,0,rfl,rfl,Nat.zero_le _,by omega,Nat.zero_le _,rfl,hrow0.congr (fun i _=>(qg2 [] i (Nat.zero_le _)).symm),hbw1⟩
   case round=>
    obtain⟨k,j,rfl,rfl,hk,hgk,hjM,HJ,hrow,hbx⟩:=hrel;clear hrow0 hbw1;by_cases hk2:k<s.size
    ·obtain⟨g,rfl⟩:∃g,gk=g+1:=⟨gk-1,by omega⟩
     have HG:Aside (s.size<=k+1+g):=by show _<=_;omega
     clear hgk hk;obtain⟨c,hc⟩:∃c,s[k]'hk2=c:=⟨_,rfl⟩;have hk1:k<L.length:=by rw[ac];exact hk2
     have hLk:L[k]'hk1=c:=by subst hL;exact hc
     have hstep:Aside (ep a b [a1,a2] [b1,b2] (L.take (k+1))=ep a b [a1,a2] [b1,b2] (L.take k)++tl a b [a1,a2] [b1,b2] c):=by
      show _=_;rw[zc3 L k hk1,qnj,hLk];show _++(tl a b [a1,a2] [b1,b2] c++[])=_;rw[List.append_nil]
     have hfit:Aside (j+(tl a b [a1,a2] [b1,b2] c).length<=M):=by
      have:=hLM.out (k+1);rw[hstep.out,qM,HJ.out]at this;exact this
     clear hLk hk1;obtain⟨ga',gb',gt',ca',cb',ct',hR,hT',ht0',ht1',ha0,ha1,hb0,hb1⟩:=(HB.out.below hbx).ex;have hRc:=hR c;unfold rv at hRc;clear hR hT' ht0' ht1';have g1:(c.toNat:Int)<256:=by have:=c.toNat_lt;omega
     unfold tl at hstep hfit;by_cases h1:c=a
     ·rw[qX h1]at hRc hstep hfit;have hf2:j+2<=M:=hfit.out;clear h1;have hMj:¬M=j:=by omega
      obtain⟨ROW,hcp,hnew⟩:=q56 (w:=wr.drew) (c:=ca') hrow.out.drew hf2 (by rw[World.cell?_drew];exact ha0) (by rw[World.cell?_drew];exact ha1)
      have HN:Aside (_):=hnew;have HW:Aside (wrap64 ((j:Int)+2)=(j:Int)+2):=by have:=zdt (j+2);rw[Int.natCast_add]at this;exact this
      clear hnew
      go_wp2
      go_region
      all_goals go_wp2
      go_roundg g
      case measure=>exact Nat.lt_succ_self _
      case rel=>exact⟨k+1,j+2,by first|exact vI2 j|exact(congrArg (Value.int .i64) HW.out).trans (vI2 j),qa k,hk2,HG.out,hf2,by show _=_;rw[hstep.out,qM,HJ.out];rfl,World.rowIs.congr HN.out (fun i _=>by rw[hstep.out,← q5r,HJ.out]),below_setRow hbx.drew hGle _⟩
     ·rw[qW h1]at hRc hstep hfit;by_cases h2:c=b
      ·rw[qX h2]at hRc hstep hfit;have hf2:j+2<=M:=hfit.out;clear h1 h2;have hMj:¬M=j:=by omega
       obtain⟨ROW,hcp,hnew⟩:=q56 (w:=wr.drew) (c:=cb') hrow.out.drew hf2 (by rw[World.cell?_drew];exact hb0) (by rw[World.cell?_drew];exact hb1)
       have HN:Aside (_):=hnew;have HW:Aside (wrap64 ((j:Int)+2)=(j:Int)+2):=by have:=zdt (j+2);rw[Int.natCast_add]at this;exact this
       clear hnew
       go_wp2
       go_region
       all_goals go_wp2
       go_roundg g
       case measure=>exact Nat.lt_succ_self _
       case rel=>exact⟨k+1,j+2,by first|exact vI2 j|exact(congrArg (Value.int .i64) HW.out).trans (vI2 j),qa k,hk2,HG.out,hf2,by show _=_;rw[hstep.out,qM,HJ.out];rfl,World.rowIs.congr HN.out (fun i _=>by rw[hstep.out,← q5r,HJ.out]),below_setRow hbx.drew hGle _⟩
      ·rw[qW h2]at hRc hstep hfit;have hf1:j+1<=M:=hfit.out;clear h1 h2;have hcell:wr.cell? ⟨G,j,none⟩=some (bv (ep a b [a1,a2] [b1,b2] (L.take k)) j):=hrow.out.cell (by omega)
       have hfroz:wr.frozen? ⟨G,j,none⟩=false:=hrow.out.frozen j
       go_wp2
       go_roundg g
       case measure=>exact Nat.lt_succ_self _
       case rel=>exact⟨k+1,j+1,qa j,qa k,hk2,HG.out,hf1,by show _=_;rw[hstep.out,qM,HJ.out];rfl,World.rowIs.congr (World.rowIs.set hrow.out j _) (fun i _=>by rw[hstep.out,← zj0,HJ.out]),hbx.setCell hGle _⟩
    ·obtain rfl:k=s.size:=by omega
     have HT:Aside (L.take s.size=L):=by show _=_;rw[← ac,List.take_length]
     have HE:Aside (∃l,l=ep a b [a1,a2] [b1,b2] L/\l.length=M):=⟨_,rfl,by rw[qnk hab,ac,HZ.out,HM.out]⟩
     obtain⟨E,hE,hEl⟩:=HE.out;have hcv:(convert 23 9 (.slice (some ⟨G,0,none⟩) M M)).run Tryz.prog wr = .ok (.string ⟨E.toArray⟩) wr:=by
      have h:=run_convert_bytes_back (P:=Tryz.prog) wr 23 9 5 ⟨G,0,none⟩ M E Tryz.underlying23 Tryz.underlying5 Tryz.underlying9 (fun i hi=>by
       rw[mn,wO,hrow.out.cell (by omega),HT.out,← hE]
       unfold bv;rw[List.getD_eq_getElem?_getD,List.getElem?_eq_getElem hi];rfl)
      rw[hEl]at h;exact h
     have HEq:Aside (E=ep a b [a1,a2] [b1,b2] L):=hE;clear hE hEl
     go_wp2
     go_ret
     exact⟨by rw[← HEq.out];rfl,hbx⟩
end Go.Proofs.Repl
set_option linter.unusedVariables false
namespace Go.Proofs.Repl
open Go.Shelf Go.RowKit Go.Lib Go.Sym
def zm2:(Tryz.prog.info? 9).map (fun i=>(i.zero,i.size,i.bytes))=some (some (Value.string ⟨#[]⟩),1,16):=by kernel_rfl
def mk2(w:World):(Instr.makeSlice 54 (.int .i64 0) (.int .i64 2)).run Tryz.prog w = .ok (.slice (some ⟨w.heap.size,0,none⟩) 0 2) (w.alloc (.cells #[.string ⟨#[]⟩,.string ⟨#[]⟩] 9)):=by
 obtain⟨i,hi,hzz⟩:=Option.map_eq_some_iff.1 zm2;simp only[qP]at hzz;obtain⟨hz,hs,hb⟩:=hzz;have h:=run_make (P:=Tryz.prog) w 54 9 i (.string ⟨#[]⟩) Tryz.underlying54 hi hz .i64 .i64 0 2 (by decide) (by decide) (by rw[hb];decide) (by decide)
 rw[hs,show madeCells (Value.string ⟨#[]⟩).cells (Int.toNat 2*1)=#[.string ⟨#[]⟩,.string ⟨#[]⟩] from by kernel_rfl]at h
 exact h
def zr(V:Value)(j:Nat):Value:=if j=256 then V else .slice none 0 0
def z1(b:UInt8)(g c:Nat)(V:Value)(j:Nat):Value:=if j=b.toNat then .slice (some ⟨g,0,none⟩) 2 c else zr V j
def vee:Tryz.zeroCells314.toList.length=257:=by kernel_rfl
def veb:Tryz.zeroCells314.toList.all (fun v=>v.oneCell')=true:=by kernel_rfl
def lw:Option Value->Bool|some (.slice none n c)=>Nat.beq n 0&&Nat.beq c 0|_=>false
def zm7{v:Option Value}(h:lw v=true):v=some (.slice none 0 0):=by
 unfold lw at h;split at h
 ·simp only[qA]at h;rw[qN h.1,qN h.2]
 ·cases h
def vec:(List.range 257).all (fun j=>lw Tryz.zeroCells314.toList[j]?)=true:=by kernel_rfl
def zsu(w:World)(T:Nat):∃ROW,(storeCells ⟨w.heap.size,0,none⟩ (Tryz.zeroCells314.toList.set 256 (.slice (some ⟨T,0,none⟩) 0 2))).run Tryz.prog (w.alloc (.cells Tryz.zeroCells314 314)) = .ok () ((w.alloc (.cells Tryz.zeroCells314 314)).setRow w.heap.size ROW) /\
  ((w.alloc (.cells Tryz.zeroCells314 314)).setRow w.heap.size ROW).rowIs w.heap.size 314 257 (zr (.slice (some ⟨T,0,none⟩) 0 2)):=by
 have hnew:(w.alloc (.cells Tryz.zeroCells314 314)).heap[w.heap.size]? = some (.cells Tryz.zeroCells314 314):=heap_alloc_new w _;have hz:=vee;have h:=run_storeCells_at Tryz.prog w.heap.size 0 314 (Tryz.zeroCells314.toList.set 256 (.slice (some ⟨T,0,none⟩) 0 2)) 0 _ _ hnew (by rw[List.length_set,hz,← Array.length_toList,hz];decide) (fun v hv=>by
  rcases List.mem_or_eq_of_mem_set hv with hv|rfl
  ·exact List.all_eq_true.1 veb v hv
  ·rfl)
 refine⟨_,h,?_⟩;refine⟨_,setRow_heap _ _ _ _ _ _ hnew,?_,fun i hi => ?_⟩
 ·simp only[List.size_toArray,qM,List.length_set,List.length_take,List.length_drop,hz];decide
 ·rw[List.getElem?_toArray,List.length_set,hz,List.drop_eq_nil_of_le (by rw[hz];decide),List.append_nil]
  show([]++_)[i]? = _;rw[List.nil_append,List.getElem?_set];unfold zr;by_cases h2:256=i
  ·subst h2;rw[qX rfl,qX rfl,hz];rfl
  ·rw[qW h2,qW (fun e=>h2 e.symm)]
   exact zm7 (List.all_eq_true.1 vec i (List.mem_range.2 hi))
def qcc(w:World)(x y:UInt8):Obj := .cells (bytesRow ⟨#[x,y]⟩ (grownCap w 2 0 5)) 5 ((bytesRow ⟨#[x,y]⟩ (grownCap w 2 0 5)).size,(bytesRow ⟨#[x,y]⟩ (grownCap w 2 0 5)).size+1)
def qb8(w:World):Nat:=grownCap w 2 0 5
def cv2(w:World)(x y:UInt8):(convert 9 23 (.string ⟨#[x,y]⟩)).run Tryz.prog w = .ok (.slice (some ⟨w.heap.size,0,none⟩) 2 (qb8 w)) (w.drew.alloc (qcc w x y)):=
 run_bytes_of_string (P:=Tryz.prog) w 9 23 5 ⟨#[x,y]⟩ Tryz.underlying9 Tryz.underlying23 Tryz.underlying5
def zjv(w W:World)(x y:UInt8):(W.alloc (qcc w x y)).cell? ⟨W.heap.size,0,none⟩=some (.int .u8 x.toNat)/\(W.alloc (qcc w x y)).cell? ⟨W.heap.size,1,none⟩=some (.int .u8 y.toNat):=by
 unfold qcc;rw[World.cell?_alloc_mark,World.cell?_alloc_mark];exact⟨bytesRow_at ⟨#[x,y]⟩ _ 0 (by show 0<2;decide),bytesRow_at ⟨#[x,y]⟩ _ 1 (by show 1<2;decide)⟩
def cv1(w:World)(x:UInt8):(convert 23 9 (.slice (some ⟨w.heap.size,0,none⟩) 1 1)).run Tryz.prog (w.alloc (.cells #[.int .u8 x.toNat] 5)) = .ok (.string ⟨#[x]⟩) (w.alloc (.cells #[.int .u8 x.toNat] 5)):=
 run_convert_bytes_back (P:=Tryz.prog) _ 23 9 5 ⟨w.heap.size,0,none⟩ 1 [x] Tryz.underlying23 Tryz.underlying5 Tryz.underlying9 (fun i hi=>by
  have:i=0:=by simpa using hi
  subst this;rw[mn];show World.cell? _ ⟨w.heap.size,0,none⟩=_;unfold World.cell?;rw[show(w.alloc (.cells #[.int .u8 (x.toNat:Int)] 5)).heap[w.heap.size]? = _ from heap_alloc_new w _]
  rfl)
def w4(wr:World)(T k n:Nat)(c:UInt8):World:=(((wr.alloc (.cells #[.int .u8 c.toNat] 5)).alloc (.cells #[.string ⟨#[c]⟩] 9)).setCell ⟨T,k,none⟩ (.string ⟨#[c]⟩)).setCell ⟨T+1,256,none⟩ (.slice (some ⟨T,0,none⟩) n 2)
def w5(wr:World)(T k n:Nat)(c x y:UInt8):World:=(((w4 wr T k n c).alloc (qcc (w4 wr T k n c) x y)).setCell ⟨T+1,c.toNat,none⟩ (.slice (some ⟨wr.heap.size+1+1,0,none⟩) 2 (qb8 (w4 wr T k n c)))).drew
def zcp(wr:World)(T k n:Nat)(c x y:UInt8)(hT:T+2<=wr.heap.size){f h:Nat->Value}(hR:wr.rowIs (T+1) 314 257 f)(hTr:wr.rowIs T 9 2 h) :
  (w5 wr T k n c x y).rowIs (T+1) 314 257 (fun j=>if j=c.toNat then .slice (some ⟨wr.heap.size+1+1,0,none⟩) 2 (qb8 (w4 wr T k n c)) else if j=256 then .slice (some ⟨T,0,none⟩) n 2 else f j)/\(w5 wr T k n c x y).rowIs T 9 2 (fun i=>if i=k then .string ⟨#[c]⟩ else h i) /\
   (w5 wr T k n c x y).cell? ⟨wr.heap.size+1+1,0,none⟩=some (.int .u8 x.toNat)/\(w5 wr T k n c x y).cell? ⟨wr.heap.size+1+1,1,none⟩=some (.int .u8 y.toNat)/\(∀p:Addr,T+2<=p.block->p.block<wr.heap.size->(w5 wr T k n c x y).cell? p=wr.cell? p)/\Below T wr (w5 wr T k n c x y)/\T+2<=(w5 wr T k n c x y).heap.size:=by
 unfold w5;generalize hWb:qcc (w4 wr T k n c) x y=B;generalize (Value.slice (some ⟨wr.heap.size+1+1,0,none⟩) 2 (qb8 (w4 wr T k n c)))=V3;have hbc0:=fun W=>zjv (w4 wr T k n c) W x y
 rw[hWb]at hbc0;unfold w4;clear hWb;generalize (Obj.cells #[.int .u8 c.toNat] 5)=o1;generalize (Obj.cells #[.string ⟨#[c]⟩] 9)=o2;generalize (Value.string ⟨#[c]⟩)=S;generalize (Value.slice (some ⟨T,0,none⟩) n 2)=V2;have hsz:((((wr.alloc o1).alloc o2).setCell ⟨T,k,none⟩ S).setCell ⟨T+1,256,none⟩ V2).heap.size=wr.heap.size+1+1:=by simp[World.setCell]
 have hbc:=hbc0 ((((wr.alloc o1).alloc o2).setCell ⟨T,k,none⟩ S).setCell ⟨T+1,256,none⟩ V2);rw[hsz]at hbc;refine⟨?_,?_,?_,?_,fun p h1 h2 => ?_,?_,?_⟩
 ·exact(((((hR.alloc o1).alloc o2).setOther (a:=⟨T,k,none⟩) (by simp) S).set 256 V2).alloc _).set _ V3
 ·exact(((((hTr.alloc o1).alloc o2).set k S).setOther (a:=⟨T+1,256,none⟩) (by simp) V2).alloc _).setOther (a:=⟨T+1,c.toNat,none⟩) (by simp) V3
 ·rw[World.cell?_drew,World.cell?_setCell_other _ _ _ _ (by intro h;have:=congrArg Addr.block h;simp at this;omega)];exact hbc.1
 ·rw[World.cell?_drew,World.cell?_setCell_other _ _ _ _ (by intro h;have:=congrArg Addr.block h;simp at this;omega)];exact hbc.2
 ·refine World.cell?_of_block (w:=wr) ?_;show(World.setCell _ _ _).heap[p.block]? = _;rw[Below.heap_setCell _ _ _ _ (by simp;omega),Below.heap_alloc _ _ _ (by rw[hsz];omega),Below.heap_setCell _ _ _ _ (by simp;omega),Below.heap_setCell _ _ _ _ (by simp;omega),Below.heap_alloc _ _ _ (by simp;omega),Below.heap_alloc _ _ _ h2]
 ·have hsz2:wr.heap.size+1+1=((((wr.alloc o1).alloc o2).setCell ⟨T,k,none⟩ S).setCell ⟨T+1,256,none⟩ V2).heap.size:=hsz.symm;exact(((((((Below.refl T wr).alloc (by omega) o1).alloc (by simp;omega) o2).setCell (p:=⟨T,k,none⟩) (wF _) S).setCell (p:=⟨T+1,256,none⟩) (Nat.le_succ _) V2).alloc (by omega) _).setCell (p:=⟨T+1,c.toNat,none⟩) (Nat.le_succ _) V3).drew
 ·show _<=(World.setCell _ _ _).heap.size;simp[World.setCell];omega
set_option maxHeartbeats 4000000 in
set_option maxRecDepth 1000000 in
def zjk(q ro cap:Nat)(a b a1 a2 b1 b2:UInt8)(w:World)(hab:a≠b)
  (hc:w.cell? ⟨q,4,none⟩=some (.slice (some ⟨ro,0,none⟩) 4 cap)) (h0:w.cell? ⟨ro,0,none⟩=some (.string ⟨#[a]⟩)) (h1:w.cell? ⟨ro,1,none⟩=some (.string ⟨#[a1,a2]⟩)) (h2:w.cell? ⟨ro,2,none⟩=some (.string ⟨#[b]⟩)) (h3:w.cell? ⟨ro,3,none⟩=some (.string ⟨#[b1,b2]⟩)) :
  Calls Tryz.prog 244 #[.pointer (some ⟨q,0,none⟩)] w fun e w'=>∃R,e = .returned (.iface 315 (.pointer (some ⟨R,0,none⟩)))/\li R a b a1 a2 b1 b2 w'/\Below w.heap.size w w':=by
 go_enter Tryz.func244,Tryz.ntmps244
 go_wp2
 go_loopg [4,5] 2 (fun gk s4 s5 wx=>wx=w/\((s5 = .int .i64 0/\s4 = .bool true/\gk=2)\/(s5 = .int .i64 2/\s4 = .bool false/\gk=1)\/(s5 = .int .i64 4/\s4 = .bool false/\gk=0)))
 case atStart=>exact⟨rfl,Or.inl ⟨rfl,rfl,rfl⟩⟩
 case round=>
  obtain⟨rfl,⟨rfl,rfl,rfl⟩|⟨rfl,rfl,rfl⟩|⟨rfl,rfl,rfl⟩⟩:=hrel
  ·go_wp2
   go_roundg 1
   case measure=>exact Nat.lt_succ_self _
   case rel=>exact⟨rfl,Or.inr (Or.inl ⟨rfl,rfl,rfl⟩)⟩
  ·go_wp2
   go_roundg 0
   case measure=>exact Nat.lt_succ_self _
   case rel=>exact⟨rfl,Or.inr (Or.inr ⟨rfl,rfl,rfl⟩)⟩
  ·have hmk:=mk2;obtain⟨W1,hW1⟩:∃W1,wr.alloc (.cells #[.string ⟨#[]⟩,.string ⟨#[]⟩] 9)=W1:=⟨_,rfl⟩;have hz1:W1.heap.size=wr.heap.size+1:=by rw[← hW1];simp
   have hT1:W1.rowIs wr.heap.size 9 2 (fun _ => .string ⟨#[]⟩):=by rw[← hW1];exact World.rowIs_alloc wr _ _ _ (fun i hi=>by match i,hi with|0,_=>rfl|1,_=>rfl)
   have hb1:Below wr.heap.size wr W1:=by rw[← hW1];exact(Below.refl _ _).alloc (wF _) _
   obtain⟨ROW,hst,hrow⟩:=zsu W1 wr.heap.size;rw[hz1]at hst hrow;have hT2:=(hT1.alloc (.cells Tryz.zeroCells314 314)).of_block (setRow_other (W1.alloc (.cells Tryz.zeroCells314 314)) (wr.heap.size+1) wr.heap.size ROW (by omega))
   have hb2:=below_setRow (hb1.alloc hb1.size (.cells Tryz.zeroCells314 314)) (Nat.le_succ wr.heap.size) ROW;obtain⟨W2,hW2⟩:∃W2,(W1.alloc (.cells Tryz.zeroCells314 314)).setRow (wr.heap.size+1) ROW=W2:=⟨_,rfl⟩;rw[hW2]at hst hrow hT2 hb2;have HB2:Aside (W2.rowIs (wr.heap.size+1) 314 257 (zr (.slice (some ⟨wr.heap.size,0,none⟩) 0 2))/\W2.rowIs wr.heap.size 9 2 (fun _ => .string ⟨#[]⟩)/\Below wr.heap.size wr W2):=⟨hrow,hT2,hb2⟩
   clear hrow hT2 hb2 hT1 hb1 hW2
   go_wp2
   obtain⟨T,hT⟩:∃T,wr.heap.size=T:=⟨_,rfl⟩;rw[hT]at HB2 ⊢;have hS:Aside (wr.heap.size=T):=hT;clear hst hmk hz1 hW1 hT
   go_loopg [12] 2 (fun gk s12 wx=>Below T wr wx/\T+2<=wx.heap.size/\(
    (s12 = .int .i64 2/\gk=2/\Aside (wx.rowIs (T+1) 314 257 (zr (.slice (some ⟨T,0,none⟩) 0 2))/\wx.rowIs T 9 2 (fun _ => .string ⟨#[]⟩))) \/
    (s12 = .int .i64 0/\gk=1/\∃gb cb,T+2<=gb/\gb<wx.heap.size/\Aside (wx.rowIs (T+1) 314 257 (fun j=>if j=b.toNat then .slice (some ⟨gb,0,none⟩) 2 cb else if j=256 then .slice (some ⟨T,0,none⟩) 1 2 else .slice none 0 0)/\wx.rowIs T 9 2 (fun i=>if i=0 then .string ⟨#[b]⟩ else .string ⟨#[]⟩)/\wx.cell? ⟨gb,0,none⟩=some (.int .u8 b1.toNat)/\wx.cell? ⟨gb,1,none⟩=some (.int .u8 b2.toNat))) \/
    (s12 = .int .i64 (-2)/\gk=0/\Aside (li (T+1) a b a1 a2 b1 b2 wx))))
   case atStart=>exact⟨HB2.out.2.2,by have:=HB2.out.1.lt;omega,Or.inl ⟨rfl,rfl,HB2.out.1,HB2.out.2.1⟩⟩
   case round=>
    obtain⟨hbx,hsz,h⟩:=hrel;have k0:=(hbx.cell (p:=⟨ro,0,none⟩) (by rw[← hS.out];exact World.block_lt_of_cell? _ _ h0)).trans h0
    have k1:=(hbx.cell (p:=⟨ro,1,none⟩) (by rw[← hS.out];exact World.block_lt_of_cell? _ _ h1)).trans h1
    have k2:=(hbx.cell (p:=⟨ro,2,none⟩) (by rw[← hS.out];exact World.block_lt_of_cell? _ _ h2)).trans h2
    have k3:=(hbx.cell (p:=⟨ro,3,none⟩) (by rw[← hS.out];exact World.block_lt_of_cell? _ _ h3)).trans h3
    clear h0 h1 h2 h3 hc HB2;have e1:=zlv;have e2:=zlu;have e3:=cv1;have e4:=cv2;rcases h with⟨rfl,rfl,hr⟩|⟨rfl,rfl,gb,cb,hgb,hgs,hr⟩|⟨rfl,rfl,hr⟩
    ·have g0:∀h,(⟨#[b]⟩:ByteArray)[0]'h=b:=fun _=>rfl
     have g1:(b.toNat:Int)<256:=by have:=b.toNat_lt;omega
     have g2:b.toNat<256:=b.toNat_lt;have hRb:wr.cell? ⟨T+1,b.toNat,none⟩=some (.slice none 0 0):=by
      rw[hr.out.1.cell (by omega)];unfold zr;rw[qW (by have:=b.toNat_lt;omega)]
     have hR2:wr.cell? ⟨T+1,256,none⟩=some (.slice (some ⟨T,0,none⟩) 0 2):=by rw[hr.out.1.cell (by decide)];rfl
     have hT0:∀o1 o2,((wr.alloc o1).alloc o2).cell? ⟨T,0,none⟩=some (.string ⟨#[]⟩):=fun o1 o2=>((hr.out.2.alloc o1).alloc o2).cell (by decide)
     have hTf:∀o1 o2,((wr.alloc o1).alloc o2).frozen? ⟨T,0,none⟩=false:=fun o1 o2=>((hr.out.2.alloc o1).alloc o2).frozen _
     have hR3:∀o1 o2,((wr.alloc o1).alloc o2).cell? ⟨T+1,256,none⟩=some (.slice (some ⟨T,0,none⟩) 0 2):=fun o1 o2=>by rw[((hr.out.1.alloc o1).alloc o2).cell (by decide)];rfl
     have hRf:∀o1 o2,((wr.alloc o1).alloc o2).frozen? ⟨T+1,256,none⟩=false:=fun o1 o2=>((hr.out.1.alloc o1).alloc o2).frozen _
     have hR4:∀o1 o2 v1 v2 o3,(((((wr.alloc o1).alloc o2).setCell ⟨T,0,none⟩ v1).setCell ⟨T+1,256,none⟩ v2).alloc o3).cell? ⟨T+1,b.toNat,none⟩=some (.slice none 0 0):=fun o1 o2 v1 v2 o3=>by
      rw[((((((hr.out.1.alloc o1).alloc o2).setOther (a:=⟨T,0,none⟩) (by simp) v1).set 256 v2)).alloc o3).cell (by omega)]
      rw[qW (by omega)];unfold zr;rw[qW (by have:=b.toNat_lt;omega)]
     have hRg:∀o1 o2 v1 v2 o3,(((((wr.alloc o1).alloc o2).setCell ⟨T,0,none⟩ v1).setCell ⟨T+1,256,none⟩ v2).alloc o3).frozen? ⟨T+1,b.toNat,none⟩=false:=fun o1 o2 v1 v2 o3=>
      ((((((hr.out.1.alloc o1).alloc o2).setOther (a:=⟨T,0,none⟩) (by simp) v1).set 256 v2)).alloc o3).frozen _
     clear g2
     go_wp2
     go_roundg 1
     case measure=>exact Nat.lt_succ_self _
     case rel=>
      have HS:=zcp wr T 0 1 b b1 b2 hsz hr.out.1 hr.out.2;obtain⟨q1,q2,q3,q4,q5,q6,q7⟩:=HS;have q8:=World.block_lt_of_cell? _ _ q3;refine⟨hbx.trans q6,q7,Or.inr (Or.inl ⟨rfl,rfl,wr.heap.size+1+1,qb8 (w4 wr T 0 1 b),by omega,q8,(?_:_/\_/\_/\_)⟩)⟩
      refine⟨q1.congr (fun j _ => ?_),q2,q3,q4⟩
      ·show(if _ then _ else if _ then _ else zr _ j)=_
       unfold zr;by_cases h1:j=b.toNat
       ·rw[qX h1,qX h1]
       ·by_cases h2:j=256
        ·rw[qW h1,qX h2,qW h1,qX h2]
        ·rw[qW h1,qW h2,qW h2,qW h1,qW h2]
    ·have g0:∀h,(⟨#[a]⟩:ByteArray)[0]'h=a:=fun _=>rfl
     have g1:(a.toNat:Int)<256:=by have:=a.toNat_lt;omega
     have g2:a.toNat<256:=a.toNat_lt;have hne:¬a.toNat=b.toNat:=fun h=>hab (UInt8.toNat_inj.1 h)
     have HNE:Aside (¬a.toNat=b.toNat):=hne;have hRb:wr.cell? ⟨T+1,a.toNat,none⟩=some (.slice none 0 0):=by
      rw[hr.out.1.cell (by omega)];rw[qW (by omega),qW (by omega)]
     have hR2:wr.cell? ⟨T+1,256,none⟩=some (.slice (some ⟨T,0,none⟩) 1 2):=by rw[hr.out.1.cell (by decide)];rw[qW (by have:=b.toNat_lt;omega),qX rfl]
     have hT0:∀o1 o2,((wr.alloc o1).alloc o2).cell? ⟨T,1,none⟩=some (.string ⟨#[]⟩):=fun o1 o2=>((hr.out.2.1.alloc o1).alloc o2).cell (by decide)
     have hTf:∀o1 o2,((wr.alloc o1).alloc o2).frozen? ⟨T,1,none⟩=false:=fun o1 o2=>((hr.out.2.1.alloc o1).alloc o2).frozen _
     have hR3:∀o1 o2,((wr.alloc o1).alloc o2).cell? ⟨T+1,256,none⟩=some (.slice (some ⟨T,0,none⟩) 1 2):=fun o1 o2=>by rw[((hr.out.1.alloc o1).alloc o2).cell (by decide)];rw[qW (by have:=b.toNat_lt;omega),qX rfl]
     have hRf:∀o1 o2,((wr.alloc o1).alloc o2).frozen? ⟨T+1,256,none⟩=false:=fun o1 o2=>((hr.out.1.alloc o1).alloc o2).frozen _
     have hR4:∀o1 o2 v1 v2 o3,(((((wr.alloc o1).alloc o2).setCell ⟨T,1,none⟩ v1).setCell ⟨T+1,256,none⟩ v2).alloc o3).cell? ⟨T+1,a.toNat,none⟩=some (.slice none 0 0):=fun o1 o2 v1 v2 o3=>by
      rw[((((((hr.out.1.alloc o1).alloc o2).setOther (a:=⟨T,1,none⟩) (by simp) v1).set 256 v2)).alloc o3).cell (by omega)]
      rw[qW (by omega)];rw[qW (by omega),qW (by omega)]
     have hRg:∀o1 o2 v1 v2 o3,(((((wr.alloc o1).alloc o2).setCell ⟨T,1,none⟩ v1).setCell ⟨T+1,256,none⟩ v2).alloc o3).frozen? ⟨T+1,a.toNat,none⟩=false:=fun o1 o2 v1 v2 o3=>
      ((((((hr.out.1.alloc o1).alloc o2).setOther (a:=⟨T,1,none⟩) (by simp) v1).set 256 v2)).alloc o3).frozen _
     clear g2 hne
     go_wp2
     go_roundg 0
     case measure=>exact Nat.lt_succ_self _
     case rel=>
      have HS:=zcp wr T 1 2 a a1 a2 hsz hr.out.1 hr.out.2.1;obtain⟨q1,q2,q3,q4,q5,q6,q7⟩:=HS;have hgbR:=(q5 ⟨gb,0,none⟩ hgb hgs).trans hr.out.2.2.1;have hgbS:=(q5 ⟨gb,1,none⟩ hgb hgs).trans hr.out.2.2.2;have hB:li (T+1) a b a1 a2 b1 b2 (w5 wr T 1 2 a a1 a2):=by
       refine⟨wr.heap.size+1+1,gb,T,qb8 (w4 wr T 1 2 a),cb,2,fun d => ?_,?_,?_,?_,q3,q4,hgbR,hgbS⟩
       ·rw[q1.cell (by have:=d.toNat_lt;omega)]
        unfold rv;by_cases h1:d=a
        ·rw[qX (congrArg _ h1),qX h1]
        ·rw[qW (fun h=>h1 (UInt8.toNat_inj.1 h)),qW h1,qW (by have:=d.toNat_lt;omega)]
         by_cases h2:d=b
         ·rw[qX (congrArg _ h2),qX h2]
         ·rw[qW (fun h=>h2 (UInt8.toNat_inj.1 h)),qW h2,qW (by have:=d.toNat_lt;omega)]
       ·rw[q1.cell (by decide),qW (by have:=a.toNat_lt;omega),qX rfl]
       ·rw[q2.cell (by decide)];rfl
       ·rw[q2.cell (by decide)];rfl
      exact⟨hbx.trans q6,q7,Or.inr (Or.inr ⟨rfl,rfl,hB⟩)⟩
    ·go_wp2
     go_ret
     exact⟨T+1,rfl,hr.out,by rw[hS.out];exact hbx⟩
end Go.Proofs.Repl
namespace Go.Proofs.YtbcijcbgdaggdaaGreatDoor.Once
def disable(w:World):(callFunc 291 #[]).run Tryz.prog w = .ok (.value (.tuple #[])) w:=run_call_mark0 Tryz.func291 (by kernel_rfl) (by kernel_rfl) (by kernel_rfl) .disable (by kernel_rfl) w
def enable(w:World):(callFunc 293 #[]).run Tryz.prog w = .ok (.value (.tuple #[])) w:=run_call_mark0 Tryz.func293 (by kernel_rfl) (by kernel_rfl) (by kernel_rfl) .enable (by kernel_rfl) w
def acquire(a:Addr)(w:World):(callFunc 294 #[.pointer (some a)]).run Tryz.prog w = .ok (.value (.tuple #[])) w:=run_call_marked Tryz.func294 (by kernel_rfl) (by kernel_rfl) (by kernel_rfl) .acquire (by kernel_rfl) a w
def releaseMerge(a:Addr)(w:World):(callFunc 296 #[.pointer (some a)]).run Tryz.prog w = .ok (.value (.tuple #[])) w:=run_call_marked Tryz.func296 (by kernel_rfl) (by kernel_rfl) (by kernel_rfl) .releaseMerge (by kernel_rfl) a w
set_option maxHeartbeats 1600000 in
def zsz(a:Addr)(x:Value)(u:FrameMode)(w:World)(hc:w.cell? a=some x)(hz:w.frozen? a=false) :
  CallsD Tryz.prog 262 #[.pointer (some a),.bool true] u w fun e u' w'=>u'=u/\(e = .returned (.tuple #[])/\w'=w.drew.setCell a (.int .u32 1)):=by
 have hc':w.drew.cell? a=some x:=by go_simp
 have hz':w.drew.frozen? a=false:=by go_simp
 have hst:=run_call_store (P:=Tryz.prog) Tryz.func279 (by kernel_rfl) (by kernel_rfl) (by kernel_rfl) (by kernel_rfl) (k := .u32) (y:=1) hc' hz'
 go_enter_d Tryz.func262,Tryz.ntmps262
 go_wp2
 go_region_calls
 all_goals (go_end0;exact⟨rfl,rfl⟩)
set_option maxHeartbeats 1600000 in
def zt3(a:Addr)(u:FrameMode)(w:World)(hc:w.cell? a=some (.int .i32 1))(hz:w.frozen? a=false) :
  CallsD Tryz.prog 261 #[.pointer (some a)] u w fun e u' w'=>u'=u/\(e = .returned (.tuple #[])/\w'=w.setCell a (.int .i32 0)):=by
 have hd:=disable;have he:=enable;have hr:=releaseMerge;have hadd:=run_call_add (P:=Tryz.prog) Tryz.func297 (by kernel_rfl) (by kernel_rfl) (by kernel_rfl) .i32 (by kernel_rfl) (y := -1) (s:=0) hc hz (by simp[go_sem];rfl)
 have hcv:=run_convert_to_unsafe (P:=Tryz.prog) (src:=338) (dst:=221) Tryz.underlying338 Tryz.underlying221 (by kernel_rfl) hc
 go_enter_d Tryz.func261,Tryz.ntmps261
 go_wp2
 go_end0
 go_wp2
 go_end0
 exact⟨rfl,rfl⟩
set_option maxHeartbeats 1600000 in
def zn5(a:Addr)(w:World)(hc:w.cell? a=some (.int .i32 0))(hz:w.frozen? a=false) :
  Calls Tryz.prog 260 #[.pointer (some a)] w fun e w'=>e = .returned (.tuple #[])/\w'=w.setCell a (.int .i32 1):=by
 have hd:=disable;have he:=enable;have ha:=acquire;have hcas:=run_call_cas_hit (P:=Tryz.prog) Tryz.func292 (by kernel_rfl) (by kernel_rfl) (by kernel_rfl) .i32 (by kernel_rfl) (y:=1) hc hz
 have hc':(w.setCell a (.int .i32 1)).cell? a=some (.int .i32 1):=World.cell?_setCell_same w a _ hc;have hcv:=run_convert_to_unsafe (P:=Tryz.prog) (src:=338) (dst:=221) Tryz.underlying338 Tryz.underlying221 (by kernel_rfl) hc'
 go_enter Tryz.func260,Tryz.ntmps260
 go_wp2
 first|go_end0|(simp only[Exit.inBlock,Exit.then];refine bodyPost_ret (results_none rfl _ _ _) rfl ?_)|refine bodyPost_ret (results_none rfl _ _ _) rfl ?_
 go_wp2
 go_end0
 exact⟨rfl,rfl⟩
end Go.Proofs.YtbcijcbgdaggdaaGreatDoor.Once
namespace Go.Proofs.YtbcijcbgdaggdaaGreatDoor.Once
set_option maxHeartbeats 1600000 in
def zsh(b:Nat)(w:World)(R:World->Prop)
  (h0:w.cell? ⟨b,0,none⟩=some (.int .u32 0)) (h1:w.cell? ⟨b,0+1,none⟩=some (.int .i32 0)) (f0:w.frozen? ⟨b,0,none⟩=false) (f1:w.frozen? ⟨b,0+1,none⟩=false)
  (hf:Calls Tryz.prog 221 #[.pointer (some ⟨b,0,none⟩)] (w.setCell ⟨b,0+1,none⟩ (.int .i32 1)) fun e w'=>e = .returned (.tuple #[])/\R w')
  (hR:∀w',R w'->w'.cell? ⟨b,0,none⟩=some (.int .u32 0)/\w'.frozen? ⟨b,0,none⟩=false/\w'.cell? ⟨b,0+1,none⟩=some (.int .i32 1)/\w'.frozen? ⟨b,0+1,none⟩=false) :
  Calls Tryz.prog 243 #[.pointer (some ⟨b,0,none⟩),.func (.func 221) #[.pointer (some ⟨b,0,none⟩)] #[]] w fun e w'=>e = .returned (.tuple #[])/\∃w1,R w1/\w'=(w1.drew.setCell ⟨b,0,none⟩ (.int .u32 1)).setCell ⟨b,0+1,none⟩ (.int .i32 0):=by
 have hl:=run_call_load (P:=Tryz.prog) Tryz.func259 (by kernel_rfl) (by kernel_rfl) (by kernel_rfl) .u32 (by kernel_rfl) (w:=w.setCell ⟨b,0+1,none⟩ (.int .i32 1)) (a:=⟨b,0,none⟩) (x:=0) ((World.cell?_setCell_other _ ⟨b,0+1,none⟩ ⟨b,0,none⟩ _ (by simp)).trans h0)
 have hnot:∀(x:Bool)(w:World),(Op.unary .not (.bool x)).run Tryz.prog w = .ok (.bool (!x)) w:=fun _ _=>rfl
 go_enter_defers Tryz.func243,Tryz.ntmps243
 go_wp2_with (first|(go_at_call 260;refine(zn5 ⟨b,0+1,none⟩ _ (by go_simp) (by go_simp)).mono ?_;rintro e w' ⟨rfl,rfl⟩)|(go_at_call 242;go_in)|(go_at_call 221;refine hf.mono ?_;rintro e w' ⟨rfl,hw⟩))
 obtain⟨r0,rf0,r1,rf1⟩:=hR w' hw
 first|go_end0|skip
 first|go_wp2|skip
 refine leaves_cons (f:=262) (args:=#[.pointer (some ⟨b,0,none⟩),.bool true]) (by simp) (by simp[go_sem]) ?_
 refine(zsz ⟨b,0,none⟩ (.int .u32 0) .returning _ r0 rf0).mono ?_;rintro e u' w'' ⟨rfl,rfl,rfl⟩
 refine leaves_cons (f:=261) (args:=#[.pointer (some ⟨b,0+1,none⟩)]) (by simp[settle]) (by simp[go_sem]) ?_
 have r1':(w'.drew.setCell ⟨b,0,none⟩ (.int .u32 1)).cell? ⟨b,0+1,none⟩=some (.int .i32 1):=by
  refine(World.cell?_setCell_other _ ⟨b,0,none⟩ ⟨b,0+1,none⟩ _ (by simp)).trans ?_
  rw[World.cell?_drew];exact r1
 refine(zt3 ⟨b,0+1,none⟩ _ _ r1' (by simp[rf1])).mono ?_
 rintro e u' w'' ⟨rfl,rfl,rfl⟩
 simp[Leaves,settle,results,Tryz.results243];exact⟨w',hw,rfl⟩
set_option maxHeartbeats 1600000 in
def q6t(b:Nat)(w:World)(R:World->Prop)
  (h0:w.cell? ⟨b,0,none⟩=some (.int .u32 0)) (h1:w.cell? ⟨b,0+1,none⟩=some (.int .i32 0)) (f0:w.frozen? ⟨b,0,none⟩=false) (f1:w.frozen? ⟨b,0+1,none⟩=false)
  (hf:Calls Tryz.prog 221 #[.pointer (some ⟨b,0,none⟩)] (w.setCell ⟨b,0+1,none⟩ (.int .i32 1)) fun e w'=>e = .returned (.tuple #[])/\R w')
  (hR:∀w',R w'->w'.cell? ⟨b,0,none⟩=some (.int .u32 0)/\w'.frozen? ⟨b,0,none⟩=false/\w'.cell? ⟨b,0+1,none⟩=some (.int .i32 1)/\w'.frozen? ⟨b,0+1,none⟩=false) :
  Calls Tryz.prog 220 #[.pointer (some ⟨b,0,none⟩),.func (.func 221) #[.pointer (some ⟨b,0,none⟩)] #[]] w fun e w'=>e = .returned (.tuple #[])/\∃w1,R w1/\w'=(w1.drew.setCell ⟨b,0,none⟩ (.int .u32 1)).setCell ⟨b,0+1,none⟩ (.int .i32 0):=by
 have hl:=run_call_load (P:=Tryz.prog) Tryz.func259 (by kernel_rfl) (by kernel_rfl) (by kernel_rfl) .u32 (by kernel_rfl) h0
 have hnot:∀(x:Bool)(w:World),(Op.unary .not (.bool x)).run Tryz.prog w = .ok (.bool (!x)) w:=fun _ _=>rfl
 go_enter Tryz.func220,Tryz.ntmps220
 go_wp2_with (first|(go_at_call 242;go_in)|(go_at_call 243;refine(zsh b w R h0 h1 f0 f1 hf hR).mono ?_;rintro e w' ⟨rfl,w1,hw1,rfl⟩))
 go_end0
 exact⟨rfl,w1,hw1,rfl⟩
set_option maxHeartbeats 1600000 in
def zlc(a:Addr)(d:Int)(hd:¬d=0)(fv:Value)(w:World)(h0:w.cell? a=some (.int .u32 d)) :
  Calls Tryz.prog 220 #[.pointer (some a),fv] w fun e w'=>e = .returned (.tuple #[])/\w'=w:=by
 have hl:=run_call_load (P:=Tryz.prog) Tryz.func259 (by kernel_rfl) (by kernel_rfl) (by kernel_rfl) .u32 (by kernel_rfl) h0
 have hnot:∀(x:Bool)(w:World),(Op.unary .not (.bool x)).run Tryz.prog w = .ok (.bool (!x)) w:=fun _ _=>rfl
 have hd':(d != 0)=true:=by simp[hd]
 go_enter Tryz.func220,Tryz.ntmps220
 go_wp2
 go_end0
 exact⟨rfl,rfl⟩
end Go.Proofs.YtbcijcbgdaggdaaGreatDoor.Once
namespace Go.Proofs.YtbcijcbgdaggdaaGreatDoor.Once
set_option maxHeartbeats 1600000 in
def replace_first(b:Nat)(s:ByteArray)(w:World)(R:World->Prop)(Q:Value->World->Prop)
  (h0:w.cell? ⟨b,0,none⟩=some (.int .u32 0)) (h1:w.cell? ⟨b,0+1,none⟩=some (.int .i32 0)) (f0:w.frozen? ⟨b,0,none⟩=false) (f1:w.frozen? ⟨b,0+1,none⟩=false)
  (hf:Calls Tryz.prog 221 #[.pointer (some ⟨b,0,none⟩)] (w.setCell ⟨b,0+1,none⟩ (.int .i32 1)) fun e w'=>e = .returned (.tuple #[])/\R w')
  (hR:∀w',R w'->w'.cell? ⟨b,0,none⟩=some (.int .u32 0)/\w'.frozen? ⟨b,0,none⟩=false/\w'.cell? ⟨b,0+1,none⟩=some (.int .i32 1)/\w'.frozen? ⟨b,0+1,none⟩=false)
  (hg:∀w',R w'->∃g,w'.cell? ⟨b,3,none⟩=some (.iface 311 (.pointer (some ⟨g,0,none⟩))) /\
   Calls Tryz.prog 355 #[.pointer (some ⟨g,0,none⟩),.string s] ((w'.drew.setCell ⟨b,0,none⟩ (.int .u32 1)).setCell ⟨b,0+1,none⟩ (.int .i32 0)) fun e w''=>∃v,e = .returned v/\Q v w'') :
  Calls Tryz.prog 180 #[.pointer (some ⟨b,0,none⟩),.string s] w fun e w'=>∃v,e = .returned v/\Q v w':=by
 have hme : ∀ (g : Nat) (w : World), (method 505 311 (.pointer (some ⟨g, 0, none⟩)) "Replace").run Tryz.prog w = .ok (355, .pointer (some ⟨g, 0, none⟩)) w := fun _ _ => by kernel_rfl
 go_enter Tryz.func180,Tryz.ntmps180
 go_wp2_with (first|(go_at_call 220;refine(q6t b w R h0 h1 f0 f1 hf hR).mono ?_;rintro e w' ⟨rfl,w1,hw1,rfl⟩;obtain⟨g,hg1,hg2⟩:=hg w1 hw1;have hc3:((w1.drew.setCell ⟨b,0,none⟩ (.int .u32 1)).setCell ⟨b,0+1,none⟩ (.int .i32 0)).cell? ⟨b,3,none⟩=some (.iface 311 (.pointer (some ⟨g,0,none⟩))):=((World.cell?_setCell_other _ ⟨b,0+1,none⟩ ⟨b,3,none⟩ _ (by simp)).trans ((World.cell?_setCell_other _ ⟨b,0,none⟩ ⟨b,3,none⟩ _ (by simp)).trans (by rw[World.cell?_drew];exact hg1))))|(go_at_call 355;refine hg2.mono ?_;rintro e w' ⟨v,rfl,hq⟩))
 go_ret
 exact⟨_,rfl,hq⟩
set_option maxHeartbeats 1600000 in
def replace_done(b g:Nat)(s:ByteArray)(w:World)(Q:Value->World->Prop)(d:Int)(hd:¬d=0)
  (h0:w.cell? ⟨b,0,none⟩=some (.int .u32 d)) (hc3:w.cell? ⟨b,3,none⟩=some (.iface 311 (.pointer (some ⟨g,0,none⟩))))
  (hg2:Calls Tryz.prog 355 #[.pointer (some ⟨g,0,none⟩),.string s] w fun e w''=>∃v,e = .returned v/\Q v w'') :
  Calls Tryz.prog 180 #[.pointer (some ⟨b,0,none⟩),.string s] w fun e w'=>∃v,e = .returned v/\Q v w':=by
 have hme : ∀ (g : Nat) (w : World), (method 505 311 (.pointer (some ⟨g, 0, none⟩)) "Replace").run Tryz.prog w = .ok (355, .pointer (some ⟨g, 0, none⟩)) w := fun _ _ => by kernel_rfl
 go_enter Tryz.func180,Tryz.ntmps180
 go_wp2_with (first|(go_at_call 220;refine(zlc ⟨b,0,none⟩ d hd _ w h0).mono ?_;rintro e w' ⟨rfl,rfl⟩)|(go_at_call 355;refine hg2.mono ?_;rintro e w' ⟨v,rfl,hq⟩))
 go_ret
 exact⟨_,rfl,hq⟩
set_option maxHeartbeats 1600000 in
def replaceS_first(b:Nat)(s:ByteArray)(w:World)(R:World->Prop)(Q:Value->World->Prop)
  (h0:w.cell? ⟨b,0,none⟩=some (.int .u32 0)) (h1:w.cell? ⟨b,0+1,none⟩=some (.int .i32 0)) (f0:w.frozen? ⟨b,0,none⟩=false) (f1:w.frozen? ⟨b,0+1,none⟩=false)
  (hf:Calls Tryz.prog 221 #[.pointer (some ⟨b,0,none⟩)] (w.setCell ⟨b,0+1,none⟩ (.int .i32 1)) fun e w'=>e = .returned (.tuple #[])/\R w')
  (hR:∀w',R w'->w'.cell? ⟨b,0,none⟩=some (.int .u32 0)/\w'.frozen? ⟨b,0,none⟩=false/\w'.cell? ⟨b,0+1,none⟩=some (.int .i32 1)/\w'.frozen? ⟨b,0+1,none⟩=false)
  (hg:∀w',R w'->∃g,w'.cell? ⟨b,3,none⟩=some (.iface 315 (.pointer (some ⟨g,0,none⟩))) /\
   Calls Tryz.prog 357 #[.pointer (some ⟨g,0,none⟩),.string s] ((w'.drew.setCell ⟨b,0,none⟩ (.int .u32 1)).setCell ⟨b,0+1,none⟩ (.int .i32 0)) fun e w''=>∃v,e = .returned v/\Q v w'') :
  Calls Tryz.prog 180 #[.pointer (some ⟨b,0,none⟩),.string s] w fun e w'=>∃v,e = .returned v/\Q v w':=by
 have hme : ∀ (g : Nat) (w : World), (method 505 315 (.pointer (some ⟨g, 0, none⟩)) "Replace").run Tryz.prog w = .ok (357, .pointer (some ⟨g, 0, none⟩)) w := fun _ _ => by kernel_rfl
 go_enter Tryz.func180,Tryz.ntmps180
 go_wp2_with (first|(go_at_call 220;refine(q6t b w R h0 h1 f0 f1 hf hR).mono ?_;rintro e w' ⟨rfl,w1,hw1,rfl⟩;obtain⟨g,hg1,hg2⟩:=hg w1 hw1;have hc3:((w1.drew.setCell ⟨b,0,none⟩ (.int .u32 1)).setCell ⟨b,0+1,none⟩ (.int .i32 0)).cell? ⟨b,3,none⟩=some (.iface 315 (.pointer (some ⟨g,0,none⟩))):=((World.cell?_setCell_other _ ⟨b,0+1,none⟩ ⟨b,3,none⟩ _ (by simp)).trans ((World.cell?_setCell_other _ ⟨b,0,none⟩ ⟨b,3,none⟩ _ (by simp)).trans (by rw[World.cell?_drew];exact hg1))))|(go_at_call 357;refine hg2.mono ?_;rintro e w' ⟨v,rfl,hq⟩))
 go_ret
 exact⟨_,rfl,hq⟩
end Go.Proofs.YtbcijcbgdaggdaaGreatDoor.Once
namespace Go.Sym
open Go.RowKit
variable[LC]
def cg.blocks_none{G:Gh}{hp:List (Nat×ah)}{w:World}(hm:cg G hp w){b:Nat}(h:pb G hp b)(o:Nat):G.imm b o=none:=by
 obtain⟨n,bx,hl,ha⟩:=h;have hb:=hm.holds n bx hl
 cases bx with
 |cells cs T=>obtain⟨B,vs,h1,_,_,_,h5⟩:=hb;simp only[Gh.at,h1,qI]at ha;subst ha;exact h5 o
 |row τ l E=>
  obtain⟨a,c,h1,h2⟩:=hb;rcases h2 with⟨rfl,_⟩|⟨g,vs,fz,rfl,_,_,_,_,_,_,_,h9⟩
  ·simp only[Gh.at,h1]at ha;cases ha
  ·simp only[Gh.at,h1,qI]at ha;subst ha;exact h9 o
 |loop st pe f m fr ps tag D=>obtain⟨B,tmps,DB,h1,_,_,_,_,h5⟩:=hb;simp only[Gh.at,h1,qI]at ha;subst ha;exact h5 o
 |dfr=>obtain⟨B,h1,_,h5⟩:=hb;simp only[Gh.at,h1,qI]at ha;subst ha;exact h5 o
 |it s p=>obtain⟨B,h1,_,h5⟩:=hb;simp only[Gh.at,h1,qI]at ha;subst ha;exact h5 o
 |dead=>cases ha
def cw.gone{P:Program}{f:FuncId}{xs:List AV}{hp:List (Nat×ah)}{r:AV}
  (h:∀(w:World)(G:Gh)(vs:List Value),cg G hp w->ak xs G vs->Calls P f vs.toArray w fun e w'=>∃v,e = .returned v/\aj r G v/\dz (pb G hp) w w'):cw P f xs hp r []:=by
 intro w G vs hm hr;refine(h w G vs hm hr).mono ?_;rintro e w' ⟨v,rfl,hv,hs⟩
 have hblk:∀b o v,G.imm b o=some v->w'.heap[b]? = w.heap[b]? := fun b o v hv=>hs.block b (World.block_lt_of_cell? _ _ (hm.agree b o v hv)) fun hb=>by
  rw[hm.blocks_none hb o]at hv;cases hv
 refine⟨v,G,rfl,⟨⟨fun b o v hv=>by rw[World.cell?_of_block (w:=w) (hblk b o v hv)];exact hm.agree b o v hv,hm.one,fun n bx h=>(by cases h),fun n m bx bx' b h=>(by cases h),LC.mono (fun _ _ _ h=>h) hblk hm.tab⟩,hs,fun _ _ _ h=>h,fun _ _ _ h => .inl h,fun n bx b h=>(by cases h),fun _ _ _ _ h=>h,fun _ _ _ _ h=>h⟩,hv⟩
end Go.Sym
set_option linter.unusedVariables false
namespace Go.Proofs.Repl
open Go.Shelf Go.RowKit Go.Lib Go.Sym
def li.setCell{R q n:Nat}{u:Int}{a b a1 a2 b1 b2:UInt8}{w:World}(h:li R a b a1 a2 b1 b2 w)(hq:w.cell? ⟨q,0,none⟩=some (.int .u32 u))(v:Value):li R a b a1 a2 b1 b2 (w.setCell ⟨q,n,none⟩ v):=by
 obtain⟨ga,gb,gt,ca,cb,ct,h1,h2,h3,h4,h5,h6,h7,h8⟩:=h.ex;have kR:¬R=q:=fun e=>by
  have:=h1 0;subst e;rw[show(0:UInt8).toNat=0 from rfl,hq]at this
  unfold rv at this;split at this
  ·cases this
  ·split at this<;>cases this
 have kt:¬gt=q:=fun e=>by subst e;rw[hq]at h3;cases h3
 have ka:¬ga=q:=fun e=>by subst e;rw[hq]at h5;cases h5
 have kb:¬gb=q:=fun e=>by subst e;rw[hq]at h7;cases h7
 have k:∀{p:Nat}{o:Nat}{x:Value},¬p=q->w.cell? ⟨p,o,none⟩=some x->(w.setCell ⟨q,n,none⟩ v).cell? ⟨p,o,none⟩=some x:=fun{p o x} hp hx=>by
  rw[World.cell?_of_block (w:=w) (Below.heap_setCell w ⟨q,n,none⟩ v p hp)];exact hx
 exact⟨ga,gb,gt,ca,cb,ct,fun c=>k kR (h1 c),k kR h2,k kt h3,k kt h4,k ka h5,k ka h6,k kb h7,k kb h8⟩
structure Once(q:Nat)(w w':World):Prop where
 bel:dz (fun k=>k=q) w w'
 c0:w'.cell? ⟨q,0,none⟩=some (.int .u32 0)
 c1:w'.cell? ⟨q,0+1,none⟩=some (.int .i32 1)
 f0:w'.frozen? ⟨q,0,none⟩=false
 f1:w'.frozen? ⟨q,0+1,none⟩=false
def zjb(S:Nat->Prop)(w:World):dz S w w.drew:=⟨rfl,rfl,rfl,wF _,fun _ _ _=>rfl⟩
def qv2{S:Nat->Prop}{w w':World}(h:Below w.heap.size w w'):dz S w w':=⟨h.os,h.tape,h.output,h.size,fun k hk _=>h.block k hk⟩
def qgz{q:Nat}{w w':World}(h:dz (fun k=>k=q) w w')(n:Nat)(v:Value):dz (fun k=>k=q) w (w'.setCell ⟨q,n,none⟩ v):=
 ⟨h.os,h.tape,h.output,by simp[World.setCell];exact h.size,fun k hk hn=>(Below.heap_setCell w' ⟨q,n,none⟩ v k hn).trans (h.block k hk hn)⟩
def qv3{S:Nat->Prop}{a b c:World}(h:dz S a b)(k:dz S b c):dz S a c:=
 ⟨k.os.trans h.os,k.tape.trans h.tape,k.output.trans h.output,Nat.le_trans h.size k.size,fun i hi hn=>(k.block i (Nat.lt_of_lt_of_le hi h.size) hn).trans (h.block i hi hn)⟩
set_option maxHeartbeats 1600000 in
def zjp(q ro cap:Nat)(v3:Value)(a b a1 a2 b1 b2:UInt8)(w:World)(hab:a≠b)
  (c0:w.cell? ⟨q,0,none⟩=some (.int .u32 0)) (c1:w.cell? ⟨q,0+1,none⟩=some (.int .i32 1)) (hf:∀j,w.frozen? ⟨q,j,none⟩=false) (c3:w.cell? ⟨q,3,none⟩=some v3)
  (hc:w.cell? ⟨q,4,none⟩=some (.slice (some ⟨ro,0,none⟩) 4 cap)) (h0:w.cell? ⟨ro,0,none⟩=some (.string ⟨#[a]⟩)) (h1:w.cell? ⟨ro,1,none⟩=some (.string ⟨#[a1,a2]⟩)) (h2:w.cell? ⟨ro,2,none⟩=some (.string ⟨#[b]⟩)) (h3:w.cell? ⟨ro,3,none⟩=some (.string ⟨#[b1,b2]⟩)) :
  Calls Tryz.prog 221 #[.pointer (some ⟨q,0,none⟩)] w fun e w'=>e = .returned (.tuple #[])/\Once q w w'/\∃R,w'.cell? ⟨q,3,none⟩=some (.iface 315 (.pointer (some ⟨R,0,none⟩)))/\li R a b a1 a2 b1 b2 w':=by
 have hqlt:q<w.heap.size:=World.block_lt_of_cell? _ _ c0;have hB:=zjk q ro cap a b a1 a2 b1 b2 w hab hc h0 h1 h2 h3
 go_enter Tryz.func221,Tryz.ntmps221
 go_wp2_with (go_at_call 244;go_must (refine hB.mono ?_;rintro e W ⟨R,rfl,hBu,hbe⟩;have k0:∀{j:Nat}{v:Value},w.cell? ⟨q,j,none⟩=some v->W.cell? ⟨q,j,none⟩=some v:=(fun hj=>(hbe.cell (World.block_lt_of_cell? _ _ hj)).trans hj);have kf:∀j,W.frozen? ⟨q,j,none⟩=false:=(fun j=>(hbe.frozen (p:=⟨q,j,none⟩) hqlt).trans (hf j));have d0:=k0 c0;have d1:=k0 c1;have d3:=k0 c3;have d4:=k0 hc;clear hB hf k0))
 have d0':(W.setCell ⟨q,3,none⟩ (.iface 315 (.pointer (some ⟨R,0,none⟩)))).cell? ⟨q,0,none⟩=some (.int .u32 0):=by rw[World.cell?_setCell_other _ _ _ _ (by simp)];exact d0
 have d1':(W.setCell ⟨q,3,none⟩ (.iface 315 (.pointer (some ⟨R,0,none⟩)))).cell? ⟨q,0+1,none⟩=some (.int .i32 1):=by rw[World.cell?_setCell_other _ _ _ _ (by simp)];exact d1
 have d3':=World.cell?_setCell_same W ⟨q,3,none⟩ (.iface 315 (.pointer (some ⟨R,0,none⟩))) d3
 go_end0
 refine⟨rfl,⟨qgz (qgz (qv2 hbe) 3 _) 4 _,?_,?_,?_,?_⟩,R,?_,(hBu.setCell d0 _).setCell d0' _⟩
 ·rw[World.cell?_setCell_other _ _ _ _ (by simp)];exact d0'
 ·rw[World.cell?_setCell_other _ _ _ _ (by simp)];exact d1'
 ·simp[kf]
 ·simp[kf]
 ·rw[World.cell?_setCell_other _ _ _ _ (by simp)];exact d3'
def replS(q ro cap:Nat)(v3:Value)(a b a1 a2 b1 b2:UInt8)(s:ByteArray)(w:World)(hab:a≠b)(hs:s.size<=1000000)
  (c0:w.cell? ⟨q,0,none⟩=some (.int .u32 0)) (c1:w.cell? ⟨q,0+1,none⟩=some (.int .i32 0)) (hf:∀j,w.frozen? ⟨q,j,none⟩=false) (c3:w.cell? ⟨q,3,none⟩=some v3)
  (hc:w.cell? ⟨q,4,none⟩=some (.slice (some ⟨ro,0,none⟩) 4 cap)) (h0:w.cell? ⟨ro,0,none⟩=some (.string ⟨#[a]⟩)) (h1:w.cell? ⟨ro,1,none⟩=some (.string ⟨#[a1,a2]⟩)) (h2:w.cell? ⟨ro,2,none⟩=some (.string ⟨#[b]⟩)) (h3:w.cell? ⟨ro,3,none⟩=some (.string ⟨#[b1,b2]⟩)) :
  Calls Tryz.prog 180 #[.pointer (some ⟨q,0,none⟩),.string s] w fun e w'=>∃v,e = .returned v/\v = .string ⟨(ep a b [a1,a2] [b1,b2] s.data.toList).toArray⟩/\dz (fun k=>k=q) w w':=by
 have hne:¬ro=q:=fun e=>by subst e;rw[c0]at h0;cases h0
 have k:∀{p:Addr}{x:Value},p≠⟨q,0+1,none⟩->w.cell? p=some x->(w.setCell ⟨q,0+1,none⟩ (.int .i32 1)).cell? p=some x:=fun{p x} hp hx=>by
  rw[World.cell?_setCell_other _ _ _ _ (fun e=>hp e.symm)];exact hx
 have kb:dz (fun k=>k=q) w (w.setCell ⟨q,0+1,none⟩ (.int .i32 1)):=qgz (qv2 (Below.refl _ _)) _ _
 refine Go.Proofs.YtbcijcbgdaggdaaGreatDoor.Once.replaceS_first q s w (fun w'=>Once q (w.setCell ⟨q,0+1,none⟩ (.int .i32 1)) w'/\∃R,w'.cell? ⟨q,3,none⟩=some (.iface 315 (.pointer (some ⟨R,0,none⟩)))/\li R a b a1 a2 b1 b2 w') (fun v w'=>v = .string ⟨(ep a b [a1,a2] [b1,b2] s.data.toList).toArray⟩/\dz (fun k=>k=q) w w') c0 c1 (hf _) (hf _) ?_ ?_ ?_
 ·exact zjp q ro cap v3 a b a1 a2 b1 b2 _ hab (k (by simp) c0) (World.cell?_setCell_same w _ _ c1) (fun j=>by simp[hf]) (k (by simp) c3) (k (by simp) hc) (k (by intro h;exact hne (congrArg Addr.block h)) h0) (k (by intro h;exact hne (congrArg Addr.block h)) h1) (k (by intro h;exact hne (congrArg Addr.block h)) h2) (k (by intro h;exact hne (congrArg Addr.block h)) h3)
 ·rintro w' ⟨ho,_⟩
  exact⟨ho.c0,ho.f0,ho.c1,ho.f1⟩
 ·rintro w' ⟨ho,R,hR,hBu⟩
  refine⟨R,hR,?_⟩;have e0:w'.drew.cell? ⟨q,0,none⟩=some (.int .u32 0):=by rw[World.cell?_drew];exact ho.c0
  have e1:=World.cell?_setCell_same w'.drew ⟨q,0,none⟩ (.int .u32 1) e0;have hB2:li R a b a1 a2 b1 b2 ((w'.drew.setCell ⟨q,0,none⟩ (.int .u32 1)).setCell ⟨q,0+1,none⟩ (.int .i32 0)):=
   ((hBu.below (Below.refl _ w').drew).setCell e0 _).setCell e1 _
  have hBel:dz (fun k=>k=q) w ((w'.drew.setCell ⟨q,0,none⟩ (.int .u32 1)).setCell ⟨q,0+1,none⟩ (.int .i32 0)):=
   qgz (qgz (qv3 (qv3 kb ho.bel) (zjb _ _)) 0 _) (0+1) _
  refine(zjt R a b a1 a2 b1 b2 s _ hab hs hB2).mono ?_;rintro e w2 ⟨rfl,hb2⟩
  exact⟨_,rfl,rfl,qv3 hBel (qv2 hb2)⟩
end Go.Proofs.Repl
namespace Go.Sym
open Go.Proofs Go.RowKit
variable[LC]
def zrb(a b a1 a2 b1 b2:UInt8)(s:Bs)(p2:Int)(hab:a≠b)(hs:s.length<=1000000) :
  cw Tryz.prog 180 [.ptr 0 0,.str s] [(0,.cells [.int .u32 0,.int .i32 0,.int .u32 p2,.val .nilIface,.own 1] 259),(1,.row .str [[a],[a1,a2],[b],[b1,b2]] 9)] (.str (ep a b [a1,a2] [b1,b2] s)) []:=by
 refine cw.gone fun w G vs hm hr => ?_
 match vs,hr with
 |[v1,v2],hr=>
 obtain⟨⟨q,hG,rfl⟩,r2,_⟩:=hr;have r2:v2 = .string ⟨s.toArray⟩:=r2;subst r2;obtain⟨B,cs,g1,g2,g3,g4,g5⟩:=hm.holds 0 _ rfl;rw[show G.box 0=some q from hG]at g1
 cases g1
 obtain⟨ad,c,us,o1,o2,o3,o4⟩:=(hm.holds 1 (.row .str [[a],[a1,a2],[b],[b1,b2]] 9) rfl).rowAt;obtain⟨u0,c0,x0⟩:=kz g3 (i:=0) rfl;obtain⟨u1,c1,x1⟩:=kz g3 (i:=1) rfl;obtain⟨u3,c3,x3⟩:=kz g3 (i:=3) rfl;obtain⟨u4,c4,x4⟩:=kz g3 (i:=4) rfl;have x0:u0 = .int .u32 0:=x0;have x1:u1 = .int .i32 0:=x1;obtain⟨ad',n',c',x5,x4⟩:=x4;rw[o1]at x5;cases x5
 subst x0 x1 x4;have k:∀{i:Nat}{v:Value},cs.toList[i]? = some v->w.cell? ⟨q,i,none⟩=some v:=fun{i v} h=>cell_of_heap g2 h
 obtain⟨ho1,ho2⟩:=o2;rcases ho2 with⟨_,h0,_⟩|⟨g,vr,fz,rfl,e1,_,e3,e4,e5,e6,_⟩
 ·cases h0
 ·have hus:us=[.string ⟨#[a]⟩,.string ⟨#[a1,a2]⟩,.string ⟨#[b]⟩,.string ⟨#[b1,b2]⟩]:=by
   match us,o3 with
   |[y0,y1,y2,y3],⟨z0,z1,z2,z3,_⟩=>
    have z0:y0 = .string ⟨#[a]⟩:=z0;have z1:y1 = .string ⟨#[a1,a2]⟩:=z1;have z2:y2 = .string ⟨#[b]⟩:=z2;have z3:y3 = .string ⟨#[b1,b2]⟩:=z3;rw[z0,z1,z2,z3]
  have kr:∀{i:Nat}{v:Value},us[i]? = some v->w.cell? ⟨g,i,none⟩=some v:=fun{i v} h=>by
   rw[← e6,List.getElem?_take]at h;split at h
   ·exact cell_of_heap e1 h
   ·cases h
  subst hus;refine(Go.Proofs.Repl.replS q g c u3 a b a1 a2 b1 b2 ⟨s.toArray⟩ w hab (by rw[p8];exact hs) (k c0) (k c1) (fun j=>by simp[World.frozen?,g2]) (k c3) (k c4) (kr (i:=0) rfl) (kr (i:=1) rfl) (kr (i:=2) rfl) (kr (i:=3) rfl)).mono ?_
  rintro e w' ⟨v,rfl,rfl,hb⟩
  refine⟨_,rfl,rfl,⟨hb.os,hb.tape,hb.output,hb.size,fun k hk hn=>hb.block k hk (fun e=>hn ?_)⟩⟩
  subst e;exact⟨0,_,rfl,hG⟩
def za2:IF:=⟨.fn 180,[.ptr 0 0,.h .str],[(0,.cells [.h (.int .u32),.h (.int .i32),.h (.int .u32),.c .nilIface,.own 1] 259),(1,.row .str 9)],_,RS.mk (.h .str) []⟩
def zrc:(za2.e uz).Sound Tryz.prog:=fun d d' r h=>by
 obtain⟨_,s,_⟩:=d;obtain⟨⟨p0,p1,p2,_,_,_⟩,on,_⟩:=d';have h:uz s p0 p1 p2 on=some r:=h;obtain⟨a,a1,a2,b,b1,b2,rfl,rfl,rfl,hab,hs,rfl⟩:=zrf h;exact⟨Tryz.call180,zrb a b a1 a2 b1 b2 s p2 hab hs⟩
end Go.Sym
namespace Go.Sym
open Go.Proofs Go.RowKit
open Go.Proofs.Tryz
variable[LC]
def zjd:Builder.Extra Tryz.prog Tryz.lays105_ren:={
 sizeBuilder:=by kernel_rfl
 liesBuilder:=by kernel_rfl
 t5:=Tryz.lays105.t5
 a5:=Tryz.lays105.a5
 z5:=Tryz.lays105.z5
 v5:=Tryz.lays105.v5
 infoByte:=by kernel_rfl
 cellsByte:=by kernel_rfl
 sizeByte:=by kernel_rfl
 neB5:=by decide }
def zq7{w:World}(s:Bs)(n:Int)(d1:0<=n)(d2:n<=9223372036854775807)(d3:s.length*n.toNat<=140737488355328) :
  Calls Tryz.prog 67 #[.string ⟨s.toArray⟩,.int .i64 n] w fun e w'=>e = .returned (.string ⟨(Lib.repeatL s n.toNat).toArray⟩)/\bu w w':=by
 have hn:n=((n.toNat:Nat):Int):=by omega
 have key:=Any.strings_Repeat Tryz.lays105 zjd ⟨s.toArray⟩ n.toNat w (by omega) (by rw[p8];exact d3)
 rw[← hn]at key;exact key.mono fun e w'⟨he,hw⟩=>⟨he,bu.of_below hw⟩
def zaz:IF:=⟨.fn 67,[.h .str,.h (.int .i64)],[],_,RS.mk (.h .str) []⟩
def zq8:(zaz.e qbr).Sound Tryz.prog:=fun d d' r h=>by
 obtain⟨s,n,_⟩:=d;have h:qbr s n=some r:=h;unfold qbr at h;cases hd:decide (0<=(show Int from n)/\(show Int from n)<=9223372036854775807/\List.length (α:=UInt8) s*(show Int from n).toNat<=140737488355328)<;>rw[hd]at h<;>simp only[qT,qF,reduceCtorEq]at h
 have h:=qJ h;subst h;obtain⟨d1,d2,d3⟩:=of_decide_eq_true hd;refine⟨call67,cw.data fun w G vs hm hr => ?_⟩
 match vs,hr with
 |[u,v],⟨h1,h2,_⟩=>
  have h1:u = .string ⟨s.toArray⟩:=h1;have h2:v = .int .i64 n:=h2;subst h1 h2;exact(zq7 s n d1 d2 d3).mono fun e w'⟨he,hw⟩=>⟨_,he,rfl,hw⟩
end Go.Sym
namespace Go.Sym
noncomputable section
open Go.Proofs
set_option linter.unusedVariables false
set_option maxRecDepth 100000
set_option maxHeartbeats 2000000
open Tryz
abbrev wT : Ty := .tree (.prod (.list (.prod .str .str)) (.list .byte))
abbrev wL : Ty := .list (.prod .str .str)
abbrev wP : Ty := .prod .str .str
abbrev wH : Pt := .h (.int .i64)
abbrev wI : Ty := .int .i64
abbrev wB : Ty := .list .byte
abbrev wN : Pt := .c .nilS
abbrev wS : Pt := .h .str
abbrev wG : Program := Tryz.prog
section
variable(fu:Nat)
def qhk:Nat->Option ((τ:Ty)×List τ.den)|1=>some ⟨.int .u64,zs8⟩|2=>some ⟨.byte,qio⟩|3=>some ⟨.prod .byte .byte,qip⟩|_=>none
def znu:Nat->Option (Code×Code)|0=>some (gh 0 (sub (jr f36) [0,1,0,1,1,1]),gh 1 (sub (jr f36) [0,1,0,1,1,1]))|1=>some (gh 0 (sub (jr f129) [0,1,0,1,1,1]),gh 1 (sub (jr f129) [0,1,0,1,1,1]))|2=>some (gh 0 (sub (jr f61) [0,1,0,1,1]),gh 1 (sub (jr f61) [0,1,0,1,1]))|3=>some (gh 0 (sub (jr f61) [0,1,0,1,1,1,1]),gh 1 (sub (jr f61) [0,1,0,1,1,1,1]))|4=>some (gh 0 (sub (jr f12) [0,1,0,1,1,1,1]),gh 1 (sub (jr f12) [0,1,0,1,1,1,1]))|5=>some (gh 0 (sub (jr f62) [0,1,1]),gh 1 (sub (jr f62) [0,1,1]))|6=>some (gh 0 (sub (jr f107) [0,1,0,1,1,1,1]),gh 1 (sub (jr f107) [0,1,0,1,1,1,1]))|_=>none
instance:LC:=⟨znu,qhk,[0],[6,7],[(1,20),(2,256),(3,32)]⟩
def Fx.fi{P:Program}{i:IF}(x:Fx P i)(f:i.T)(l:List (SL x))(hp:su P x.f)(hk:i.key = .fn x.f:=by exact rfl)(hb:x.fn.body=some x.body:=by exact rfl)(hfine:qnw x.cx i.args i.hp=true:=by kernel_rfl)(h:∀d d',qza x.cx x.body i.out (SL.qs l) i.args i.hp (Pts.put i.args d) (ce i.hp d')=app f (Pts.pk i.args d (gf i.hp d' po)):=by intro d d';kernel_rfl):EI P i:=x.fin f l hp hk hb hfine h
def Fx.jm{P:Program}{i:IF}{x:Fx P i}{k:Nat}(f:(kl k x.ls).T i.R)(l:List (SL x))(h:∀d,run x.cx i.out (SL.qs l) 1000000 false (ni x.body (kl k x.ls).1) ((kl k x.ls).2.st d)=app f (nf (kl k x.ls).2.fr d.1 (gf (kl k x.ls).2.hp d.2 ())):=by intro d;kernel_rfl):PL x k:=Fx.jn f l h
def Fx.lq{P:Program}{i:IF}{x:Fx P i}{k:Nat}(g:Nat->(kl k x.ls).T i.R)(b:(kl k x.ls).T i.R->(kl k x.ls).T i.R)(l:PL x k->List (SL x))(h0:∀d:(kl k x.ls).2.den,app (g 0) (nf (kl k x.ls).2.fr d.1 (gf (kl k x.ls).2.hp d.2 ()))=none:=by intro _;exact rfl)(hg:∀n,g (n+1)=b (g n):=by intro _;exact rfl)(h:∀r d,run x.cx i.out (SL.qs (l r)) 1000000 false (ni x.body (kl k x.ls).1) ((kl k x.ls).2.st d)=app (b r.f) (nf (kl k x.ls).2.fr d.1 (gf (kl k x.ls).2.hp d.2 ())):=by intro _ d;kernel_rfl)(n:Nat):PL x k:=Fx.lp g b h0 hg l h n
def zhh:wG.follows .mixedOrders=true:=by kernel_rfl
def etys:List (Nat×Ty):=[(3,.int .i64),(4,.bool),(5,.byte),(9,.str),(23,.list .byte),(33,.tree (.prod wL wB)),(43,.prod .str .str),(92,.prod .str .str),(281,.prod .str (.prod wI (.prod .bool .str)))]
abbrev fx{i:IF}:=@Fx.mk inferInstance wG i etys zhh
def zgu:(qrb 194 uo).Sound wG:=zgt func194 (by kernel_rfl) (by kernel_rfl) (by kernel_rfl) (by kernel_rfl)
def zgs:(qra 283 uo).Sound wG:=zgr func283 (by kernel_rfl) (by kernel_rfl) (by kernel_rfl) (by kernel_rfl)
def x0i:IF:=⟨.fn 21,[wH,wH],[],_,RS.mk (.h (.prod wI wI)) []⟩
def x0:Fx wG x0i:=fx f21 21 func21 [] false [] ap []
def fp:=x0.fi bn [] call21
def x1i:IF:=⟨.fn 162,[.h .byte],[],_,RS.mk (.h .bool) []⟩
def x1:Fx wG x1i:=fx f162 162 func162 [] false [] ap []
def x1s:=x1.fi qkf [] call162
def x2i:IF:=⟨.fn 161,[wS,.fn 162 []],[],_,RS.mk (.h .bool) []⟩
def x2(fu:Nat):Fx wG x2i:=fx f161 161 func161 [x1s.p] false [] ap [(ao [(0,104),(0,105),(2,26),(1,13),(0,7)],⟨18,[(0,wS),(1,.fn 162 []),(7,wH),(8,wH)],[],64,[]⟩)]
def z52:Nat->(x2 fu).L 0:=Fx.lq (qec fu) (qq5 fu) (fun r0=>[r0.s])
def x2s:=(x2 fu).fi (qq4 fu) [(z52 fu fu).s] call161
def x3i:IF:=⟨.fn 111,[wS],[],_,RS.mk (.h .bool) []⟩
def x3:Fx wG x3i:=fx f111 111 func111 [(x2s fu).p] false [] ap []
def x3s:=(x3 fu).fi (qke fu) [] call111
def x4i:IF:=⟨.fn 247,[wH],[],_,RS.mk (.h .bool) []⟩
def x4:Fx wG x4i:=fx f247 247 func247 [] false [] ap []
def x4s:=x4.fi qtz [] call247
def x5i:IF:=⟨.fn 215,[wS],[],_,RS.mk (.tup [.arr .bool,.h .bool]) []⟩
def x5(fu:Nat):Fx wG x5i:=fx f215 215 func215 [] false [] ap [(ao [(0,208),(0,209),(0,105),(2,26),(1,13),(0,7)],⟨21,[(0,wS),(2,.el 32 1),(4,wH)],[(32,.row .bool 261)],64,[]⟩)]
def z90:Nat->(x5 fu).L 0:=Fx.lq (qty fu) (q3m fu) (fun r0=>[r0.s])
def x5s:=(x5 fu).fi (qbt fu) [(z90 fu fu).s] call215
def x6i:IF:=⟨.fn 267,[wS,.h .byte],[],_,RS.mk (wH) []⟩
def x6:Fx wG x6i:=fx f267 267 func267 [⟨qra 283 uo,zgs⟩] false [] ap []
def x6s:=x6.fi qew [] call267
def x7i:IF:=⟨.fn 248,[wS,.h .byte],[],_,RS.mk (wH) []⟩
def x7:Fx wG x7i:=fx f248 248 func248 [x6s.p] false [] ap []
def x7s:=x7.fi qfz [] call248
def x8i:IF:=⟨.fn 265,[.h (.int .i32)],[],_,RS.mk (.h .bool) []⟩
def x8:Fx wG x8i:=fx f265 265 func265 [] false [] ap []
def x8s:=x8.fi ql5 [] call265
def x9i:IF:=⟨.fn 246,[wS,.h (.int .i32)],[],_,RS.mk (wH) []⟩
def x9(fu:Nat):Fx wG x9i:=fx f246 246 func246 [x7s.p,x8s.p] false [] ap [(ao [(0,3528),(0,3529),(2,882),(1,441),(0,221),(1,3)],⟨187,[(175,.ptr 32 0)],[(32,.it)],64,[]⟩),(ao [(0,117301840),(0,117301841),(0,58650921),(2,14662730),(1,7331365),(0,3665683),(3,458210),(1,229105),(2,57276),(1,28638),(0,28639),(3,447),(1,3)],⟨187,[(0,wS),(7,wS),(8,wH),(9,wH),(12,wH)],[],64,[]⟩),(ao [(0,7331364),(0,7331365),(0,3665683),(3,458210),(1,229105),(2,57276),(1,28638),(0,28639),(3,447),(1,3)],⟨187,[(0,wS),(7,wS),(8,wH),(9,wH)],[],64,[]⟩),(ao [(0,458208),(0,458209),(0,229105),(2,57276),(1,28638),(0,28639),(3,447),(1,3)],⟨187,[(0,wS),(7,wS),(8,wH),(9,wH)],[],64,[]⟩),(ao [(0,13),(1,3)],⟨187,[(0,wS),(1,.h (.int .i32)),(160,.h .bool)],[],64,[]⟩)]
def vd2:Nat->(x9 fu).L 0:=Fx.lq (qf1 fu) (qtg fu) (fun r1=>[r1.s])
def vd5(r2:(x9 fu).L 3):Nat->(x9 fu).L 1:=Fx.lq (qtj fu r2.f) (q3e fu r2.f) (fun r4=>[r4.s])
def vd4(r2:(x9 fu).L 3):(x9 fu).L 2:=Fx.jm (qti fu r2.f) [(vd5 fu r2 fu).s]
def vd3:Nat->(x9 fu).L 3:=Fx.lq (qls fu) (qth fu) (fun r2=>[(vd4 fu r2).s])
def vd1:(x9 fu).L 4:=Fx.jm (qf0 fu) [(vd2 fu fu).s,(vd3 fu fu).s]
def x9s:=(x9 fu).fi (u5 fu) [(vd1 fu).s] call246
def zv1:IF:=⟨.fn 238,[.el 0 1,.h .byte],[(0,.row .bool 261)],_,RS.mk (.h .bool) [(0,.row .bool 261)]⟩
def x10:Fx wG zv1:=fx f238 238 func238 [] false [] ap []
def q0h:=x10.fi qbs [] call238
def zwq:IF:=⟨.fn 229,[wS,wS],[],_,RS.mk (wH) []⟩
def w8:Fx wG zwq:=fx f229 229 func229 [x4s.p,(x5s fu).p,(x9s fu).p,q0h.p] false [] ap [(ao [(0,470),(0,471),(0,15)],⟨55,[(0,wS),(5,.h (.int .i32))],[],64,[]⟩),(ao [(0,62864),(0,62865),(0,31433),(2,7858),(1,3929),(0,1965),(0,31)],⟨55,[(0,wS),(6,.el 32 1),(8,wH)],[(32,.row .bool 261)],64,[]⟩),(ao [(0,1000),(0,1001),(2,250),(1,125),(0,63)],⟨55,[(1,wS),(45,.ptr 32 0)],[(32,.it)],64,[]⟩),(ao [(0,124),(0,125),(0,63)],⟨55,[(0,wS),(1,wS)],[],64,[]⟩)]
def zwr:(w8 fu).L 0:=Fx.jm (qtf fu) []
def zws:Nat->(w8 fu).L 1:=Fx.lq (qfx fu) (qtd fu) (fun r1=>[r1.s])
def zwu:Nat->(w8 fu).L 2:=Fx.lq (qfy fu) (qte fu) (fun r3=>[r3.s])
def zwt:(w8 fu).L 3:=Fx.jm (qlr fu) [(zwu fu fu).s]
def zwv:=(w8 fu).fi (qlq fu) [(zwr fu).s,(zws fu fu).s,(zwt fu).s] call229
def zx6:IF:=⟨.fn 201,[wS,wS],[],_,RS.mk (.h .bool) []⟩
def x12:Fx wG zx6:=fx f201 201 func201 [(zwv fu).p] false [] ap []
def zx7:=(x12 fu).fi (qlm fu) [] call201
def zy0:IF:=⟨.fn 163,[wS],[],_,RS.mk (.h .bool) []⟩
def x13:Fx wG zy0:=fx f163 163 func163 [(zx7 fu).p] false [] ap []
def zy1:=(x13 fu).fi (qrx fu) [] call163
def zz6:IF:=⟨.fn 95,[.h .byte],[],_,RS.mk (.h .bool) []⟩
def x14:Fx wG zz6:=fx f95 95 func95 [] false [] ap []
def qi4:=x14.fi lj [] call95
def z1b:IF:=⟨.fn 112,[wS],[],_,RS.mk (.h .bool) []⟩
def x15:Fx wG z1b:=fx f112 112 func112 [(zy1 fu).p,qi4.p] false [] ap []
def z1c:=(x15 fu).fi (qki fu) [] call112
def z2h:IF:=⟨.fn 113,[wS,wH],[],_,RS.mk (wH) []⟩
def x16(fu:Nat):Fx wG z2h:=fx f113 113 func113 [qi4.p] false [] ap [(ao [(0,3729),(0,1865),(1,466),(0,467),(2,58),(1,29),(0,15)],⟨35,[(0,wS),(5,wH),(6,wH),(26,.h .bool)],[],64,[]⟩),(ao [(0,464),(0,465),(0,233),(2,58),(1,29),(0,15)],⟨35,[(0,wS),(5,wH),(6,wH)],[],64,[]⟩)]
def z2j(r0:(x16 fu).L 1):(x16 fu).L 0:=Fx.jm (qkh fu r0.f) [r0.s]
def z2i:Nat->(x16 fu).L 1:=Fx.lq (qer fu) (qry fu) (fun r0=>[(z2j fu r0).s])
def z2k:=(x16 fu).fi (qkg fu) [(z2i fu fu).s] call113
def z3t:IF:=⟨.fn 23,[],[],_,RS.mk (.h (.prod wI wI)) []⟩
def x17:Fx wG z3t:=fx f23 23 func23 [] false [] ap []
def gw:=x17.fi ci [] call23
def z4x:IF:=⟨.fn 73,[wS,wS],[],_,RS.mk (.tup [.own 0,.h (.prod wI wI)]) [(0,.row .str 9)]⟩
def x18:Fx wG z4x:=fx f73 73 func73 [(x3s fu).p,fp.p,(z1c fu).p,(z2k fu).p,gw.p] false [] ap [(ao [(0,4072),(0,4073),(2,1018),(1,509),(0,255)],⟨70,[(5,.ptr 32 0),(8,.own 33),(55,.own 33),(56,wH),(57,wH)],[(32,.dat (.prod wI wI) 28),(33,.row .str 9)],64,[]⟩),(ao [(0,126),(0,127)],⟨70,[(5,.ptr 32 0),(6,wS),(8,.own 33)],[(32,.dat (.prod wI wI) 28),(33,.row .str 9)],64,[]⟩),(ao [(0,992),(0,993),(0,497),(2,124),(1,62),(0,63)],⟨70,[(5,.ptr 32 0),(6,wS),(7,wH),(8,.own 33)],[(32,.dat (.prod wI wI) 28),(33,.row .str 9)],64,[]⟩)]
def z40:Nat->(x18 fu).L 0:=Fx.lq (qeq fu) (qrw fu) (fun r2=>[r2.s])
def z4z:(x18 fu).L 1:=Fx.jm (qep fu) [(z40 fu fu).s]
def z4y:Nat->(x18 fu).L 2:=Fx.lq (qeo fu) (qrv fu) (fun r0=>[(z4z fu).s,r0.s])
def q1g:=(x18 fu).fi (qa3 fu) [(z4y fu fu).s] call73
def z43:IF:=⟨.fn 20,[.h (.prod wI wI)],[],_,RS.mk (.h .bool) []⟩
def x19:Fx wG z43:=fx f20 20 func20 [] false [] ap []
def jk:=x19.fi c7 [] call20
def z48:IF:=⟨.fn 44,[.h wL],[],_,RS.mk (.h (.prod wI wI)) []⟩
def x20:Fx wG z48:=fx f44 44 func44 [fp.p,(q1g fu).p,jk.p,gw.p] false [] ap [(ao [(0,232),(0,233),(2,58),(1,29),(0,15)],⟨34,[(2,.ptr 32 0),(11,.h wL),(12,wH),(13,wH)],[(32,.dat (.prod wI wI) 28)],64,[]⟩)]
def z49:Nat->(x20 fu).L 0:=Fx.lq (qeu fu) (qr1 fu) (fun r0=>[r0.s])
def q1j:=(x20 fu).fi (qa5 fu) [(z49 fu fu).s] call44
def z5a:IF:=⟨.fn 64,[wS],[],_,RS.mk (wS) []⟩
def x21(fu:Nat):Fx wG z5a:=fx f64 64 func64 [] false [] ap [(ao [(0,232),(0,233),(2,58),(1,29),(0,15)],⟨30,[(3,.own 32),(8,.own 32),(9,wH),(10,wH)],[(32,.row .byte 5)],64,[]⟩)]
def z5b:Nat->(x21 fu).L 0:=Fx.lq (si fu) (qaz fu) (fun r0=>[r0.s])
def zfd:=(x21 fu).fi (um fu) [(z5b fu fu).s] call64
def z5d:IF:=⟨.fn 34,[wS,wS],[],_,RS.mk (.h .bool) []⟩
def x22:Fx wG z5d:=fx f34 34 func34 [(zfd fu).p] false [] ap []
def ow:=(x22 fu).fi (ei fu) [] call34
def z5f:IF:=⟨.fn 181,[wS,wS],[],_,RS.mk (.h .bool) []⟩
def x23:Fx wG z5f:=fx f181 181 func181 [] false [] ap []
def q1m:=x23.fi xt [] call181
def z5h:IF:=⟨.fn 136,[wS,wS],[],_,RS.mk (wS) []⟩
def x24:Fx wG z5h:=fx f136 136 func136 [q1m.p] false [] ap []
def z5i:=x24.fi qr3 [] call136
def z5k:IF:=⟨.fn 96,[wS,wS],[],_,RS.mk (wS) []⟩
def x25:Fx wG z5k:=fx f96 96 func96 [z5i.p] false [] ap []
def z5l:=x25.fi qlz [] call96
def z5m:IF:=⟨.fn 65,[wS],[],_,RS.mk (wS) []⟩
def x26(fu:Nat):Fx wG z5m:=fx f65 65 func65 [qi4.p,z5l.p] false [] ap [(ao [(0,232),(0,233),(2,58),(1,29),(0,15)],⟨37,[(0,wS),(3,.own 32),(8,wH),(9,wH)],[(32,.row .byte 5)],64,[]⟩)]
def z5n:Nat->(x26 fu).L 0:=Fx.lq (xn fu) (qkd fu) (fun r0=>[r0.s])
def zff:=(x26 fu).fi (qen fu) [(z5n fu fu).s] call65
def z5p:IF:=⟨.fn 35,[.h wP],[],_,RS.mk (wS) []⟩
def x27:Fx wG z5p:=fx f35 35 func35 [(zfd fu).p,(zff fu).p] false [] ap []
def zfg:=(x27 fu).fi (qem fu) [] call35
def z5q:IF:=⟨.fn 18,[.h wL,.h (.list .str)],[],_,RS.mk (.tup [.own 0,.h (.prod wI wI)]) [(0,.row .byte 5)]⟩
def x28:Fx wG z5q:=fx f18 18 func18 [(q1j fu).p,jk.p,fp.p,gw.p,(ow fu).p,(zfg fu).p] false [] ap [(ao [(0,4148425),(1,1037106),(0,1037107),(2,129638),(1,64819),(1,8102),(0,8103),(2,506),(1,253),(0,127)],⟨64,[(0,.h wL),(5,.ptr 32 0),(7,.own 33),(8,.own 34),(10,wS),(11,wH),(24,.h (.list .str)),(25,wH),(26,wH),(50,.h .bool)],[(32,.dat (.prod wI wI) 28),(33,.row .bool 4),(34,.row .byte 5)],64,[]⟩),(ao [(0,1037104),(0,1037105),(0,518553),(2,129638),(1,64819),(1,8102),(0,8103),(2,506),(1,253),(0,127)],⟨64,[(0,.h wL),(5,.ptr 32 0),(7,.own 33),(8,.own 34),(10,wS),(11,wH),(24,.h (.list .str)),(25,wH),(26,wH)],[(32,.dat (.prod wI wI) 28),(33,.row .bool 4),(34,.row .byte 5)],64,[]⟩),(ao [(0,2024),(0,2025),(2,506),(1,253),(0,127)],⟨64,[(0,.h wL),(5,.ptr 32 0),(7,.own 33),(8,.own 34),(24,.h (.list .str)),(25,wH),(26,wH)],[(32,.dat (.prod wI wI) 28),(33,.row .bool 4),(34,.row .byte 5)],64,[]⟩)]
def z5t(r0:(x28 fu).L 2)(r1:(x28 fu).L 1):(x28 fu).L 0:=Fx.jm (qrt fu r0.f r1.f) [r0.s,r1.s]
def z5s(r0:(x28 fu).L 2):Nat->(x28 fu).L 1:=Fx.lq (qrs fu r0.f) (q20 fu r0.f) (fun r1=>[(z5t fu r0 r1).s,r0.s])
def z5r:Nat->(x28 fu).L 2:=Fx.lq (qrr fu) (q2z fu) (fun r0=>[(z5s fu r0 fu).s])
def z5u:=(x28 fu).fi (q2y fu) [(z5r fu fu).s] call18
def z5x:IF:=⟨.fn 97,[.h wB,.h wB,wH],[],_,RS.mk (.fn 137 [.ptr 0 0,.ptr 1 0,.ptr 2 0]) [(0,.cells [.h wB] 23),(1,.cells [.h wB] 23),(2,.cells [wH] 3)]⟩
def x29:Fx wG z5x:=fx f97 97 func97 [] false [] ap []
def z5y:=x29.fi qrj [] call97
def z57:IF:=⟨.fn 66,[.h wB,.h wB],[],_,RS.mk (.fn 137 [.ptr 0 0,.ptr 1 0,.ptr 2 0]) [(0,.cells [.h wB] 23),(1,.cells [.h wB] 23),(2,.cells [wH] 3)]⟩
def x30:Fx wG z57:=fx f66 66 func66 [z5y.p] false [] ap []
def z58:=x30.fi qrc [] call66
def z59:IF:=⟨.fn 182,[.h wB],[],_,RS.mk (.tup [.h (.int .i32),wH]) []⟩
def x31:Fx wG z59:=fx f182 182 func182 [] false [] ap [(ao [(0,524286),(0,524287)],⟨122,[(5,.h .byte),(10,.h .byte),(11,.h .byte),(12,.h .byte)],[],64,[]⟩),(ao [(0,524285),(0,262143)],⟨122,[(5,.h .byte),(10,.h .byte),(11,.h .byte),(12,.h .byte),(103,.h .bool)],[],64,[]⟩),(ao [(0,131068),(0,131069),(0,65535)],⟨122,[(0,.h wB),(5,.h .byte),(8,wH),(10,.h .byte),(11,.h .byte)],[],64,[]⟩),(ao [(0,65533),(0,32767)],⟨122,[(0,.h wB),(5,.h .byte),(8,wH),(10,.h .byte),(11,.h .byte),(79,.h .bool)],[],64,[]⟩),(ao [(0,16380),(0,16381),(0,8191)],⟨122,[(0,.h wB),(5,.h .byte),(8,wH),(10,.h .byte)],[],64,[]⟩),(ao [(0,8189),(0,4095)],⟨122,[(0,.h wB),(5,.h .byte),(8,wH),(10,.h .byte),(60,.h .bool)],[],64,[]⟩)]
def z6f:x31.L 0:=Fx.jn q31 [] fun d=>by kernel_rfl
def z6e:x31.L 1:=Fx.jn quv [(z6f).s] fun d=>by kernel_rfl
def z6d:x31.L 2:=Fx.jn q30 [(z6e).s] fun d=>by kernel_rfl
def z6c:x31.L 3:=Fx.jn quu [(z6d).s] fun d=>by kernel_rfl
def z6b:x31.L 4:=Fx.jn q3z [(z6c).s] fun d=>by kernel_rfl
def z6a:x31.L 5:=Fx.jn qut [(z6b).s] fun d=>by kernel_rfl
def z6g:=x31.fi qus [(z6a).s] call182
def z6n:IF:=⟨.fn 138,[.h wB],[],_,RS.mk (.tup [.h (.int .i32),wH]) []⟩
def x32(fu:Nat):Fx wG z6n:=fx f138 138 func138 [z6g.p] false [] ap [(ao [(0,104),(0,105),(2,26),(1,13),(0,7)],⟨22,[(0,.h wB),(6,.h wB),(7,wH),(8,.c (.int .i64 0))],[],64,[]⟩)]
def z6o:Nat->(x32 fu).L 0:=Fx.lq (qul fu) (q3v fu) (fun r0=>[])
def zfi:=(x32 fu).fi (quj fu) [(z6o fu fu).s] call138
def zfj:IF:=⟨.yld 0,[.h wB],[(0,.loop .ready none 36 27 [(3,.ptr 1 0),(4,.ptr 2 0)] [11] 0 3),(1,.cells [.own 4] 23),(2,.cells [wH] 3),(3,.dfr),(4,.row .byte 5)],_,RS.mk (.c (.bool true)) [(0,.loop .ready none 36 27 [(3,.ptr 1 0),(4,.ptr 2 0)] [11] 0 3),(1,.cells [.own 5] 23),(2,.cells [wH] 3),(3,.dfr),(4,.dead),(5,.row .byte 5)]⟩
def x33:Fx wG zfj:=fx f36 36 func36 [(zff fu).p,⟨zaz.e qbr,zq8⟩] false [([0,1,0,1,1,1],0)] (mc rfl ap) []
def z6q:EI wG zfj:=(x33 fu).fiy (qa2 fu) [] 0 rfl [0,1,0,1,1,1] (by kernel_rfl) (by kernel_rfl) fun d d'=>by kernel_rfl
def z6r:IF:=⟨.fn 137,[.yld 0,.ptr 1 0,.ptr 2 0,.ptr 3 0],[(0,.loop .ready none 36 27 [(3,.ptr 4 0),(4,.ptr 5 0)] [11] 0 6),(1,.cells [.h wB] 23),(2,.cells [.h wB] 23),(3,.cells [wH] 3),(4,.cells [.own 7] 23),(5,.cells [wH] 3),(6,.dfr),(7,.row .byte 5)],_,RS.mk (.tup []) [(0,.loop .ready none 36 27 [(3,.ptr 4 0),(4,.ptr 5 0)] [11] 0 6),(1,.cells [.h wB] 23),(2,.cells [.h wB] 23),(3,.cells [wH] 3),(4,.cells [.own 8] 23),(5,.cells [wH] 3),(6,.dfr),(7,.dead),(8,.row .byte 5)]⟩
def x34:Fx wG z6r:=fx f137 137 func137 [(zfi fu).p,(z6q fu).p,⟨qv7.e qd,q5d (by decide)⟩] false [] ap [(ao [(0,320),(0,321),(0,161),(2,40),(1,20),(0,21),(0,3)],⟨63,[(0,.yld 0),(2,.ptr 2 0)],[(0,.loop .ready none 36 27 [(3,.ptr 4 0),(4,.ptr 5 0)] [11] 0 6),(1,.cells [.h wB] 23),(2,.cells [.h wB] 23),(3,.cells [wH] 3),(4,.cells [.own 32] 23),(5,.cells [wH] 3),(6,.dfr),(7,.dead),(32,.row .byte 5)],64,[]⟩),(ao [(0,96),(0,97),(1,24),(2,12),(1,6),(0,7)],⟨63,[(0,.yld 0),(1,.ptr 1 0),(2,.ptr 2 0),(3,.ptr 3 0)],[(0,.loop .ready none 36 27 [(3,.ptr 4 0),(4,.ptr 5 0)] [11] 0 6),(1,.cells [.h wB] 23),(2,.cells [.h wB] 23),(3,.cells [wH] 3),(4,.cells [.own 32] 23),(5,.cells [wH] 3),(6,.dfr),(7,.dead),(32,.row .byte 5)],64,[]⟩)]
def z6s:Nat->(x34 fu).L 0:=Fx.lq (qrm fu) (q2s fu) (fun r0=>[r0.s])
def z6t:Nat->(x34 fu).L 1:=Fx.lq (qeh fu) (qrl fu) (fun r1=>[r1.s])
def z6u:=(x34 fu).fi (qrk fu) [(z6s fu fu).s,(z6t fu fu).s] call137
def z6w:IF:=⟨.fn 36,[.h wB],[],_,RS.mk (.own 0) [(0,.row .byte 5)]⟩
def x35:Fx wG z6w:=fx f36 36 func36 [z58.p,(z6u fu).p] false [([0,1,0,1,1,1],0)] (mc rfl ap) []
def zfk:=(x35 fu).fi (qel fu) [] call36
def z6y:IF:=⟨.fn 19,[.h wB],[],_,RS.mk (.tup [.own 0,.h (.prod wI wI)]) [(0,.row .byte 5)]⟩
def x36:Fx wG z6y:=fx f19 19 func19 [fp.p,(zfk fu).p,gw.p] false [] ap []
def z6z:=(x36 fu).fi (q2x fu) [] call19
def z60:IF:=⟨.fn 85,[.h (.prod wL wB)],[],_,RS.mk (.own 0) [(0,.row .byte 5)]⟩
def x37:Fx wG z60:=fx f85 85 func85 [(q1g fu).p] false [] ap [(ao [(0,119608),(0,119609),(2,29902),(1,14951),(1,934),(0,935),(2,58),(1,29),(0,15)],⟨44,[(1,.ptr 32 0),(3,.own 34),(11,.h wL),(12,wH),(13,wH),(25,.own 33),(26,wH),(27,wH)],[(32,.dat (.prod wL wB) 25),(33,.row .str 9),(34,.row .byte 5)],64,[]⟩),(ao [(0,232),(0,233),(2,58),(1,29),(0,15)],⟨44,[(1,.ptr 32 0),(3,.own 33),(11,.h wL),(12,wH),(13,wH)],[(32,.dat (.prod wL wB) 25),(33,.row .byte 5)],64,[]⟩)]
def z62(r0:(x37 fu).L 1):Nat->(x37 fu).L 0:=Fx.lq (qbg fu r0.f) (qso fu r0.f) (fun r1=>[r1.s,r0.s])
def z61:Nat->(x37 fu).L 1:=Fx.lq (xx fu) (qsn fu) (fun r0=>[(z62 fu r0 fu).s])
def z63:=(x37 fu).fi (qsm fu) [(z61 fu fu).s] call85
def z64:IF:=⟨.fn 127,[.h wB],[],_,RS.mk (wH) []⟩
def x38(fu:Nat):Fx wG z64:=fx f127 127 func127 [] false [] ap [(ao [(0,14924),(0,14925),(0,7463),(1,466),(0,467),(2,58),(1,29),(0,15)],⟨45,[(0,.h wB),(3,wH),(4,wH),(5,.h .byte)],[],64,[]⟩),(ao [(0,7461),(0,3731),(1,466),(0,467),(2,58),(1,29),(0,15)],⟨45,[(0,.h wB),(3,wH),(4,wH),(5,.h .byte),(32,.h .bool)],[],64,[]⟩),(ao [(0,464),(0,465),(0,233),(2,58),(1,29),(0,15)],⟨45,[(0,.h wB),(3,wH),(4,wH)],[],64,[]⟩)]
def z68(r0:(x38 fu).L 2):(x38 fu).L 0:=Fx.jm (qq7 fu r0.f) [r0.s]
def z67(r0:(x38 fu).L 2):(x38 fu).L 1:=Fx.jm (qay fu r0.f) [r0.s,(z68 fu r0).s]
def z65:Nat->(x38 fu).L 2:=Fx.lq (xi fu) (qq6 fu) (fun r0=>[(z67 fu r0).s])
def zfl:=(x38 fu).fi (qax fu) [(z65 fu fu).s] call127
def z7c:IF:=⟨.fn 86,[.h wB],[],_,RS.mk (.h (.prod wI wI)) []⟩
def x39:Fx wG z7c:=fx f86 86 func86 [(zfl fu).p,fp.p,gw.p] false [] ap []
def z7d:=(x39 fu).fi (qkx fu) [] call86
def z7h:IF:=⟨.fn 59,[.h (.prod wL wB)],[],_,RS.mk (.h (.prod wI wI)) []⟩
def x40:Fx wG z7h:=fx f59 59 func59 [(q1j fu).p,jk.p,(z63 fu).p,fp.p,(z7d fu).p] false [] ap []
def z7i:=(x40 fu).fi (qkw fu) [] call59
def z7j:IF:=⟨.fn 213,[wS,.h .byte],[],_,RS.mk (wS) []⟩
def x41(fu:Nat):Fx wG z7j:=fx f213 213 func213 [] false [] ap [(ao [(0,96),(0,97),(0,49),(2,12),(1,6),(0,7)],⟨17,[(0,wS),(1,.h .byte)],[],64,[]⟩)]
def z7k:Nat->(x41 fu).L 0:=Fx.lq (qt2 fu) (q3n fu) (fun r0=>[r0.s])
def zfn:=(x41 fu).fi (qt1 fu) [(z7k fu fu).s] call213
def z7l:IF:=⟨.fn 216,[wS,.el 0 1],[(0,.row .bool 261)],_,RS.mk (wS) [(0,.row .bool 261)]⟩
def x42(fu:Nat):Fx wG z7l:=fx f216 216 func216 [q0h.p] false [] ap [(ao [(0,96),(0,97),(0,49),(2,12),(1,6),(0,7)],⟨16,[(0,wS),(1,.el 0 1)],[(0,.row .bool 261)],64,[]⟩)]
def z7m:Nat->(x42 fu).L 0:=Fx.lq (qga fu) (qt0 fu) (fun r0=>[r0.s])
def zfp:=(x42 fu).fi (qf9 fu) [(z7m fu fu).s] call216
def z7n:IF:=⟨.fn 258,[wS],[],_,RS.mk (.tup [.h (.int .i32),wH]) []⟩
def x43:Fx wG z7n:=fx f258 258 func258 [] false [] ap [(ao [(0,524286),(0,524287)],⟨117,[(5,.h .byte),(10,.h .byte),(11,.h .byte),(12,.h .byte)],[],64,[]⟩),(ao [(0,524285),(0,262143)],⟨117,[(5,.h .byte),(10,.h .byte),(11,.h .byte),(12,.h .byte),(98,.h .bool)],[],64,[]⟩),(ao [(0,131068),(0,131069),(0,65535)],⟨117,[(0,wS),(5,.h .byte),(8,wH),(10,.h .byte),(11,.h .byte)],[],64,[]⟩),(ao [(0,65533),(0,32767)],⟨117,[(0,wS),(5,.h .byte),(8,wH),(10,.h .byte),(11,.h .byte),(75,.h .bool)],[],64,[]⟩),(ao [(0,16380),(0,16381),(0,8191)],⟨117,[(0,wS),(5,.h .byte),(8,wH),(10,.h .byte)],[],64,[]⟩),(ao [(0,8189),(0,4095)],⟨117,[(0,wS),(5,.h .byte),(8,wH),(10,.h .byte),(57,.h .bool)],[],64,[]⟩)]
def z7t:x43.L 0:=Fx.jn q3y [] fun d=>by kernel_rfl
def z7s:x43.L 1:=Fx.jn qur [(z7t).s] fun d=>by kernel_rfl
def z7r:x43.L 2:=Fx.jn q3x [(z7s).s] fun d=>by kernel_rfl
def z7q:x43.L 3:=Fx.jn quq [(z7r).s] fun d=>by kernel_rfl
def z7p:x43.L 4:=Fx.jn q3w [(z7q).s] fun d=>by kernel_rfl
def z7o:x43.L 5:=Fx.jn qup [(z7p).s] fun d=>by kernel_rfl
def z7u:=x43.fi qun [(z7o).s] call258
def z74:IF:=⟨.fn 239,[wS],[],_,RS.mk (.tup [.h (.int .i32),wH]) []⟩
def x44:Fx wG z74:=fx f239 239 func239 [z7u.p] false [] ap []
def zfq:=x44.fi quk [] call239
def z79:IF:=⟨.fn 240,[wS,.h (.int .i32)],[],_,RS.mk (.h .bool) []⟩
def x45:Fx wG z79:=fx f240 240 func240 [(x9s fu).p] false [] ap []
def zfr:=(x45 fu).fi (qln fu) [] call240
def z8a:IF:=⟨.fn 218,[wS,wS],[],_,RS.mk (wS) []⟩
def x46:Fx wG z8a:=fx f218 218 func218 [zfq.p,(zfr fu).p] false [] ap [(ao [(0,96),(0,97),(0,49),(2,12),(1,6),(0,7)],⟨23,[(0,wS),(1,wS)],[],64,[]⟩)]
def z8b:Nat->(x46 fu).L 0:=Fx.lq (qt4 fu) (q3o fu) (fun r0=>[r0.s])
def zft:=(x46 fu).fi (qt3 fu) [(z8b fu fu).s] call218
def z8c:IF:=⟨.fn 253,[wS,wS],[],_,RS.mk (wS) []⟩
def x47:Fx wG z8c:=fx f253 253 func253 [(zfn fu).p,(x5s fu).p,(zfp fu).p,(zft fu).p] false [] ap [(ao [(0,60),(0,61),(0,31)],⟨37,[(0,wS),(1,wS)],[],64,[]⟩),(ao [(0,29),(0,15)],⟨37,[(0,wS),(1,wS),(21,.h .bool)],[],64,[]⟩),(ao [(0,28),(0,29),(0,15)],⟨37,[(0,wS),(1,wS)],[],64,[]⟩),(ao [(0,13),(0,7)],⟨37,[(0,wS),(1,wS),(12,.h .bool)],[],64,[]⟩)]
def z8g:(x47 fu).L 0:=Fx.jm (qtr fu) []
def z8f:(x47 fu).L 1:=Fx.jm (qlw fu) [(z8g fu).s]
def z8e:(x47 fu).L 2:=Fx.jm (qtq fu) [(z8f fu).s]
def z8d:(x47 fu).L 3:=Fx.jm (qlv fu) [(z8e fu).s]
def z8h:=(x47 fu).fi (qlu fu) [(z8d fu).s] call253
def z8n:IF:=⟨.fn 234,[.ptr 0 0],[(0,.cells [wS] 277)],_,RS.mk (.tup []) [(0,.cells [wS] 277)]⟩
def x48:Fx wG z8n:=fx f234 234 func234 [(z8h fu).p] false [] ap []
def qje:=(x48 fu).fi (uv fu) [] call234
def z8p:IF:=⟨.fn 231,[.h .byte],[],_,RS.mk (.h .bool) []⟩
def x49:Fx wG z8p:=fx f231 231 func231 [x7s.p] false [] ap []
def qjf:=x49.fi ox [] call231
def z8s:IF:=⟨.fn 230,[.ptr 0 0,.fn 231 []],[(0,.cells [wS] 277)],_,RS.mk (wS) [(0,.cells [wS] 277)]⟩
def x50:Fx wG z8s:=fx f230 230 func230 [(qje fu).p,qjf.p] false [] ap [(ao [(0,482),(1,241),(2,60),(1,30),(0,31)],⟨44,[(0,.ptr 0 0),(1,.fn 231 []),(5,wH)],[(0,.cells [wS] 277)],64,[]⟩),(ao [(0,481),(0,241),(2,60),(1,30),(0,31)],⟨44,[(0,.ptr 0 0),(1,.fn 231 []),(5,wH),(25,.h .bool)],[(0,.cells [wS] 277)],64,[]⟩),(ao [(0,480),(0,481),(0,241),(2,60),(1,30),(0,31)],⟨44,[(0,.ptr 0 0),(1,.fn 231 []),(5,wH)],[(0,.cells [wS] 277)],64,[]⟩)]
def z8v(r0:(x50 fu).L 2):(x50 fu).L 0:=Fx.jm (q23 fu r0.f) [r0.s]
def z8u(r0:(x50 fu).L 2):(x50 fu).L 1:=Fx.jm (qsi fu r0.f) [(z8v fu r0).s]
def z8t:Nat->(x50 fu).L 2:=Fx.lq (qfd fu) (q21 fu) (fun r0=>[(z8u fu r0).s])
def z8w:=(x50 fu).fi (qfc fu) [(z8t fu fu).s] call230
def z81:IF:=⟨.fn 232,[.ptr 0 0,.h .byte],[(0,.cells [wS] 277)],_,RS.mk (.h .bool) [(0,.cells [wS] 277)]⟩
def x51:Fx wG z81:=fx f232 232 func232 [(qje fu).p] false [] ap []
def q1x:=(x51 fu).fi (xv fu) [] call232
def z83:IF:=⟨.fn 249,[.h .byte],[],_,RS.mk (.h .bool) []⟩
def x52:Fx wG z83:=fx f249 249 func249 [qjf.p] false [] ap []
def z84:=x52.fi qfb [] call249
def z86:IF:=⟨.fn 230,[.ptr 0 0,.fn 249 []],[(0,.cells [wS] 277)],_,RS.mk (wS) [(0,.cells [wS] 277)]⟩
def x53:Fx wG z86:=fx f230 230 func230 [(qje fu).p,z84.p] false [] ap [(ao [(0,482),(1,241),(2,60),(1,30),(0,31)],⟨44,[(0,.ptr 0 0),(1,.fn 249 []),(5,wH)],[(0,.cells [wS] 277)],64,[]⟩),(ao [(0,481),(0,241),(2,60),(1,30),(0,31)],⟨44,[(0,.ptr 0 0),(1,.fn 249 []),(5,wH),(25,.h .bool)],[(0,.cells [wS] 277)],64,[]⟩),(ao [(0,480),(0,481),(0,241),(2,60),(1,30),(0,31)],⟨44,[(0,.ptr 0 0),(1,.fn 249 []),(5,wH)],[(0,.cells [wS] 277)],64,[]⟩)]
def z89(r0:(x53 fu).L 2):(x53 fu).L 0:=Fx.jm (q25 fu r0.f) [r0.s]
def z88(r0:(x53 fu).L 2):(x53 fu).L 1:=Fx.jm (qsj fu r0.f) [(z89 fu r0).s]
def z87:Nat->(x53 fu).L 2:=Fx.lq (qfe fu) (q24 fu) (fun r0=>[(z88 fu r0).s])
def z9a:=(x53 fu).fi (qkt fu) [(z87 fu fu).s] call230
def z9e:IF:=⟨.fn 268,[.h .byte],[],_,RS.mk (.h .bool) []⟩
def x54:Fx wG z9e:=fx f268 268 func268 [qjf.p] false [] ap []
def z9f:=x54.fi qfg [] call268
def z9g:IF:=⟨.fn 230,[.ptr 0 0,.fn 268 []],[(0,.cells [wS] 277)],_,RS.mk (wS) [(0,.cells [wS] 277)]⟩
def x55:Fx wG z9g:=fx f230 230 func230 [(qje fu).p,z9f.p] false [] ap [(ao [(0,482),(1,241),(2,60),(1,30),(0,31)],⟨44,[(0,.ptr 0 0),(1,.fn 268 []),(5,wH)],[(0,.cells [wS] 277)],64,[]⟩),(ao [(0,481),(0,241),(2,60),(1,30),(0,31)],⟨44,[(0,.ptr 0 0),(1,.fn 268 []),(5,wH),(25,.h .bool)],[(0,.cells [wS] 277)],64,[]⟩),(ao [(0,480),(0,481),(0,241),(2,60),(1,30),(0,31)],⟨44,[(0,.ptr 0 0),(1,.fn 268 []),(5,wH)],[(0,.cells [wS] 277)],64,[]⟩)]
def z9j(r0:(x55 fu).L 2):(x55 fu).L 0:=Fx.jm (q27 fu r0.f) [r0.s]
def z9i(r0:(x55 fu).L 2):(x55 fu).L 1:=Fx.jm (qsk fu r0.f) [(z9j fu r0).s]
def z9h:Nat->(x55 fu).L 2:=Fx.lq (qff fu) (q26 fu) (fun r0=>[(z9i fu r0).s])
def z9k:=(x55 fu).fi (qku fu) [(z9h fu fu).s] call230
def z9n:IF:=⟨.fn 250,[.ptr 0 0],[(0,.cells [wS] 277)],_,RS.mk (.tup [wS,.h .bool]) [(0,.cells [wS] 277)]⟩
def x56:Fx wG z9n:=fx f250 250 func250 [(q1x fu).p,(z9k fu).p] false [] ap [(ao [(0,976),(0,977),(0,489),(2,122),(1,61),(0,31)],⟨66,[(0,.ptr 0 0),(4,.own 32),(5,wH)],[(0,.cells [wS] 277),(32,.row .byte 5)],64,[]⟩)]
def z9o:Nat->(x56 fu).L 0:=Fx.lq (qfh fu) (qsl fu) (fun r0=>[r0.s])
def z9p:=(x56 fu).fi (qkv fu) [(z9o fu fu).s] call250
def z9q:IF:=⟨.fn 257,[wS,wS],[],_,RS.mk (wH) []⟩
def x57:Fx wG z9q:=fx f257 257 func257 [x6s.p] false [] ap [(ao [(0,57),(1,14),(0,15)],⟨143,[(0,wS),(1,wS),(5,wH),(16,.h .bool)],[],64,[]⟩)]
def z9r:x57.L 0:=Fx.jn qa7 [] fun d=>by kernel_rfl
def z9s:=x57.fi qa6 [(z9r).s] call257
def z9v:IF:=⟨.fn 237,[wS,wS],[],_,RS.mk (.tup [wS,wS,.h .bool]) []⟩
def x58:Fx wG z9v:=fx f237 237 func237 [z9s.p] false [] ap []
def z9w:=x58.fi qev [] call237
def z9y:IF:=⟨.fn 211,[wS,wS],[],_,RS.mk (.tup [wS,wS,.h .bool]) []⟩
def x59:Fx wG z9y:=fx f211 211 func211 [z9w.p] false [] ap []
def zfw:=x59.fi ss [] call211
def z92:IF:=⟨.fn 269,[wS,wS],[],_,RS.mk (.tup [wS,.h .bool]) []⟩
def x60:Fx wG z92:=fx f269 269 func269 [q1m.p] false [] ap []
def z93:=x60.fi qr2 [] call269
def z95:IF:=⟨.fn 251,[wS,wS],[],_,RS.mk (.tup [wS,.h .bool]) []⟩
def x61:Fx wG z95:=fx f251 251 func251 [z93.p] false [] ap []
def z96:=x61.fi qlo [] call251
def qyu:LC.glob 1=some ⟨.int .u64,Lib.pow10Tab⟩:=rfl
def qyv:(1,20)∈LC.sizes:=by decide
def z98:IF:=⟨.fn 233,[.ptr 0 0],[(0,.cells [wS] 277)],_,RS.mk (.tup [.h (.prod .str (.prod wI (.prod .bool .str))),.h .bool]) [(0,.cells [wS] 277)]⟩
def x62:Fx wG z98:=fx f233 233 func233 [(z9a fu).p,(q1x fu).p,(z9p fu).p,zfw.p,z96.p,⟨q9u.e xj,zoz qyu qyv (by decide) (by decide)⟩] false [] ap []
def z99:=(x62 fu).fi (qks fu) [] call233
def vab:IF:=⟨.fn 254,[.h (.prod .str (.prod wI (.prod .bool .str))),.ptr 0 0],[(0,.dat (.prod .str (.prod wI (.prod .bool .str))) 281)],_,RS.mk (.h .bool) [(0,.dat (.prod .str (.prod wI (.prod .bool .str))) 281)]⟩
def x63:Fx wG vab:=fx f254 254 func254 [(ow fu).p] false [] ap []
def zfx:=(x63 fu).fi (qe5 fu) [] call254
def vac:IF:=⟨.fn 271,[.h (.list (.prod .str (.prod wI (.prod .bool .str)))),.fn 254 [.ptr 0 0]],[(0,.dat (.prod .str (.prod wI (.prod .bool .str))) 281)],_,RS.mk (wH) [(0,.dat (.prod .str (.prod wI (.prod .bool .str))) 281)]⟩
def x64:Fx wG vac:=fx f271 271 func271 [(zfx fu).p] false [] ap [(ao [(0,104),(0,105),(2,26),(1,13),(0,7)],⟨19,[(0,.h (.list (.prod .str (.prod wI (.prod .bool .str))))),(1,.fn 254 [.ptr 0 0]),(7,wH),(8,wH)],[(0,.dat (.prod .str (.prod wI (.prod .bool .str))) 281)],64,[]⟩)]
def vad:Nat->(x64 fu).L 0:=Fx.lq (qfw fu) (qtc fu) (fun r0=>[r0.s])
def vae:=(x64 fu).fi (qtb fu) [(vad fu fu).s] call271
def vag:IF:=⟨.fn 255,[.h (.list (.prod .str (.prod wI (.prod .bool .str)))),.fn 254 [.ptr 0 0]],[(0,.dat (.prod .str (.prod wI (.prod .bool .str))) 281)],_,RS.mk (.h .bool) [(0,.dat (.prod .str (.prod wI (.prod .bool .str))) 281)]⟩
def x65:Fx wG vag:=fx f255 255 func255 [(vae fu).p] false [] ap []
def vah:=(x65 fu).fi (qlj fu) [] call255
def vai:IF:=⟨.fn 228,[.h .byte],[],_,RS.mk (.tup [.h .byte,.h .bool]) []⟩
def x67:Fx wG vai:=fx f228 228 func228 [] false [] ap [(ao [(0,103),(1,6),(0,7)],⟨33,[(0,.h .byte),(13,.h .bool)],[],64,[]⟩),(ao [(0,25),(1,6),(0,7)],⟨33,[(0,.h .byte),(4,.h .bool)],[],64,[]⟩)]
def vak:x67.L 0:=Fx.jn qq9 [] fun d=>by kernel_rfl
def vaj:x67.L 1:=Fx.jn qq8 [(vak).s] fun d=>by kernel_rfl
def vam:=x67.fi sh [(vaj).s] call228
def vaq:IF:=⟨.fn 200,[wS],[],_,RS.mk (.tup [.h .byte,.h .bool]) []⟩
def x68:Fx wG vaq:=fx f200 200 func200 [vam.p] false [] ap []
def zfz:=x68.fi sj [] call200
def var:IF:=⟨.fn 274,[.h (.prod .str (.prod wI (.prod .bool .str)))],[],_,RS.mk (wS) []⟩
def x69:Fx wG var:=fx f274 274 func274 [(ow fu).p,zfz.p] false [] ap [(ao [(0,4048),(0,4049),(0,2025),(2,506),(1,253),(0,127)],⟨62,[(3,wS),(4,.own 32),(5,wH)],[(32,.row .byte 5)],64,[]⟩),(ao [(0,62),(0,63)],⟨62,[(3,wS)],[],64,[]⟩),(ao [(0,61),(0,31)],⟨62,[(3,wS),(26,.h .bool)],[],64,[]⟩)]
def vau:Nat->(x69 fu).L 0:=Fx.lq (qe9 fu) (qsg fu) (fun r2=>[r2.s])
def vat:(x69 fu).L 1:=Fx.jm (qbe fu) [(vau fu fu).s]
def vas:(x69 fu).L 2:=Fx.jm (uu fu) [(vat fu).s]
def vav:=(x69 fu).fi (qkq fu) [(vas fu).s] call274
def q7g:LC.glob 2=some ⟨.byte,qio⟩:=rfl
def q4h:LC.glob 3=some ⟨.prod .byte .byte,qip⟩:=rfl
def q7f:qce qio=true:=by kernel_rfl
def q4g:qcf qip=true:=by kernel_rfl
def vaz:IF:=⟨.fn 256,[.own 0],[(0,.row (.prod .str (.prod wI (.prod .bool .str))) 281)],_,RS.mk (.tup [.h wP,.h .bool]) [(0,.dead)]⟩
def x70:Fx wG vaz:=fx f256 256 func256 [⟨zcf.e yh,zsl⟩,(vav fu).p,⟨zc8.e yi,ztp q7g q4h q7f q4g⟩] true [] ap [(ao [(0,2024),(0,2025),(2,506),(1,253),(0,127)],⟨52,[(2,.ptr 32 0),(4,.ptr 33 0),(28,.own 34),(29,wH),(30,wH)],[(0,.dead),(32,.dat wP 92),(33,.dat wP 92),(34,.row (.prod .str (.prod wI (.prod .bool .str))) 281)],64,[]⟩)]
def va0:Nat->(x70 fu).L 0:=Fx.lq (qe2 fu) (qr9 fu) (fun r0=>[r0.s])
def va1:=(x70 fu).fi (qe1 fu) [(va0 fu fu).s] call256
def va2:IF:=⟨.fn 235,[.h (.list (.prod .str (.prod wI (.prod .bool .str))))],[],_,RS.mk (.tup [.own 0,.h .bool]) [(0,.row wP 92)]⟩
def x71:Fx wG va2:=fx f235 235 func235 [(vah fu).p,(zfx fu).p,(va1 fu).p] false [] ap [(ao [(0,3827623),(2,239226),(1,119613),(0,59807),(1,934),(0,935),(2,58),(1,29),(0,15)],⟨56,[(0,.h (.list (.prod .str (.prod wI (.prod .bool .str))))),(4,.own 34),(6,.ptr 32 0),(7,.fn 254 [.ptr 32 0]),(8,.own 33),(13,.h (.list (.prod .str (.prod wI (.prod .bool .str))))),(14,wH),(15,wH),(26,.h (.list (.prod .str (.prod wI (.prod .bool .str))))),(27,wH),(28,wH)],[(32,.dat (.prod .str (.prod wI (.prod .bool .str))) 281),(33,.row (.prod .str (.prod wI (.prod .bool .str))) 281),(34,.row wP 92)],64,[]⟩),(ao [(0,956904),(0,956905),(2,239226),(1,119613),(0,59807),(1,934),(0,935),(2,58),(1,29),(0,15)],⟨56,[(0,.h (.list (.prod .str (.prod wI (.prod .bool .str))))),(4,.own 33),(6,.ptr 32 0),(7,.fn 254 [.ptr 32 0]),(8,.own 34),(13,.h (.list (.prod .str (.prod wI (.prod .bool .str))))),(14,wH),(15,wH),(26,.h (.list (.prod .str (.prod wI (.prod .bool .str))))),(27,wH),(28,wH)],[(32,.dat (.prod .str (.prod wI (.prod .bool .str))) 281),(33,.row wP 92),(34,.row (.prod .str (.prod wI (.prod .bool .str))) 281)],64,[]⟩),(ao [(0,232),(0,233),(2,58),(1,29),(0,15)],⟨56,[(0,.h (.list (.prod .str (.prod wI (.prod .bool .str))))),(4,.own 32),(13,.h (.list (.prod .str (.prod wI (.prod .bool .str))))),(14,wH),(15,wH)],[(32,.row wP 92)],64,[]⟩)]
def va5(r0:(x71 fu).L 2)(r1:(x71 fu).L 1):(x71 fu).L 0:=Fx.jm (qe7 fu r0.f r1.f) [r1.s]
def va4(r0:(x71 fu).L 2):Nat->(x71 fu).L 1:=Fx.lq (qe6 fu r0.f) (qsd fu r0.f) (fun r1=>[(va5 fu r0 r1).s,r0.s])
def va3:Nat->(x71 fu).L 2:=Fx.lq (qbd fu) (qsc fu) (fun r0=>[r0.s,(va4 fu r0 fu).s])
def va6:=(x71 fu).fi (qbc fu) [(va3 fu fu).s] call235
def va8:IF:=⟨.fn 204,[wS],[],_,.two (RS.mk (.tup [.agg [wS,wS,wN],.h .bool]) []) (RS.mk (.tup [.agg [wS,wS,.own 0],.h .bool]) [(0,.row wP 92)])⟩
def x72:Fx wG va8:=fx f204 204 func204 [(z8w fu).p,(q1x fu).p,(z99 fu).p,(qje fu).p,(va6 fu).p] false [] ap [(ao [(0,16352),(0,16353),(0,8177),(2,2044),(1,1022),(0,1023)],⟨66,[(2,.ptr 32 0),(4,.ptr 33 0),(5,.ptr 34 0),(7,.own 35)],[(32,.cells [wS,wS,wN] 89),(33,.cells [wS] 277),(34,.cells [wS,wS,wN] 89),(35,.row (.prod .str (.prod wI (.prod .bool .str))) 281)],64,[]⟩),(ao [(0,510),(0,511)],⟨66,[(2,.ptr 32 0),(4,.ptr 33 0),(5,.ptr 34 0)],[(32,.cells [wS,wS,wN] 89),(33,.cells [wS] 277),(34,.cells [wS,wS,wN] 89)],64,[]⟩),(ao [(0,509),(0,255)],⟨66,[(2,.ptr 32 0),(4,.ptr 33 0),(5,.ptr 34 0),(33,.h .bool)],[(32,.cells [wS,wS,wN] 89),(33,.cells [wS] 277),(34,.cells [wS,wS,wN] 89)],64,[]⟩)]
def vbb:Nat->(x72 fu).L 0:=Fx.lq (qe8 fu) (qse fu) (fun r2=>[r2.s])
def vba:(x72 fu).L 1:=Fx.jm (qsf fu) [(vbb fu fu).s]
def va9:(x72 fu).L 2:=Fx.jm (ut fu) [(vba fu).s]
def vbc:=(x72 fu).fi (qkp fu) [(va9 fu).s] call204
def vbf:IF:=⟨.fn 161,[wS,.fn 231 []],[],_,RS.mk (.h .bool) []⟩
def x73(fu:Nat):Fx wG vbf:=fx f161 161 func161 [qjf.p] false [] ap [(ao [(0,104),(0,105),(2,26),(1,13),(0,7)],⟨18,[(0,wS),(1,.fn 231 []),(7,wH),(8,wH)],[],64,[]⟩)]
def vbg:Nat->(x73 fu).L 0:=Fx.lq (qed fu) (q2n fu) (fun r0=>[r0.s])
def vbh:=(x73 fu).fi (qj5 fu) [(vbg fu fu).s] call161
def vbj:IF:=⟨.fn 205,[wS],[],_,RS.mk (.h .bool) []⟩
def x74:Fx wG vbj:=fx f205 205 func205 [(vbh fu).p] false [] ap []
def zf3:=(x74 fu).fi (xw fu) [] call205
def vbl:IF:=⟨.fn 207,[.h wP,.ptr 0 0],[(0,.dat wP 92)],_,RS.mk (.h .bool) [(0,.dat wP 92)]⟩
def x75:Fx wG vbl:=fx f207 207 func207 [(ow fu).p] false [] ap []
def vbm:=(x75 fu).fi (qr6 fu) [] call207
def vbn:IF:=⟨.fn 173,[.h wL,.fn 207 [.ptr 0 0]],[(0,.dat wP 92)],_,RS.mk (wH) [(0,.dat wP 92)]⟩
def x76:Fx wG vbn:=fx f173 173 func173 [(vbm fu).p] false [] ap [(ao [(0,104),(0,105),(2,26),(1,13),(0,7)],⟨19,[(0,.h wL),(1,.fn 207 [.ptr 0 0]),(7,wH),(8,wH)],[(0,.dat wP 92)],64,[]⟩)]
def vbo:Nat->(x76 fu).L 0:=Fx.lq (qfv fu) (qs9 fu) (fun r0=>[r0.s])
def vbp:=(x76 fu).fi (qs8 fu) [(vbo fu fu).s] call173
end
end
noncomputable section
open Go.Proofs
set_option linter.unusedVariables false
set_option maxRecDepth 100000
set_option maxHeartbeats 2000000
open Tryz
section
variable(fu:Nat)
def vbr:IF:=⟨.fn 206,[.h wL,.fn 207 [.ptr 0 0]],[(0,.dat wP 92)],_,RS.mk (.h .bool) [(0,.dat wP 92)]⟩
def x77:Fx wG vbr:=fx f206 206 func206 [(vbp fu).p] false [] ap []
def vbs:=(x77 fu).fi (qli fu) [] call206
def vbt:IF:=⟨.fn 174,[.h (.prod .str (.prod .str wL))],[],_,RS.mk (.h (.prod wI wI)) []⟩
def x78:Fx wG vbt:=fx f174 174 func174 [(zf3 fu).p,fp.p,gw.p,(vbs fu).p,⟨zdk.e yj,zua q7g q4h q7f q4g⟩] false [] ap [(ao [(0,31333),(1,7833),(1,1958),(0,1959),(2,122),(1,61),(0,31)],⟨67,[(1,.ptr 32 0),(2,.ptr 33 0),(3,wH),(4,.ptr 34 0),(22,.h wL),(23,wH),(24,wH),(29,.h .bool)],[(32,.dat (.prod .str (.prod .str wL)) 89),(33,.dat (.prod wI wI) 28),(34,.dat wP 92)],64,[]⟩),(ao [(0,488),(0,489),(2,122),(1,61),(0,31)],⟨67,[(1,.ptr 32 0),(2,.ptr 33 0),(22,.h wL),(23,wH),(24,wH)],[(32,.dat (.prod .str (.prod .str wL)) 89),(33,.dat (.prod wI wI) 28)],64,[]⟩),(ao [(0,28),(0,29),(0,15)],⟨67,[(1,.ptr 32 0),(2,.ptr 33 0)],[(32,.dat (.prod .str (.prod .str wL)) 89),(33,.dat (.prod wI wI) 28)],64,[]⟩),(ao [(0,13),(0,7)],⟨67,[(1,.ptr 32 0),(2,.ptr 33 0),(14,.h .bool)],[(32,.dat (.prod .str (.prod .str wL)) 89),(33,.dat (.prod wI wI) 28)],64,[]⟩)]
def vbx(r2:(x78 fu).L 1):(x78 fu).L 0:=Fx.jm (xu fu r2.f) [r2.s]
def vbw:Nat->(x78 fu).L 1:=Fx.lq (qba fu) (qr7 fu) (fun r2=>[(vbx fu r2).s])
def vbv:(x78 fu).L 2:=Fx.jm (qr8 fu) [(vbw fu fu).s]
def vbu:(x78 fu).L 3:=Fx.jm (qa9 fu) [(vbv fu).s]
def q17:=(x78 fu).fi (sm fu) [(vbu fu).s] call174
def vb2:IF:=⟨.fn 172,[wS],[],_,.two (RS.mk (.tup [.agg [wS,wS,wN],.agg [wH,wH]]) []) (RS.mk (.tup [.agg [wS,wS,.own 0],.agg [wH,wH]]) [(0,.row wP 92)])⟩
def x79:Fx wG vb2:=fx f172 172 func172 [fp.p,(vbc fu).p,(q17 fu).p,jk.p,gw.p] false [] ap []
def vb3:=(x79 fu).fi (qez fu) [] call172
def vb5:IF:=⟨.fn 130,[.h wL],[],_,.two (RS.mk (.tup [.agg [wS,wS,wN],wH,.h .bool]) []) (RS.mk (.tup [.agg [wS,wS,.own 0],wH,.h .bool]) [(0,.row wP 92)])⟩
def x80:Fx wG vb5:=fx f130 130 func130 [(ow fu).p,(vb3 fu).p,jk.p] false [] ap [(ao [(0,935),(2,58),(1,29),(0,15)],⟨42,[(0,.h wL),(2,.ptr 32 0),(5,wH),(10,.h wL),(11,wH),(12,wH)],[(32,.cells [wS,wS,wN] 89)],64,[]⟩),(ao [(0,232),(0,233),(2,58),(1,29),(0,15)],⟨42,[(0,.h wL),(2,.ptr 32 0),(5,wH),(10,.h wL),(11,wH),(12,wH)],[(32,.cells [wS,wS,wN] 89)],64,[]⟩)]
def vb7(r0:(x80 fu).L 1):(x80 fu).L 0:=Fx.jm (qbi fu r0.f) [r0.s]
def vb6:Nat->(x80 fu).L 1:=Fx.lq (uw fu) (qkz fu) (fun r0=>[(vb7 fu r0).s])
def q18:=(x80 fu).fi (qbh fu) [(vb6 fu fu).s] call130
def vb9:IF:=⟨.fn 167,[.h (.prod .str (.prod .str wL)),wS],[],_,RS.mk (.tup [wS,.h .bool,.h (.prod wI wI)]) []⟩
def x81:Fx wG vb9:=fx f167 167 func167 [(q17 fu).p,jk.p,(ow fu).p,gw.p] false [] ap [(ao [(0,232),(0,233),(2,58),(1,29),(0,15)],⟨31,[(1,wS),(6,.ptr 32 0),(16,.h wL),(17,wH),(18,wH)],[(32,.dat (.prod wI wI) 28)],64,[]⟩)]
def vca:Nat->(x81 fu).L 0:=Fx.lq (qey fu) (qr4 fu) (fun r0=>[r0.s])
def zf7:=(x81 fu).fi (qex fu) [(vca fu fu).s] call167
def vcc:IF:=⟨.fn 168,[.h .byte],[],_,RS.mk (.h .bool) []⟩
def x82:Fx wG vcc:=fx f168 168 func168 [] false [] ap []
def vcd:=x82.fi qfj [] call168
def vce:IF:=⟨.fn 161,[wS,.fn 168 []],[],_,RS.mk (.h .bool) []⟩
def x83(fu:Nat):Fx wG vce:=fx f161 161 func161 [vcd.p] false [] ap [(ao [(0,104),(0,105),(2,26),(1,13),(0,7)],⟨18,[(0,wS),(1,.fn 168 []),(7,wH),(8,wH)],[],64,[]⟩)]
def vcf:Nat->(x83 fu).L 0:=Fx.lq (qee fu) (q2o fu) (fun r0=>[r0.s])
def vcg:=(x83 fu).fi (qj6 fu) [(vcf fu fu).s] call161
def vci:IF:=⟨.fn 169,[wS,wS],[],_,RS.mk (.h .bool) []⟩
def x84:Fx wG vci:=fx f169 169 func169 [q1m.p] false [] ap []
def vcj:=x84.fi qlp [] call169
def vck:IF:=⟨.fn 128,[.h wL],[],_,RS.mk (.tup [wS,.h .bool]) []⟩
def x85:Fx wG vck:=fx f128 128 func128 [(q18 fu).p,(ow fu).p,(zf7 fu).p,(vcg fu).p,vcj.p] false [] ap [(ao [(0,30),(0,31)],⟨52,[(4,.ptr 32 0)],[(32,.cells [wS,wS,.own 33] 89),(33,.row wP 92)],64,[]⟩),(ao [(0,29),(0,15)],⟨52,[(4,.ptr 32 0),(24,.h .bool)],[(32,.cells [wS,wS,.own 33] 89),(33,.row wP 92)],64,[]⟩)]
def vcm:(x85 fu).L 0:=Fx.jm (qsu fu) []
def vcl:(x85 fu).L 1:=Fx.jm (xy fu) [(vcm fu).s]
def vcn:=(x85 fu).fi (qk1 fu) [(vcl fu).s] call128
def vcr:IF:=⟨.fn 170,[.h wB],[],_,RS.mk (.fn 202 [.ptr 0 0]) [(0,.cells [.h wB] 23)]⟩
def x86:Fx wG vcr:=fx f170 170 func170 [] false [] ap []
def vcs:=x86.fi qsz [] call170
def vct:IF:=⟨.fn 214,[wS,.h .byte],[],_,RS.mk (wS) []⟩
def x87(fu:Nat):Fx wG vct:=fx f214 214 func214 [] false [] ap [(ao [(0,96),(0,97),(0,49),(2,12),(1,6),(0,7)],⟨23,[(0,wS),(1,.h .byte)],[],64,[]⟩)]
def vcu:Nat->(x87 fu).L 0:=Fx.lq (qt7 fu) (q3p fu) (fun r0=>[r0.s])
def zga:=(x87 fu).fi (qt6 fu) [(vcu fu fu).s] call214
def vcv:IF:=⟨.fn 217,[wS,.el 0 1],[(0,.row .bool 261)],_,RS.mk (wS) [(0,.row .bool 261)]⟩
def x88(fu:Nat):Fx wG vcv:=fx f217 217 func217 [q0h.p] false [] ap [(ao [(0,96),(0,97),(0,49),(2,12),(1,6),(0,7)],⟨22,[(0,wS),(1,.el 0 1)],[(0,.row .bool 261)],64,[]⟩)]
def vcw:Nat->(x88 fu).L 0:=Fx.lq (qgc fu) (qt5 fu) (fun r0=>[r0.s])
def zgc:=(x88 fu).fi (qgb fu) [(vcw fu fu).s] call217
def vcy:IF:=⟨.fn 245,[.h .byte],[],_,RS.mk (.h .bool) []⟩
def x89:Fx wG vcy:=fx f245 245 func245 [] false [] ap []
def zgd:=x89.fi qum [] call245
def vc1:IF:=⟨.fn 241,[wS],[],_,RS.mk (.tup [.h (.int .i32),wH]) []⟩
def x90(fu:Nat):Fx wG vc1:=fx f241 241 func241 [zgd.p,zfq.p] false [] ap [(ao [(0,2046),(0,2047)],⟨51,[(0,wS),(4,wH),(5,wH)],[],64,[]⟩),(ao [(0,2044),(0,2045),(0,1023)],⟨51,[(0,wS),(4,wH),(5,wH)],[],64,[]⟩),(ao [(0,16336),(0,16337),(0,8169),(2,2042),(1,1021),(0,511)],⟨51,[(0,wS),(4,wH),(5,wH),(6,wH)],[],64,[]⟩)]
def vc4:(x90 fu).L 0:=Fx.jm (quf fu) []
def vc3:(x90 fu).L 1:=Fx.jm (que fu) [(vc4 fu).s]
def vc2:Nat->(x90 fu).L 2:=Fx.lq (qud fu) (q3t fu) (fun r0=>[(vc3 fu).s,r0.s])
def vc5:=(x90 fu).fi (q3s fu) [(vc2 fu fu).s] call241
def vc8:IF:=⟨.fn 219,[wS,wS],[],_,RS.mk (wS) []⟩
def x91:Fx wG vc8:=fx f219 219 func219 [(vc5 fu).p,(zfr fu).p] false [] ap [(ao [(0,96),(0,97),(0,49),(2,12),(1,6),(0,7)],⟨34,[(0,wS),(1,wS)],[],64,[]⟩)]
def vc9:Nat->(x91 fu).L 0:=Fx.lq (qt9 fu) (q3q fu) (fun r0=>[r0.s])
def zgf:=(x91 fu).fi (qt8 fu) [(vc9 fu fu).s] call219
def vda:IF:=⟨.fn 203,[wS,wS],[],_,RS.mk (wS) []⟩
def x92:Fx wG vda:=fx f203 203 func203 [(zga fu).p,(x5s fu).p,(zgc fu).p,(zgf fu).p] false [] ap [(ao [(0,60),(0,61),(0,31)],⟨37,[(0,wS),(1,wS)],[],64,[]⟩),(ao [(0,29),(0,15)],⟨37,[(0,wS),(1,wS),(21,.h .bool)],[],64,[]⟩),(ao [(0,28),(0,29),(0,15)],⟨37,[(0,wS),(1,wS)],[],64,[]⟩),(ao [(0,13),(0,7)],⟨37,[(0,wS),(1,wS),(12,.h .bool)],[],64,[]⟩)]
def vde:(x92 fu).L 0:=Fx.jm (qtt fu) []
def vdd:(x92 fu).L 1:=Fx.jm (qly fu) [(vde fu).s]
def vdc:(x92 fu).L 2:=Fx.jm (qts fu) [(vdd fu).s]
def vdb:(x92 fu).L 3:=Fx.jm (qlx fu) [(vdc fu).s]
def zgg:=(x92 fu).fi (qf4 fu) [(vdb fu).s] call203
def vdk:IF:=⟨.fn 171,[wS,wS],[],_,RS.mk (wH) []⟩
def x93:Fx wG vdk:=fx f171 171 func171 [(zgg fu).p] false [] ap []
def vdl:=(x93 fu).fi (qk9 fu) [] call171
def zgh:IF:=⟨.yld 0,[wH,wS],[(0,.loop .ready none 129 51 [(2,.ptr 1 0),(3,.ptr 2 0),(4,.ptr 3 0),(5,.ptr 4 0),(6,.ptr 5 0)] [12,13] 1 6),(1,.cells [.h wB] 23),(2,.cells [wS] 9),(3,.cells [.own 7] 85),(4,.cells [.own 8] 85),(5,.cells [wH] 3),(6,.dfr),(7,.row wB 23),(8,.row wB 23)],_,.two (RS.mk (.c (.bool true)) [(0,.loop .ready none 129 51 [(2,.ptr 1 0),(3,.ptr 2 0),(4,.ptr 3 0),(5,.ptr 4 0),(6,.ptr 5 0)] [12,13] 1 6),(1,.cells [.h wB] 23),(2,.cells [wS] 9),(3,.cells [.own 9] 85),(4,.cells [.own 10] 85),(5,.cells [wH] 3),(6,.dfr),(7,.dead),(8,.dead),(9,.row wB 23),(10,.row wB 23)]) (RS.mk (.c (.bool false)) [(0,.loop .done (some .ret) 129 51 [(2,.ptr 1 0),(3,.ptr 2 0),(4,.ptr 3 0),(5,.ptr 4 0),(6,.ptr 5 0)] [12,13] 1 6),(1,.cells [.h wB] 23),(2,.cells [wS] 9),(3,.cells [.own 9] 85),(4,.cells [.own 9] 85),(5,.cells [wH] 3),(6,.dfr),(7,.dead),(8,.dead),(9,.row wB 23)])⟩
def x94:Fx wG zgh:=fx f129 129 func129 [(vdl fu).p] false [([0,1,0,1,1,1],1)] (mc rfl ap) []
def vdn:EI wG zgh:=(x94 fu).fiy (qbk fu) [] 0 rfl [0,1,0,1,1,1] (by kernel_rfl) (by kernel_rfl) fun d d'=>by kernel_rfl
def vdo:IF:=⟨.fn 202,[.yld 0,.ptr 1 0],[(0,.loop .ready none 129 51 [(2,.ptr 2 0),(3,.ptr 3 0),(4,.ptr 4 0),(5,.ptr 5 0),(6,.ptr 6 0)] [12,13] 1 7),(1,.cells [.h wB] 23),(2,.cells [.h wB] 23),(3,.cells [wS] 9),(4,.cells [.own 8] 85),(5,.cells [.own 9] 85),(6,.cells [wH] 3),(7,.dfr),(8,.row wB 23),(9,.row wB 23)],_,.two (RS.mk (.tup []) [(0,.loop .done (some .ret) 129 51 [(2,.ptr 2 0),(3,.ptr 3 0),(4,.ptr 4 0),(5,.ptr 5 0),(6,.ptr 6 0)] [12,13] 1 7),(1,.cells [.h wB] 23),(2,.cells [.h wB] 23),(3,.cells [wS] 9),(4,.cells [.own 10] 85),(5,.cells [.own 10] 85),(6,.cells [wH] 3),(7,.dfr),(8,.dead),(9,.dead),(10,.row wB 23)]) (RS.mk (.tup []) [(0,.loop .ready none 129 51 [(2,.ptr 2 0),(3,.ptr 3 0),(4,.ptr 4 0),(5,.ptr 5 0),(6,.ptr 6 0)] [12,13] 1 7),(1,.cells [.h wB] 23),(2,.cells [.h wB] 23),(3,.cells [wS] 9),(4,.cells [.own 10] 85),(5,.cells [.own 11] 85),(6,.cells [wH] 3),(7,.dfr),(8,.dead),(9,.dead),(10,.row wB 23),(11,.row wB 23)])⟩
def x95:Fx wG vdo:=fx f202 202 func202 [⟨qv7.e qd,q5d (by decide)⟩,(vdn fu).p] false [] ap [(ao [(0,48),(0,49),(0,25),(2,6),(1,3)],⟨39,[(0,.yld 0),(1,.ptr 1 0),(3,wH)],[(0,.loop .ready none 129 51 [(2,.ptr 2 0),(3,.ptr 3 0),(4,.ptr 4 0),(5,.ptr 5 0),(6,.ptr 6 0)] [12,13] 1 7),(1,.cells [.h wB] 23),(2,.cells [.h wB] 23),(3,.cells [wS] 9),(4,.cells [.own 32] 85),(5,.cells [.own 33] 85),(6,.cells [wH] 3),(7,.dfr),(8,.dead),(9,.dead),(32,.row wB 23),(33,.row wB 23)],64,[]⟩)]
def vdp:Nat->(x95 fu).L 0:=Fx.lq (ya fu) (qs1 fu) (fun r0=>[r0.s])
def vdq:=(x95 fu).fi (qs0 fu) [(vdp fu fu).s] call202
def vds:IF:=⟨.fn 129,[.h wB,wS],[],_,RS.mk (.own 0) [(0,.row wB 23)]⟩
def x96:Fx wG vds:=fx f129 129 func129 [vcs.p,(vdq fu).p] false [([0,1,0,1,1,1],1)] (mc rfl ap) []
def vdt:=(x96 fu).fi (qk3 fu) [] call129
def vdv:IF:=⟨.fn 89,[.h wL,.h wB,wH],[],_,RS.mk (.own 0) [(0,.row wB 23)]⟩
def x97:Fx wG vdv:=fx f89 89 func89 [(vcn fu).p,(vdt fu).p] false [] ap []
def q2h:=(x97 fu).fi (xz fu) [] call89
def vdx:IF:=⟨.fn 132,[.h wP],[],_,RS.mk (.h .bool) []⟩
def x98:Fx wG vdx:=fx f132 132 func132 [(ow fu).p] false [] ap []
def q2i:=(x98 fu).fi (qbj fu) [] call132
def vdy:IF:=⟨.fn 173,[.h wL,.fn 132 []],[],_,RS.mk (wH) []⟩
def x99:Fx wG vdy:=fx f173 173 func173 [(q2i fu).p] false [] ap [(ao [(0,104),(0,105),(2,26),(1,13),(0,7)],⟨19,[(0,.h wL),(1,.fn 132 []),(7,wH),(8,wH)],[],64,[]⟩)]
def vdz:Nat->(x99 fu).L 0:=Fx.lq (qbq fu) (qta fu) (fun r0=>[r0.s])
def zgk:=(x99 fu).fi (qll fu) [(vdz fu fu).s] call173
def zuu:IF:=⟨.fn 131,[.h wL,.fn 132 []],[],_,RS.mk (.h wL) []⟩
def zdv:Fx wG zuu:=fx f131 131 func131 [(zgk fu).p,(q2i fu).p] true [] ap [(ao [(0,976),(0,977),(0,489),(2,122),(1,61),(0,31)],⟨42,[(0,.h wL),(1,.fn 132 []),(5,wH),(6,wH)],[],64,[]⟩)]
def zuv:Nat->(zdv fu).L 0:=Fx.lq (qs6 fu) (q3d fu) (fun r0=>[r0.s])
def zuw:=(zdv fu).fi (q3c fu) [(zuv fu fu).s] call131
def zuy:IF:=⟨.fn 209,[.h .byte],[],_,RS.mk (.h .bool) []⟩
def zux:Fx wG zuy:=fx f209 209 func209 [] false [] ap []
def zuz:=zux.fi qe3 [] call209
def zu0:IF:=⟨.fn 161,[wS,.fn 209 []],[],_,RS.mk (.h .bool) []⟩
def zdw(fu:Nat):Fx wG zu0:=fx f161 161 func161 [zuz.p] false [] ap [(ao [(0,104),(0,105),(2,26),(1,13),(0,7)],⟨18,[(0,wS),(1,.fn 209 []),(7,wH),(8,wH)],[],64,[]⟩)]
def zu1:Nat->(zdw fu).L 0:=Fx.lq (qef fu) (q2p fu) (fun r0=>[r0.s])
def zu2:=(zdw fu).fi (qj7 fu) [(zu1 fu fu).s] call161
def zu4:IF:=⟨.fn 178,[.own 0],[(0,.row .str 9)],_,RS.mk (.ptr 1 0) [(0,.dead),(1,.cells [.h (.int .u32),.h (.int .i32),.h (.int .u32),.c .nilIface,.own 2] 259),(2,.row .str 9)]⟩
def zu3:Fx wG zu4:=fx f178 178 func178 [] true [] ap []
def zdx:=zu3.fi qf2 [] call178
def zu5:IF:=⟨.fn 244,[.ptr 0 0],[(0,.cells [.h (.int .u32),.h (.int .i32),.h (.int .u32),.c .nilIface,.own 1] 259),(1,.row .str 9)],_,RS.mk (.iel 311 2 1) [(0,.cells [.h (.int .u32),.h (.int .i32),.h (.int .u32),.c .nilIface,.own 3] 259),(1,.dead),(2,.row .byte 310),(3,.row .str 9)]⟩
def uh(fu:Nat):Fx wG zu5:=fx f244 244 func244 [] false [] ap [(ao [(0,2003),(2,250),(1,125),(0,63)],⟨132,[(3,.own 32),(4,.h .bool),(5,wH)],[(0,.cells [.h (.int .u32),.h (.int .i32),.h (.int .u32),.c .nilIface,.own 32] 259),(1,.dead),(32,.row .str 9)],64,[]⟩),(ao [(0,129744),(0,129745),(0,64873),(2,16218),(1,8109),(0,4055),(0,127)],⟨132,[(3,.own 32),(6,.el 33 1),(8,wH)],[(0,.cells [.h (.int .u32),.h (.int .i32),.h (.int .u32),.c .nilIface,.own 32] 259),(1,.dead),(32,.row .str 9),(33,.row .byte 310)],64,[]⟩),(ao [(0,32424),(0,32425),(2,8106),(1,4053),(0,2027),(0,127)],⟨132,[(3,.own 32),(6,.el 33 1),(61,wH)],[(0,.cells [.h (.int .u32),.h (.int .i32),.h (.int .u32),.c .nilIface,.own 32] 259),(1,.dead),(32,.row .str 9),(33,.row .byte 310)],64,[]⟩),(ao [(0,16336),(0,16337),(0,8169),(2,2042),(1,1021),(0,511)],⟨132,[(3,.own 32),(11,.ptr 33 0),(12,wH)],[(0,.cells [.h (.int .u32),.h (.int .i32),.h (.int .u32),.c .nilIface,.own 32] 259),(1,.dead),(32,.row .str 9),(33,.cells [wN,wN,wN,wN,wN,wN,wN,wN,wN,wN,wN,wN,wN,wN,wN,wN,wN,wN,wN,wN,wN,wN,wN,wN,wN,wN,wN,wN,wN,wN,wN,wN,wN,wN,wN,wN,wN,wN,wN,wN,wN,wN,wN,wN,wN,wN,wN,wN,wN,wN,wN,wN,wN,wN,wN,wN,wN,wN,wN,wN,wN,wN,wN,wN,wN,wN,wN,wN,wN,wN,wN,wN,wN,wN,wN,wN,wN,wN,wN,wN,wN,wN,wN,wN,wN,wN,wN,wN,wN,wN,wN,wN,wN,wN,wN,wN,wN,wN,wN,wN,wN,wN,wN,wN,wN,wN,wN,wN,wN,wN,wN,wN,wN,wN,wN,wN,wN,wN,wN,wN,wN,wN,wN,wN,wN,wN,wN,wN,wN,wN,wN,wN,wN,wN,wN,wN,wN,wN,wN,wN,wN,wN,wN,wN,wN,wN,wN,wN,wN,wN,wN,wN,wN,wN,wN,wN,wN,wN,wN,wN,wN,wN,wN,wN,wN,wN,wN,wN,wN,wN,wN,wN,wN,wN,wN,wN,wN,wN,wN,wN,wN,wN,wN,wN,wN,wN,wN,wN,wN,wN,wN,wN,wN,wN,wN,wN,wN,wN,wN,wN,wN,wN,wN,wN,wN,wN,wN,wN,wN,wN,wN,wN,wN,wN,wN,wN,wN,wN,wN,wN,wN,wN,wN,wN,wN,wN,wN,wN,wN,wN,wN,wN,wN,wN,wN,wN,wN,wN,wN,wN,wN,wN,wN,wN,wN,wN,wN,wN,wN,wN,wN,wN,wN,wN,wN,wN,.own 34] 314),(34,.row .str 9)],64,[]⟩),(ao [(0,2000),(0,2001),(0,1001),(2,250),(1,125),(0,63)],⟨132,[(3,.own 32),(4,.h .bool),(5,wH)],[(0,.cells [.h (.int .u32),.h (.int .i32),.h (.int .u32),.c .nilIface,.own 32] 259),(1,.dead),(32,.row .str 9)],64,[]⟩),(ao [(0,30),(0,31)],⟨132,[(3,.own 32)],[(0,.cells [.h (.int .u32),.h (.int .i32),.h (.int .u32),.c .nilIface,.own 32] 259),(1,.dead),(32,.row .str 9)],64,[]⟩),(ao [(0,29),(0,15)],⟨132,[(3,.own 32),(28,.h .bool)],[(0,.cells [.h (.int .u32),.h (.int .i32),.h (.int .u32),.c .nilIface,.own 32] 259),(1,.dead),(32,.row .str 9)],64,[]⟩)]
def zu9(r2:(uh fu).L 4):(uh fu).L 0:=Fx.jm (qtm fu r2.f) [r2.s]
def zvc:Nat->(uh fu).L 1:=Fx.lq (qtp fu) (q3j fu) (fun r6=>[r6.s])
def zva:Nat->(uh fu).L 2:=Fx.lq (qtn fu) (q3h fu) (fun r4=>[r4.s,(zvc fu fu).s])
def zvb:Nat->(uh fu).L 3:=Fx.lq (qto fu) (q3i fu) (fun r5=>[])
def zu8:Nat->(uh fu).L 4:=Fx.lq (qtl fu) (q3g fu) (fun r2=>[(zu9 fu r2).s,(zva fu fu).s,(zvb fu fu).s])
def zu7:(uh fu).L 5:=Fx.jm (q3k fu) [(zu8 fu fu).s]
def zu6:(uh fu).L 6:=Fx.jm (qtk fu) [(zu7 fu).s]
def zvd:=(uh fu).fi (q3f fu) [(zu6 fu).s] call244
def zdy:IF:=⟨.fn 221,[.ptr 0 0],[(0,.cells [.h (.int .u32),.h (.int .i32),.h (.int .u32),.c .nilIface,.own 1] 259),(1,.row .str 9)],_,RS.mk (.tup []) [(0,.cells [.h (.int .u32),.h (.int .i32),.h (.int .u32),.iel 311 2 1,.own 3] 259),(1,.dead),(2,.row .byte 310),(3,.row .str 9)]⟩
def zvh:Fx wG zdy:=fx f221 221 func221 [(zvd fu).p] false [] ap []
def zvi:=(zvh fu).fi (qlt fu) [] call221
def zgy:(zdy.e (qlt fu)).Sound wG:=(zvi fu).h
def zdz:IF:=⟨.fn 355,[.el 0 1,wS],[(0,.row .byte 310)],_,RS.mk (wS) [(0,.row .byte 310)]⟩
def qiz(fu:Nat):Fx wG zdz:=fx f355 355 func355 [] false [] ap [(ao [(0,14925),(1,466),(0,467),(2,58),(1,29),(0,15)],⟨41,[(0,.el 0 1),(1,wS),(5,.own 32),(6,wH),(7,.h .byte)],[(0,.row .byte 310),(32,.row .byte 5)],64,[]⟩),(ao [(0,464),(0,465),(0,233),(2,58),(1,29),(0,15)],⟨41,[(0,.el 0 1),(1,wS),(5,.own 32),(6,wH)],[(0,.row .byte 310),(32,.row .byte 5)],64,[]⟩),(ao [(0,464),(0,465),(0,233),(2,58),(1,29),(0,15)],⟨41,[(0,.el 0 1),(1,wS),(5,wN),(6,wH)],[(0,.row .byte 310)],64,[]⟩)]
def zd0(r2:(qiz fu).L 1):(qiz fu).L 0:=Fx.jm (qf7 fu r2.f) [r2.s]
def zvk:Nat->(qiz fu).L 1:=Fx.lq (qf8 fu) (qtx fu) (fun r2=>[(zd0 fu r2).s,r2.s])
def zvj:Nat->(qiz fu).L 2:=Fx.lq (qf6 fu) (qtw fu) (fun r0=>[r0.s,(zd0 fu (zvk fu fu)).s])
def zvl:=(qiz fu).fi (qf5 fu) [(zvj fu fu).s] call355
def q3l:(zdz.e (qf5 fu)).Sound wG:=(zvl fu).h
def za0:IF:=⟨.fn 180,[.ptr 0 0,wS],[(0,.cells [.h (.int .u32),.h (.int .i32),.h (.int .u32),.c .nilIface,.own 1] 259),(1,.row .str 9)],_,RS.mk (wS) [(0,.cells [.h (.int .u32),.h (.int .i32),.h (.int .u32),.iel 311 2 1,.u] 259),(1,.dead),(2,.row .byte 310)]⟩
def za1:IF:=⟨.fn 180,[.ptr 0 0,wS],[(0,.cells [.h (.int .u32),.h (.int .i32),.h (.int .u32),.iel 311 1 1,.u] 259),(1,.row .byte 310)],_,RS.mk (wS) [(0,.cells [.h (.int .u32),.h (.int .i32),.h (.int .u32),.iel 311 1 1,.u] 259),(1,.row .byte 310)]⟩
def zgw(s:Bs)(p0 p1 p2:Int)(on:List Bs)(r:Bs×Int×Int×Int×Bs)(hr:yf fu s p0 p1 p2 on=some r) :
  cw wG 180 [.ptr 0 0,.str s] [(0,.cells [.int .u32 p0,.int .i32 p1,.int .u32 p2,.val .nilIface,.own 1] 259),(1,.row .str on 9)] (.str r.1) [(0,.cells [.int .u32 r.2.1,.int .i32 r.2.2.1,.int .u32 r.2.2.2.1,.iface 311 (.oel 2 1 0 0),.undef] 259),(1,.dead),(2,.row .byte r.2.2.2.2 310)]:=by
 unfold yf at hr;cases hc:decide (p0=0)&&decide (p1=0)<;>rw[hc]at hr<;>simp only[qT,qF,reduceCtorEq]at hr
 simp only[qA,decide_eq_true_eq]at hc;obtain⟨rfl,rfl⟩:=hc;obtain⟨x,hx,hr⟩:=Option.bind_eq_some_iff.1 hr;obtain⟨x0,x1,x2,tab,on'⟩:=x;simp only at hr;cases hc2:decide (x0=0)&&decide (x1=1)<;>rw[hc2]at hr<;>simp only[qT,qF,reduceCtorEq]at hr
 simp only[qA,decide_eq_true_eq]at hc2;obtain⟨rfl,rfl⟩:=hc2;obtain⟨y,hy,hr⟩:=Option.bind_eq_some_iff.1 hr;obtain⟨out,tab'⟩:=y;simp only[qI]at hr;subst hr;have hB:cw wG 221 [.ptr 0 0] [(0,.cells [.int .u32 0,.int .i32 1,.int .u32 p2,.val .nilIface,.own 1] 259),(1,.row .str on 9)] (.tup []) [(0,.cells [.int .u32 0,.int .i32 1,.int .u32 x2,.iface 311 (.oel 2 1 0 0),.own 3] 259),(1,.dead),(2,.row .byte tab 310),(3,.row .str on' 9)]:=
  (zgy fu ((),()) (((0:Int),((1:Int),(p2,((),((),()))))),(on,())) ((0:Int),(1:Int),x2,tab,on') hx).2
 have hP:cw wG 355 [.oel 0 1 0 0,.str s] [(0,.row .byte tab 310)] (.str out) [(0,.row .byte tab' 310)]:=
  (q3l fu ((),(s,())) (tab,()) (out,tab') hy).2
 intro w G vs hm hv;show Calls _ _ _ _ (nz w G [(0,.cells [.int .u32 0,.int .i32 0,.int .u32 p2,.val .nilIface,.own 1] 259),(1,.row .str on 9)] (.str out) [(0,.cells [.int .u32 1,.int .i32 0,.int .u32 x2,.iface 311 (.oel 2 1 0 0),.undef] 259),(1,.dead),(2,.row .byte tab' 310)]);have hm:cg G [(0,.cells [.int .u32 0,.int .i32 0,.int .u32 p2,.val .nilIface,.own 1] 259),(1,.row .str on 9)] w:=hm;have hv:ak [.ptr 0 0,.str s] G vs:=hv
 match vs,hv with
 |[v1,v2],hv=>
 obtain⟨⟨B,hGB,rfl⟩,rfl,_⟩:=hv;have hid:∀n b,ae ([(0,.cells [.int .u32 0,.int .i32 0,.int .u32 p2,.val .nilIface,.own 1] 259),(1,.row .str on 9)]:List (Nat×ah)) n=some b->aw [(0,0),(1,1)] n=some n/\dh (aw [(0,0),(1,1)]) b=b:=by
  intro n b h
  match n,h with
  |0,h=>cases h;exact⟨rfl,rfl⟩
  |1,h=>cases h;exact⟨rfl,rfl⟩
  |n+2,h=>cases h
 have hr0:=ai.start (N:=[(0,0),(1,1)]) hm hid (fun n h=>by
  match n,h with
  |0,h=>cases h
  |1,h=>cases h
  | n+2,h=>rfl) 4
 have hGB0:(G.view [(0,0),(1,1)]).box 0=some B:=hGB;obtain⟨c0,e0,r0,z0⟩:=hr0.cellAt (i:=0) rfl hGB0 rfl;obtain⟨c1,e1,r1,z1⟩:=hr0.cellAt (i:=1) rfl hGB0 rfl;have r0:c0 = .int .u32 0:=r0;have r1:c1 = .int .i32 0:=r1;subst r0 r1;have hr1:=hr0.setCellAt (i:=1) (x := .int .i32 1) (v := .int .i32 1) rfl hGB0 rfl rfl
 -- the building
 have hmB:cg ((G.view [(0,0),(1,1)]).view [(0,0),(1,1)]) [(0,.cells [.int .u32 0,.int .i32 1,.int .u32 p2,.val .nilIface,.own 1] 259),(1,.row .str on 9)] (w.setCell ⟨B,1,none⟩ (.int .i32 1)):=
  hr1.fin.mem.view (names:=[(0,0),(1,1)]) rfl (fun m m' n h1 h2=>by
   match m,m',h1,h2 with
   |0,0,_,_=>rfl|1,1,_,_=>rfl|0,1,h1,h2=>cases h1;cases h2
   |1,0,h1,h2=>cases h1;cases h2
   |0,m'+2,_,h2=>cases h2
   |1,m'+2,_,h2=>cases h2
   | m+2,_,h1,_=>cases h1)
 have hcB:=hB (w.setCell ⟨B,1,none⟩ (.int .i32 1)) ((G.view [(0,0),(1,1)]).view [(0,0),(1,1)]) [.pointer (some ⟨B,0,none⟩)] hmB ⟨⟨B,hGB,rfl⟩,trivial⟩
 let s2:St:={ n:=4,fr:=[(0,.tup [])],hp:=[(0,.cells [.int .u32 0,.int .i32 1,.int .u32 x2,.iface 311 (.oel 66 1 0 0),.own 67] 259),(1,.dead),(66,.row .byte tab 310),(67,.row .str on' 9),(0,.dead),(1,.dead),(0,.cells [.int .u32 0,.int .i32 1,.int .u32 p2,.val .nilIface,.own 1] 259),(0,.cells [.int .u32 0,.int .i32 0,.int .u32 p2,.val .nilIface,.own 1] 259),(1,.row .str on 9)],nx:=64,df:=[] }
 let hp0:List (Nat×ah):=[(0,.cells [.int .u32 0,.int .i32 0,.int .u32 p2,.val .nilIface,.own 1] 259),(1,.row .str on 9)]
 let R:World->Prop:=fun w'=>∃G2 a2,ai w (G.view [(0,0),(1,1)]) hp0 G2 s2 a2 w'
 have hBw:∀{w':World}{G2:Gh}{a2:Act},ai w (G.view [(0,0),(1,1)]) hp0 G2 s2 a2 w'->G2.box 0=some B:=fun h=>h.fin.keep 0 _ B rfl hGB0
 refine(Go.Proofs.YtbcijcbgdaggdaaGreatDoor.Once.replace_first B ⟨s.toArray⟩ w R (fun v w'=>∃G4,Fin w G hp0 G4 [(0,.cells [.int .u32 1,.int .i32 0,.int .u32 x2,.iface 311 (.oel 2 1 0 0),.undef] 259),(1,.dead),(2,.row .byte tab' 310)] w'/\aj (.str out) G4 v) e0 e1 z0 z1 ?_ ?_ ?_).mono ?_
 ·refine hcB.mono ?_;intro e w' hpost;obtain⟨G2,v,he,hr2⟩:=qhy hr1 (t:=0) (names:=[(0,0),(1,1)]) (hpv:=[(0,.cells [.int .u32 0,.int .i32 1,.int .u32 p2,.val .nilIface,.own 1] 259),(1,.row .str on 9)]) (hp:=[(0,.cells [.int .u32 0,.int .i32 1,.int .u32 p2,.val .nilIface,.own 1] 259),(1,.row .str on 9)]) rfl rfl (show 0<4 by decide) rfl rfl (by repeat (first|trivial|refine⟨rfl,?_⟩)) hpost
  obtain⟨u,u1,u2⟩:=hr2.frame 0 _ rfl;have u3:u=v:=by simpa [Act.put] using u1.symm
  obtain⟨us,h1,h2⟩:=u2;have:us=#[]:=by
   cases hq:us.toList with|nil=>simpa using hq|cons _ _=>rw[hq]at h2;exact h2.elim
  subst this;subst u3;exact⟨by rw[he,h1],G2,_,hr2⟩
 ·rintro w' ⟨G2,a2,hr2⟩
  obtain⟨d0,f0,q0,y0⟩:=hr2.cellAt (i:=0) rfl (hBw hr2) rfl;obtain⟨d1,f1,q1,y1⟩:=hr2.cellAt (i:=1) rfl (hBw hr2) rfl;have q0:d0 = .int .u32 0:=q0;have q1:d1 = .int .i32 1:=q1;subst q0 q1;exact⟨f0,y0,f1,y1⟩
 ·rintro w' ⟨G2,a2,hr2⟩
  obtain⟨d3,f3,q3,_⟩:=hr2.cellAt (i:=3) rfl (hBw hr2) rfl;obtain⟨u3,rfl,g,n3,c3,o3,rfl⟩:=q3;refine⟨g,by simpa using f3,?_⟩
  have hr3:=(hr2.drewOk.setCellAt (i:=0) (x := .int .u32 1) (v := .int .u32 1) rfl (hBw hr2) rfl rfl).setCellAt (i:=0+1) (x := .int .i32 0) (v := .int .i32 0) rfl (hBw hr2) rfl rfl;have hmP:cg (G2.view [(0,66)]) [(0,.row .byte tab 310)] ((w'.drew.setCell ⟨B,0,none⟩ (.int .u32 1)).setCell ⟨B,0+1,none⟩ (.int .i32 0)):=
   hr3.fin.mem.view (names:=[(0,66)]) rfl (fun m m' n h1 h2=>by
    cases m with
    |zero=>cases m' with|zero=>rfl|succ m'=>cases h2
    | succ m=>cases h1)
  have hcP:=hP _ (G2.view [(0,66)]) [.pointer (some ⟨g,0,none⟩),.string ⟨s.toArray⟩] hmP ⟨⟨g,n3,c3,o3,by simp⟩,rfl,trivial⟩
  refine hcP.mono ?_;intro e w4 hpost;obtain⟨G4,v,he,hr4⟩:=qhy hr3 (t:=1) (names:=[(0,66)]) (hpv:=[(0,.row .byte tab 310)]) (hp:=[(0,.row .byte tab 310)]) rfl rfl (show 1<4 by decide) rfl rfl ⟨rfl,trivial⟩ hpost
  obtain⟨u,u1,u2⟩:=hr4.frame 1 _ rfl;have u3:u=v:=by
   have hs:=hr3.size;have hlt:1<a2.tmps.size:=by rw[hs];exact(show 1<4 by decide)
   simp only[Act.put]at u1;rw[Array.getElem?_setIfInBounds]at u1;simp[hlt]at u1;exact u1.symm
  subst u3;obtain⟨G5,k1,k2⟩:=qnr hr4 (ids:=[(0,0),(1,1)]) (fun n bx h=>by
   match n,h with
   |0,h=>rfl|1,h=>rfl| n+2,h=>cases h) (v := .str out) (p := wS) (hp:=[(0,.cells [.h (.int .u32),.h (.int .i32),.h (.int .u32),.iel 311 2 1,.u] 259),(1,.dead),(2,.row .byte 310)]) (y:=(out,(((1:Int),((0:Int),(x2,((),((),()))))),((),(tab',()))))) (by rfl)
  exact⟨u,he,G5,k1.only hid,k2 u u2⟩
 ·rintro e w4 ⟨v,rfl,G4,k1,k2⟩
  exact⟨v,G4,rfl,k1,k2⟩
def zrd:(za0.e (yf fu)).Sound wG:=fun d d' r hr=>
 ⟨call180,zgw fu d.2.1 d'.1.1 d'.1.2.1 d'.1.2.2.1 d'.2.1 r hr⟩
def zgx(s:Bs)(p0 p1 p2:Int)(tab:Bs)(r:Bs×Int×Int×Int×Bs)(hr:yg fu s p0 p1 p2 tab=some r) :
  cw wG 180 [.ptr 0 0,.str s] [(0,.cells [.int .u32 p0,.int .i32 p1,.int .u32 p2,.iface 311 (.oel 1 1 0 0),.undef] 259),(1,.row .byte tab 310)] (.str r.1) [(0,.cells [.int .u32 r.2.1,.int .i32 r.2.2.1,.int .u32 r.2.2.2.1,.iface 311 (.oel 1 1 0 0),.undef] 259),(1,.row .byte r.2.2.2.2 310)]:=by
 unfold yg at hr;cases hc : !decide (p0=0)<;>rw[hc]at hr<;>simp only[qT,qF,reduceCtorEq]at hr
 simp only[Bool.not_eq_true',decide_eq_false_iff_not]at hc;obtain⟨y,hy,hr⟩:=Option.bind_eq_some_iff.1 hr;obtain⟨out,tab'⟩:=y;simp only[qI]at hr;subst hr;have hP:cw wG 355 [.oel 0 1 0 0,.str s] [(0,.row .byte tab 310)] (.str out) [(0,.row .byte tab' 310)]:=
  (q3l fu ((),(s,())) (tab,()) (out,tab') hy).2
 intro w G vs hm hv
 let hp0:List (Nat×ah):=[(0,.cells [.int .u32 p0,.int .i32 p1,.int .u32 p2,.iface 311 (.oel 1 1 0 0),.undef] 259),(1,.row .byte tab 310)]
 show Calls _ _ _ _ (nz w G hp0 (.str out) [(0,.cells [.int .u32 p0,.int .i32 p1,.int .u32 p2,.iface 311 (.oel 1 1 0 0),.undef] 259),(1,.row .byte tab' 310)]);have hm:cg G hp0 w:=hm;have hv:ak [.ptr 0 0,.str s] G vs:=hv
 match vs,hv with
 |[v1,v2],hv=>
 obtain⟨⟨B,hGB,rfl⟩,rfl,_⟩:=hv;have hid:∀n b,ae hp0 n=some b->aw [(0,0),(1,1)] n=some n/\dh (aw [(0,0),(1,1)]) b=b:=by
  intro n b h
  match n,h with
  |0,h=>cases h;exact⟨rfl,rfl⟩
  |1,h=>cases h;exact⟨rfl,rfl⟩
  |n+2,h=>cases h
 have hr0:=ai.start (N:=[(0,0),(1,1)]) hm hid (fun n h=>by
  match n,h with
  |0,h=>cases h
  |1,h=>cases h
  | n+2,h=>rfl) 4
 have hGB0:(G.view [(0,0),(1,1)]).box 0=some B:=hGB;obtain⟨c0,e0,r0,_⟩:=hr0.cellAt (i:=0) rfl hGB0 rfl;have r0:c0 = .int .u32 p0:=r0;subst r0;obtain⟨d3,f3,q3,_⟩:=hr0.cellAt (i:=3) rfl hGB0 rfl;obtain⟨u3,rfl,g,n3,c3,o3,rfl⟩:=q3;have hmP:cg ((G.view [(0,0),(1,1)]).view [(0,1)]) [(0,.row .byte tab 310)] w:=
  hr0.fin.mem.view (names:=[(0,1)]) rfl (fun m m' n h1 h2=>by
   cases m with
   |zero=>cases m' with|zero=>rfl|succ m'=>cases h2
   | succ m=>cases h1)
 have hcP:=hP w ((G.view [(0,0),(1,1)]).view [(0,1)]) [.pointer (some ⟨g,0,none⟩),.string ⟨s.toArray⟩] hmP ⟨⟨g,n3,c3,o3,by simp⟩,rfl,trivial⟩
 refine(Go.Proofs.YtbcijcbgdaggdaaGreatDoor.Once.replace_done B g ⟨s.toArray⟩ w (fun v w'=>∃G4,Fin w G hp0 G4 [(0,.cells [.int .u32 p0,.int .i32 p1,.int .u32 p2,.iface 311 (.oel 1 1 0 0),.undef] 259),(1,.row .byte tab' 310)] w'/\aj (.str out) G4 v) p0 hc e0 (by simpa using f3) ?_).mono ?_
 ·refine hcP.mono ?_;intro e w4 hpost;obtain⟨G4,v,he,hr4⟩:=qhy hr0 (t:=1) (names:=[(0,1)]) (hpv:=[(0,.row .byte tab 310)]) (hp:=[(0,.row .byte tab 310)]) rfl rfl (show 1<4 by decide) rfl rfl ⟨rfl,trivial⟩ hpost
  obtain⟨u,u1,u2⟩:=hr4.frame 1 _ rfl;have u3:u=v:=by simpa [Act.put] using u1.symm
  subst u3;obtain⟨G5,k1,k2⟩:=qnr hr4 (ids:=[(0,0),(1,1)]) (fun n bx h=>by
   match n,h with
   |0,h=>rfl|1,h=>rfl| n+2,h=>cases h) (v := .str out) (p := wS) (hp:=[(0,.cells [.h (.int .u32),.h (.int .i32),.h (.int .u32),.iel 311 1 1,.u] 259),(1,.row .byte 310)]) (y:=(out,((p0,(p1,(p2,((),((),()))))),(tab',())))) (by rfl)
  exact⟨u,he,G5,k1.only hid,k2 u u2⟩
 ·rintro e w4 ⟨v,rfl,G4,k1,k2⟩
  exact⟨v,G4,rfl,k1,k2⟩
def zre:(za1.e (yg fu)).Sound wG:=fun d d' r hr=>
 ⟨call180,zgx fu d.2.1 d'.1.1 d'.1.2.1 d'.1.2.2.1 d'.2.1 r hr⟩
def zvo:IF:=⟨.fn 195,[.h .byte],[],_,RS.mk (.h .byte) []⟩
def zvn:Fx wG zvo:=fx f195 195 func195 [] false [] ap []
def zd1:=zvn.fi e7 [] call195
def zvp:IF:=⟨.fn 210,[wS],[],_,RS.mk (.own 0) [(0,.row .str 9)]⟩
def qpw(fu:Nat):Fx wG zvp:=fx f210 210 func210 [qjf.p,zd1.p] false [] ap [(ao [(0,29902),(0,29903),(1,934),(0,935),(2,58),(1,29),(0,15)],⟨59,[(0,wS),(3,.own 32),(5,wS),(9,wH),(10,wH)],[(32,.row .str 9)],64,[]⟩),(ao [(0,232),(0,233),(2,58),(1,29),(0,15)],⟨59,[(0,wS),(3,.own 32),(9,wH),(10,wH)],[(32,.row .str 9)],64,[]⟩)]
def zvr(r0:(qpw fu).L 1):(qpw fu).L 0:=Fx.jm (qfa fu r0.f) [r0.s]
def zvq:Nat->(qpw fu).L 1:=Fx.lq (qbf fu) (qsh fu) (fun r0=>[(zvr fu r0).s])
def zvs:=(qpw fu).fi (qkr fu) [(zvq fu fu).s] call210
def zvu:IF:=⟨.fn 175,[.h wP],[],_,RS.mk (wS) []⟩
def qpy:Fx wG zvu:=fx f175 175 func175 [(zf3 fu).p,(zu2 fu).p,zdx.p,⟨za2.e uz,zrc⟩,(zvs fu).p,⟨qxq.e mh,q8m qyu qyv⟩] false [] ap [(ao [(0,1000),(0,1001),(2,250),(1,125),(0,63)],⟨59,[(1,.ptr 32 0),(3,wS),(38,.own 33),(39,wH),(40,wH)],[(32,.dat wP 92),(33,.row .str 9)],64,[]⟩),(ao [(0,30),(0,31)],⟨59,[(1,.ptr 32 0)],[(32,.dat wP 92)],64,[]⟩),(ao [(0,29),(0,15)],⟨59,[(1,.ptr 32 0),(24,.h .bool)],[(32,.dat wP 92)],64,[]⟩)]
def zvx:Nat->(qpy fu).L 0:=Fx.lq (qe4 fu) (qsa fu) (fun r2=>[r2.s])
def zvw:(qpy fu).L 1:=Fx.jm (qsb fu) [(zvx fu fu).s]
def zvv:(qpy fu).L 2:=Fx.jm (qbb fu) [(zvw fu).s]
def zvy:=(qpy fu).fi (qko fu) [(zvv fu).s] call175
def zv2:IF:=⟨.fn 133,[.h (.prod .str (.prod .str wL))],[],_,RS.mk (.tup [wS,.h (.prod wI wI)]) []⟩
def zd2:Fx wG zv2:=fx f133 133 func133 [(q17 fu).p,jk.p,(zvy fu).p,fp.p,gw.p] false [] ap [(ao [(0,488),(0,489),(2,122),(1,61),(0,31)],⟨37,[(3,.ptr 32 0),(5,wS),(20,.h wL),(21,wH),(22,wH)],[(32,.dat (.prod wI wI) 28)],64,[]⟩)]
def zv3:Nat->(zd2 fu).L 0:=Fx.lq (qe0 fu) (qr5 fu) (fun r0=>[r0.s])
def zd3:=(zd2 fu).fi (qa8 fu) [(zv3 fu fu).s] call133
def zv4:IF:=⟨.fn 131,[.own 0,.fn 132 []],[(0,.row wP 92)],_,RS.mk (.own 1) [(0,.dead),(1,.row wP 92)]⟩
def zd4:Fx wG zv4:=fx f131 131 func131 [(zgk fu).p,(q2i fu).p] true [] ap [(ao [(0,976),(0,977),(0,489),(2,122),(1,61),(0,31)],⟨42,[(0,.own 32),(1,.fn 132 []),(5,wH),(6,wH)],[(0,.dead),(32,.row wP 92)],64,[]⟩)]
def zv5:Nat->(zd4 fu).L 0:=Fx.lq (qfu fu) (qs7 fu) (fun r0=>[r0.s])
def zv6:=(zd4 fu).fi (qlk fu) [(zv5 fu fu).s] call131
def zv8:IF:=⟨.fn 90,[.h wL],[],_,RS.mk (.tup [.own 0,.h .bool]) [(0,.row wP 43)]⟩
def zv7:Fx wG zv8:=fx f90 90 func90 [(q18 fu).p,(zuw fu).p,(zd3 fu).p,jk.p,⟨qm3.e fa,qwh⟩,(zv6 fu).p] false [] ap []
def zd5:=(zv7 fu).fi (qfi fu) [] call90
def zwa:IF:=⟨.fn 154,[.h wB,.h .byte],[],_,RS.mk (wH) []⟩
def zv9:Fx wG zwa:=fx f154 154 func154 [⟨qrb 194 uo,zgu⟩] false [] ap []
def q0k:=zv9.fi sk [] call154
def zwc:IF:=⟨.fn 22,[.h wB,.h wB],[],_,RS.mk (.h .bool) []⟩
def zwb:Fx wG zwc:=fx f22 22 func22 [] false [] ap []
def zd6:=zwb.fi qeg [] call22
def zwe:IF:=⟨.fn 159,[.h wB,.h wB],[],_,RS.mk (.h .bool) []⟩
def zwd:Fx wG zwe:=fx f159 159 func159 [zd6.p] false [] ap []
def zd7:=zwd.fi qa0 [] call159
def zwg:IF:=⟨.fn 157,[.h wB,.h wB],[],_,RS.mk (.h wB) []⟩
def zwf:Fx wG zwg:=fx f157 157 func157 [zd7.p] false [] ap []
def zd8:=zwf.fi up [] call157
def zwi:IF:=⟨.fn 176,[.h wB],[],_,RS.mk (.tup [wS,wH]) []⟩
def zwh:Fx wG zwi:=fx f176 176 func176 [q0k.p,zd8.p] false [] ap []
def zwj:=zwh.fi qkm [] call176
def zwl:IF:=⟨.fn 212,[wS],[],_,RS.mk (.h .bool) []⟩
def zwk:Fx wG zwl:=fx f212 212 func212 [(q1g fu).p,jk.p] false [] ap []
def zwm:=(zwk fu).fi (qkn fu) [] call212
def zwo:IF:=⟨.fn 177,[wS],[],_,RS.mk (.tup [.h wP,.h .bool]) []⟩
def zwn:Fx wG zwo:=fx f177 177 func177 [zfw.p,(zgg fu).p,(zwm fu).p] false [] ap []
def zwp:=(zwn fu).fi (qkl fu) [] call177
def zwy:IF:=⟨.fn 179,[wS,wS],[],_,RS.mk (wS) []⟩
def qi0:Fx wG zwy:=fx f179 179 func179 [(zga fu).p,(zfn fu).p,(x5s fu).p,(zgc fu).p,(zfp fu).p,(zgf fu).p,(zft fu).p] false [] ap [(ao [(0,60),(0,61),(0,31)],⟨43,[(0,wS),(1,wS)],[],64,[]⟩),(ao [(0,29),(0,15)],⟨43,[(0,wS),(1,wS),(21,.h .bool)],[],64,[]⟩),(ao [(0,28),(0,29),(0,15)],⟨43,[(0,wS),(1,wS)],[],64,[]⟩),(ao [(0,13),(0,7)],⟨43,[(0,wS),(1,wS),(12,.h .bool)],[],64,[]⟩)]
def zw2:(qi0 fu).L 0:=Fx.jm (qtv fu) []
def zw1:(qi0 fu).L 1:=Fx.jm (ql1 fu) [(zw2 fu).s]
def zw0:(qi0 fu).L 2:=Fx.jm (qtu fu) [(zw1 fu).s]
def zwz:(qi0 fu).L 3:=Fx.jm (ql0 fu) [(zw0 fu).s]
def zw3:=(qi0 fu).fi (qf3 fu) [(zwz fu).s] call179
def zw8:IF:=⟨.fn 134,[.h wB],[],_,RS.mk (.tup [.own 0,wH,.h (.prod wI wI)]) [(0,.row wP 43)]⟩
def ui:Fx wG zw8:=fx f134 134 func134 [fp.p,zwj.p,qi4.p,zdx.p,⟨za0.e (yf fu),zrd fu⟩,(zw3 fu).p,gw.p,(zwp fu).p,⟨za1.e (yg fu),zre fu⟩] false [] ap [(ao [(0,8168),(0,8169),(2,2042),(1,1021),(0,511)],⟨103,[(4,.ptr 32 0),(5,.own 33),(6,wH),(11,.ptr 34 0),(77,wH),(78,wH)],[(32,.dat (.prod wI wI) 28),(33,.row wP 43),(34,.cells [.h (.int .u32),.h (.int .i32),.h (.int .u32),.iel 311 35 1,.u] 259),(35,.row .byte 310)],64,[]⟩),(ao [(0,8168),(0,8169),(2,2042),(1,1021),(0,511)],⟨103,[(4,.ptr 32 0),(5,.own 35),(6,wH),(11,.ptr 33 0),(77,wH),(78,.c (.int .i64 0))],[(32,.dat (.prod wI wI) 28),(33,.cells [.h (.int .u32),.h (.int .i32),.h (.int .u32),.c .nilIface,.own 34] 259),(34,.row .str 9),(35,.row wP 43)],64,[]⟩),(ao [(0,252),(0,253),(0,127)],⟨103,[(4,.ptr 32 0),(5,.own 33),(6,wH)],[(32,.dat (.prod wI wI) 28),(33,.row wP 43)],64,[]⟩),(ao [(0,15918),(0,15919),(1,497),(2,124),(1,62),(0,63)],⟨103,[(0,.h wB),(4,.ptr 32 0),(5,.own 33),(6,wH),(7,wS),(8,wH)],[(32,.dat (.prod wI wI) 28),(33,.row wP 43)],64,[]⟩),(ao [(0,15917),(0,7959),(1,497),(2,124),(1,62),(0,63)],⟨103,[(0,.h wB),(4,.ptr 32 0),(5,.own 33),(6,wH),(7,wS),(8,wH),(41,.h .bool)],[(32,.dat (.prod wI wI) 28),(33,.row wP 43)],64,[]⟩),(ao [(0,992),(0,993),(0,497),(2,124),(1,62),(0,63)],⟨103,[(0,.h wB),(4,.ptr 32 0),(5,.own 33),(6,wH)],[(32,.dat (.prod wI wI) 28),(33,.row wP 43)],64,[]⟩)]
def zxd:Nat->(ui fu).L 0:=Fx.lq (qet fu) (qr0 fu) (fun r5=>[r5.s])
def zxb:Nat->(ui fu).L 1:=Fx.lq (ur fu) (qes fu) (fun r3=>[(zxd fu fu).s])
def zd9:(ui fu).L 2:=Fx.jm (qa4 fu) [(zxb fu fu).s]
def zxc(r0:(ui fu).L 5):(ui fu).L 3:=Fx.jm (qkk fu r0.f) [(zd9 fu).s,r0.s]
def zxa(r0:(ui fu).L 5):(ui fu).L 4:=Fx.jm (xq fu r0.f) [r0.s,(zxc fu r0).s]
def zw9:Nat->(ui fu).L 5:=Fx.lq (xp fu) (qrz fu) (fun r0=>[(zd9 fu).s,(zxa fu r0).s])
def zxe:=(ui fu).fi (qkj fu) [(zw9 fu fu).s] call134
def w9:IF:=⟨.fn 91,[.ptr 0 0,.h wB,wH],[(0,.dat (.prod wI (.prod wI wI)) 106)],_,RS.mk (.tup [.h wT,.h .bool]) [(0,.dat (.prod wI (.prod wI wI)) 106)]⟩
def zeb:IF:=⟨.fn 60,[.ptr 0 0,.own 1,.h wB,wH],[(0,.dat (.prod wI (.prod wI wI)) 106),(1,.row wP 43)],_,RS.mk (.tup [.h wT,.h .bool]) [(0,.dat (.prod wI (.prod wI wI)) 106),(1,.dead)]⟩
def zea(s119:EI wG w9)(fu:Nat):Fx wG zeb:=fx f60 60 func60 [⟨qm3.e fa,qwh⟩,⟨qwi.e fa,q53⟩,(q2h fu).p,(zd5 fu).p,s119.p] false [] ap [(ao [(0,16360),(0,16361),(2,4090),(1,2045),(0,1023)],⟨73,[(0,.ptr 0 0),(3,wH),(8,.ptr 32 0),(10,.ptr 33 0),(48,.own 34),(49,wH),(50,wH)],[(0,.dat (.prod wI (.prod wI wI)) 106),(1,.dead),(32,.cells [wN,wN,wN] 33),(33,.cells [.own 35,wN,.own 36] 33),(34,.row wB 23),(35,.row wP 43),(36,.row wT 33)],64,[]⟩)]
def zxi(s119:EI wG w9)(fu:Nat):Nat->(zea s119 fu).L 0:=Fx.lq (yc s119.f fu) (qs2 s119.f fu) (fun r0=>[r0.s])
def zxj(s119:EI wG w9)(fu:Nat):EI wG zeb:=(zea s119 fu).fi (ux s119.f fu) [(zxi s119 fu fu).s] call60
def zxk(s119:EI wG w9)(fu:Nat):Fx wG w9:=fx f91 91 func91 [(zxe fu).p,jk.p,fp.p,(zxj s119 fu).p] false [] ap []
def zxl(s119:EI wG w9)(fu:Nat):EI wG w9:=(zxk s119 fu).fi (qlb s119.f fu) [] call91
def zxm:EI wG w9 := .rc (sn fu) (fun r=>qlb r fu) (fun _ _=>rfl) (fun _=>rfl) (fun s119=>zxl s119 fu) (fun _=>rfl) fu
def zxn:IF:=⟨.fn 60,[.ptr 0 0,.h wL,.h wB,wH],[(0,.dat (.prod wI (.prod wI wI)) 106)],_,RS.mk (.tup [.h wT,.h .bool]) [(0,.dat (.prod wI (.prod wI wI)) 106)]⟩
def zec:Fx wG zxn:=fx f60 60 func60 [⟨qm3.e fa,qwh⟩,⟨qwi.e fa,q53⟩,(q2h fu).p,(zd5 fu).p,(zxm fu).p] false [] ap [(ao [(0,16360),(0,16361),(2,4090),(1,2045),(0,1023)],⟨73,[(0,.ptr 0 0),(3,wH),(8,.ptr 32 0),(10,.ptr 33 0),(48,.own 34),(49,wH),(50,wH)],[(0,.dat (.prod wI (.prod wI wI)) 106),(32,.cells [wN,wN,wN] 33),(33,.cells [.own 35,wN,.own 36] 33),(34,.row wB 23),(35,.row wP 43),(36,.row wT 33)],64,[]⟩)]
def zxo:Nat->(zec fu).L 0:=Fx.lq (qfn fu) (q3b fu) (fun r0=>[r0.s])
def zxp:=(zec fu).fi (qla fu) [(zxo fu fu).s] call60
end
end
noncomputable section
open Go.Proofs
set_option linter.unusedVariables false
set_option maxRecDepth 100000
set_option maxHeartbeats 2000000
open Tryz
section
variable(fu:Nat)
def zxr:IF:=⟨.fn 63,[.h wT],[],_,RS.mk (.fn 93 [.ptr 0 0]) [(0,.dat wT 33)]⟩
def zxq:Fx wG zxr:=fx f63 63 func63 [] false [] ap []
def zed:=zxq.fi qbl [] call63
def zee:IF:=⟨.yld 0,[wH,.agg [.h wL,.h wB,.h (.list wT),wH]],[(0,.loop .ready none 61 36 [(2,.ptr 1 0),(3,.ptr 2 0)] [11,12] 2 3),(1,.dat (.prod wI wI) 28),(2,.cells [.h .bool] 4),(3,.dfr)],_,.two (RS.mk (.c (.bool false)) [(0,.loop .done (some .ret) 61 36 [(2,.ptr 1 0),(3,.ptr 2 0)] [11,12] 2 3),(1,.dat (.prod wI wI) 28),(2,.cells [.h .bool] 4),(3,.dfr)]) (RS.mk (.c (.bool true)) [(0,.loop .ready none 61 36 [(2,.ptr 1 0),(3,.ptr 2 0)] [11,12] 2 3),(1,.dat (.prod wI wI) 28),(2,.cells [.h .bool] 4),(3,.dfr)])⟩
def zxs:Fx wG zee:=fx f61 61 func61 [fp.p] false [([0,1,0,1,1],2)] (mc rfl ap) []
def zxt:EI wG zee:=zxs.fiy qss [] 0 rfl [0,1,0,1,1] (by kernel_rfl) (by kernel_rfl) fun d d'=>by kernel_rfl
def qdm:IF:=⟨.fn 94,[.h wT,wH,.ptr 0 0,.ptr 1 0,.ptr 2 0],[(0,.cells [.yld 3] 140),(1,.cells [wH] 3),(2,.cells [.fn 94 [.ptr 0 0,.ptr 1 0,.ptr 2 0]] 141),(3,.loop .ready none 61 36 [(2,.ptr 4 0),(3,.ptr 5 0)] [11,12] 2 6),(4,.dat (.prod wI wI) 28),(5,.cells [.h .bool] 4),(6,.dfr)],_,.two (RS.mk (.c (.bool false)) [(0,.cells [.yld 3] 140),(1,.cells [wH] 3),(2,.cells [.fn 94 [.ptr 0 0,.ptr 1 0,.ptr 2 0]] 141),(3,.loop .done (some .ret) 61 36 [(2,.ptr 4 0),(3,.ptr 5 0)] [11,12] 2 6),(4,.dat (.prod wI wI) 28),(5,.cells [.h .bool] 4),(6,.dfr)]) (RS.mk (.c (.bool true)) [(0,.cells [.yld 3] 140),(1,.cells [wH] 3),(2,.cells [.fn 94 [.ptr 0 0,.ptr 1 0,.ptr 2 0]] 141),(3,.loop .ready none 61 36 [(2,.ptr 4 0),(3,.ptr 5 0)] [11,12] 2 6),(4,.dat (.prod wI wI) 28),(5,.cells [.h .bool] 4),(6,.dfr)])⟩
def zef(s133:EI wG qdm)(fu:Nat):Fx wG qdm:=fx f94 94 func94 [zxt.p,s133.p] false [] ap [(ao [(0,488),(0,489),(2,122),(1,61),(0,31)],⟨33,[(1,wH),(4,.ptr 2 0),(20,.h (.list wT)),(21,wH),(22,wH)],[(0,.cells [.yld 3] 140),(1,.cells [wH] 3),(2,.cells [.fn 94 [.ptr 0 0,.ptr 1 0,.ptr 2 0]] 141),(3,.loop .ready none 61 36 [(2,.ptr 4 0),(3,.ptr 5 0)] [11,12] 2 6),(4,.dat (.prod wI wI) 28),(5,.cells [.h .bool] 4),(6,.dfr)],64,[]⟩)]
def zxv(s133:EI wG qdm)(fu:Nat):Nat->(zef s133 fu).L 0:=Fx.lq (qfk s133.f fu) (qsv s133.f fu) (fun r0=>[r0.s])
def zxu(s133:EI wG qdm)(fu:Nat):EI wG qdm:=(zef s133 fu).fi (qk5 s133.f fu) [(zxv s133 fu fu).s] call94
def zxw:EI wG qdm := .rc (qbm fu) (fun r=>qk5 r fu) (fun _ _=>rfl) (fun _=>rfl) (fun s133=>zxu s133 fu) (fun _=>rfl) fu
def zxy:IF:=⟨.fn 93,[.yld 0,.ptr 1 0],[(0,.loop .ready none 61 36 [(2,.ptr 2 0),(3,.ptr 3 0)] [11,12] 2 4),(1,.dat wT 33),(2,.dat (.prod wI wI) 28),(3,.cells [.h .bool] 4),(4,.dfr)],_,.two (RS.mk (.tup []) [(0,.loop .done (some .ret) 61 36 [(2,.ptr 2 0),(3,.ptr 3 0)] [11,12] 2 4),(1,.dat wT 33),(2,.dat (.prod wI wI) 28),(3,.cells [.h .bool] 4),(4,.dfr)]) (RS.mk (.tup []) [(0,.loop .ready none 61 36 [(2,.ptr 2 0),(3,.ptr 3 0)] [11,12] 2 4),(1,.dat wT 33),(2,.dat (.prod wI wI) 28),(3,.cells [.h .bool] 4),(4,.dfr)])⟩
def zxx:Fx wG zxy:=fx f93 93 func93 [(zxw fu).p] false [] ap []
def zxz:=(zxx fu).fi (qk4 fu) [] call93
def zx0:IF:=⟨.fn 135,[.h wT],[],_,RS.mk (wH) []⟩
def q0t:Fx wG zx0:=fx f135 135 func135 [(q18 fu).p,(ow fu).p,(zf7 fu).p,(zd3 fu).p,jk.p] false [] ap [(ao [(0,30),(0,31)],⟨69,[(1,.ptr 32 0),(3,.ptr 33 0),(4,wH)],[(32,.dat wT 33),(33,.cells [wS,wS,.own 34] 89),(34,.row wP 92)],64,[]⟩),(ao [(0,29),(0,15)],⟨69,[(1,.ptr 32 0),(3,.ptr 33 0),(4,wH),(31,.h .bool)],[(32,.dat wT 33),(33,.cells [wS,wS,.own 34] 89),(34,.row wP 92)],64,[]⟩)]
def zx2:(q0t fu).L 0:=Fx.jm (qs3 fu) []
def zx1:(q0t fu).L 1:=Fx.jm (oy fu) [(zx2 fu).s]
def zx3:=(q0t fu).fi (qlc fu) [(zx1 fu).s] call135
def zx9:IF:=⟨.fn 92,[.h (.prod wT wI)],[],_,RS.mk (wH) []⟩
def zx8:Fx wG zx9:=fx f92 92 func92 [(q1j fu).p,jk.p,(zx3 fu).p,(zfl fu).p,(q2h fu).p] false [] ap []
def zya:=(zx8 fu).fi (qk2 fu) [] call92
def zeg:IF:=⟨.yld 0,[wH,.agg [.h wL,.h wB,.h (.list wT),wH]],[(0,.loop .ready none 61 36 [(2,.ptr 1 0)] [26,27] 3 2),(1,.dat (.prod wI wI) 28),(2,.dfr)],_,.two (RS.mk (.c (.bool false)) [(0,.loop .done (some .ret) 61 36 [(2,.ptr 1 0)] [26,27] 3 2),(1,.dat (.prod wI wI) 28),(2,.dfr)]) (RS.mk (.c (.bool true)) [(0,.loop .ready none 61 36 [(2,.ptr 1 0)] [26,27] 3 2),(1,.dat (.prod wI wI) 28),(2,.dfr)])⟩
def zyb:Fx wG zeg:=fx f61 61 func61 [(zya fu).p,fp.p] false [([0,1,0,1,1,1,1],3)] (mc rfl ap) []
def zyc:EI wG zeg:=(zyb fu).fiy (qst fu) [] 0 rfl [0,1,0,1,1,1,1] (by kernel_rfl) (by kernel_rfl) fun d d'=>by kernel_rfl
def qdn:IF:=⟨.fn 94,[.h wT,wH,.ptr 0 0,.ptr 1 0,.ptr 2 0],[(0,.cells [.yld 3] 140),(1,.cells [wH] 3),(2,.cells [.fn 94 [.ptr 0 0,.ptr 1 0,.ptr 2 0]] 141),(3,.loop .ready none 61 36 [(2,.ptr 4 0)] [26,27] 3 5),(4,.dat (.prod wI wI) 28),(5,.dfr)],_,.two (RS.mk (.c (.bool false)) [(0,.cells [.yld 3] 140),(1,.cells [wH] 3),(2,.cells [.fn 94 [.ptr 0 0,.ptr 1 0,.ptr 2 0]] 141),(3,.loop .done (some .ret) 61 36 [(2,.ptr 4 0)] [26,27] 3 5),(4,.dat (.prod wI wI) 28),(5,.dfr)]) (RS.mk (.c (.bool true)) [(0,.cells [.yld 3] 140),(1,.cells [wH] 3),(2,.cells [.fn 94 [.ptr 0 0,.ptr 1 0,.ptr 2 0]] 141),(3,.loop .ready none 61 36 [(2,.ptr 4 0)] [26,27] 3 5),(4,.dat (.prod wI wI) 28),(5,.dfr)])⟩
def zeh(s136:EI wG qdn)(fu:Nat):Fx wG qdn:=fx f94 94 func94 [(zyc fu).p,s136.p] false [] ap [(ao [(0,488),(0,489),(2,122),(1,61),(0,31)],⟨33,[(1,wH),(4,.ptr 2 0),(20,.h (.list wT)),(21,wH),(22,wH)],[(0,.cells [.yld 3] 140),(1,.cells [wH] 3),(2,.cells [.fn 94 [.ptr 0 0,.ptr 1 0,.ptr 2 0]] 141),(3,.loop .ready none 61 36 [(2,.ptr 4 0)] [26,27] 3 5),(4,.dat (.prod wI wI) 28),(5,.dfr)],64,[]⟩)]
def zye(s136:EI wG qdn)(fu:Nat):Nat->(zeh s136 fu).L 0:=Fx.lq (qfl s136.f fu) (qsw s136.f fu) (fun r0=>[r0.s])
def zyd(s136:EI wG qdn)(fu:Nat):EI wG qdn:=(zeh s136 fu).fi (qk6 s136.f fu) [(zye s136 fu fu).s] call94
def zyf:EI wG qdn := .rc (qbn fu) (fun r=>qk6 r fu) (fun _ _=>rfl) (fun _=>rfl) (fun s136=>zyd s136 fu) (fun _=>rfl) fu
def zyh:IF:=⟨.fn 93,[.yld 0,.ptr 1 0],[(0,.loop .ready none 61 36 [(2,.ptr 2 0)] [26,27] 3 3),(1,.dat wT 33),(2,.dat (.prod wI wI) 28),(3,.dfr)],_,.two (RS.mk (.tup []) [(0,.loop .done (some .ret) 61 36 [(2,.ptr 2 0)] [26,27] 3 3),(1,.dat wT 33),(2,.dat (.prod wI wI) 28),(3,.dfr)]) (RS.mk (.tup []) [(0,.loop .ready none 61 36 [(2,.ptr 2 0)] [26,27] 3 3),(1,.dat wT 33),(2,.dat (.prod wI wI) 28),(3,.dfr)])⟩
def zyg:Fx wG zyh:=fx f93 93 func93 [(zyf fu).p] false [] ap []
def zyi:=(zyg fu).fi (qk8 fu) [] call93
def zyk:IF:=⟨.fn 61,[.h wT],[],_,RS.mk (.h (.prod wI wI)) []⟩
def zyj:Fx wG zyk:=fx f61 61 func61 [zed.p,(zxz fu).p,fp.p,(zyi fu).p,gw.p] false [([0,1,0,1,1],2),([0,1,0,1,1,1,1],3)] (mc rfl (mc rfl ap)) []
def zyl:=(zyj fu).fi (qk0 fu) [] call61
def zyn:IF:=⟨.fn 32,[.h (.prod wL wB)],[],_,RS.mk (.tup [.h wT,.h (.prod wI wI)]) []⟩
def zym:Fx wG zyn:=fx f32 32 func32 [(z7i fu).p,jk.p,(zxp fu).p,(zyl fu).p,fp.p,gw.p] false [] ap []
def zyo:=(zym fu).fi (qky fu) [] call32
def zyq:IF:=⟨.fn 33,[.h wT],[],_,RS.mk (.fn 62 [.ptr 0 0]) [(0,.dat wT 33)]⟩
def zyp:Fx wG zyq:=fx f33 33 func33 [] false [] ap []
def zyr:=zyp.fi qsp [] call33
def zyt:IF:=⟨.fn 106,[wS,.h .byte],[],_,RS.mk (.agg [wS,.fn 150 [.ptr 0 0],.fn 152 []]) [(0,.cells [.h .byte] 5)]⟩
def zys:Fx wG zyt:=fx f106 106 func106 [] false [] ap []
def zyu:=zys.fi ql3 [] call106
def zyw:IF:=⟨.fn 72,[wS],[],_,.two (RS.mk (.tup [.agg [wS,.fn 150 [.ptr 0 0],.fn 152 []],.h .bool]) [(0,.cells [.h .byte] 5)]) (.two (RS.mk (.tup [.agg [wS,.fn 107 [],.fn 108 []],.h .bool]) []) (.two (RS.mk (.tup [.agg [wS,.fn 109 [],.fn 110 []],.h .bool]) []) (RS.mk (.tup [.agg [wS,.c .nilFunc,.c .nilFunc],.h .bool]) [])))⟩
def zyv:Fx wG zyw:=fx f72 72 func72 [zyu.p,(ow fu).p] false [] ap []
def zyx:=(zyv fu).fi (ql2 fu) [] call72
def zyz:IF:=⟨.fn 43,[.h wB,wS],[],_,.two (RS.mk (.tup [.agg [wS,.fn 150 [.ptr 0 0],.fn 152 []],.h (.prod wI wI)]) [(0,.cells [.h .byte] 5)]) (.two (RS.mk (.tup [.agg [wS,.fn 107 [],.fn 108 []],.h (.prod wI wI)]) []) (.two (RS.mk (.tup [.agg [wS,.fn 109 [],.fn 110 []],.h (.prod wI wI)]) []) (RS.mk (.tup [.agg [wS,.c .nilFunc,.c .nilFunc],.h (.prod wI wI)]) [])))⟩
def zyy:Fx wG zyz:=fx f43 43 func43 [(zyx fu).p,fp.p,gw.p] false [] ap []
def zei:=(zyy fu).fi (qgg fu) [] call43
def zy3:IF:=⟨.fn 152,[.h wB],[],_,RS.mk (.tup [.own 0,.h (.prod wI wI)]) [(0,.row .byte 5)]⟩
def zy2:Fx wG zy3:=fx f152 152 func152 [gw.p] false [] ap []
def zej:=zy2.fi qgf [] call152
def zy4:IF:=⟨.fn 108,[.h wB],[],_,RS.mk (.tup [.own 0,.h (.prod wI wI)]) [(0,.row .byte 5)]⟩
def zek(fu:Nat):Fx wG zy4:=fx f108 108 func108 [fp.p,gw.p,q0k.p] false [] ap [(ao [(0,1000),(0,1001),(2,250),(1,125),(0,63)],⟨53,[(3,.ptr 32 0),(4,.own 33),(5,wH),(6,wH),(14,.h wB),(15,wH),(16,wH)],[(32,.dat (.prod wI wI) 28),(33,.row .byte 5)],64,[]⟩)]
def zy5:Nat->(zek fu).L 0:=Fx.lq (xh fu) (qj4 fu) (fun r0=>[r0.s])
def zy6:=(zek fu).fi (qj3 fu) [(zy5 fu fu).s] call108
def zy7:IF:=⟨.fn 196,[.h wB,.h .byte],[],_,RS.mk (.h wB) []⟩
def zel(fu:Nat):Fx wG zy7:=fx f196 196 func196 [] false [] ap [(ao [(0,96),(0,97),(0,49),(2,12),(1,6),(0,7)],⟨24,[(0,.h wB),(1,.h .byte)],[],64,[]⟩)]
def zy8:Nat->(zel fu).L 0:=Fx.lq (qrp fu) (q2u fu) (fun r0=>[r0.s])
def zy9:=(zel fu).fi (q2t fu) [(zy8 fu fu).s] call196
def zza:IF:=⟨.fn 197,[wS],[],_,RS.mk (.tup [.arr .bool,.h .bool]) []⟩
def zem(fu:Nat):Fx wG zza:=fx f197 197 func197 [] false [] ap [(ao [(0,208),(0,209),(0,105),(2,26),(1,13),(0,7)],⟨21,[(0,wS),(2,.el 32 1),(4,wH)],[(32,.row .bool 233)],64,[]⟩)]
def zzb:Nat->(zem fu).L 0:=Fx.lq (qri fu) (q2r fu) (fun r0=>[r0.s])
def zzc:=(zem fu).fi (qrh fu) [(zzb fu fu).s] call197
def zze:IF:=⟨.fn 225,[.el 0 1,.h .byte],[(0,.row .bool 233)],_,RS.mk (.h .bool) [(0,.row .bool 233)]⟩
def zzd:Fx wG zze:=fx f225 225 func225 [] false [] ap []
def zzf:=zzd.fi qkb [] call225
def zzg:IF:=⟨.fn 198,[.h wB,.el 0 1],[(0,.row .bool 233)],_,RS.mk (.h wB) [(0,.row .bool 233)]⟩
def zen(fu:Nat):Fx wG zzg:=fx f198 198 func198 [zzf.p] false [] ap [(ao [(0,96),(0,97),(0,49),(2,12),(1,6),(0,7)],⟨23,[(0,.h wB),(1,.el 0 1)],[(0,.row .bool 233)],64,[]⟩)]
def zzh:Nat->(zen fu).L 0:=Fx.lq (qei fu) (qro fu) (fun r0=>[r0.s])
def zzi:=(zen fu).fi (qrn fu) [(zzh fu fu).s] call198
def zzj:IF:=⟨.fn 226,[.h wB],[],_,RS.mk (.tup [.h (.int .i32),wH]) []⟩
def qp2:Fx wG zzj:=fx f226 226 func226 [zgd.p,(zfi fu).p] false [] ap [(ao [(0,2046),(0,2047)],⟨53,[(0,.h wB),(4,wH),(5,wH)],[],64,[]⟩),(ao [(0,2044),(0,2045),(0,1023)],⟨53,[(0,.h wB),(4,wH),(5,wH)],[],64,[]⟩),(ao [(0,16336),(0,16337),(0,8169),(2,2042),(1,1021),(0,511)],⟨53,[(0,.h wB),(4,wH),(5,wH),(6,wH)],[],64,[]⟩)]
def zzm:(qp2 fu).L 0:=Fx.jm (qui fu) []
def zzl:(qp2 fu).L 1:=Fx.jm (quh fu) [(zzm fu).s]
def zzk:Nat->(qp2 fu).L 2:=Fx.lq (qug fu) (q3u fu) (fun r0=>[(zzl fu).s,r0.s])
def zzn:=(qp2 fu).fi (q3r fu) [(zzk fu fu).s] call226
def zzq:IF:=⟨.fn 227,[wS,.h (.int .i32)],[],_,RS.mk (.h .bool) []⟩
def zeo(fu:Nat):Fx wG zzq:=fx f227 227 func227 [] false [] ap [(ao [(0,104),(0,105),(2,26),(1,13),(0,7)],⟨15,[(1,.h (.int .i32)),(8,.ptr 32 0)],[(32,.it)],64,[]⟩)]
def zzr:Nat->(zeo fu).L 0:=Fx.lq (qrg fu) (q2q fu) (fun r0=>[r0.s])
def zzs:=(zeo fu).fi (qrf fu) [(zzr fu fu).s] call227
def zzt:IF:=⟨.fn 199,[.h wB,wS],[],_,RS.mk (.h wB) []⟩
def zep:Fx wG zzt:=fx f199 199 func199 [(zzn fu).p,(zzs fu).p] false [] ap [(ao [(0,96),(0,97),(0,49),(2,12),(1,6),(0,7)],⟨35,[(0,.h wB),(1,wS)],[],64,[]⟩)]
def zzu:Nat->(zep fu).L 0:=Fx.lq (qrq fu) (q2w fu) (fun r0=>[r0.s])
def zzv:=(zep fu).fi (q2v fu) [(zzu fu fu).s] call199
def zzw:IF:=⟨.fn 158,[.h wB,wS],[],_,RS.mk (.h wB) []⟩
def qi3:Fx wG zzw:=fx f158 158 func158 [(zy9 fu).p,(zzc fu).p,(zzi fu).p,(zzv fu).p] false [] ap [(ao [(0,60),(0,61),(0,31)],⟨38,[(0,.h wB),(1,wS)],[],64,[]⟩),(ao [(0,29),(0,15)],⟨38,[(0,.h wB),(1,wS),(22,.h .bool)],[],64,[]⟩),(ao [(0,28),(0,29),(0,15)],⟨38,[(0,.h wB),(1,wS)],[],64,[]⟩),(ao [(0,13),(0,7)],⟨38,[(0,.h wB),(1,wS),(13,.h .bool)],[],64,[]⟩)]
def zz0:(qi3 fu).L 0:=Fx.jm (qre fu) []
def zzz:(qi3 fu).L 1:=Fx.jm (qka fu) [(zz0 fu).s]
def zzy:(qi3 fu).L 2:=Fx.jm (qrd fu) [(zzz fu).s]
def zzx:(qi3 fu).L 3:=Fx.jm (qj9 fu) [(zzy fu).s]
def zz1:=(qi3 fu).fi (qj8 fu) [(zzx fu).s] call158
def zz8:IF:=⟨.fn 160,[.h wB],[],_,RS.mk (.own 0) [(0,.row .byte 5)]⟩
def zeq(fu:Nat):Fx wG zz8:=fx f160 160 func160 [zfz.p] false [] ap [(ao [(0,464),(0,465),(0,233),(2,58),(1,29),(0,15)],⟨47,[(0,.h wB),(3,.own 32),(4,wH)],[(32,.row .byte 5)],64,[]⟩)]
def zz9:Nat->(zeq fu).L 0:=Fx.lq (ye fu) (qlg fu) (fun r0=>[r0.s])
def z0a:=(zeq fu).fi (qs5 fu) [(zz9 fu fu).s] call160
def z0b:IF:=⟨.fn 110,[.h wB],[],_,RS.mk (.tup [.own 0,.h (.prod wI wI)]) [(0,.row .byte 5)]⟩
def xa:Fx wG z0b:=fx f110 110 func110 [fp.p,q0k.p,gw.p,zd8.p,(zz1 fu).p,zd7.p,(z0a fu).p] false [] ap [(ao [(0,123646),(0,123647),(1,241),(2,60),(1,30),(0,31)],⟨63,[(0,.h wB),(3,.ptr 32 0),(4,.own 33),(5,wH),(6,.h wB),(7,.h wB)],[(32,.dat (.prod wI wI) 28),(33,.row .byte 5)],64,[]⟩),(ao [(0,15454),(0,15455),(1,241),(2,60),(1,30),(0,31)],⟨63,[(0,.h wB),(3,.ptr 32 0),(4,.own 33),(5,wH),(6,.h wB)],[(32,.dat (.prod wI wI) 28),(33,.row .byte 5)],64,[]⟩),(ao [(0,3862),(0,3863),(1,241),(2,60),(1,30),(0,31)],⟨63,[(0,.h wB),(3,.ptr 32 0),(4,.own 33),(5,wH)],[(32,.dat (.prod wI wI) 28),(33,.row .byte 5)],64,[]⟩),(ao [(0,480),(0,481),(0,241),(2,60),(1,30),(0,31)],⟨63,[(0,.h wB),(3,.ptr 32 0),(4,.own 33)],[(32,.dat (.prod wI wI) 28),(33,.row .byte 5)],64,[]⟩)]
def z0f(r0:(xa fu).L 3):(xa fu).L 0:=Fx.jm (qft fu r0.f) [r0.s]
def z0e(r0:(xa fu).L 3):(xa fu).L 1:=Fx.jm (qfs fu r0.f) [(z0f fu r0).s]
def z0d(r0:(xa fu).L 3):(xa fu).L 2:=Fx.jm (yd fu r0.f) [(z0e fu r0).s]
def z0c:Nat->(xa fu).L 3:=Fx.lq (qfr fu) (qs4 fu) (fun r0=>[(z0d fu r0).s])
def z0g:=(xa fu).fi (qlf fu) [(z0c fu fu).s] call110
def z0l:IF:=⟨.fn 68,[.h wB,wS],[],_,RS.mk (.tup [.own 0,.h (.prod wI wI)]) [(0,.row .byte 5)]⟩
def z0k:Fx wG z0l:=fx f68 68 func68 [(zei fu).p,jk.p,zej.p,(zy6 fu).p,(z0g fu).p] false [] ap []
def z0m:=(z0k fu).fi (qgd fu) [] call68
def z0n:IF:=⟨.fn 37,[.h wT],[],_,RS.mk (.own 0) [(0,.row .byte 5)]⟩
def zer:Fx wG z0n:=fx f37 37 func37 [(ow fu).p,(z0m fu).p] false [] ap [(ao [(0,104),(0,105),(2,26),(1,13),(0,7)],⟨40,[(1,.ptr 32 0),(10,.h wL),(11,wH),(12,wH)],[(32,.dat wT 33)],64,[]⟩)]
def z0o:Nat->(zer fu).L 0:=Fx.lq (qgh fu) (quw fu) (fun r0=>[r0.s])
def z0p:=(zer fu).fi (ql6 fu) [(z0o fu fu).s] call37
def zes:IF:=⟨.yld 0,[wH,.agg [.h wL,.h wB,.h (.list wT)]],[(0,.loop .ready none 12 79 [(6,.ptr 1 0)] [24,25] 4 2),(1,.cells [.own 3] 23),(2,.dfr),(3,.row .byte 5)],_,RS.mk (.c (.bool true)) [(0,.loop .ready none 12 79 [(6,.ptr 1 0)] [24,25] 4 2),(1,.cells [.own 4] 23),(2,.dfr),(3,.dead),(4,.row .byte 5)]⟩
def qaj:Fx wG zes:=fx f12 12 func12 [(ow fu).p,(z0p fu).p,(zfk fu).p,(zfg fu).p,⟨qxq.e mh,q8m qyu qyv⟩] false [([0,1,0,1,1,1,1],4)] (mc rfl ap) [(ao [(0,256679),(2,16042),(1,8021),(0,4011),(1,501)],⟨79,[(6,.ptr 1 0),(8,.ptr 32 0),(9,.own 33),(10,wN),(27,.h wL),(28,wH),(29,wH)],[(0,.loop .busy none 12 79 [(6,.ptr 1 0)] [24,25] 4 2),(1,.cells [.own 34] 23),(2,.dfr),(3,.dead),(32,.dat wT 33),(33,.row .byte 5),(34,.row .byte 5)],64,[]⟩),(ao [(0,2053427),(1,256678),(0,256679),(2,16042),(1,8021),(0,4011),(1,501)],⟨79,[(6,.ptr 1 0),(8,.ptr 32 0),(9,.own 35),(10,wN),(12,.ptr 33 0),(27,.h wL),(28,wH),(29,wH),(42,.h .bool)],[(0,.loop .busy none 12 79 [(6,.ptr 1 0)] [24,25] 4 2),(1,.cells [.own 34] 23),(2,.dfr),(3,.dead),(32,.dat wT 33),(33,.dat wP 43),(34,.row .byte 5),(35,.row .byte 5)],64,[]⟩),(ao [(0,16046),(0,16047),(1,501)],⟨79,[(6,.ptr 1 0),(8,.ptr 32 0),(9,.own 35),(10,.own 33)],[(0,.loop .busy none 12 79 [(6,.ptr 1 0)] [24,25] 4 2),(1,.cells [.own 34] 23),(2,.dfr),(3,.dead),(32,.dat wT 33),(33,.row .byte 5),(34,.row .byte 5),(35,.row .byte 5)],64,[]⟩),(ao [(0,64168),(0,64169),(2,16042),(1,8021),(0,4011),(1,501)],⟨79,[(6,.ptr 1 0),(8,.ptr 32 0),(9,.own 34),(10,wN),(27,.h wL),(28,wH),(29,wH)],[(0,.loop .busy none 12 79 [(6,.ptr 1 0)] [24,25] 4 2),(1,.cells [.own 33] 23),(2,.dfr),(3,.dead),(32,.dat wT 33),(33,.row .byte 5),(34,.row .byte 5)],64,[]⟩)]
def z0t(r0:(qaj fu).L 3):(qaj fu).L 0:=Fx.jm (qek fu r0.f) [r0.s]
def z0r(r0:(qaj fu).L 3):(qaj fu).L 1:=Fx.jm (xm fu r0.f) [(z0t fu r0).s]
def z0s:(qaj fu).L 2:=Fx.jm (qej fu) []
def z0q:Nat->(qaj fu).L 3:=Fx.lq (uq fu) (qru fu) (fun r0=>[(z0r fu r0).s,(z0s fu).s])
def z0u:EI wG zes:=(qaj fu).fiy (qkc fu) [(z0q fu fu).s] 0 rfl [0,1,0,1,1,1,1] (by kernel_rfl) (by kernel_rfl) fun d d'=>by kernel_rfl
def zet:IF:=⟨.yld 0,[wH,.agg [.h wL,.h wB,.h (.list wT),wH]],[(0,.loop .ready none 62 15 [(2,.ptr 1 0)] [7,8] 5 2),(1,.cells [.yld 3] 109),(2,.dfr),(3,.loop .ready none 12 79 [(6,.ptr 4 0)] [24,25] 4 5),(4,.cells [.own 6] 23),(5,.dfr),(6,.row .byte 5)],_,RS.mk (.c (.bool true)) [(0,.loop .ready none 62 15 [(2,.ptr 1 0)] [7,8] 5 2),(1,.cells [.yld 3] 109),(2,.dfr),(3,.loop .ready none 12 79 [(6,.ptr 4 0)] [24,25] 4 5),(4,.cells [.own 7] 23),(5,.dfr),(6,.dead),(7,.row .byte 5)]⟩
def z0y:Fx wG zet:=fx f62 62 func62 [(z0u fu).p] false [([0,1,1],5)] (mc rfl ap) []
def z0z:EI wG zet:=(z0y fu).fiy (qsr fu) [] 0 rfl [0,1,1] (by kernel_rfl) (by kernel_rfl) fun d d'=>by kernel_rfl
def qdp:IF:=⟨.fn 94,[.h wT,wH,.ptr 0 0,.ptr 1 0,.ptr 2 0],[(0,.cells [.yld 3] 140),(1,.cells [wH] 3),(2,.cells [.fn 94 [.ptr 0 0,.ptr 1 0,.ptr 2 0]] 141),(3,.loop .ready none 62 15 [(2,.ptr 4 0)] [7,8] 5 5),(4,.cells [.yld 6] 109),(5,.dfr),(6,.loop .ready none 12 79 [(6,.ptr 7 0)] [24,25] 4 8),(7,.cells [.own 9] 23),(8,.dfr),(9,.row .byte 5)],_,RS.mk (.c (.bool true)) [(0,.cells [.yld 3] 140),(1,.cells [wH] 3),(2,.cells [.fn 94 [.ptr 0 0,.ptr 1 0,.ptr 2 0]] 141),(3,.loop .ready none 62 15 [(2,.ptr 4 0)] [7,8] 5 5),(4,.cells [.yld 6] 109),(5,.dfr),(6,.loop .ready none 12 79 [(6,.ptr 7 0)] [24,25] 4 8),(7,.cells [.own 10] 23),(8,.dfr),(9,.dead),(10,.row .byte 5)]⟩
def zeu(s143:EI wG qdp)(fu:Nat):Fx wG qdp:=fx f94 94 func94 [(z0z fu).p,s143.p] false [] ap [(ao [(0,488),(0,489),(2,122),(1,61),(0,31)],⟨33,[(1,wH),(4,.ptr 2 0),(20,.h (.list wT)),(21,wH),(22,wH)],[(0,.cells [.yld 3] 140),(1,.cells [wH] 3),(2,.cells [.fn 94 [.ptr 0 0,.ptr 1 0,.ptr 2 0]] 141),(3,.loop .ready none 62 15 [(2,.ptr 4 0)] [7,8] 5 5),(4,.cells [.yld 6] 109),(5,.dfr),(6,.loop .ready none 12 79 [(6,.ptr 7 0)] [24,25] 4 8),(7,.cells [.own 32] 23),(8,.dfr),(9,.dead),(32,.row .byte 5)],64,[]⟩)]
def z01(s143:EI wG qdp)(fu:Nat):Nat->(zeu s143 fu).L 0:=Fx.lq (qfm s143.f fu) (qsx s143.f fu) (fun r0=>[r0.s])
def z00(s143:EI wG qdp)(fu:Nat):EI wG qdp:=(zeu s143 fu).fi (qk7 s143.f fu) [(z01 s143 fu fu).s] call94
def z02:EI wG qdp := .rc (qbo fu) (fun r=>qk7 r fu) (fun _ _=>rfl) (fun _=>rfl) (fun s143=>z00 s143 fu) (fun _=>rfl) fu
def z04:IF:=⟨.fn 93,[.yld 0,.ptr 1 0],[(0,.loop .ready none 62 15 [(2,.ptr 2 0)] [7,8] 5 3),(1,.dat wT 33),(2,.cells [.yld 4] 109),(3,.dfr),(4,.loop .ready none 12 79 [(6,.ptr 5 0)] [24,25] 4 6),(5,.cells [.own 7] 23),(6,.dfr),(7,.row .byte 5)],_,RS.mk (.tup []) [(0,.loop .ready none 62 15 [(2,.ptr 2 0)] [7,8] 5 3),(1,.dat wT 33),(2,.cells [.yld 4] 109),(3,.dfr),(4,.loop .ready none 12 79 [(6,.ptr 5 0)] [24,25] 4 6),(5,.cells [.own 8] 23),(6,.dfr),(7,.dead),(8,.row .byte 5)]⟩
def z03:Fx wG z04:=fx f93 93 func93 [(z02 fu).p] false [] ap []
def z05:=(z03 fu).fi (qsy fu) [] call93
def z07:IF:=⟨.fn 62,[.yld 0,.ptr 1 0],[(0,.loop .ready none 12 79 [(6,.ptr 2 0)] [24,25] 4 3),(1,.dat wT 33),(2,.cells [.own 4] 23),(3,.dfr),(4,.row .byte 5)],_,RS.mk (.tup []) [(0,.loop .ready none 12 79 [(6,.ptr 2 0)] [24,25] 4 3),(1,.dat wT 33),(2,.cells [.own 5] 23),(3,.dfr),(4,.dead),(5,.row .byte 5)]⟩
def z06:Fx wG z07:=fx f62 62 func62 [zed.p,(z05 fu).p] false [([0,1,1],5)] (mc rfl ap) []
def z08:=(z06 fu).fi (qsq fu) [] call62
def z1a:IF:=⟨.fn 12,[.h (.prod wL wB)],[],_,RS.mk (.tup [.own 0,.h (.prod wI wI)]) [(0,.row .byte 5)]⟩
def z09:Fx wG z1a:=fx f12 12 func12 [(zyo fu).p,jk.p,zyr.p,(z08 fu).p,gw.p] false [([0,1,0,1,1,1,1],4)] (mc rfl ap) []
def q06:=(z09 fu).fi (xl fu) [] call12
def z1e:IF:=⟨.fn 7,[],[],_,RS.mk (.h .bool) []⟩
def z1d:Fx wG z1e:=fx f7 7 func7 [(z5u fu).p,(z6z fu).p,(q06 fu).p] false [] ap []
def zev:=(z1d fu).fi (qj1 fu) [] call7
def z1g:IF:=⟨.fn 13,[wH,wH,wH],[],_,RS.mk (.h .bool) []⟩
def z1f:Fx wG z1g:=fx f13 13 func13 [] false [] ap []
def zew:=z1f.fi ul [] call13
def z1i:IF:=⟨.fn 8,[.h (.prod wL wB),.h (.prod wL wB)],[],_,RS.mk (.tup [.h .bool,.h (.prod wI wI)]) []⟩
def z1h:Fx wG z1i:=fx f8 8 func8 [(q06 fu).p,jk.p,fp.p,zd6.p,gw.p] false [] ap []
def zex:=(z1h fu).fi (qa1 fu) [] call8
def z1k:IF:=⟨.fn 10,[wH,wH],[],_,RS.mk (.h (.prod wI wI)) []⟩
def z1j:Fx wG z1k:=fx f10 10 func10 [] false [] ap []
def qp5:=z1j.fi r8 [] call10
def z1l:IF:=⟨.fn 81,[wS],[],_,RS.mk (.h .bool) []⟩
def zey(fu:Nat):Fx wG z1l:=fx f81 81 func81 [zew.p] false [] ap [(ao [(0,208),(0,209),(0,105),(2,26),(1,13),(0,7)],⟨25,[(0,wS),(3,wH)],[],64,[]⟩)]
def z1m:Nat->(zey fu).L 0:=Fx.lq (qd2 fu) (qqm fu) (fun r0=>[r0.s])
def z1n:=(zey fu).fi (qjp fu) [(z1m fu fu).s] call81
def z1o:IF:=⟨.fn 149,[.h .byte,wS],[],_,RS.mk (.h .bool) []⟩
def zez(fu:Nat):Fx wG z1o:=fx f149 149 func149 [] false [] ap [(ao [(0,208),(0,209),(0,105),(2,26),(1,13),(0,7)],⟨17,[(0,.h .byte),(1,wS),(5,wH)],[],64,[]⟩)]
def z1p:Nat->(zez fu).L 0:=Fx.lq (qjy fu) (qqt fu) (fun r0=>[r0.s])
def z1q:=(zez fu).fi (qjx fu) [(z1p fu fu).s] call149
def z1s:IF:=⟨.fn 79,[.h .byte],[],_,RS.mk (.h .bool) []⟩
def z1r:Fx wG z1s:=fx f79 79 func79 [] false [] ap []
def ze0:=z1r.fi r9 [] call79
def z1t:IF:=⟨.fn 82,[wS],[],_,RS.mk (wS) []⟩
def qak(fu:Nat):Fx wG z1t:=fx f82 82 func82 [ze0.p] false [] ap [(ao [(0,98),(1,49),(2,12),(1,6),(0,7)],⟨30,[(0,wS)],[],64,[]⟩),(ao [(0,224),(0,225),(0,113),(2,28),(1,14),(0,15)],⟨30,[(0,wS)],[],64,[]⟩),(ao [(0,97),(0,49),(2,12),(1,6),(0,7)],⟨30,[(0,wS),(10,.h .bool)],[],64,[]⟩),(ao [(0,96),(0,97),(0,49),(2,12),(1,6),(0,7)],⟨30,[(0,wS)],[],64,[]⟩)]
def z1w(r0:(qak fu).L 3):(qak fu).L 0:=Fx.jm (qqx fu r0.f) [r0.s]
def z1x:Nat->(qak fu).L 1:=Fx.lq (qd9 fu) (qqw fu) (fun r3=>[r3.s])
def z1v(r0:(qak fu).L 3):(qak fu).L 2:=Fx.jm (qd8 fu r0.f) [(z1w fu r0).s,(z1x fu fu).s]
def z1u:Nat->(qak fu).L 3:=Fx.lq (qd7 fu) (qqv fu) (fun r0=>[(z1v fu r0).s])
def z1y:=(qak fu).fi (qqu fu) [(z1u fu fu).s] call82
def z11:IF:=⟨.fn 105,[wS,wS],[],_,RS.mk (wH) []⟩
def ze1:Fx wG z11:=fx f105 105 func105 [(z1n fu).p,(z1q fu).p,(z1y fu).p] false [] ap [(ao [(0,976),(0,977),(0,489),(2,122),(1,61),(0,31)],⟨26,[(1,wS),(5,wH)],[],64,[]⟩)]
def z13:Nat->(ze1 fu).L 0:=Fx.lq (qaq fu) (qql fu) (fun r0=>[r0.s])
def z14:=(ze1 fu).fi (qd1 fu) [(z13 fu fu).s] call105
def z15:IF:=⟨.fn 71,[wS,wS],[],_,RS.mk (.own 0) [(0,.row .str 9)]⟩
def lh(fu:Nat):Fx wG z15:=fx f71 71 func71 [ze0.p] false [] ap [(ao [(0,979),(2,122),(1,61),(0,31)],⟨87,[(5,wS),(6,.own 32),(7,wH)],[(32,.row wI 3)],64,[]⟩),(ao [(0,3913),(1,978),(0,979),(2,122),(1,61),(0,31)],⟨87,[(5,wS),(6,.own 32),(7,wH),(37,.h .bool)],[(32,.row wI 3)],64,[]⟩),(ao [(0,520531),(2,65066),(1,32533),(0,16267),(1,2033),(2,508),(1,254),(0,255)],⟨87,[(5,wS),(6,.own 32),(8,.own 33),(9,wH),(10,wH),(11,wH)],[(32,.row wI 3),(33,.row .str 9)],64,[]⟩),(ao [(0,4164243),(1,520530),(0,520531),(2,65066),(1,32533),(0,16267),(1,2033),(2,508),(1,254),(0,255)],⟨87,[(5,wS),(6,.own 32),(8,.own 33),(9,wH),(10,wH),(11,wH),(12,wH),(69,.h .bool)],[(32,.row wI 3),(33,.row .str 9)],64,[]⟩),(ao [(0,520528),(0,520529),(0,260265),(2,65066),(1,32533),(0,16267),(1,2033),(2,508),(1,254),(0,255)],⟨87,[(5,wS),(6,.own 32),(8,.own 33),(9,wH),(10,wH),(11,wH)],[(32,.row wI 3),(33,.row .str 9)],64,[]⟩),(ao [(0,4064),(0,4065),(0,2033),(2,508),(1,254),(0,255)],⟨87,[(5,wS),(6,.own 32),(8,.own 33),(9,wH)],[(32,.row wI 3),(33,.row .str 9)],64,[]⟩),(ao [(0,976),(0,977),(0,489),(2,122),(1,61),(0,31)],⟨87,[(5,wS),(6,.own 32),(7,wH)],[(32,.row wI 3)],64,[]⟩)]
def z19(r0:(lh fu).L 6):(lh fu).L 0:=Fx.jm (qjv fu r0.f) [r0.s]
def z17(r0:(lh fu).L 6):(lh fu).L 1:=Fx.jm (qju fu r0.f) [(z19 fu r0).s]
def z2c(r2:(lh fu).L 5)(r4:(lh fu).L 4):(lh fu).L 2:=Fx.jm (qjw fu r2.f r4.f) [r4.s]
def z2b(r2:(lh fu).L 5)(r4:(lh fu).L 4):(lh fu).L 3:=Fx.jm (qd6 fu r2.f r4.f) [(z2c fu r2 r4).s]
def z2a(r2:(lh fu).L 5):Nat->(lh fu).L 4:=Fx.lq (xf fu r2.f) (qqp fu r2.f) (fun r4=>[(z2b fu r2 r4).s,r2.s])
def z18:Nat->(lh fu).L 5:=Fx.lq (sc fu) (qjt fu) (fun r2=>[(z2a fu r2 fu).s])
def z16:Nat->(lh fu).L 6:=Fx.lq (qar fu) (qjs fu) (fun r0=>[(z17 fu r0).s,(z18 fu fu).s])
def ze2:=(lh fu).fi (qd5 fu) [(z16 fu fu).s] call71
def z2n:IF:=⟨.fn 70,[wS,wS],[],_,RS.mk (.h (.prod wI wI)) []⟩
def ze3:Fx wG z2n:=fx f70 70 func70 [(z14 fu).p,qp5.p,(ze2 fu).p] false [] ap [(ao [(0,976),(0,977),(0,489),(2,122),(1,61),(0,31)],⟨33,[(4,.ptr 32 0),(5,.own 33),(6,wH)],[(32,.dat (.prod wI wI) 28),(33,.row .str 9)],64,[]⟩)]
def z2o:Nat->(ze3 fu).L 0:=Fx.lq (qd4 fu) (qqo fu) (fun r0=>[r0.s])
def z2p:=(ze3 fu).fi (qjr fu) [(z2o fu fu).s] call70
def z2q:IF:=⟨.fn 39,[.h wL],[],_,RS.mk (.h (.prod wI wI)) []⟩
def ze4:Fx wG z2q:=fx f39 39 func39 [qp5.p,(z2p fu).p] false [] ap [(ao [(0,464),(0,465),(0,233),(2,58),(1,29),(0,15)],⟨34,[(0,.h wL),(2,.ptr 32 0),(3,wH)],[(32,.dat (.prod wI wI) 28)],64,[]⟩)]
def z2r:Nat->(ze4 fu).L 0:=Fx.lq (qd3 fu) (qqn fu) (fun r0=>[r0.s])
def z2s:=(ze4 fu).fi (qjq fu) [(z2r fu fu).s] call39
def z2t:IF:=⟨.fn 40,[.h wL],[],_,RS.mk (.own 0) [(0,.row .byte 5)]⟩
def qp7:Fx wG z2t:=fx f40 40 func40 [(ze2 fu).p] false [] ap [(ao [(0,59696),(0,59697),(0,29849),(2,7462),(1,3731),(1,466),(0,467),(2,58),(1,29),(0,15)],⟨40,[(0,.h wL),(3,wS),(4,wH),(5,.own 32),(6,wH)],[(32,.row .str 9)],64,[]⟩),(ao [(0,464),(0,465),(0,233),(2,58),(1,29),(0,15)],⟨40,[(0,.h wL),(3,wS),(4,wH)],[],64,[]⟩)]
def z2v(r0:(qp7 fu).L 1):Nat->(qp7 fu).L 0:=Fx.lq (qas fu r0.f) (qqs fu r0.f) (fun r1=>[r1.s,r0.s])
def z2u:Nat->(qp7 fu).L 1:=Fx.lq (xg fu) (qqr fu) (fun r0=>[(z2v fu r0 fu).s])
def z2w:=(qp7 fu).fi (qqq fu) [(z2u fu fu).s] call40
def z2y:IF:=⟨.fn 54,[.h wB,wH],[],_,RS.mk (.h .bool) []⟩
def z2x:Fx wG z2y:=fx f54 54 func54 [] false [] ap []
def z2z:=z2x.fi qjo [] call54
def z23:IF:=⟨.fn 41,[.h wB],[],_,RS.mk (.h (.prod wI wI)) []⟩
def qp8(fu:Nat):Fx wG z23:=fx f41 41 func41 [z2z.p,qp5.p] false [] ap [(ao [(0,7461),(0,3731),(1,466),(0,467),(2,58),(1,29),(0,15)],⟨37,[(0,.h wB),(2,.ptr 32 0),(3,wH),(4,wH),(29,.h .bool)],[(32,.dat (.prod wI wI) 28)],64,[]⟩),(ao [(0,464),(0,465),(0,233),(2,58),(1,29),(0,15)],⟨37,[(0,.h wB),(2,.ptr 32 0),(3,wH),(4,wH)],[(32,.dat (.prod wI wI) 28)],64,[]⟩)]
def z26(r0:(qp8 fu).L 1):(qp8 fu).L 0:=Fx.jm (qjz fu r0.f) [r0.s]
def z24:Nat->(qp8 fu).L 1:=Fx.lq (qea fu) (qqz fu) (fun r0=>[r0.s,(z26 fu r0).s])
def z27:=(qp8 fu).fi (qqy fu) [(z24 fu fu).s] call41
def z3a:IF:=⟨.fn 14,[.h (.prod wL wB)],[],_,RS.mk (.h (.prod wI wI)) []⟩
def z29:Fx wG z3a:=fx f14 14 func14 [(z2s fu).p,qp5.p,(z2w fu).p,(z27 fu).p] false [] ap []
def ze5:=(z29 fu).fi (se fu) [] call14
def ze6:IF:=⟨.fn 4,[.h (.prod wL wB),wS,wH],[],_,RS.mk (.h .bool) []⟩
def q1e:Fx wG ze6:=fx f4 4 func4 [(zev fu).p,(q06 fu).p,zew.p,(zex fu).p,(ze5 fu).p] false [] ap [(ao [(0,30),(0,31)],⟨68,[(1,wS),(2,wH),(3,.ptr 32 0)],[(32,.dat (.prod wL wB) 25)],64,[]⟩),(ao [(0,59),(0,15)],⟨68,[(1,wS),(2,wH),(3,.ptr 32 0),(29,.h .bool)],[(32,.dat (.prod wL wB) 25)],64,[]⟩)]
def z3c:(q1e fu).L 0:=Fx.jm (qq0 fu) []
def z3b:(q1e fu).L 1:=Fx.jm (qj0 fu) [(z3c fu).s]
def z3d:=(q1e fu).fi (qat fu) [(z3b fu).s] call4
def zgp:(ze6.e (qat fu)).Sound wG:=(z3d fu).h
def z3g:IF:=⟨.fn 151,[.h wB,.h .byte],[],_,RS.mk (wH) []⟩
def qdq(fu:Nat):Fx wG z3g:=fx f151 151 func151 [] false [] ap [(ao [(0,14924),(0,14925),(0,7463),(1,466),(0,467),(2,58),(1,29),(0,15)],⟨59,[(0,.h wB),(1,.h .byte),(5,wH),(6,wH),(7,.h .byte)],[],64,[]⟩),(ao [(0,7461),(0,3731),(1,466),(0,467),(2,58),(1,29),(0,15)],⟨59,[(0,.h wB),(1,.h .byte),(5,wH),(6,wH),(7,.h .byte),(34,.h .bool)],[],64,[]⟩),(ao [(0,464),(0,465),(0,233),(2,58),(1,29),(0,15)],⟨59,[(0,.h wB),(1,.h .byte),(5,wH),(6,wH)],[],64,[]⟩)]
def z3j(r0:(qdq fu).L 2):(qdq fu).L 0:=Fx.jm (quc fu r0.f) [r0.s]
def z3i(r0:(qdq fu).L 2):(qdq fu).L 1:=Fx.jm (qbv fu r0.f) [r0.s,(z3j fu r0).s]
def z3h:Nat->(qdq fu).L 2:=Fx.lq (qbu fu) (qub fu) (fun r0=>[(z3i fu r0).s])
def z3k:=(qdq fu).fi (qua fu) [(z3h fu fu).s] call151
def z3o:IF:=⟨.fn 150,[.h wB,.ptr 0 0],[(0,.cells [.h .byte] 5)],_,RS.mk (.tup [.own 1,.h (.prod wI wI)]) [(0,.cells [.h .byte] 5),(1,.row .byte 5)]⟩
def z3n:Fx wG z3o:=fx f150 150 func150 [(z3k fu).p,fp.p,zej.p] false [] ap []
def z3p:=(z3n fu).fi (ql4 fu) [] call150
def z3r:IF:=⟨.fn 153,[.h wB],[],_,RS.mk (.fn 193 [.ptr 0 0]) [(0,.cells [.h wB] 23)]⟩
def z3q:Fx wG z3r:=fx f153 153 func153 [] false [] ap []
def z3s:=z3q.fi qq2 [] call153
def ze7:IF:=⟨.yld 0,[.agg [.h .byte,.h .byte,.h .byte,.h .byte]],[(0,.loop .ready none 107 31 [(4,.ptr 1 0),(5,.ptr 2 0)] [13] 6 3),(1,.cells [.own 4] 23),(2,.cells [wH] 3),(3,.dfr),(4,.row .byte 5)],_,RS.mk (.c (.bool true)) [(0,.loop .ready none 107 31 [(4,.ptr 1 0),(5,.ptr 2 0)] [13] 6 3),(1,.cells [.own 5] 23),(2,.cells [wH] 3),(3,.dfr),(4,.dead),(5,.row .byte 5)]⟩
def z3u:Fx wG ze7:=fx f107 107 func107 [] false [([0,1,0,1,1,1,1],6)] (mc rfl ap) []
def z3v:EI wG ze7:=z3u.fiy gc [] 0 rfl [0,1,0,1,1,1,1] (by kernel_rfl) (by kernel_rfl) fun d d'=>by kernel_rfl
def z3w:IF:=⟨.fn 193,[.yld 0,.ptr 1 0],[(0,.loop .ready none 107 31 [(4,.ptr 2 0),(5,.ptr 3 0)] [13] 6 4),(1,.cells [.h wB] 23),(2,.cells [.own 5] 23),(3,.cells [wH] 3),(4,.dfr),(5,.row .byte 5)],_,RS.mk (.tup []) [(0,.loop .ready none 107 31 [(4,.ptr 2 0),(5,.ptr 3 0)] [13] 6 4),(1,.cells [.h wB] 23),(2,.cells [.own 6] 23),(3,.cells [wH] 3),(4,.dfr),(5,.dead),(6,.row .byte 5)]⟩
def xc(fu:Nat):Fx wG z3w:=fx f193 193 func193 [z3v.p] false [] ap [(ao [(0,9639),(2,602),(1,301),(0,151),(1,9),(2,2),(1,1)],⟨55,[(0,.yld 0),(1,.ptr 1 0),(3,wH),(4,wH),(14,.c (.int .i64 2))],[(0,.loop .ready none 107 31 [(4,.ptr 2 0),(5,.ptr 3 0)] [13] 6 4),(1,.cells [.h wB] 23),(2,.cells [.own 32] 23),(3,.cells [wH] 3),(4,.dfr),(5,.dead),(32,.row .byte 5)],64,[]⟩),(ao [(0,9639),(2,602),(1,301),(0,151),(1,9),(2,2),(1,1)],⟨55,[(0,.yld 0),(1,.ptr 1 0),(3,wH),(4,wH),(14,.c (.int .i64 1))],[(0,.loop .ready none 107 31 [(4,.ptr 2 0),(5,.ptr 3 0)] [13] 6 4),(1,.cells [.h wB] 23),(2,.cells [.own 32] 23),(3,.cells [wH] 3),(4,.dfr),(5,.dead),(32,.row .byte 5)],64,[]⟩),(ao [(0,9639),(2,602),(1,301),(0,151),(1,9),(2,2),(1,1)],⟨55,[(0,.yld 0),(1,.ptr 1 0),(3,wH),(4,wH),(14,.c (.int .i64 0))],[(0,.loop .ready none 107 31 [(4,.ptr 2 0),(5,.ptr 3 0)] [13] 6 4),(1,.cells [.h wB] 23),(2,.cells [.own 32] 23),(3,.cells [wH] 3),(4,.dfr),(5,.dead),(32,.row .byte 5)],64,[]⟩),(ao [(0,16),(0,17),(0,9),(2,2),(1,1)],⟨55,[(0,.yld 0),(1,.ptr 1 0)],[(0,.loop .ready none 107 31 [(4,.ptr 2 0),(5,.ptr 3 0)] [13] 6 4),(1,.cells [.h wB] 23),(2,.cells [.own 32] 23),(3,.cells [wH] 3),(4,.dfr),(5,.dead),(32,.row .byte 5)],64,[]⟩)]
def z30(r0:(xc fu).L 3):(xc fu).L 0:=Fx.jm (sg fu r0.f) [r0.s]
def z3z(r0:(xc fu).L 3):(xc fu).L 1:=Fx.jm (qaw fu r0.f) [(z30 fu r0).s]
def z3y(r0:(xc fu).L 3):(xc fu).L 2:=Fx.jm (qav fu r0.f) [(z3z fu r0).s]
def z3x:Nat->(xc fu).L 3:=Fx.lq (nw fu) (sf fu) (fun r0=>[(z3y fu r0).s])
def z31:=(xc fu).fi (qq3 fu) [(z3x fu fu).s] call193
def z36:IF:=⟨.fn 107,[.h wB],[],_,RS.mk (.tup [.own 0,.h (.prod wI wI)]) [(0,.row .byte 5)]⟩
def z35:Fx wG z36:=fx f107 107 func107 [fp.p,z3s.p,(z31 fu).p,gw.p] false [([0,1,0,1,1,1,1],6)] (mc rfl ap) []
def z38:=(z35 fu).fi (qj2 fu) [] call107
def z4b:IF:=⟨.fn 155,[.h wB],[],_,RS.mk (.h .bool) []⟩
def z4a:Fx wG z4b:=fx f155 155 func155 [] false [] ap []
def ze8:=z4a.fi qbp [] call155
def z4c:IF:=⟨.fn 156,[.h .byte,.h wB],[],_,RS.mk (.own 0) [(0,.row .byte 5)]⟩
def ze9:Fx wG z4c:=fx f156 156 func156 [ze8.p,qi4.p,zd1.p] false [] ap [(ao [(0,28),(0,29),(0,15)],⟨39,[(0,.h .byte),(5,.h .bool)],[],64,[]⟩)]
def z4d:ze9.L 0:=Fx.jn uy [] fun d=>by kernel_rfl
def z4e:=ze9.fi qlh [(z4d).s] call156
def z4g:IF:=⟨.fn 109,[.h wB],[],_,RS.mk (.tup [.own 0,.h (.prod wI wI)]) [(0,.row .byte 5)]⟩
def xd(fu:Nat):Fx wG z4g:=fx f109 109 func109 [fp.p,ze8.p,z4e.p,gw.p] false [] ap [(ao [(0,512638),(0,512639),(1,2002),(0,2003),(2,250),(1,125),(0,63)],⟨67,[(0,.h wB),(3,.ptr 32 0),(4,.own 33),(5,wH),(6,wH),(8,.own 34)],[(32,.dat (.prod wI wI) 28),(33,.row .byte 5),(34,.row .byte 5)],64,[]⟩),(ao [(0,512636),(0,512637),(0,256319),(1,2002),(0,2003),(2,250),(1,125),(0,63)],⟨67,[(0,.h wB),(3,.ptr 32 0),(4,.own 33),(5,wH),(6,wH),(8,.own 34),(9,wH)],[(32,.dat (.prod wI wI) 28),(33,.row .byte 5),(34,.row .byte 5)],64,[]⟩),(ao [(0,256317),(0,128159),(1,2002),(0,2003),(2,250),(1,125),(0,63)],⟨67,[(0,.h wB),(3,.ptr 32 0),(4,.own 34),(5,wH),(6,wH),(8,.own 33),(9,.c (.int .i64 76)),(46,.h .bool)],[(32,.dat (.prod wI wI) 28),(33,.row .byte 5),(34,.row .byte 5)],64,[]⟩),(ao [(0,2000),(0,2001),(0,1001),(2,250),(1,125),(0,63)],⟨67,[(0,.h wB),(3,.ptr 32 0),(4,.own 33),(5,wH),(6,wH)],[(32,.dat (.prod wI wI) 28),(33,.row .byte 5)],64,[]⟩)]
def z4k(r0:(xd fu).L 3):(xd fu).L 0:=Fx.jm (qfq fu r0.f) [r0.s]
def z4j(r0:(xd fu).L 3):(xd fu).L 1:=Fx.jm (qfp fu r0.f) [(z4k fu r0).s]
def z4i(r0:(xd fu).L 3):(xd fu).L 2:=Fx.jm (qfo fu r0.f) [(z4j fu r0).s]
def z4h:Nat->(xd fu).L 3:=Fx.lq (sr fu) (qle fu) (fun r0=>[r0.s,(z4i fu r0).s])
def z4l:=(xd fu).fi (qld fu) [(z4h fu fu).s] call109
end
end
noncomputable section
open Go.Proofs
set_option linter.unusedVariables false
set_option maxRecDepth 100000
set_option maxHeartbeats 2000000
section
variable(fu:Nat)
def z4q:IF:=⟨.fn 17,[.h wB,wS],[],_,RS.mk (.tup [.own 0,.h (.prod wI wI)]) [(0,.row .byte 5)]⟩
def z4p:Fx wG z4q:=fx Tryz.f17 17 Tryz.func17 [(zei fu).p,jk.p,(z3p fu).p,(z38 fu).p,(z4l fu).p] false [] ap []
def z4r:=(z4p fu).fi (qge fu) [] Tryz.call17
def zfa:IF:=⟨.fn 6,[.h wB,wS,wS],[],_,RS.mk (.h .bool) []⟩
def q1f:Fx wG zfa:=fx Tryz.f6 6 Tryz.func6 [(zev fu).p,(z4r fu).p,(zex fu).p,(ze5 fu).p] false [] ap [(ao [(0,126),(0,127)],⟨81,[(1,wS),(2,wS),(7,.own 32),(9,.own 33)],[(32,.row .byte 5),(33,.row .byte 5)],64,[]⟩),(ao [(0,125),(0,63)],⟨81,[(1,wS),(2,wS),(7,.own 32),(8,.ptr 33 0),(9,.own 34),(36,.h .bool)],[(32,.row .byte 5),(33,.dat (.prod wI wI) 28),(34,.row .byte 5)],64,[]⟩)]
def z4t:(q1f fu).L 0:=Fx.jm (qq1 fu) []
def z4s:(q1f fu).L 1:=Fx.jm (qeb fu) [(z4t fu).s]
def z4u:=(q1f fu).fi (qau fu) [(z4s fu).s] Tryz.call6
def zgq:(zfa.e (qau fu)).Sound wG:=(z4u fu).h
end
end
end Go.Sym
