/- What the claim rests on, part 4: gathered texts. -/
import Derived.Shelf.LaysC
import Derived.Shelf.LaysM
import Derived.Shelf.SlGeneric
import Derived.Shelf.SlLaysF0
import Derived.Ground.NamesProg
import Derived.Test.YtbcijcbgdaggdabGreatDoorProg
import Derived.Below
import Derived.Tactics
import Derived.Tactics2
import Derived.Laws.AppendOwn
import Derived.Shelf.Strconv.Itoa4
import Derived.Shelf.Bytes.SlIndexWhole
import Derived.Shelf.Strconv.AtoiAll
import Derived.Shelf.Strconv.ErrVarAll
import Derived.Shelf.SlicesE.Clone
import Derived.Shelf.SlSortCmp.NoneTotal
import Derived.Shelf.Strings.BuilderCap
import Derived.Shelf.Unicode.DecodeAny
import Derived.Laws.DeepStrings4
import Derived.Deep.LoopGhost
import Derived.Deep.DeepCutAuto
import Derived.Deep.DeepFit
import Derived.Deep.DeepMust
import Derived.Shelf.Unicode.ValidAny
import Derived.Shelf.Strings.Count
import Derived.Deep.OwnRows
import Derived.Laws.CopyRow
import Derived.Laws.IdiomStrings
import Derived.Laws.CopyOwn
import Derived.Lib.SlBytesConst
import Derived.Test.YtbcijcbgdaggdabGreatDoorRows
import Derived.Defers
import Derived.Laws.Pointers
import Derived.Laws.LoneSync
import Derived.RegionTactic
import Derived.RegionCalls
import Derived.ChangeAlike
import Derived.Laws.NewBlocks
import Derived.Laws.ByValue
import Derived.Shelf.Strings.Replace
import Derived.Test.YtbcijcbgdaggdabGreatDoorSyU3
set_option maxRecDepth 100000
set_option linter.defProp false
set_option linter.unusedSimpArgs false
set_option linter.unusedVariables false
namespace Go.Proofs
open Go.Shelf
def Tryz.lfn{α:Type}{a:Option α}{b c:α}(h:a=some b)(e:b=c:=by kernel_rfl):a=some c:=h.trans (congrArg some e)
def Tryz.uniR:Go.Shelf.Ren:=⟨fun|115=>230|129=>272|138=>116|143=>118|154=>75|155=>40|165=>117|166=>42|167=>45|169=>46|171=>193|172=>81|185=>196|187=>229|195=>159|196=>108|197=>119|205=>210|217=>76|218=>160|219=>162|224=>204|225=>203|240=>77|241=>161|243=>228|244=>127|245=>128|246=>255|247=>168|253=>231|254=>232|255=>256|259=>153|260=>163|266=>120|267=>205|270=>250|276=>121|277=>202|279=>169|280=>170|281=>171|282=>172|283=>281|284=>282|285=>283|286=>284|287=>208|291=>257|314=>243|316=>209|317=>299|318=>300|319=>301|320=>302|321=>245|322=>246|337=>315|338=>316|n=>n,fun|0=>0|2=>2|3=>3|4=>4|5=>5|9=>9|12=>12|20=>20|21=>21|37=>23|46=>197|51=>200|53=>186|70=>81|72=>83|75=>86|76=>87|80=>91|85=>204|105=>158|119=>193|127=>129|138=>195|139=>196|143=>268|145=>270|146=>265|164=>160|167=>203|168=>206|171=>312|173=>314|175=>229|210=>232|212=>338|213=>339|232=>354|233=>355|n=>n,fun|1=>2|3=>0|4=>1|15=>3|16=>4|17=>5|18=>6|19=>7|n=>n⟩
abbrev Tryz.laysM171_ren:Go.Shelf.Ren:=Tryz.uniR
def Tryz.laysM171:Go.Proofs.LaysM.n171 Tryz.prog Tryz.laysM171_ren:={
 mixed:=by kernel_rfl
 f129:=Tryz.lfn Tryz.func272
 f171:=Tryz.lfn Tryz.func193
 f243:=Tryz.lfn Tryz.func228
 f246:=Tryz.lfn Tryz.func255
 f283:=Tryz.lfn Tryz.func281
 f284:=Tryz.lfn Tryz.func282
 f285:=Tryz.lfn Tryz.func283
 f286:=Tryz.lfn Tryz.func284
 f317:=Tryz.lfn Tryz.func299
 f318:=Tryz.lfn Tryz.func300
 f319:=Tryz.lfn Tryz.func301
 f320:=Tryz.lfn Tryz.func302
 f337:=Tryz.lfn Tryz.func315
 f338:=Tryz.lfn Tryz.func316
 t0:=Tryz.underlying0
 a0:=Tryz.isAgg0
 z0:=Tryz.sizeOf0
 v0:=Tryz.zeroValue0
 t2:=Tryz.underlying2
 a2:=Tryz.isAgg2
 z2:=Tryz.sizeOf2
 v2:=Tryz.zeroValue2
 t3:=Tryz.underlying3
 a3:=Tryz.isAgg3
 z3:=Tryz.sizeOf3
 v3:=Tryz.zeroValue3
 t4:=Tryz.underlying4
 a4:=Tryz.isAgg4
 z4:=Tryz.sizeOf4
 v4:=Tryz.zeroValue4
 t5:=Tryz.underlying5
 a5:=Tryz.isAgg5
 z5:=Tryz.sizeOf5
 v5:=Tryz.zeroValue5
 t9:=Tryz.underlying9
 a9:=Tryz.isAgg9
 z9:=Tryz.sizeOf9
 v9:=Tryz.zeroValue9
 t20:=Tryz.underlying20
 a20:=Tryz.isAgg20
 z20:=Tryz.sizeOf20
 v20:=Tryz.zeroValue20
 t37:=Tryz.underlying23
 a37:=Tryz.isAgg23
 z37:=Tryz.sizeOf23
 v37:=Tryz.zeroValue23
 t46:=Tryz.underlying197
 a46:=Tryz.isAgg197
 z46:=Tryz.sizeOf197
 v46:=Tryz.zeroValue197
 t51:=Tryz.underlying200
 a51:=Tryz.isAgg200
 z51:=Tryz.sizeOf200
 v51:=Tryz.zeroValue200
 t53:=Tryz.underlying186
 a53:=Tryz.isAgg186
 z53:=Tryz.sizeOf186
 v53:=Tryz.zeroValue186
 t171:=Tryz.underlying312
 a171:=Tryz.isAgg312
 z171:=Tryz.sizeOf312
 v171:=Tryz.zeroValue312
 t173:=Tryz.underlying314
 a173:=Tryz.isAgg314
 z173:=Tryz.sizeOf314
 v173:=Tryz.zeroValue314
 t212:=Tryz.underlying338
 a212:=Tryz.isAgg338
 z212:=Tryz.sizeOf338
 v212:=Tryz.zeroValue338
 t213:=Tryz.underlying339
 a213:=Tryz.isAgg339
 z213:=Tryz.sizeOf339
 t232:=Tryz.underlying354
 a232:=Tryz.isAgg354
 z232:=Tryz.sizeOf354
 v232:=Tryz.zeroValue354
 t233:=Tryz.underlying355
 a233:=Tryz.isAgg355
 z233:=Tryz.sizeOf355
 v233:=Tryz.zeroValue355
 g17:=by kernel_rfl
 g18:=by kernel_rfl
 g19:=by kernel_rfl
 i0:=by kernel_rfl
 i2:=by kernel_rfl
 i3:=by kernel_rfl
 i4:=by kernel_rfl
 i5:=by kernel_rfl
 i9:=by kernel_rfl
 i20:=by kernel_rfl
 i37:=by kernel_rfl
 i46:=by kernel_rfl
 i51:=by kernel_rfl
 i53:=by kernel_rfl
 i171:=by kernel_rfl
 i173:=by kernel_rfl
 i212:=by kernel_rfl
 i232:=by kernel_rfl
 i233:=by kernel_rfl
 m17:=by kernel_rfl
 m18:=by kernel_rfl
 m19:=by kernel_rfl }
abbrev Tryz.laysC172_ren:Go.Shelf.Ren:=Tryz.uniR
def Tryz.laysC172:Go.Proofs.LaysC.n172 Tryz.prog Tryz.laysC172_ren:={ Tryz.laysM171 with
 f172:=Tryz.lfn Tryz.func81
 f205:=Tryz.lfn Tryz.func210
 f244:=Tryz.lfn Tryz.func127
 f245:=Tryz.lfn Tryz.func128
 f247:=Tryz.lfn Tryz.func168
 f279:=Tryz.lfn Tryz.func169
 f280:=Tryz.lfn Tryz.func170
 f281:=Tryz.lfn Tryz.func171
 f282:=Tryz.lfn Tryz.func172
 f287:=Tryz.lfn Tryz.func208
 f316:=Tryz.lfn Tryz.func209
 f321:=Tryz.lfn Tryz.func245
 f322:=Tryz.lfn Tryz.func246
 t21:=Tryz.underlying21
 a21:=Tryz.isAgg21
 z21:=Tryz.sizeOf21
 v21:=Tryz.zeroValue21
 t75:=Tryz.underlying86
 a75:=Tryz.isAgg86
 z75:=Tryz.sizeOf86
 v75:=Tryz.zeroValue86
 t76:=Tryz.underlying87
 a76:=Tryz.isAgg87
 z76:=Tryz.sizeOf87
 v76:=Tryz.zeroValue87
 t85:=Tryz.underlying204
 a85:=Tryz.isAgg204
 z85:=Tryz.sizeOf204
 v85:=Tryz.zeroValue204
 t127:=Tryz.underlying129
 a127:=Tryz.isAgg129
 z127:=Tryz.sizeOf129
 v127:=Tryz.zeroValue129
 t143:=Tryz.underlying268
 a143:=Tryz.isAgg268
 z143:=Tryz.sizeOf268
 v143:=Tryz.zeroValue268
 t145:=Tryz.underlying270
 a145:=Tryz.isAgg270
 z145:=Tryz.sizeOf270
 v145:=Tryz.zeroValue270
 t167:=Tryz.underlying203
 a167:=Tryz.isAgg203
 z167:=Tryz.sizeOf203
 v167:=Tryz.zeroValue203
 t168:=Tryz.underlying206
 a168:=Tryz.isAgg206
 z168:=Tryz.sizeOf206
 v168:=Tryz.zeroValue206
 t175:=Tryz.underlying229
 a175:=Tryz.isAgg229
 z175:=Tryz.sizeOf229
 v175:=Tryz.zeroValue229
 t210:=Tryz.underlying232
 a210:=Tryz.isAgg232
 z210:=Tryz.sizeOf232
 v210:=Tryz.zeroValue232
 g15:=by kernel_rfl
 g16:=by kernel_rfl
 t80:=Tryz.underlying91
 a80:=Tryz.isAgg91
 z80:=Tryz.sizeOf91
 v80:=Tryz.zeroValue91
 i21:=by kernel_rfl
 i75:=by kernel_rfl
 i76:=by kernel_rfl
 i80:=by kernel_rfl
 i85:=by kernel_rfl
 i127:=by kernel_rfl
 i143:=by kernel_rfl
 i145:=by kernel_rfl
 i167:=by kernel_rfl
 i168:=by kernel_rfl
 i175:=by kernel_rfl
 i210:=by kernel_rfl
 m15:=by kernel_rfl
 m16:=by kernel_rfl
 c0:=by kernel_rfl
 c2:=by kernel_rfl
 c3:=by kernel_rfl
 c4:=by kernel_rfl
 c5:=by kernel_rfl
 c9:=by kernel_rfl
 c20:=by kernel_rfl
 c21:=by kernel_rfl
 c37:=by kernel_rfl
 c46:=by kernel_rfl
 c51:=by kernel_rfl
 c53:=by kernel_rfl
 c75:=by kernel_rfl
 c76:=by kernel_rfl
 c80:=by kernel_rfl
 c85:=by kernel_rfl
 c127:=by kernel_rfl
 c143:=by kernel_rfl
 c145:=by kernel_rfl
 c167:=by kernel_rfl
 c168:=by kernel_rfl
 c171:=by kernel_rfl
 c173:=by kernel_rfl
 c175:=by kernel_rfl
 c210:=by kernel_rfl
 c212:=by kernel_rfl
 c213:=by kernel_rfl
 c232:=by kernel_rfl
 c233:=by kernel_rfl }
abbrev Tryz.lays185_ren:Go.Shelf.Ren:=Tryz.uniR
def Tryz.lays185:Go.Proofs.Lays.n185 Tryz.prog Tryz.lays185_ren:={ Tryz.laysM171 with
 f115:=Tryz.lfn Tryz.func230
 f185:=Tryz.lfn Tryz.func196
 f187:=Tryz.lfn Tryz.func229
 f224:=Tryz.lfn Tryz.func204
 f253:=Tryz.lfn Tryz.func231
 f254:=Tryz.lfn Tryz.func232
 f255:=Tryz.lfn Tryz.func256
 f291:=Tryz.lfn Tryz.func257
 t146:=Tryz.underlying265
 a146:=Tryz.isAgg265
 z146:=Tryz.sizeOf265
 v146:=Tryz.zeroValue265
 g1:=by kernel_rfl }
abbrev Tryz.lays138_ren:Go.Shelf.Ren:=Tryz.uniR
def Tryz.lays138:Go.Proofs.Lays.n138 Tryz.prog Tryz.lays138_ren:={ Tryz.laysM171,Tryz.lays185 with
 f138:=Tryz.lfn Tryz.func116
 f143:=Tryz.lfn Tryz.func118
 f195:=Tryz.lfn Tryz.func159
 f217:=Tryz.lfn Tryz.func76
 f218:=Tryz.lfn Tryz.func160
 f219:=Tryz.lfn Tryz.func162
 f225:=Tryz.lfn Tryz.func203
 f266:=Tryz.lfn Tryz.func120
 f267:=Tryz.lfn Tryz.func205
 f314:=Tryz.lfn Tryz.func243 }
abbrev Tryz.lays165_ren:Go.Shelf.Ren:=Tryz.uniR
def Tryz.lays165:Go.Proofs.Lays.n165 Tryz.prog Tryz.lays165_ren:={ Tryz.laysM171 with
 f165:=Tryz.lfn Tryz.func117
 f240:=Tryz.lfn Tryz.func77
 f241:=Tryz.lfn Tryz.func161
 f276:=Tryz.lfn Tryz.func121
 f277:=Tryz.lfn Tryz.func202
 t70:=Tryz.underlying81
 a70:=Tryz.isAgg81
 z70:=Tryz.sizeOf81
 v70:=Tryz.zeroValue81
 t72:=Tryz.underlying83
 a72:=Tryz.isAgg83
 z72:=Tryz.sizeOf83
 v72:=Tryz.zeroValue83
 t164:=Tryz.underlying160
 a164:=Tryz.isAgg160
 z164:=Tryz.sizeOf160
 v164:=Tryz.zeroValue160 }
abbrev Tryz.lays169_ren:Go.Shelf.Ren:=Tryz.uniR
def Tryz.lays169:Go.Proofs.Lays.n169 Tryz.prog Tryz.lays169_ren:={ Tryz.laysM171,Tryz.lays165,Tryz.laysC172 with
 f169:=Tryz.lfn Tryz.func46 }
abbrev Tryz.lays196_ren:Go.Shelf.Ren:=Tryz.uniR
def Tryz.lays196:Go.Proofs.Lays.n196 Tryz.prog Tryz.lays196_ren:={ Tryz.laysM171 with
 f196:=Tryz.lfn Tryz.func108
 f259:=Tryz.lfn Tryz.func153
 t12:=Tryz.underlying12
 a12:=Tryz.isAgg12
 z12:=Tryz.sizeOf12
 v12:=Tryz.zeroValue12
 t119:=Tryz.underlying193
 a119:=Tryz.isAgg193
 z119:=Tryz.sizeOf193
 t138:=Tryz.underlying195
 a138:=Tryz.isAgg195
 z138:=Tryz.sizeOf195
 v138:=Tryz.zeroValue195
 t139:=Tryz.underlying196
 a139:=Tryz.isAgg196
 z139:=Tryz.sizeOf196
 v139:=Tryz.zeroValue196
 g3:=by kernel_rfl
 g4:=by kernel_rfl }
abbrev Tryz.lays197_ren:Go.Shelf.Ren:=Tryz.uniR
def Tryz.lays197:Go.Proofs.Lays.n197 Tryz.prog Tryz.lays197_ren:={ Tryz.laysM171,Tryz.laysC172,Tryz.lays196 with
 f197:=Tryz.lfn Tryz.func119
 f260:=Tryz.lfn Tryz.func163
 t105:=Tryz.underlying158
 a105:=Tryz.isAgg158
 z105:=Tryz.sizeOf158
 v105:=Tryz.zeroValue158 }
abbrev Tryz.lays155_ren:Go.Shelf.Ren:=Tryz.uniR
def Tryz.lays155:Go.Proofs.Lays.n155 Tryz.prog Tryz.lays155_ren:={ Tryz.laysM171,Tryz.lays138,Tryz.lays165,Tryz.lays169,Tryz.lays197,Tryz.lays185,Tryz.laysC172,Tryz.lays196 with
 f154:=Tryz.lfn Tryz.func75
 f155:=Tryz.lfn Tryz.func40
 f166:=Tryz.lfn Tryz.func42 }
def Tryz.sortP_ren:Go.Shelf.Ren:=⟨fun|6=>220|15=>248|14=>247|28=>271|29=>272|20=>263|21=>264|22=>265|23=>266|24=>267|25=>268|26=>269|27=>270|46=>288|47=>289|48=>290|49=>291|50=>292|57=>304|n=>n,fun|22=>176|24=>178|25=>237|3=>3|39=>197|0=>0|53=>200|55=>186|4=>4|46=>289|45=>288|50=>213|5=>5|9=>9|66=>317|70=>321|76=>340|77=>143|n=>n,fun|n=>n⟩
def Tryz.sortP:Go.Proofs.SlLaysF0.n6 Tryz.prog Tryz.sortP_ren:={
 mixed:=by kernel_rfl
 f6:=⟨Tryz.f220.name,by decide,Tryz.lfn Tryz.func220⟩
 f14:=⟨Tryz.f247.name,by decide,Tryz.lfn Tryz.func247⟩
 f15:=Tryz.lfn Tryz.func248
 f20:=⟨Tryz.f263.name,by decide,Tryz.lfn Tryz.func263⟩
 f21:=⟨Tryz.f264.name,by decide,Tryz.lfn Tryz.func264⟩
 f22:=⟨Tryz.f265.name,by decide,Tryz.lfn Tryz.func265⟩
 f23:=⟨Tryz.f266.name,by decide,Tryz.lfn Tryz.func266⟩
 f24:=⟨Tryz.f267.name,by decide,Tryz.lfn Tryz.func267⟩
 f25:=⟨Tryz.f268.name,by decide,Tryz.lfn Tryz.func268⟩
 f26:=⟨Tryz.f269.name,by decide,Tryz.lfn Tryz.func269⟩
 f27:=⟨Tryz.f270.name,by decide,Tryz.lfn Tryz.func270⟩
 f28:=Tryz.lfn Tryz.func271
 f29:=Tryz.lfn Tryz.func272
 f46:=⟨Tryz.f288.name,by decide,Tryz.lfn Tryz.func288⟩
 f47:=Tryz.lfn Tryz.func289
 f48:=Tryz.lfn Tryz.func290
 f49:=⟨Tryz.f291.name,by decide,Tryz.lfn Tryz.func291⟩
 f50:=⟨Tryz.f292.name,by decide,Tryz.lfn Tryz.func292⟩
 f57:=⟨Tryz.f304.name,by decide,Tryz.lfn Tryz.func304⟩
 t0:=Tryz.underlying0
 a0:=Tryz.isAgg0
 z0:=Tryz.sizeOf0
 v0:=Tryz.zeroValue0
 t3:=Tryz.underlying3
 a3:=Tryz.isAgg3
 z3:=Tryz.sizeOf3
 v3:=Tryz.zeroValue3
 t4:=Tryz.underlying4
 a4:=Tryz.isAgg4
 z4:=Tryz.sizeOf4
 v4:=Tryz.zeroValue4
 t5:=Tryz.underlying5
 a5:=Tryz.isAgg5
 z5:=Tryz.sizeOf5
 v5:=Tryz.zeroValue5
 t9:=Tryz.underlying9
 a9:=Tryz.isAgg9
 z9:=Tryz.sizeOf9
 v9:=Tryz.zeroValue9
 t22:=Tryz.underlying176
 a22:=Tryz.isAgg176
 z22:=Tryz.sizeOf176
 v22:=Tryz.zeroValue176
 t25:=Tryz.underlying237
 a25:=Tryz.isAgg237
 z25:=Tryz.sizeOf237
 v25:=Tryz.zeroValue237
 t39:=Tryz.underlying197
 a39:=Tryz.isAgg197
 z39:=Tryz.sizeOf197
 v39:=Tryz.zeroValue197
 t45:=Tryz.underlying288
 a45:=Tryz.isAgg288
 z45:=Tryz.sizeOf288
 v45:=Tryz.zeroValue288
 t46:=Tryz.underlying289
 a46:=Tryz.isAgg289
 z46:=Tryz.sizeOf289
 v46:=Tryz.zeroValue289
 t50:=Tryz.underlying213
 a50:=Tryz.isAgg213
 z50:=Tryz.sizeOf213
 v50:=Tryz.zeroValue213
 t53:=Tryz.underlying200
 a53:=Tryz.isAgg200
 z53:=Tryz.sizeOf200
 v53:=Tryz.zeroValue200
 t55:=Tryz.underlying186
 a55:=Tryz.isAgg186
 z55:=Tryz.sizeOf186
 v55:=Tryz.zeroValue186
 t66:=Tryz.underlying317
 a66:=Tryz.isAgg317
 z66:=Tryz.sizeOf317
 v66:=Tryz.zeroValue317
 t70:=Tryz.underlying321
 a70:=Tryz.isAgg321
 z70:=Tryz.sizeOf321
 v70:=Tryz.zeroValue321
 t76:=Tryz.underlying340
 a76:=Tryz.isAgg340
 z76:=Tryz.sizeOf340
 v76:=Tryz.zeroValue340
 t77:=Tryz.underlying143
 a77:=Tryz.isAgg143
 z77:=Tryz.sizeOf143
 v77:=Tryz.zeroValue143 }
end Go.Proofs
namespace Go.Sym
open Go.RowKit
variable[LC]
def dx.data{P:Program}{f:FuncId}{xs:List AV}{r:AV}
  (h:∀(w:World)(G:Gh)(vs:List Value),da G [] w->al xs G vs->Calls P f vs.toArray w fun e w'=>∃v,e = .returned v/\aj r G v/\ce w w'):dx P f xs [] r []:=by
 intro w G vs hm hr;refine(h w G vs hm hr).mono ?_;rintro e w' ⟨v,rfl,hv,hs⟩
 refine⟨v,G,rfl,?_,hv⟩;exact(qmb hm).extend (new:=[]) (Gh.le.refl G) hs (fun _ _ _ h => .inl h) (fun b o v hv=>by
  have hc:=hm.agree b o v hv;have hlt:=World.block_lt_of_cell? _ _ hc;rw[World.cell?_of_block (w:=w) (hs.block b hlt (fun h=>h))];exact hc) hm.one (fun n bx h=>by cases h) (fun n bx h=>by cases h) (fun n m bx bx' b h=>by cases h)
def ce.of_below{w w':World}(h:Below w.heap.size w w'):ce w w':=⟨h.os,h.tape,h.output,h.size,fun k hk _=>h.block k hk⟩
def ce.refl(w:World):ce w w:=⟨rfl,rfl,rfl,wF _,fun _ _ _=>rfl⟩
def dx.fresh{P:Program}{f:FuncId}{xs:List AV}{τ:Ty}{l:List τ.den}{E:TypeId}
  (h:∀(w:World)(G:Gh)(vs:List Value),da G [] w->al xs G vs->Calls P f vs.toArray w fun e w'=>∃ad c us,e = .returned (.slice ad l.length c)/\gz w' E τ.sz ad l.length c us/\al (l.flatMap τ.enc) G.data us/\(∀b,di ad=some b->w.heap.size<=b)/\ce w w') :
  dx P f xs [] (.own 0) [(0,.row τ l E)]:=by
 intro w G vs hm hr;refine(h w G vs hm hr).mono ?_;rintro e w' ⟨ad,c,us,rfl,hrow,hus,hb,hs⟩
 let G':Gh:={ imm:=G.imm,box:=fun _=>none,own:=fun m=>bif Nat.beq m 0 then some (ad,l.length,c) else none }
 have hself:(G'.own 0)=some (ad,l.length,c):=rfl;have hag:∀b o v,G.imm b o=some v->w'.cell? ⟨b,o,none⟩=some v:=fun b o v hv=>by
  have hc:=hm.agree b o v hv;have hlt:=World.block_lt_of_cell? _ _ hc;rw[World.cell?_of_block (w:=w) (hs.block b hlt (fun h=>h))];exact hc
 have hlt:∀b o v,G.imm b o=some v->b<w.heap.size:=fun b o v hv=>World.block_lt_of_cell? _ _ (hm.agree b o v hv)
 have hlk:∀m b,ae [(0,ah.row τ l E)] m=some b->m=0/\b = .row τ l E:=fun m b hh=>by
  simp only[ae]at hh;cases hb:Nat.beq 0 m
  ·rw[hb]at hh;cases hh
  ·rw[hb]at hh;simp only[qT,qI]at hh;exact⟨(qN hb).symm,hh.symm⟩
 have hat:G'.at 0 (.row τ l E)=di ad:=by
  simp only[Gh.at,hself];cases ad<;>rfl
 refine⟨.slice ad l.length c,G',rfl,⟨⟨hag,hm.one,fun m b hh => ?_,fun m m' b b' c' h1 h2 _ _ => ?_,LC.mono (fun _ _ _ h=>h) (fun b o v h=>hs.block b (hlt b o v h) fun h=>h) hm.tab⟩,⟨hs.os,hs.tape,hs.output,hs.size,fun k hk _=>hs.block k hk fun h=>h⟩,fun _ _ _ h=>h,fun _ _ _ h => .inl h,fun m b c' h1 h2 => ?_,fun _ _ _ h=>(by cases h),fun _ _ _ h=>(by cases h)⟩,ad,l.length,c,hself,rfl⟩
 ·obtain⟨rfl,rfl⟩:=hlk m b hh;refine c8.row hself hrow (al.data_le (fun _ _ _ h=>h) hus) fun b hb' o => ?_
  cases hq:G.imm b o with|none=>rfl|some v=>have:=hlt b o v hq;have:=hb b hb';omega
 ·obtain⟨rfl,_⟩:=hlk m b h1;obtain⟨rfl,_⟩:=hlk m' b' h2;rfl
 ·obtain⟨rfl,rfl⟩:=hlk m b h1;rw[hat]at h2;exact .inl (hb c' h2)
end Go.Sym
namespace Go.Sym
open Go.Proofs Go.RowKit Go.Sort
open Go.Proofs.Tryz
variable[LC]
def ce.below{w w':World}(h:ce w w'):Below w.heap.size w w':=⟨h.os,h.tape,h.output,h.size,fun k hk=>h.block k hk (fun h=>h)⟩
def da.still{G:Gh}{w w':World}(hm:da G [] w)(hs:ce w w'):da G [] w':=
 have hlt:∀b o v,G.imm b o=some v->w'.heap[b]? = w.heap[b]? := fun b o v hv=>hs.block b (World.block_lt_of_cell? _ _ (hm.agree b o v hv)) (fun h=>h)
 ⟨fun b o v hv=>by rw[World.cell?_of_block (w:=w) (hlt b o v hv)];exact hm.agree b o v hv,hm.one,fun n bx h=>(by cases h),fun n m bx bx' b h=>(by cases h),LC.mono (fun _ _ _ h=>h) hlt hm.tab⟩
def zm9{G:Gh}{w:World}(hm:da G [] w)(hg:LC.glob 5=some ⟨.int .u64,Lib.pow10Tab⟩)(hs:(5,20)∈LC.sizes):∃t fr,w.heap[5]? = some (.cells (Lib.pow10Tab.map fun z=>Value.int .u64 z).toArray t fr):=by
 obtain⟨_,cs,t,fr,hh,hz⟩:=hm.tab.2.2.2 _ hs;refine⟨t,fr,hh.trans ?_⟩;congr 2;apply Array.ext
 ·rw[hz];simp[Lib.pow10Tab]
 ·intro j h1 h2;have hj:j<Lib.pow10Tab.length:=by simpa using h2
  have h3:=hm.agree _ _ _ (hm.tab.1 _ _ _ hg j _ (List.getElem?_eq_getElem hj));rw[show j*(Ty.int .u64).sz=j from Nat.mul_one j]at h3
  simp only[World.cell?,hh]at h3;rw[Array.getElem?_eq_getElem h1]at h3;simp only[List.getElem_toArray,List.getElem_map];exact qJ h3
def q73{G:Gh}{w:World}(hm:da G [] w)(hg:LC.glob 5=some ⟨.int .u64,Lib.pow10Tab⟩)(hs:(5,20)∈LC.sizes)(n:Int)(h0 : -9223372036854775808<=n)(h1:n<=9223372036854775807) :
  Calls Tryz.prog 193 #[.int .i64 n] w fun e w'=>e = .returned (.string ⟨(Lib.itoa n).toArray⟩)/\ce w w':=
 (Any.strconv_Itoa Tryz.laysM171 n h0 h1 w (by
  unfold Lib.TabIs World.var?;obtain⟨t,fr,hh⟩:=zm9 hm hg hs;rw[show Tryz.prog.globalNamed _=some 5 by kernel_rfl,qB,hh])).mono fun e w'⟨he,k,os,hw⟩=>⟨he,by
   subst hw;refine⟨rfl,rfl,rfl,by simp[grow],fun j hj _ => ?_⟩
   show(w.heap++os)[j]? = _;rw[Array.getElem?_append_left hj]⟩
def q72:IF:=⟨.fn 193,[.h (.int .i64)],[],_,RS.mk (.h .str) []⟩
def zk1(hg:LC.glob 5=some ⟨.int .u64,Lib.pow10Tab⟩)(hs:(5,20)∈LC.sizes):(q72.e wq).Sound Tryz.prog:=fun d d' r h=>by
 have h:wq d.1=some r:=h;unfold wq at h;cases hd:decide (-9223372036854775808<=(show Int from d.1)/\(show Int from d.1)<=9223372036854775807)<;>rw[hd]at h<;>simp only[qT,qF,reduceCtorEq]at h
 have h:=qJ h;subst h;have hd:=of_decide_eq_true hd;refine⟨call193,dx.data fun w G vs hm hr => ?_⟩
 match vs,hr with
 |[v],⟨h1,_⟩=>
  have h1:v = .int .i64 d.1:=h1;subst h1;exact(q73 hm hg hs _ hd.1 hd.2).mono fun e w'⟨he,hw⟩=>⟨_,he,rfl,hw⟩
def zko{G:Gh}{w:World}(hm:da G [] w)(hi:2∈LC.ints){a b:Bs}{u v:Value}(hu:aj (.sl .byte a) G u)(hv:aj (.sl .byte b) G v)(h2:2<=b.length)(hb:b.length<=maxLen)(ha:a.length<4294967281) :
  Calls Tryz.prog 196 #[u,v] w fun e w'=>e = .returned (.int .i64 (Lib.index a b))/\ce w w':=by
 obtain⟨p,c,rfl,hc,hp⟩:jv 1 (Ty.byte.At G.imm) a u:=hu;obtain⟨q,d,rfl,hd,hq⟩:jv 1 (Ty.byte.At G.imm) b v:=hv;by_cases hlt:a.length<b.length
 ·have h:=Any.bytes_Index_longer Tryz.lays185 p q a.length c b.length d w h2 hlt (by unfold maxLen at hb;omega)
  rw[Lib.index_past (i:=0) (by intro e;subst e;simp at h2) (fun j hj=>absurd hj (Nat.not_lt_zero _)) (by simpa using hlt)]
  exact h.mono fun e w'⟨he,hw⟩=>⟨he,by subst hw;exact ce.refl _⟩
 ·rcases hp with rfl|⟨g,o,rfl,hcells⟩
  ·exact absurd (show([]:Bs).length<b.length from by show 0<_;omega) hlt
  rcases hq with rfl|⟨g',o',rfl,hcells'⟩
  ·exact absurd h2 (by show ¬2<=0;omega)
  obtain⟨k,hk⟩:=hm.tab.2.1 _ hi;have hk:=hm.agree _ _ _ hk;have bb:∀l:Bs,Lib.bytesOf (l.map fun x=>(x.toNat:Int))=l:=fun l=>by
   unfold Lib.bytesOf;rw[List.map_map];have:((fun n:Int=>UInt8.ofNat n.toNat) ∘ fun x:UInt8=>(x.toNat:Int))=id:=by funext x;simp
   rw[this,List.map_id]
  have cl:∀(l:Bs)(g o:Nat),(∀(j:Nat)(x:UInt8),l[j]? = some x->Ty.byte.At G.imm x g (o+j*1))->∀i,i<l.length->w.cell? ((⟨g,o,none⟩:Addr).add i)=some (.int .u8 ((l.map fun x=>(x.toNat:Int)).getD i 0)):=fun l g o h i hi=>by
   have h1:G.imm g (o+i*1)=some (.int .u8 l[i].toNat):=h i _ (List.getElem?_eq_getElem hi);have h1:=hm.agree _ _ _ h1;rw[Nat.mul_one]at h1;rw[Lib.add_plain',h1];simp[List.getD_eq_getElem?_getD,hi]
  have rg:∀l:Bs,∀x∈l.map (fun x=>(x.toNat:Int)),0<=x/\x<256:=fun l x hx=>by
   obtain⟨c,_,rfl⟩:=List.mem_map.1 hx;have:=c.toNat_lt;omega
  have h:=Any.bytes_Index_at Tryz.lays185 ⟨g,o,none⟩ ⟨g',o',none⟩ a.length c b.length d (a.map fun x=>(x.toNat:Int)) (b.map fun x=>(x.toNat:Int)) k w (by simp) (by simp) (rg a) (rg b) (cl a g o hcells) (cl b g' o' hcells') hc ha (by unfold maxLen at hb;omega) hk
  rw[bb,bb]at h;exact h.mono fun e w'⟨he,n,hw⟩=>⟨he,by subst hw;exact⟨rfl,rfl,rfl,wF _,fun _ _ _=>rfl⟩⟩
def q5w:IF:=⟨.fn 196,[.h (.list .byte),.h (.list .byte)],[],_,RS.mk (.h (.int .i64)) []⟩
def zhs(hi:2∈LC.ints):(q5w.e wh).Sound Tryz.prog:=fun d d' r h=>by
 obtain⟨a,b,_⟩:=d;have h:wh a b=some r:=h;unfold wh at h;cases hd:decide (2<=List.length (α:=UInt8) b/\List.length (α:=UInt8) a<4294967281/\List.length (α:=UInt8) b<=maxLen)<;>rw[hd]at h<;>simp only[qT,qF,reduceCtorEq]at h
 have h:=qJ h;subst h;have hd:=of_decide_eq_true hd;refine⟨call196,dx.data fun w G vs hm hr => ?_⟩
 match vs,hr with
 |[u,v],⟨h1,h2,_⟩=>
  exact(zko hm hi h1 h2 hd.1 hd.2.2 hd.2.1).mono fun e w'⟨he,hw⟩=>⟨_,he,rfl,hw⟩
end Go.Sym
namespace Go.Sym
open Go.Proofs Go.RowKit Go.Sort
variable[LC]
def ce.trans{w w1 w2:World}(h:ce w w1)(k:ce w1 w2):ce w w2:=
 ⟨k.os.trans h.os,k.tape.trans h.tape,k.output.trans h.output,Nat.le_trans h.size k.size,fun j hj _=>(k.block j (Nat.lt_of_lt_of_le hj h.size) (fun h=>h)).trans (h.block j hj (fun h=>h))⟩
def zhf{l:Bs}{v:Int}(h:Lib.atoiAll l = .ok v) : -9223372036854775808<=v/\v<=9223372036854775807:=by
 unfold Lib.atoiAll at h;split at h
 ·cases h
 ·simp only at h;split at h
  ·cases h
  ·cases h
  ·split at h
   ·cases h
   ·split at h
    ·cases h
    ·rename_i h1 h2;injection h with h
     split at h<;>rename_i h3
     ·simp only[h3,not_true_eq_false,false_and,true_and]at h1 h2;omega
     ·simp only[h3,not_false_eq_true,true_and,false_and]at h1 h2;omega
def zma{G:Gh}{w:World}(hm:da G [] w)(hg:LC.glob 5=some ⟨.int .u64,Lib.pow10Tab⟩)(hs:(5,20)∈LC.sizes)(h1:3∈LC.ifs)(h2:4∈LC.ifs)(s:Bs)(most:Int)(hl:s.length<=281474976710656) :
  Calls Tryz.prog 179 #[.string ⟨s.toArray⟩,.int .i64 most] w fun e w'=>e = .returned (.tuple #[.int .i64 (ge s most).1,.bool (ge s most).2])/\ce w w':=by
 have hsz:(⟨s.toArray⟩:ByteArray).size=s.length:=iw s;have hd:(⟨s.toArray⟩:ByteArray).data.toList=s:=by simp
 have bw:∀t:ByteArray,ce w (Lib.bytesWorld w 5 t):=fun t=>by
  refine⟨rfl,rfl,rfl,?_,fun j hj _ => ?_⟩
  ·simp[Lib.bytesWorld,World.freeze]
  ·show((w.heap.push _).modify w.heap.size _)[j]? = _;rw[Array.getElem?_modify,qW (by omega),Array.getElem?_push_lt (by omega)]
   exact(Array.getElem?_eq_getElem hj).symm
 have bad:(Calls Tryz.prog 81 #[.string ⟨s.toArray⟩] w fun e w'=>(∃n t v,e = .returned (.tuple #[.int .i64 n,.iface t v]))/\ce w w') ->
   Calls Tryz.prog 179 #[.string ⟨s.toArray⟩,.int .i64 most] w fun e w'=>e = .returned (.tuple #[.int .i64 0,.bool false])/\ce w w':=fun cA=>by
  clear hg hs hm
  go_enter Tryz.func179,Tryz.ntmps179
  go_wp2_with (go_at_call 81;refine cA.mono ?_;rintro e wa ⟨⟨n,t,v,rfl⟩,sa⟩)
  all_goals (clear cA;go_ret2;exact⟨rfl,sa⟩)
 unfold ge
 cases hA:Lib.atoiAll s with
 |ok v=>
  obtain⟨b1,b2⟩:=zhf hA;have cA:Calls Tryz.prog 81 #[.string ⟨s.toArray⟩] w fun e w'=>e = .returned (.tuple #[.int .i64 v,.nilIface])/\ce w w':=
   (Any.strconv_Atoi_ok Tryz.laysC172 ⟨s.toArray⟩ (by omega) v (by rw[hd];exact hA) w).mono fun e w'⟨he,hw⟩=>⟨he,by
    rcases hw with rfl|⟨t,rfl⟩
    ·exact ce.refl _
    ·exact bw t⟩
  have cI:∀w',ce w w'->Calls Tryz.prog 193 #[.int .i64 v] w' fun e w''=>e = .returned (.string ⟨(Lib.itoa v).toArray⟩)/\ce w' w'':=fun w' h=>q73 (hm.still h) hg hs v b1 b2
  have hse:(⟨(Lib.itoa v).toArray⟩:ByteArray)=⟨s.toArray⟩↔Lib.itoa v=s:=by
   constructor
   ·intro h;have:=congrArg (fun x:ByteArray=>x.data.toList) h;simpa using this
   ·intro h;rw[h]
  show Calls Tryz.prog 179 _ w fun e w'=>e = .returned (.tuple #[.int .i64 (if Lib.itoa v=s/\0<=v/\v<=most then(v,true) else(0,false)).1,.bool (if Lib.itoa v=s/\0<=v/\v<=most then(v,true) else(0,false)).2])/\ce w w'
  generalize Lib.itoa v=t at cI hse ⊢;obtain⟨r,hr⟩:∃r,r=(if t=s/\0<=v/\v<=most then(v,true) else(0,false)):=⟨_,rfl⟩
  rw[← hr];clear hA hg hs hm
  go_enter Tryz.func179,Tryz.ntmps179
  go_wp2_with (first|(go_at_call 81;refine cA.mono ?_;rintro e wa ⟨rfl,sa⟩)|(go_at_call 193;refine(cI _ (by assumption)).mono ?_;rintro e wb ⟨rfl,sb⟩))
  all_goals (clear cA cI;go_ret2)
  all_goals (by_cases q:t=s/\0<=v/\v<=most)
  all_goals first
   |(rw[qX q]at hr;subst hr;first|exact⟨rfl,sa.trans sb⟩|(exfalso;omega)|(exfalso;exact absurd q.1 (by assumption)))
   |(rw[qW q]at hr;subst hr;first|exact⟨rfl,sa.trans sb⟩|(exfalso;exact q ⟨by assumption,by omega,by omega⟩))
 |range=>
  obtain⟨te,pe,hv⟩:=hm.tab.2.2.1 _ h2;have cA:Calls Tryz.prog 81 #[.string ⟨s.toArray⟩] w fun e w'=>(∃n t v,e = .returned (.tuple #[.int .i64 n,.iface t v]))/\ce w w':=
   (Any.strconv_Atoi_range Tryz.laysC172 ⟨s.toArray⟩ (by omega) (by rw[hd];exact hA) _ w (hm.agree _ _ _ hv) (.inr ⟨_,_,rfl⟩)).mono fun e w'⟨N,he,_,_,hw⟩=>⟨⟨_,_,_,he⟩,ce.of_below hw⟩
  exact bad cA
 |_=>
  obtain⟨te,pe,hv⟩:=hm.tab.2.2.1 _ h1;have cA:Calls Tryz.prog 81 #[.string ⟨s.toArray⟩] w fun e w'=>(∃n t v,e = .returned (.tuple #[.int .i64 n,.iface t v]))/\ce w w':=
   (Any.strconv_Atoi_syntax Tryz.laysC172 ⟨s.toArray⟩ (by omega) (by rw[hd];exact hA) _ w (hm.agree _ _ _ hv) (.inr ⟨_,_,rfl⟩)).mono fun e w'⟨N,he,_,_,hw⟩=>⟨⟨_,_,_,he⟩,ce.of_below hw⟩
  exact bad cA
def q84:IF:=⟨.fn 179,[.h .str,.h (.int .i64)],[],_,RS.mk (.tup [.h (.int .i64),.h .bool]) []⟩
def zmc(hg:LC.glob 5=some ⟨.int .u64,Lib.pow10Tab⟩)(hs:(5,20)∈LC.sizes)(h1:3∈LC.ifs)(h2:4∈LC.ifs):(q84.e wg).Sound Tryz.prog:=fun d d' r h=>by
 obtain⟨s,most,_⟩:=d;have h:wg s most=some r:=h;unfold wg at h;cases hd:decide (List.length (α:=UInt8) s<=281474976710656)<;>rw[hd]at h<;>simp only[qT,qF,reduceCtorEq]at h
 have h:=qJ h;subst h;refine⟨Tryz.call179,dx.data fun w G vs hm hr => ?_⟩
 match vs,hr with
 |[u,v],⟨e1,e2,_⟩=>
  have e1:u = .string ⟨List.toArray s⟩:=e1;have e2:v = .int .i64 most:=e2;subst e1 e2;exact(zma hm hg hs h1 h2 s most (of_decide_eq_true hd)).mono fun e w'⟨he,hw⟩=>⟨_,he,⟨_,rfl,rfl,rfl,trivial⟩,hw⟩
end Go.Sym
namespace Go.Sym
open Go.Proofs Go.RowKit
variable[LC]
end Go.Sym
namespace Go.Sym
open Go.Proofs Go.RowKit Go.Sort
variable[LC]
def dx.inPlaceA{ys:List AV}{P:Program}{f:FuncId}{τ:Ty}{l l':List τ.den}{E:TypeId}(ac:l'.length=l.length)(h:∀(w:World)(G:Gh)(ad:Option Addr)(c:Nat)(us vs:List Value),gz w E τ.sz ad l.length c us->al (l.flatMap τ.enc) G.data us->al ys G vs ->
  Calls P f (Value.slice ad l.length c::vs).toArray w fun e w'=>e = .returned (.tuple #[])/\∃us',gz w' E τ.sz ad l.length c us'/\al (l'.flatMap τ.enc) G.data us'/\d9 (fun b=>di ad=some b) w w') :
  dx P f (.own 0::ys) [(0,.row τ l E)] (.tup []) [(0,.row τ l' E)]:=by
 intro w G vs hm hreps;have hl:ae [(0,ah.row τ l E)] 0=some (.row τ l E):=rfl;obtain⟨ad,c,us,h1,h3,h4,h5⟩:=(hm.holds 0 _ hl).rowAt
 match vs,hreps with
 |v::vs,hreps=>
  obtain⟨⟨a',n',c',q1,rfl⟩,hys⟩:=hreps;rw[h1]at q1;simp only[qI,qP]at q1;obtain⟨rfl,rfl,rfl⟩:=q1;refine(h w G ad c us vs h3 h4 hys).mono ?_;rintro e w' ⟨rfl,us',r1,r2,r3⟩
  refine⟨_,G,rfl,?_,#[],rfl,trivial⟩;have hself:=qmb hm;have hbox:c8 G w' 0 (.row τ l' E):=c8.row (by rw[ac];exact h1) (by rw[ac];exact r1) r2 (fun b hb=>h5 b hb)
  cases had:di ad with
  |none=>
   have hst:ce w w':=⟨r3.os,r3.tape,r3.output,r3.size,fun k hk _=>r3.block k hk (fun e=>by rw[had]at e;cases e)⟩
   have hf:=hself.extend (new:=[]) (Gh.le.refl G) hst (fun _ _ _ h => .inl h) (fun b o v hv=>by
    have hc:=hm.agree b o v hv;have hlt:=World.block_lt_of_cell? _ _ hc;rw[World.cell?_of_block (w:=w) (hst.block b hlt (fun h=>h))];exact hc) hm.one (fun n bx h=>by cases h) (fun n bx h=>by cases h) (fun n m bx bx' b h=>by cases h)
   have hlk:∀m b,ae [(0,ah.row τ l' E)] m=some b->m=0/\b = .row τ l' E:=fun m b hh=>by
    simp only[ae]at hh;cases hb:Nat.beq 0 m
    ·rw[hb]at hh;cases hh
    ·rw[hb]at hh;simp only[qT,qI]at hh;exact⟨(qN hb).symm,hh.symm⟩
   have hat:G.at 0 (.row τ l' E)=none:=by
    simp only[Gh.at,h1]
    cases ad with|none=>rfl|some a=>cases had
   refine⟨⟨hf.mem.agree,hf.mem.one,fun m b hh => ?_,fun m m' b b' c h1 h2 h3 _ => ?_,hf.mem.tab⟩,hf.bel,hf.imm_le,hf.imm_new,fun m b c h1 h2 => ?_,hf.keep,hf.keepOwn⟩
   ·obtain⟨rfl,rfl⟩:=hlk m b hh;exact hbox
   ·obtain⟨rfl,_⟩:=hlk m b h1;obtain⟨rfl,_⟩:=hlk m' b' h2;rfl
   ·obtain⟨rfl,rfl⟩:=hlk m b h1;rw[hat]at h2;cases h2
  |some B=>
   have hat:∀l:List τ.den,G.at 0 (.row τ l E)=some B:=fun l=>by
    simp only[Gh.at,h1]
    cases ad with
    |none=>cases had
    |some a=>exact had
   have hf:=hself.update (bx' := .row τ l' E) hl (hat l) (hat l') ⟨r3.os,r3.tape,r3.output,r3.size,fun k hk hne=>r3.block k hk (fun e=>by rw[had]at e;injection e with e;exact hne e.symm)⟩ hbox (h5 B had)
   have hlk:∀m b,ae [(0,ah.row τ l' E)] m=some b->ae (qt [(0,ah.row τ l E)] 0 (.row τ l' E)) m=some b:=fun m b hh=>by
    simp only[ae]at hh;simp only[qt,ae];cases hb:Nat.beq 0 m
    ·rw[hb]at hh;cases hh
    ·rw[hb]at hh;exact hh
   exact⟨⟨hf.mem.agree,hf.mem.one,fun m b hh=>hf.mem.holds m b (hlk m b hh),fun m m' b b' c h1 h2 h3 h4=>hf.mem.apart m m' b b' c (hlk _ _ h1) (hlk _ _ h2) h3 h4,hf.mem.tab⟩,hf.bel,hf.imm_le,hf.imm_new,fun m b c h1 h2=>hf.base m b c (hlk _ _ h1) h2,hf.keep,hf.keepOwn⟩
 |[],hreps=>exact hreps.elim
def znk(w:World)(n g:Nat)(d:Array Value)(os:Array Obj)(k:Nat)(hk:k<w.heap.size)(hne:k≠g):(grow (putRow id (Sort.ahead w n) g 0 d) os).heap[k]? = w.heap[k]? := by
 show((w.heap.modify g (onCells (putCells id 0 d)))++os)[k]? = _;rw[Array.getElem?_append_left (by simpa using hk),Array.getElem?_modify,qW (by omega)]
def znl(w:World)(n g:Nat)(d:Array Value)(os:Array Obj){cur:Array Value}{e:TypeId}{fr:Nat×Nat}(hh:w.heap[g]? = some (.cells cur e fr)) :
  (grow (putRow id (Sort.ahead w n) g 0 d) os).heap[g]? = some (.cells (putCells id 0 d cur) e fr):=by
 have hg:g<w.heap.size:=(Array.getElem?_eq_some_iff.1 hh).1;show((w.heap.modify g (onCells (putCells id 0 d)))++os)[g]? = _;rw[Array.getElem?_append_left (by simpa using hg),Array.getElem?_modify,qX rfl,hh]
 rfl
def znn(zs:List Value)(cur:Array Value)(h:zs.length<=cur.size):(putCells id 0 zs.toArray cur).toList.take zs.length=zs:=by
 apply List.ext_getElem?;intro j;rw[List.getElem?_take];by_cases hj:j<zs.length
 ·rw[qX hj,Array.getElem?_toList];unfold putCells;rw[Array.getElem?_mapIdx,Array.getElem?_eq_getElem (by omega)]
  simp[hj]
 ·rw[qW hj];exact(List.getElem?_eq_none (by omega)).symm
def znm(w:World)(n g:Nat)(d:Array Value)(os:Array Obj):w.heap.size<=(grow (putRow id (Sort.ahead w n) g 0 d) os).heap.size:=by
 show w.heap.size<=((w.heap.modify g (onCells (putCells id 0 d)))++os).size;simp
def znj(zs:List Value)(cur:Array Value)(v:Value)(hv:v∈(putCells id 0 zs.toArray cur).toList):v∈cur.toList\/v∈zs:=by
 unfold putCells at hv;rw[Array.mem_toList_iff,Array.mem_mapIdx]at hv;obtain⟨j,hj,rfl⟩:=hv;split
 ·rename_i hj2;have hj3:j<zs.length:=by simpa using hj2
  refine .inr ?_;simp[hj3]
 ·exact .inl (by simp)
end Go.Sym
namespace Go.Sym
open Go.Proofs Go.RowKit Go.Sort
variable[LC]
def q7c{α:Type}[Inhabited α](enc:α->List Value)(k:Nat)(hk:∀x,(enc x).length=k)(l:List α):flatK enc k l.toArray=(l.flatMap enc).toArray:=by
 have key:∀(l:List α)(t:Nat),t<l.length*k->(l.flatMap enc)[t]? = some ((enc l[t/k]!)[t%k]!):=by
  intro l
  induction l with
  |nil=>intro t ht;simp at ht|cons x l ih=>
   intro t ht;have k0:0<k:=by
    rcases Nat.eq_zero_or_pos k with h|h;· subst h;simp at ht
    ·exact h
   rw[List.flatMap_cons];by_cases h:t<k
   ·rw[List.getElem?_append_left (by rw[hk];exact h),Nat.div_eq_of_lt h,Nat.mod_eq_of_lt h,List.getElem?_eq_getElem (by rw[hk];exact h)]
    simp[hk,h]
   ·rw[List.getElem?_append_right (by rw[hk];omega),hk,ih (t-k) (by rw[qL,Nat.add_mul,Nat.one_mul]at ht;omega)]
    obtain⟨u,rfl⟩:∃u,t=u+k:=⟨t-k,by omega⟩
    rw[Nat.add_sub_cancel,Nat.add_mod_right,Nat.add_div_right _ k0];simp
 have ac:(l.flatMap enc).length=l.length*k:=by
  clear key
  induction l with|nil=>simp|cons x l ih=>rw[List.flatMap_cons,qM,hk,ih,qL,Nat.add_mul,Nat.one_mul,Nat.add_comm]
 refine ext_get! (by simp[ac]) fun t ht => ?_
 have ht':t<l.length*k:=by simpa using ht
 rw[get_flatK enc k l.toArray t (by simpa using ht')]
 have:=key l t ht';simp only[List.getElem!_toArray];rw[List.getElem!_eq_getElem?_getD (l:=l.flatMap enc),this];rfl
def eg(x:Pq):List Value:=[.string ⟨x.1.1.toArray⟩,.int .i64 x.1.2.1,.bool x.1.2.2.1,.string ⟨x.1.2.2.2.toArray⟩]
def zbn:SWO (ltOf im):=by
 have e:∀x y:Pq,ltOf im x y=decide (x.1.2.1<y.1.2.1):=fun x y=>by
  have:=x.2;have:=y.2;unfold ltOf im;have h:af (x.1.2.1-y.1.2.1)=x.1.2.1-y.1.2.1:=by unfold af;simp[IntKind.wrap,IntKind.bits,IntKind.signed];omega
  rw[h];by_cases q:x.1.2.1<y.1.2.1<;>simp[q]<;>omega
 exact⟨fun x=>by rw[e];simp,fun x y z h1 h2=>by rw[e]at *;simp at *;omega,fun x y z h1 h2=>by rw[e]at *;simp at *;omega⟩
set_option maxHeartbeats 1000000 in
def zif(x y:Pq)(W:World):Calls Tryz.prog 221 #[.agg (eg x).toArray,.agg (eg y).toArray] W fun e w'=>e = .returned (.int .i64 (im x y))/\∃q os',w'=grow (W.drewN q) os':=by
 unfold eg im;obtain⟨⟨a,n,s,v⟩,hx⟩:=x;obtain⟨⟨a',n',s',v'⟩,hy⟩:=y;simp only;have hw:af (n-n')=wrap64 (n-n'):=by show IntKind.i64.wrap (n-n')=_;rw[IntKind.wrap_i64];unfold Go.RowKit.wrap64;rfl
 rw[hw];clear hx hy hw
 go_enter Tryz.func221,Tryz.ntmps221
 go_wp2
 go_ret
 exact⟨rfl,0,_,by rw[alloc_eq_grow,alloc_eq_grow,grow_grow];rfl⟩
abbrev τQ:Ty := .prod .str (.prod (.int .i64) (.prod .bool .str))
def zad{G:Gh}:∀{l:List Pq}{us:List Value},al (List.flatMap (β:=AV) τQ.enc (l.map (·.1))) G us->us=l.flatMap eg
 |[],[],_=>rfl|[],_::_,h=>h.elim|x::l,us,h=>by
  match us,h with
  |a::b::c::d::us,h=>
   have h1:a = .string ⟨x.1.1.toArray⟩:=h.1;have h2:b = .int .i64 x.1.2.1:=h.2.1;have h3:c = .bool x.1.2.2.1:=h.2.2.1;have h4:d = .string ⟨x.1.2.2.2.toArray⟩:=h.2.2.2.1;have h5:=zad (l:=l) h.2.2.2.2;rw[h1,h2,h3,h4,h5];rfl
  |[],h=>exact h.elim|[_],h=>exact h.2.elim|[_,_],h=>exact h.2.2.elim|[_,_,_],h=>exact h.2.2.2.elim
def zae{G:Gh}:∀(l:List Pq),al (List.flatMap (β:=AV) τQ.enc (l.map (·.1))) G (l.flatMap eg)
 |[]=>trivial|_::l=>⟨rfl,rfl,rfl,rfl,zae l⟩
def zbw:∀(l:List Pc)(q:List Pq),o8 l=some q->l=q.map (·.1)
 |[],_,h=>by cases h;rfl
 |x::l,q,h=>by
  unfold o8 at h;split at h
  ·split at h
   ·rename_i r hr;cases h;rw[zbw l r hr];rfl
   ·cases h
  ·cases h
def qzf(l:List Pq):(gw l).length=l.length:=by
 have h:=(pdq_sorts (ltOf im) zbn l.toArray 0 l.length (Lib.bitLen l.length) true true (Nat.zero_le _) (by simp) (Or.inl rfl)).1.1
 unfold gw;rw[Array.length_toList,h];simp
def qmp(x:Pq):(eg x).length=4:=rfl
def q6v(l:List Pq):(l.flatMap eg).length=l.length*4:=by
 induction l with|nil=>rfl|cons x l ih=>rw[List.flatMap_cons,qM,qmp,ih,qL];omega
def zj9{w:World}{g:Nat}{vs:Array Value}{fz:Nat×Nat}{E:TypeId}{l:List Pq}(h2:w.heap[g]? = some (.cells vs E fz))(h3:fz=(0,0)\/vs.size<=fz.1)(h4:l.length*4<=vs.size)(h7:vs.toList.take (l.length*4)=l.flatMap eg):HoldsK eg 4 w g 0 l.toArray:=by
 unfold HoldsK;rw[q7c eg 4 qmp];intro j hj;have hl:=q6v l;have hj':j<(l.flatMap eg).length:=by simpa using hj
 have hjv:j<vs.size:=by omega
 refine⟨?_,?_⟩
 ·have hc:(vs.toList.take (l.length*4))[j]? = some ((l.flatMap eg)[j]):=by
   rw[h7,List.getElem?_eq_getElem hj']
  rw[List.getElem?_take,qX (by omega)]at hc
  simp only[World.cell?,h2,wO];have hg:(l.flatMap eg).toArray[j]! = (l.flatMap eg)[j]:=by rw[getElem!_pos _ j hj];rfl
  rw[hg];simpa using hc
 ·simp only[World.frozen?,h2];rcases h3 with rfl|h3
  ·simp
  ·simp;omega
set_option maxHeartbeats 1000000 in
def zpy(q:List Pq)(ac:q.length<=bg):dx Tryz.prog 220 [.own 0,.fn (.func 221) [] []] [(0,.row τQ (q.map (·.1)) 178)] (.tup []) [(0,.row τQ ((gw q).map (·.1)) 178)]:=by
 unfold bg at ac
 refine dx.inPlaceA (by show((gw q).map (·.1)).length=(q.map (·.1)).length;rw[wC,wC,qzf]) (fun w G ad c us fvs hrow hreps hfv => ?_)
 have hus:=zad hreps;have hfv:fvs=[.func (.func 221) #[] #[]]:=by
  match fvs,hfv with
  |[v],⟨h,_⟩=>
   obtain⟨us1,us2,k1,k2,k3⟩:=h;have e1:us1=#[]:=Array.eq_empty_of_size_eq_zero k2.length.symm;have e2:us2=#[]:=Array.eq_empty_of_size_eq_zero k3.length.symm;subst e1;subst e2;rw[k1]
 subst hfv;have hml:(q.map (fun x=>x.1)).length=q.length:=wC ..
 obtain⟨hul,hrow⟩:=hrow
 have hnone:q=[]->Calls Tryz.prog 220 (Value.slice ad (q.map (fun x=>x.1)).length c::[.func (.func 221) #[] #[]]).toArray w fun e w'=>e = .returned (.tuple #[])/\∃us',gz w' 178 τQ.sz ad (q.map (fun x=>x.1)).length c us'/\al (List.flatMap (β:=AV) τQ.enc ((gw q).map (·.1))) G.data us'/\d9 (fun b=>di ad=some b) w w':=fun hq=>by
  subst hq;refine(AnyF.slices_SortFunc_none Tryz.sortP ad c (.func (.func 221) #[] #[]) w).mono ?_;rintro e w' ⟨rfl,rfl⟩
  refine⟨rfl,us,⟨hul,hrow⟩,?_,⟨rfl,rfl,rfl,wF _,fun _ _ _=>rfl⟩⟩
  rw[hus];have e:gw []=[]:=List.eq_nil_of_length_eq_zero (qzf []);rw[e];exact trivial
 by_cases hq:q=[]
 ·exact hnone hq
 rcases hrow with⟨rfl,h2,rfl⟩|⟨g,vs,fz,rfl,h2,h3,h4,h5,h6,h7,h8⟩
 ·exact absurd (List.eq_nil_of_length_eq_zero (by rw[← hml];exact h2)) hq
 ·have hlt:g<w.heap.size:=(Array.getElem?_eq_some_iff.1 h2).1;have hs4:τQ.sz=4:=rfl;rw[hs4]at h6 h7 hul;have h4':q.length<=c:=by rw[← hml];exact h4
  have hH:=zj9 (l:=q) h2 h3 (by omega) (by rw[← hus];have h7':=h7;rw[show(List.length (α:=τQ.den) (q.map fun x=>x.1))=q.length from hml]at h7';exact h7')
  have hcmp:CmpLays Tryz.prog 221 #[] eg 4 im g 0 q.toArray.size w:=fun m os dk _ x y=>zif x y _
  have key:=AnyQ.slices_SortFunc_eq (P:=Tryz.prog) Tryz.sortP 4 Tryz.isAgg178 Tryz.sizeOf178 eg qmp (by intro x v hv;simp only[eg,wE,List.not_mem_nil,or_false]at hv;rcases hv with rfl|rfl|rfl|rfl<;>rfl) im zbn 221 #[] g 0 c q.toArray w Tryz.call221 hcmp hH hlt (by simp;omega)
  have hargs:#[Value.slice (some ⟨g,0,none⟩) (List.length (α:=τQ.den) (List.map (β:=τQ.den) (fun x:Pq=>x.1) q)) c,Value.func (.func 221) #[] #[]]=#[.slice (some ⟨g,0,none⟩) q.toArray.size c,.func (.func 221) #[] #[]]:=by
   rw[show List.length (α:=τQ.den) (List.map (β:=τQ.den) (fun x:Pq=>x.1) q)=q.toArray.size from hml.trans (by simp)]
  refine Eq.mpr (congrArg (fun a=>Calls _ _ a _ _) hargs) (key.mono ?_)
  rintro e w' ⟨rfl,n,os,rfl⟩
  have hsl:=qzf q;have hw:sortWorldK eg 4 w g 0 n (pdq (ltOf im) q.toArray 0 q.toArray.size (Lib.bitLen q.toArray.size) true true) os=grow (putRow id (Sort.ahead w n) g 0 ((gw q).flatMap eg).toArray) os:=by
   unfold sortWorldK putRowK;rw[show pdq (ltOf im) q.toArray 0 q.toArray.size (Lib.bitLen q.toArray.size) true true=(gw q).toArray from by unfold gw;simp,q7c eg 4 qmp]
  rw[hw];have hzl:((gw q).flatMap eg).length=q.length*4:=by rw[q6v,hsl]
  refine⟨rfl,(gw q).flatMap eg,⟨?_,.inr ⟨g,putCells id 0 ((gw q).flatMap eg).toArray vs,fz,rfl,znl w n g _ os h2,?_,h4,h5,?_,?_,?_⟩⟩,zae _,⟨rfl,rfl,rfl,znm w n g _ os,fun k hk hne=>znk w n g _ os k hk (fun e=>hne (by subst e;rfl))⟩⟩
  ·rw[hzl];show q.length*4=(q.map (fun x=>x.1)).length*4;rw[hml]
  ·have:(putCells id 0 ((gw q).flatMap eg).toArray vs).size=vs.size:=by unfold putCells;rw[Array.size_mapIdx]
   rw[this];exact h3
  ·unfold putCells;rw[Array.size_mapIdx];exact h6
  ·rw[show List.length (α:=τQ.den) (q.map (fun x=>x.1))*τQ.sz=((gw q).flatMap eg).length from by rw[hzl];show(q.map (fun x=>x.1)).length*4=_;rw[hml]]
   exact znn _ vs (by rw[hzl];omega)
  ·intro v hv;rcases znj _ _ _ hv with h|h
   ·exact h8 v h
   ·obtain⟨x,_,hx⟩:=List.mem_flatMap.1 h;simp only[eg,wE,List.not_mem_nil,or_false]at hx;rcases hx with rfl|rfl|rfl|rfl<;>rfl
def zbd:IF:=⟨.fn 220,[.own 0,.fn 221 []],[(0,.row τQ 178)],_,RS.mk (.tup []) [(0,.row τQ 178)]⟩
def zpz:(zbd.e wo).Sound Tryz.prog:=fun d d' r h=>by
 obtain⟨l,_⟩:=d';have h:wo l=some r:=h;unfold wo at h;cases hd:decide (List.length (α:=Pc) l<=bg)<;>rw[hd]at h<;>simp only[qT,qF,reduceCtorEq]at h
 cases hq:o8 l with
 |none=>rw[hq]at h;cases h
 |some q=>
  rw[hq]at h;have h:=qJ h;subst h;have hl:=zbw l q hq;subst hl;refine⟨Tryz.call220,zpy q ?_⟩;have:=of_decide_eq_true hd
  rwa [wC]at this
end Go.Sym
set_option linter.unusedVariables false
namespace Go.Proofs.ToValid
open Go.Shelf Go.RowKit Go.Lib Go.Sym
def bx:Builder.Extra Tryz.prog Tryz.uniR:={
 sizeBuilder:=by kernel_rfl
 liesBuilder:=by kernel_rfl
 t5:=Tryz.laysM171.t5
 a5:=Tryz.laysM171.a5
 z5:=Tryz.laysM171.z5
 v5:=Tryz.laysM171.v5
 infoByte:=by kernel_rfl
 cellsByte:=by kernel_rfl
 sizeByte:=by kernel_rfl
 neB5:=by decide }
def zk9:Lays.n166 Tryz.prog Tryz.uniR:={ Tryz.lays165,Tryz.lays169,Tryz.laysC172 with f166:=Tryz.func42.trans (congrArg some (by kernel_rfl)) }
def zla:Lays.n167 Tryz.prog Tryz.uniR:={ Tryz.lays165,Tryz.lays169,Tryz.laysC172 with f167:=Tryz.func45.trans (congrArg some (by kernel_rfl)) }
def q59(b:Nat)(p:Option Addr)(n cap:Nat)(w:World)(c1:w.cell? ⟨b,1,none⟩=some (.slice p n cap)) :
  Calls Tryz.prog 250 #[.pointer (some ⟨b,0,none⟩)] w fun e w'=>e = .returned (.int .i64 cap)/\w'=w:=by
 go_enter Tryz.func250,Tryz.ntmps250
 go_wp2
 go_ret
 exact⟨rfl,rfl⟩
def zj3(b n:Nat)(w:World)(hbk:w.heap[b]? = some (.cells #[.pointer none,.slice none 0 0] 83 (0,0)))(hBw:b<=w.heap.size)(hn:n<=281474976710656) :
  Calls Tryz.prog 117 #[.pointer (some ⟨b,0,none⟩),.int .i64 n] w fun e w'=>e = .returned (.tuple #[])/\(Lib.BuilderAt 83 5 b b (.pointer (some ⟨b,0,none⟩)) [] w'/\Below b w w')/\∃p cap,w'.cell? ⟨b,1,none⟩=some (.slice p 0 cap)/\n<=cap:=
 Any.Builder_Grow_fresh_cap Tryz.lays165 bx b b n w (wF _) hbk hBw hn
def qz4(b:Nat)(bs:List Value)(s:ByteArray)(w:World)(h:Lib.IsBuilderF 83 5 b b bs w)(ac:bs.length+s.size<=140737488355328)(hBw:b<=w.heap.size) :
  Calls Tryz.prog 42 #[.pointer (some ⟨b,0,none⟩),.string s] w fun e w'=>e = .returned (.tuple #[.int .i64 s.size,.nilIface])/\(Lib.BuilderAtF 83 5 b b (.pointer (some ⟨b,0,none⟩)) (bs++Lib.strCells s) w'/\Below b w w'/\Lib.OthersKept 5 (some b) w w')/\∀v0,w.cell? ⟨b,1,none⟩=some v0->∃v1,w'.cell? ⟨b,1,none⟩=some v1/\v0.capOf<=v1.capOf:=
 Any.Builder_WriteString_kc zk9 bx b b bs s w h ac hBw
def zry(b:Nat)(bs:List Value)(c:Int)(w:World)(h:Lib.IsBuilderF 83 5 b b bs w)(ac:bs.length+1<=140737488355328)(hBw:b<=w.heap.size) :
  Calls Tryz.prog 45 #[.pointer (some ⟨b,0,none⟩),.int .u8 c] w fun e w'=>e = .returned .nilIface/\(Lib.BuilderAtF 83 5 b b (.pointer (some ⟨b,0,none⟩)) (bs++[.int .u8 c]) w'/\Below b w w'/\Lib.OthersKept 5 (some b) w w'):=
 Any.Builder_WriteByte_k zla bx b b bs c w h ac hBw
def zp8(b:Nat)(l:List UInt8)(w:World)(h:Lib.IsBuilderF 83 5 b b (Lib.byteCells l) w)(hBw:b<=w.heap.size) :
  Calls Tryz.prog 46 #[.pointer (some ⟨b,0,none⟩)] w fun e w'=>e = .returned (.string ⟨l.toArray⟩)/\(Lib.IsBuilderF 83 5 b b (Lib.byteCells l) w'/\Below b w w'):=
 Any.Builder_String_any_f Tryz.lays169 bx b b l w h hBw
def q6p(s:ByteArray)(w:World)(hT:Lib.Utf8Tabs 0 1 w) :
  Calls Tryz.prog 119 #[.string s] w fun e w'=>e = .returned (.tuple #[.int .i32 (Lib.decodeGo s).1,.int .i64 (Lib.decodeGo s).2])/\Below w.heap.size w w':=
 Any.utf8_DecodeRuneInString Tryz.lays197 s w hT
def q6t(s:ByteArray)(pos:Nat)(h:pos<s.size):decodeGo (s.extract pos s.size)=Utf8.decode s pos:=by
 have hx:(s.extract pos s.size).data.toList=s.data.toList.drop pos:=by
  rw[extract_data,List.take_of_length_le (by rw[List.length_drop,← size_eq];omega)]
 have hsz:(s.extract pos s.size).size≠0:=by rw[size_eq,hx,List.length_drop,← size_eq];omega
 unfold decodeGo;rw[qW hsz,← decodeL_drop s pos,← hx];rfl
def zck(n:Int)(h0:0<=n:=by omega)(h1:n<=4000000:=by omega):wrap64 n=n:=by unfold wrap64;omega
def zr1(p n:Nat)(h:p+n<=4000000):wrap64 ((p:Int)+(n:Int))=(p:Int)+(n:Int):=zck _
def zr2(p:Nat)(h:p+1<=4000000):wrap64 ((p:Int)+1)=(p:Int)+1:=zck _
def vI(p k:Nat):Value.int .i64 ((p:Int)+(k:Int)) = .int .i64 ((p+k:Nat):Int):=by rw[Int.natCast_add]
def pb(p:Nat):Value.int .i64 ((p:Int)+1) = .int .i64 ((p+1:Nat):Int):=by rw[Int.natCast_add];rfl
def qzz(rep:Bs)(n:Nat)(inv:Bool)(l:Bs)(hne:l≠[])(h:(Lib.decodeL l).1=65533/\(Lib.decodeL l).2=1):vu rep (n+1) inv l=(if inv then[] else rep)++vu rep n true (l.drop 1):=by
 cases l with|nil=>exact absurd rfl hne|cons c l=>rw[vu,qX h];rfl
def qox(rep:Bs)(n:Nat)(inv:Bool)(l:Bs)(hne:l≠[])(h:¬((Lib.decodeL l).1=65533/\(Lib.decodeL l).2=1)):vu rep (n+1) inv l=l.take (Lib.decodeL l).2++vu rep n false (l.drop (Lib.decodeL l).2):=by
 cases l with|nil=>exact absurd rfl hne|cons c l=>rw[vu,qW h]
def vf(rep:Bs)(n:Nat)(inv:Bool):vu rep n inv []=[]:=by cases n<;>rfl
def qcz(rep:Bs):∀(n m:Nat)(inv:Bool)(l:Bs),l.length<=n->l.length<=m->vu rep n inv l=vu rep m inv l
 |0,m,inv,l,h1,_=>by
  have:l=[]:=by cases l with|nil=>rfl|cons c l=>simp at h1
  subst this;rw[vf,vf]
 |n+1,0,inv,l,_,h2=>by
  have:l=[]:=by cases l with|nil=>rfl|cons c l=>simp at h2
  subst this;rw[vf,vf]
 |n+1,m+1,inv,l,h1,h2=>by
  cases l with
  |nil=>rw[vf,vf]|cons c l=>
   have hw:=Lib.decodeL_width (c::l);simp only[qL]at h1 h2;by_cases h:(Lib.decodeL (c::l)).1=65533/\(Lib.decodeL (c::l)).2=1
   ·rw[qzz rep n inv _ (by simp) h,qzz rep m inv _ (by simp) h,qcz rep n m true _ (by simp;omega) (by simp;omega)]
   ·rw[qox rep n inv _ (by simp) h,qox rep m inv _ (by simp) h,qcz rep n m false _ (by simp only[List.length_drop,qL];omega) (by simp only[List.length_drop,qL];omega)]
def zit(s:ByteArray)(pos:Nat)(h:pos<s.size)(hc:(s.get! pos).toNat<128):Utf8.decode s pos=((s.get! pos).toNat,1):=by
 unfold Utf8.decode;simp only[Nat.add_zero,hc,if_true]
def zis(s:ByteArray)(pos:Nat)(h:pos<s.size)(hc:¬(s.get! pos).toNat<128)(h1:(Utf8.decode s pos).2=1):(Utf8.decode s pos).1=65533:=by
 revert h1;unfold Utf8.decode;simp only[Nat.add_zero,hc,if_false]
 repeat' split
 all_goals first|(intro _;rfl)|(intro h1;exact absurd h1 (by simp))
def qv6{T e:TypeId}{B b:Nat}{bs:List Value}{W W':World}(h:Lib.IsBuilderF T e B b bs W)(hb:Below W.heap.size W W'):Lib.IsBuilderF T e B b bs W':=by
 have k:∀p,Lib.BuilderAtF T e B b p bs W->Lib.BuilderAtF T e B b p bs W':=fun p h=>by
  have hlt:=h.lt;obtain⟨hB,v,hv,hown,hne⟩:=h;exact⟨hB,v,(hb.block b hlt).trans hv,hown.kept (row:=none) ⟨hb.os,hb.tape,hb.output,hb.size,fun k hk _=>hb.block k hk⟩ (Classical.em _),hne⟩
 exact h.elim (fun x => .inl (k _ x)) (fun x => .inr (k _ x))
set_option maxHeartbeats 4000000 in
set_option maxRecDepth 1000000 in
def tovalid(s rep:ByteArray)(w:World)(hs:s.size<=1000000)(hr:rep.size<=1000)(hT:Lib.Utf8Tabs 0 1 w) :
  Calls Tryz.prog 223 #[.string s,.string rep] w fun e w'=>e = .returned (.string ⟨(vu rep.data.toList s.size false s.data.toList).toArray⟩)/\Below w.heap.size w w':=by
 obtain⟨ANS,hANS⟩:∃ANS,vu rep.data.toList s.size false s.data.toList=ANS:=⟨_,rfl⟩;rw[hANS];have ac:s.data.toList.length=s.size:=(Lib.size_eq s).symm
 go_enter Tryz.func223,Tryz.ntmps223
 go_wp2
 go_loopg [0] s.size (fun gk s0 wx=>s0 = .string s/\∃pos:Nat,wx.heap[w.heap.size]? = some (.cells #[.pointer none,.slice none 0 0] 83 (0,0))/\wx.heap[w.heap.size+1]? = some (.stringIter s pos)/\Below w.heap.size w wx /\
  s.data.toList.take pos++vu rep.data.toList (s.size-pos) false (s.data.toList.drop pos)=ANS/\s.size<=pos+gk/\pos<=s.size)
 case atStart=>
  refine⟨rfl,0,?_,?_,((Below.refl _ w).alloc (wF _) _).alloc (by simp) _,by simpa using hANS,by omega,by omega⟩
  ·have h1:=heap_alloc_new w (.cells #[.pointer none,.slice none 0 0] 83);exact(Below.heap_alloc _ _ _ (by simp)).trans h1
  ·have:=World.iter_heap (w.alloc (.cells #[.pointer none,.slice none 0 0] 83)) s 0;simpa using this
 case round=>
  obtain⟨rfl,pos,hfr,hit,hbw,hsp,hfu,hps⟩:=hrel;by_cases hlt:pos<s.size
  ·obtain⟨g',rfl⟩:∃g',gk=g'+1:=⟨gk-1,by omega⟩
   have hnx:∀ty,(Instr.next (.pointer (some ⟨w.heap.size+1,0,none⟩)) true ty).run Tryz.prog wr=_:=fun ty=>Lib.run_next_any_at wr (w.heap.size+1) s pos ty hit hlt
   have hne:s.data.toList.drop pos≠[]:=by
    intro h0;have:=congrArg List.length h0;rw[List.length_drop,ac]at this;simp at this;omega
   have hwd:=Lib.width_pos s pos;have hwn:pos+(Utf8.decode s pos).2<=s.size:=by
    have:=Lib.decodeL_le _ hne;rw[Lib.decodeL_drop,List.length_drop,ac]at this;omega
   have hgood:=qox rep.data.toList (s.size-pos-1) false _ hne;have hdg:=q6t s pos hlt;rw[Lib.decodeL_drop]at hgood;obtain⟨R,hR⟩:∃R,(Utf8.decode s pos).1=R:=⟨_,rfl⟩;obtain⟨K,hK⟩:∃K,(Utf8.decode s pos).2=K:=⟨_,rfl⟩;rw[hR,hK]at hnx hgood;rw[hK]at hwd hwn;rw[List.drop_drop,show s.size-pos-1+1=s.size-pos by omega]at hgood
   have hit2:=Lib.iterAt_heap wr (w.heap.size+1) s pos (pos+K) hit;have hbw2:=Lib.below_iterAt hbw (k:=w.heap.size+1) (by omega) s (pos+K)
   have hfr2:(wr.iterAt (w.heap.size+1) s (pos+K)).heap[w.heap.size]? = _:=(Lib.iterAt_other wr (w.heap.size+1) w.heap.size s (pos+K) (by omega)).trans hfr
   obtain⟨W,hWd⟩:∃W,wr.iterAt (w.heap.size+1) s (pos+K)=W:=⟨_,rfl⟩;rw[hWd]at hnx hit2 hbw2 hfr2;clear hit hbw hfr hWd;have HS:Aside (¬(R=65533/\K=1)->s.data.toList.take (pos+K)++vu rep.data.toList (s.size-(pos+K)) false (s.data.toList.drop (pos+K))=ANS):=by
    intro h;rw[← hsp,hgood h,← qS,← List.take_add];congr 1;exact qcz _ _ _ _ _ (by rw[List.length_drop,ac];omega) (by rw[List.length_drop,ac];omega)
   have HP:Aside (s.data.toList.take pos++vu rep.data.toList (s.size-pos) false (s.data.toList.drop pos)=ANS):=hsp;clear hgood hsp;have hszW:w.heap.size+1<W.heap.size:=(Array.getElem?_eq_some_iff.1 hit2).1;by_cases h5:R=65533
   ·have h5z:(R:Int)=65533:=by omega
    have cD:=q6p (s.extract pos s.size) W (Utf8Tabs_below hT hbw2);rw[hdg,hR,hK]at cD;by_cases hk:K=1
    ·
     have hkz:(K:Int)=1:=by omega
     have hkb:((K:Int)==1)=true:=by simp[hkz]
     go_wp2_with (go_at_call 119;go_must (refine cD.mono ?_;rintro e W3 ⟨rfl,b3⟩))
     have hfr3:=(b3.block _ (show w.heap.size<W.heap.size by omega)).trans hfr2
     have hbw3:=hbw2.trans (b3.mono (show w.heap.size<=W.heap.size by omega))
     have hs0:=HP.out;clear cD hnx hit2 hfr2 hbw2 hdg HS hszW HP;have cG:=zj3 w.heap.size (s.size+rep.size) W3 hfr3 hbw3.size (by omega)
     go_fit cG
     rintro e W4 ⟨rfl,⟨h4,b4⟩,p4,cap4,hc4,hcap4⟩
     have hxs:(s.extract 0 pos).size=pos:=by rw[Lib.size_eq,Lib.extract_data,List.length_take,List.length_drop,ac];omega
     have hxd:(s.extract 0 pos).data.toList=s.data.toList.take pos:=by rw[Lib.extract_data];simp
     have cW:=qz4 w.heap.size [] (s.extract 0 pos) W4 (Lib.IsBuilderF.of (Or.inr h4)) (by rw[hxs];simp;omega) (Nat.le_trans hbw3.size b4.size)
     go_wp2_with (go_at_call 42;go_must (refine cW.mono ?_;rintro e W5 ⟨rfl,⟨h5w,b5,-⟩,hcp⟩))
     have hb5:Below w.heap.size w W5:=(hbw3.trans b4).trans b5;have hcells:[]++Lib.strCells (s.extract 0 pos)=Lib.byteCells (s.data.toList.take pos):=by
      rw[List.nil_append,Lib.strCells_eq,hxd]
     rw[hcells]at h5w;obtain⟨p5,n5,cap5,hc5,hcap5⟩:∃p5 n5 cap5,W5.cell? ⟨w.heap.size,1,none⟩=some (.slice p5 n5 cap5)/\1<=cap5:=by
      obtain⟨v1,hv1,hle⟩:=hcp _ hc4;obtain⟨_,v6,hv6,hown6,_⟩:=h5w;have hv:W5.cell? ⟨w.heap.size,1,none⟩=some v6:=by rw[Lib.cell_of_heap hv6];rfl
      rw[hv1]at hv;have:=qJ hv;subst this;have hle:cap4<=v1.capOf:=hle;rcases hown6.2 with⟨rfl,h0⟩|⟨g6,cap6,_,_,rfl,_⟩
      ·have:cap4<=0:=hle;omega
      ·have:cap4<=cap6:=hle;exact⟨_,_,cap6,hv1,by omega⟩
     clear hcp hc4;have hcapz:¬((cap5:Int)=0):=by omega
     have hcapb:((cap5:Int)==0)=false:=by simp;omega
     have cC:=q59 w.heap.size p5 n5 cap5 W5 hc5;obtain⟨s2,hs2⟩:∃s2,s.extract pos s.size=s2:=⟨_,rfl⟩;have hl2:s2.data.toList=s.data.toList.drop pos:=by
      rw[← hs2,Lib.extract_data,List.take_of_length_le (by rw[List.length_drop,ac];omega)]
     have hz2:s2.size=s.size-pos:=by rw[Lib.size_eq,hl2,List.length_drop,ac]
     go_wp2_with (go_at_call 250;go_must (refine cC.mono ?_;rintro e W6 ⟨rfl,rfl⟩))
     have hrl:rep.data.toList.length=rep.size:=(Lib.size_eq rep).symm
     go_loopg [10,11] s2.size (fun gk s10 s11 wx=>∃(p2:Nat)(acc:List UInt8)(inv:Bool),s10 = .bool inv/\s11 = .int .i64 p2/\Lib.IsBuilderF 83 5 w.heap.size w.heap.size (Lib.byteCells acc) wx/\Below w.heap.size w wx /\
      acc++vu rep.data.toList (s2.size-p2) inv (s2.data.toList.drop p2)=ANS/\s2.size<=p2+gk/\p2<=s2.size/\acc.length<=pos+1001*p2)
     case atStart=>
      refine⟨0,s.data.toList.take pos,false,rfl,rfl,Or.inr h5w,hb5,?_,by omega,by omega,?_⟩
      ·rw[List.drop_zero,hl2,hz2];exact hs0
      ·rw[List.length_take,ac];omega
     case round=>
      obtain⟨p2,acc,inv,rfl,rfl,hI,hbw,hacc,hfu2,hp2,hal⟩:=hrel;have hbs:w.heap.size<=wr.heap.size:=hbw.size;by_cases hlt2:p2<s2.size
      ·obtain⟨g2,rfl⟩:∃g2,gk=g2+1:=⟨gk-1,by omega⟩
       have hne2:s2.data.toList.drop p2≠[]:=by
        intro h0;have:=congrArg List.length h0;rw[List.length_drop,← Lib.size_eq,qZ]at this;omega
       have hwd2:=Lib.width_pos s2 p2;have hwn2:p2+(Utf8.decode s2 p2).2<=s2.size:=by
        have:=Lib.decodeL_le _ hne2;rw[Lib.decodeL_drop,List.length_drop,← Lib.size_eq]at this;omega
       have hgood:=qox rep.data.toList (s2.size-p2-1) inv _ hne2;have hbad:=qzz rep.data.toList (s2.size-p2-1) inv _ hne2;have hdg:=q6t s2 p2 hlt2;have hlow:=zit s2 p2 hlt2;have hhigh:=zis s2 p2 hlt2;rw[Lib.decodeL_drop,List.drop_drop,show s2.size-p2-1+1=s2.size-p2 by omega]at hgood hbad
       have hl3:s2.data.toList.length=s2.size:=(Lib.size_eq s2).symm;obtain⟨c,hc⟩:∃c,s2[p2]'hlt2=c:=⟨_,rfl⟩;have hd2:p2<s2.data.size:=hlt2;have hcd:s2.data[p2]'hd2=c:=hc;have hcg:s2.get! p2=c:=by
        show s2.data[p2]! = c;rw[getElem!_pos s2.data p2 hd2];exact hcd
       rw[hcg]at hlow hhigh;obtain⟨R2,hR2⟩:∃R2,(Utf8.decode s2 p2).1=R2:=⟨_,rfl⟩;obtain⟨K2,hK2⟩:∃K2,(Utf8.decode s2 p2).2=K2:=⟨_,rfl⟩;rw[hK2]at hwd2 hwn2;have HG:Aside (¬(R2=65533/\K2=1)->(acc++(s2.data.toList.drop p2).take K2)++vu rep.data.toList (s2.size-(p2+K2)) false (s2.data.toList.drop (p2+K2))=ANS):=by
        intro h;rw[← hacc,hgood (by rw[hR2,hK2];exact h),hK2,qS]
        congr 2;exact qcz _ _ _ _ _ (by rw[List.length_drop,hl3];omega) (by rw[List.length_drop,hl3];omega)
       have HB:Aside (R2=65533/\K2=1->(acc++(if inv then[] else rep.data.toList))++vu rep.data.toList (s2.size-(p2+1)) true (s2.data.toList.drop (p2+1))=ANS):=by
        intro h;rw[← hacc,hbad (by rw[hR2,hK2];exact h),qS]
        congr 2
       have hxl:(s2.extract p2 (p2+K2)).data.toList=(s2.data.toList.drop p2).take K2:=by
        rw[Lib.extract_data,Nat.add_sub_cancel_left]
       have hxz:(s2.extract p2 (p2+K2)).size=K2:=by rw[Lib.size_eq,hxl,List.length_take,List.length_drop,hl3];omega
       have hcl:acc.length<=1001000000:=by omega
       have hbl:(Lib.byteCells acc).length=acc.length:=Lib.byteCells_length acc;clear hgood hbad hacc hs0;have H1:Aside (s2.data.toList.length=s2.size/\(s2.extract p2 (p2+K2)).data.toList=(s2.data.toList.drop p2).take K2/\(Lib.byteCells acc).length=acc.length/\rep.data.toList.length=rep.size):=⟨hl3,hxl,hbl,hrl⟩;have H2:Aside (c.toNat<128->R2=c.toNat/\K2=1):=fun h=>by
        have hd:=hlow h;rw[hd]at hR2 hK2;exact⟨hR2.symm,hK2.symm⟩
       have H3:Aside (¬c.toNat<128->K2=1->R2=65533):=fun h hk=>by
        have:=hhigh h (by rw[hK2];exact hk)
        rw[← hR2];exact this
       have H4:Aside ((List.drop p2 s2.data.toList).take 1=[c]):=by
        show _=_;have hlt':p2<s2.data.toList.length:=by rw[hl3];exact hlt2
        rw[List.drop_eq_getElem_cons hlt',List.take_succ_cons,List.take_zero,Array.getElem_toList,hcd]
       have cD:=q6p (s2.extract p2 s2.size) wr (Utf8Tabs_below hT hbw);rw[hdg,hR2,hK2]at cD;have hsz2:s2.size<=s.size:=by rw[hz2];exact Nat.sub_le _ _
       have HW1:Aside (wrap64 ((p2:Int)+1)=(p2:Int)+1):=zr2 _ (Nat.le_trans hlt2 (Nat.le_trans hsz2 (Nat.le_trans hs (by decide))))
       have HWK:Aside (wrap64 ((p2:Int)+(K2:Int))=(p2:Int)+(K2:Int)):=zr1 _ _ (Nat.le_trans hwn2 (Nat.le_trans hsz2 (Nat.le_trans hs (by decide))))
       have HM:Aside (s2.size<=p2+1+g2/\s2.size<=p2+K2+g2/\acc.length+1<=pos+1001*(p2+1)/\acc.length+rep.size<=pos+1001*(p2+1)/\acc.length+K2<=pos+1001*(p2+K2)/\acc.length<=pos+1001*(p2+1)/\acc.length+1<=140737488355328/\acc.length+rep.size<=140737488355328/\acc.length+K2<=140737488355328):=by
        refine⟨?_,?_,?_,?_,?_,?_,?_,?_,?_⟩<;>omega
       clear hal hcl hfu2;clear hcd hcg hlow hhigh hdg hR2 hK2 hl3 hxl hbl hrl hs2 hl2 ac hne2 hz2 hxs hxd hcells hne hR hK;by_cases h128:c.toNat<128
       ·
        obtain⟨_,hk1⟩:=H2.out h128;subst hk1;have H5:Aside (acc++[c]++vu rep.data.toList (s2.size-(p2+1)) false (List.drop (p2+1) s2.data.toList)=ANS):=by
         have:=HG.out (by omega)
         rw[H4.out]at this;exact this
        have cB:=zry w.heap.size (Lib.byteCells acc) c.toNat wr hI (by rw[H1.out.2.2.1];exact HM.out.2.2.2.2.2.2.1) hbs
        clear HG HB H2 H3 H4 cD;have h128z:(c.toNat:Int)<128:=by omega
        go_wp2_with (go_at_call 45;go_must (refine cB.mono ?_;rintro e W7 ⟨rfl,h7,b7,k7⟩))
        go_roundg g2
        case measure=>exact Nat.lt_succ_self _
        case rel=>
         refine⟨p2+1,acc++[c],false,rfl,by first|exact pb p2|exact(congrArg (Value.int .i64) HW1.out).trans (pb p2),Or.inr ?_,hbw.trans b7,H5.out,HM.out.1,hlt2,by rw[qM];exact HM.out.2.2.1⟩
         rw[Lib.byteCells_append];exact h7
       ·have h128z:¬((c.toNat:Int)<128):=by omega
        by_cases hk:K2=1
        ·have hr2:=H3.out h128 hk;have H5:Aside ((acc++(if inv then[] else rep.data.toList))++vu rep.data.toList (s2.size-(p2+1)) true (List.drop (p2+1) s2.data.toList)=ANS):=HB.out ⟨hr2,hk⟩
         have hkz:(K2:Int)=1:=by omega
         have hkb:((K2:Int)==1)=true:=by simp[hkz]
         clear HG HB H2 H3 H4
         cases inv with
         |true=>
          go_wp2_with (go_at_call 119;go_must (refine cD.mono ?_;rintro e W7 ⟨rfl,b7⟩))
          go_roundg g2
          case measure=>exact Nat.lt_succ_self _
          case rel=>
           refine⟨p2+1,acc,true,rfl,by first|exact pb p2|exact(congrArg (Value.int .i64) HW1.out).trans (pb p2),qv6 hI b7,hbw.trans (b7.mono hbs),?_,HM.out.1,hlt2,HM.out.2.2.2.2.2.1⟩
           have h:(acc++[])++vu rep.data.toList (s2.size-(p2+1)) true (List.drop (p2+1) s2.data.toList)=ANS:=H5.out;rw[List.append_nil]at h;exact h
         |false=>
          go_wp2_with (go_at_call 119;go_must (refine cD.mono ?_;rintro e W7 ⟨rfl,b7⟩))
          have cW:=qz4 w.heap.size (Lib.byteCells acc) rep W7 (qv6 hI b7) (by rw[H1.out.2.2.1];exact HM.out.2.2.2.2.2.2.2.1) (Nat.le_trans hbs b7.size)
          go_wp2_with (go_at_call 42;go_must (refine cW.mono ?_;rintro e W8 ⟨rfl,⟨h8,b8,-⟩,-⟩))
          go_roundg g2
          case measure=>exact Nat.lt_succ_self _
          case rel=>
           refine⟨p2+1,acc++rep.data.toList,true,rfl,by first|exact pb p2|exact(congrArg (Value.int .i64) HW1.out).trans (pb p2),Or.inr ?_,(hbw.trans (b7.mono hbs)).trans b8,?_,HM.out.1,hlt2,by rw[qM,H1.out.2.2.2];exact HM.out.2.2.2.1⟩
           ·rw[Lib.byteCells_append,← Lib.strCells_eq];exact h8
           ·have h:(acc++rep.data.toList)++vu rep.data.toList (s2.size-(p2+1)) true (List.drop (p2+1) s2.data.toList)=ANS:=H5.out;exact h
        ·have hkz:¬((K2:Int)=1):=by omega
         have hkb:((K2:Int)==1)=false:=by simp;omega
         have H5:=HG.out (fun h=>hk h.2)
         go_wp2_with (go_at_call 119;go_must (refine cD.mono ?_;rintro e W7 ⟨rfl,b7⟩))
         have cW:=qz4 w.heap.size (Lib.byteCells acc) (s2.extract p2 (p2+K2)) W7 (qv6 hI b7) (by rw[H1.out.2.2.1,hxz];exact HM.out.2.2.2.2.2.2.2.2) (Nat.le_trans hbs b7.size)
         go_wp2_with (go_at_call 42;go_must (refine cW.mono ?_;rintro e W8 ⟨rfl,⟨h8,b8,-⟩,-⟩))
         go_roundg g2
         case measure=>exact Nat.lt_succ_self _
         case rel=>
          refine⟨p2+K2,acc++(s2.data.toList.drop p2).take K2,false,rfl,by first|exact vI p2 K2|exact(congrArg (Value.int .i64) HWK.out).trans (vI p2 K2),Or.inr ?_,(hbw.trans (b7.mono hbs)).trans b8,H5,HM.out.2.1,hwn2,?_⟩
          ·rw[Lib.byteCells_append,← H1.out.2.1,← Lib.strCells_eq];exact h8
          ·rw[qM,← H1.out.2.1,← Lib.size_eq,hxz];exact HM.out.2.2.2.2.1
      ·
       obtain rfl:p2=s2.size:=by omega
       have cS:=zp8 w.heap.size acc wr hI hbs
       go_wp2_with (go_at_call 46;go_must (refine cS.mono ?_;rintro e W8 ⟨rfl,_,b8⟩))
       go_ret
       refine⟨?_,hbw.trans b8⟩;rw[Lib.size_eq,List.drop_length,vf,List.append_nil]at hacc;subst hacc;rfl
    ·have hkz:¬((K:Int)=1):=by omega
     have hkb:((K:Int)==1)=false:=by simp;omega
     have hs3:=HS.out (fun h=>hk h.2)
     go_wp2_with (go_at_call 119;go_must (refine cD.mono ?_;rintro e W3 ⟨rfl,b3⟩))
     go_roundg g'
     case measure=>omega
     case rel=>exact⟨rfl,pos+K,(b3.block _ (by show _<W.heap.size;omega)).trans hfr2,(b3.block _ (by show _<W.heap.size;omega)).trans hit2,hbw2.trans (b3.mono (by show _<=W.heap.size;omega)),hs3,by omega,hwn⟩
   ·have h5':¬((R:Int)=65533):=by omega
    have hs3:=HS.out (fun h=>h5 h.1)
    go_wp2
    go_roundg g'
    case measure=>omega
    case rel=>exact⟨rfl,pos+K,hfr2,hit2,hbw2,hs3,by omega,hwn⟩
  ·
   obtain rfl:pos=s.size:=by omega
   have hnx:∀ty,(Instr.next (.pointer (some ⟨w.heap.size+1,0,none⟩)) true ty).run Tryz.prog wr=_:=fun ty=>Lib.run_next_end_at wr (w.heap.size+1) s s.size ty hit hlt
   have cC:=q59 w.heap.size none 0 0 wr (by rw[Lib.cell_of_heap hfr];rfl)
   go_wp2_with (go_at_call 250;go_must (refine cC.mono ?_;rintro e W' ⟨rfl,rfl⟩))
   go_ret
   refine⟨?_,hbw⟩;rw[← hsp,← ac,List.drop_length,List.take_length,vf,List.append_nil];rfl
end Go.Proofs.ToValid
namespace Go.Sym
open Go.Proofs Go.RowKit
open Go.Proofs.Tryz
variable[LC]
def qbj(t:List UInt8):Bool:=(List.range 256).all fun c=>match t[c]? with|some x=>Nat.beq x.toNat (Lib.firstT c)|none=>false
def qbk(t:List (UInt8×UInt8)):Bool:=(List.range 16).all fun c=>match t[c]? with|some x=>Nat.beq x.1.toNat (Lib.accLo c)&&Nat.beq x.2.toNat (Lib.accHi c)|none=>false
def zcb{G:Gh}{w:World}(hm:da G [] w){t0:List UInt8}{t1:List (UInt8×UInt8)}(h0:LC.glob 0=some ⟨.byte,t0⟩)(h1:LC.glob 1=some ⟨.prod .byte .byte,t1⟩)(e0:qbj t0=true)(e1:qbk t1=true):Lib.Utf8Tabs 0 1 w:=by
 refine⟨fun c hc => ?_,fun i hi => ?_⟩
 ·have h:=List.all_eq_true.1 e0 c (List.mem_range.2 hc)
  cases hx:t0[c]? with
  |none=>rw[hx]at h;cases h
  |some x=>
   rw[hx]at h;have ha:G.imm 0 (c*1)=some (.int .u8 x.toNat):=hm.tab.1 _ _ _ h0 c x hx;rw[Nat.mul_one]at ha;rw[hm.agree _ _ _ ha,qN h]
 ·have h:=List.all_eq_true.1 e1 i (List.mem_range.2 hi)
  cases hx:t1[i]? with
  |none=>rw[hx]at h;cases h
  |some x=>
   rw[hx]at h;simp only[qA]at h;have ha:G.imm 1 (i*2)=some (.int .u8 x.1.toNat)/\G.imm 1 (i*2+1)=some (.int .u8 x.2.toNat):=hm.tab.1 _ _ _ h1 i x hx;rw[Nat.mul_comm]at ha;exact⟨by rw[hm.agree _ _ _ ha.1,qN h.1],by rw[hm.agree _ _ _ ha.2,qN h.2]⟩
def zqx{G:Gh}{w:World}(hm:da G [] w){t0:List UInt8}{t1:List (UInt8×UInt8)}(h0:LC.glob 0=some ⟨.byte,t0⟩)(h1:LC.glob 1=some ⟨.prod .byte .byte,t1⟩)(e0:qbj t0=true)(e1:qbk t1=true)(s o:Bs)(d1:s.length<=1000000)(d2:o.length<=1000) :
  Calls Tryz.prog 223 #[.string ⟨s.toArray⟩,.string ⟨o.toArray⟩] w fun e w'=>e = .returned (.string ⟨(vu o s.length false s).toArray⟩)/\ce w w':=by
 refine(ToValid.tovalid ⟨s.toArray⟩ ⟨o.toArray⟩ w (by rw[iw];exact d1) (by rw[iw];exact d2) (zcb hm h0 h1 e0 e1)).mono ?_
 rintro e w' ⟨rfl,hw⟩
 exact⟨by rw[iw],ce.of_below hw⟩
def zbz:IF:=⟨.fn 223,[.h .str,.h .str],[],_,RS.mk (.h .str) []⟩
def zqy{t0:List UInt8}{t1:List (UInt8×UInt8)}(h0:LC.glob 0=some ⟨.byte,t0⟩)(h1:LC.glob 1=some ⟨.prod .byte .byte,t1⟩)(e0:qbj t0=true)(e1:qbk t1=true):(zbz.e ws).Sound Tryz.prog:=fun d d' r h=>by
 obtain⟨s,o,_⟩:=d;have h:ws s o=some r:=h;unfold ws at h;cases hd:decide (List.length (α:=UInt8) s<=1000000/\List.length (α:=UInt8) o<=1000)<;>rw[hd]at h<;>simp only[qT,qF,reduceCtorEq]at h
 have h:=qJ h;subst h;obtain⟨d1,d2⟩:=of_decide_eq_true hd;refine⟨call223,dx.data fun w G vs hm hr => ?_⟩
 match vs,hr with
 |[u,v],⟨h1',h2',_⟩=>
  have h1':u = .string ⟨s.toArray⟩:=h1';have h2':v = .string ⟨o.toArray⟩:=h2';subst h1' h2';exact(zqx hm h0 h1 e0 e1 s o d1 d2).mono fun e w'⟨he,hw⟩=>⟨_,he,rfl,hw⟩
def zri{G:Gh}{w:World}(hm:da G [] w){t0:List UInt8}{t1:List (UInt8×UInt8)}(h0:LC.glob 0=some ⟨.byte,t0⟩)(h1:LC.glob 1=some ⟨.prod .byte .byte,t1⟩)(e0:qbj t0=true)(e1:qbk t1=true)(s:Bs)(d1:s.length<=9223372036854775807) :
  Calls Tryz.prog 108 #[.string ⟨s.toArray⟩] w fun e w'=>e = .returned (.bool (Lib.validD s))/\ce w w':=by
 refine(Any.utf8_ValidString Tryz.lays196 ⟨s.toArray⟩ w (by rw[iw];exact d1) (zcb hm h0 h1 e0 e1)).mono ?_
 rintro e w' ⟨rfl,hw⟩
 exact⟨rfl,ce.of_below hw⟩
def zcc:IF:=⟨.fn 108,[.h .str],[],_,RS.mk (.h .bool) []⟩
def zrk{t0:List UInt8}{t1:List (UInt8×UInt8)}(h0:LC.glob 0=some ⟨.byte,t0⟩)(h1:LC.glob 1=some ⟨.prod .byte .byte,t1⟩)(e0:qbj t0=true)(e1:qbk t1=true):(zcc.e wt).Sound Tryz.prog:=fun d d' r h=>by
 obtain⟨s,_⟩:=d;have h:wt s=some r:=h;unfold wt at h;cases hd:decide (List.length (α:=UInt8) s<=9223372036854775807)<;>rw[hd]at h<;>simp only[qT,qF,reduceCtorEq]at h
 have h:=qJ h;subst h;have d1:=of_decide_eq_true hd;refine⟨call108,dx.data fun w G vs hm hr => ?_⟩
 match vs,hr with
 |[u],⟨h1',_⟩=>
  have h1':u = .string ⟨s.toArray⟩:=h1';subst h1';exact(zri hm h0 h1 e0 e1 s d1).mono fun e w'⟨he,hw⟩=>⟨_,he,rfl,hw⟩
end Go.Sym
namespace Go.Sym
open Go.RowKit
variable[LC]
section
variable{P:Program}{vem:World}{veh:Gh}{vej:List (Nat×ah)}{G:Gh}{s:St}{a:Act}{w:World}
end
end Go.Sym
set_option linter.unusedVariables false
namespace Go.Proofs.Repl
open Go.Shelf Go.RowKit Go.Lib Go.Sym
def rv(a b:UInt8)(ga gb ca cb:Nat)(c:UInt8):Value:=if c=a then .slice (some ⟨ga,0,none⟩) 2 ca else if c=b then .slice (some ⟨gb,0,none⟩) 2 cb else .slice none 0 0
structure jt(R:Nat)(a b a1 a2 b1 b2:UInt8)(w:World):Prop where
 ex:∃ga gb gt ca cb ct,(∀c:UInt8,w.cell? ⟨R,c.toNat,none⟩=some (rv a b ga gb ca cb c))/\w.cell? ⟨R,256,none⟩=some (.slice (some ⟨gt,0,none⟩) 2 ct) /\
  w.cell? ⟨gt,0,none⟩=some (.string ⟨#[b]⟩)/\w.cell? ⟨gt,1,none⟩=some (.string ⟨#[a]⟩) /\
  w.cell? ⟨ga,0,none⟩=some (.int .u8 a1.toNat)/\w.cell? ⟨ga,1,none⟩=some (.int .u8 a2.toNat)/\w.cell? ⟨gb,0,none⟩=some (.int .u8 b1.toNat)/\w.cell? ⟨gb,1,none⟩=some (.int .u8 b2.toNat)
def jt.below{R:Nat}{a b a1 a2 b1 b2:UInt8}{w w':World}(h:jt R a b a1 a2 b1 b2 w)(hb:Below w.heap.size w w'):jt R a b a1 a2 b1 b2 w':=by
 have k:∀{p:Addr}{v:Value},w.cell? p=some v->w'.cell? p=some v:=fun{p v} hc=>(hb.cell (World.block_lt_of_cell? _ _ hc)).trans hc
 obtain⟨ga,gb,gt,ca,cb,ct,h1,h2,h3,h4,h5,h6,h7,h8⟩:=h.ex;exact⟨ga,gb,gt,ca,cb,ct,fun c=>k (h1 c),k h2,k h3,k h4,k h5,k h6,k h7,k h8⟩
def q6i(s:ByteArray)(c:UInt8)(w:World) :
  Calls Tryz.prog 116 #[.string s,.string ⟨#[c]⟩] w fun e w'=>e = .returned (.int .i64 (Lib.countByte s.data.toList c))/\w'=w:=
 Any.strings_Count_one Tryz.lays138 s c w
def zou{w:World}{g:Nat}{t:TypeId}{N:Nat}{f:Nat->Value}{cur:Array Value}(hg:w.heap[g]? = some (.cells cur t (0,0)))(hz:cur.size=N)(hc:∀i,i<N->cur[i]? = some (f i)){j:Nat}(hj:j+2<=N)(v1 v2:Value) :
  (w.setRow g (cur.toList.take j++[v1,v2]++cur.toList.drop (j+2)).toArray).rowIs g t N (fun i=>if i=j then v1 else if i=j+1 then v2 else f i):=by
 have hl:cur.toList.length=N:=by simpa using hz
 refine⟨_,setRow_heap w g cur _ t _ hg,by simp;omega,fun i hi => ?_⟩
 simp only[List.getElem?_toArray];rw[qS];by_cases h1:i<j
 ·rw[List.getElem?_append_left (by simp;omega),List.getElem?_take,qX h1,qW (by omega),qW (by omega),← hc i hi];simp
 ·rw[List.getElem?_append_right (by simp;omega),show(cur.toList.take j).length=j by simp;omega]
  by_cases h2:i=j
  ·subst h2;simp
  ·by_cases h3:i=j+1
   ·subst h3;rw[qW h2,qX rfl,show j+1-j=1 by omega];rfl
   ·rw[qW h2,qW h3,List.getElem?_append_right (by simp;omega),List.getElem?_drop,← hc i hi]
    simp;congr 1;omega
def jy(b o n:Nat):(⟨b,o,none⟩:Addr).add n=⟨b,o+n,none⟩:=by unfold Addr.add;split<;>simp_all
def q6h{w:World}{G ga j M c:Nat}{f:Nat->Value}{x1 x2:UInt8}(hrow:w.rowIs G 5 M f)(hj:j+2<=M)(h0:w.cell? ⟨ga,0,none⟩=some (.int .u8 x1.toNat))(h1:w.cell? ⟨ga,1,none⟩=some (.int .u8 x2.toNat)) :
  ∃ROW,(Builtin.copy_ #[23,23] 3 #[.slice (some ⟨G,j,none⟩) (M-j) (M-j),.slice (some ⟨ga,0,none⟩) 2 c]).run Tryz.prog w = .ok (.int .i64 2) (w.setRow G ROW) /\
   (w.setRow G ROW).rowIs G 5 M (fun i=>if i=j then .int .u8 x1.toNat else if i=j+1 then .int .u8 x2.toNat else f i):=by
 obtain⟨cur,k1,k2,k3⟩:=hrow;refine⟨_,?_,zou k1 k2 k3 hj _ _⟩;exact run_copy_row (P:=Tryz.prog) w 23 23 3 5 G j (M-j) (M-j) ⟨ga,0,none⟩ 2 c cur 5 [.int .u8 x1.toNat,.int .u8 x2.toNat] Tryz.underlying23 (by kernel_rfl) k1
  (by show 2=Nat.min 2 (M-j);exact(Nat.min_eq_left (by omega)).symm)
  (fun i v hv=>by
   rw[jy]
   match i,hv with
   |0,hv=>cases hv;exact h0
   |1,hv=>cases hv;exact h1
   | i+2,hv=>cases hv)
  (by show j+2<=cur.size;omega) (fun v hv=>by
   rcases List.mem_cons.1 hv with rfl|hv
   ·rfl
   ·rcases List.mem_cons.1 hv with rfl|hv
    ·rfl
    ·cases hv)
def bv(l:Bs)(j:Nat):Value := .int .u8 (l.getD j 0).toNat
def q55(l m:Bs)(j:Nat)(h:j<l.length):bv (l++m) j=bv l j:=by unfold bv;rw[List.getD_eq_getElem?_getD,List.getD_eq_getElem?_getD,List.getElem?_append_left h]
def q54(l m:Bs)(c:UInt8):bv (l++c::m) l.length = .int .u8 c.toNat:=by unfold bv;rw[List.getD_eq_getElem?_getD,List.getElem?_append_right (wF _),Nat.sub_self];rfl
def zh5(l m:Bs)(c d:UInt8):bv (l++c::d::m) (l.length+1) = .int .u8 d.toNat:=by unfold bv;rw[List.getD_eq_getElem?_getD,List.getElem?_append_right (by omega),show l.length+1-l.length=1 by omega];rfl
def qgt(l:Bs)(j:Nat)(h:l.length<=j:=by omega):bv l j = .int .u8 0:=by unfold bv;rw[List.getD_eq_getElem?_getD,List.getElem?_eq_none h];rfl
def q56(l:Bs)(c d:UInt8)(i:Nat):(if i=l.length then Value.int .u8 c.toNat else if i=l.length+1 then .int .u8 d.toNat else bv l i)=bv (l++[c,d]) i:=by
 by_cases h:i<l.length
 ·rw[qW (by omega),qW (by omega),q55 _ _ _ h]
 ·by_cases h1:i=l.length
  ·subst h1;rw[qX rfl,q54]
  ·by_cases h2:i=l.length+1
   ·subst h2;rw[qW h1,qX rfl,zh5]
   ·rw[qW h1,qW h2,qgt _ _,qgt _ _ (by simp;omega)]
def zh6(l:Bs)(c:UInt8)(i:Nat):(if i=l.length then Value.int .u8 c.toNat else bv l i)=bv (l++[c]) i:=by
 by_cases h:i<l.length
 ·rw[qW (by omega),q55 _ _ _ h]
 ·by_cases h1:i=l.length
  ·subst h1;rw[qX rfl,q54]
  ·rw[qW h1,qgt _ _,qgt _ _ (by simp;omega)]
def vI2(p:Nat):Value.int .i64 ((p:Int)+2) = .int .i64 ((p+2:Nat):Int):=by rw[Int.natCast_add];rfl
def pb(p:Nat):Value.int .i64 ((p:Int)+1) = .int .i64 ((p+1:Nat):Int):=by rw[Int.natCast_add];rfl
def zcl(n:Nat)(h:n<=4000000:=by omega):wrap64 (n:Int)=(n:Int):=by unfold wrap64;omega
def zl3(p:Addr)(n c:Nat)(w:World):(binOp .neq 23 (.slice (some p) n c) (.slice none 0 0)).run Tryz.prog w = .ok (.bool true) w:=by kernel_rfl
def zl2(w:World):(binOp .neq 23 (.slice none 0 0) (.slice none 0 0)).run Tryz.prog w = .ok (.bool false) w:=by kernel_rfl
def zjg(p:Addr)(n c:Nat)(w:World):(binOp .eql 23 (.slice (some p) n c) (.slice none 0 0)).run Tryz.prog w = .ok (.bool false) w:=by kernel_rfl
def zjf(w:World):(binOp .eql 23 (.slice none 0 0) (.slice none 0 0)).run Tryz.prog w = .ok (.bool true) w:=by kernel_rfl
set_option maxHeartbeats 4000000 in
set_option maxRecDepth 1000000 in
def zh0(R:Nat)(a b a1 a2 b1 b2:UInt8)(s:ByteArray)(w:World)(hab:a≠b)(hs:s.size<=1000000)(hB:jt R a b a1 a2 b1 b2 w) :
  Calls Tryz.prog 353 #[.pointer (some ⟨R,0,none⟩),.string s] w fun e w'=>e = .returned (.string ⟨(dz a b [a1,a2] [b1,b2] s.data.toList).toArray⟩)/\Below w.heap.size w w':=by
 obtain⟨ga,gb,gt,ca,cb,ct,-,hT,ht0,ht1,-⟩:=hB.ex;obtain⟨L,hL⟩:∃L,s.data.toList=L:=⟨_,rfl⟩;have ac:L.length=s.size:=by rw[← hL];exact(Lib.size_eq s).symm
 rw[hL];have HB:Aside (jt R a b a1 a2 b1 b2 w):=hB;clear hB;have cBc:=fun w=>q6i s b w
 have cAc:=fun w=>q6i s a w
 rw[hL]at cBc cAc;obtain⟨Z,hZ⟩:∃Z,io a b L=Z:=⟨_,rfl⟩;have HZ:Aside (io a b L=Z):=hZ;have hZ2:Z<=2000000:=by
  rw[← hZ];unfold io;have h1:=List.count_le_length (a:=a) (l:=L);have h2:=List.count_le_length (a:=b) (l:=L);omega
 clear hZ;obtain⟨M,hM⟩:∃M,s.size+Z=M:=⟨_,rfl⟩;have HM:Aside (s.size+Z=M):=hM;have hMb:M<=3000000:=by omega
 clear hM;have hn1:=zl3;have hn2:=zl2
 go_enter Tryz.func353,Tryz.ntmps353
 go_upto_if 26 with(fail)
 go_cut [5,6] (fun s5 s6 wx=>s5 = .int .i64 (M:Nat)/\s6 = .bool (decide (0<Z))/\Below w.heap.size w wx)
 case first=>
  obtain⟨X,hX⟩:∃X,L.count b=X:=⟨_,rfl⟩;obtain⟨Y,hY⟩:∃Y,L.count a=Y:=⟨_,rfl⟩;have HXY:Aside (Z=Y+X):=by show Z=Y+X;rw[← HZ.out];unfold io;rw[hX,hY]
  have hXl:X<=s.size:=by rw[← hX,← ac];exact List.count_le_length
  have hYl:Y<=s.size:=by rw[← hY,← ac];exact List.count_le_length
  have cBc:∀w,Calls Tryz.prog 116 #[.string s,.string ⟨#[b]⟩] w fun e w'=>e = .returned (.int .i64 (X:Nat))/\w'=w:=fun w=>by rw[← hX];exact cBc w
  have cAc:∀w,Calls Tryz.prog 116 #[.string s,.string ⟨#[a]⟩] w fun e w'=>e = .returned (.int .i64 (Y:Nat))/\w'=w:=fun w=>by rw[← hY];exact cAc w
  clear hX hY
  go_wp2
  ·rename_i h16;clear h16
   go_loopg [5,6,32] 2 (fun gk s5 s6 s32 wx=>Below w.heap.size w wx/\((s32 = .int .i64 0/\s5 = .int .i64 (s.size:Nat)/\s6 = .bool false/\gk=2)\/(s32 = .int .i64 1/\s5 = .int .i64 ((s.size+X:Nat):Int)/\s6 = .bool (decide (0<X))/\gk=1)\/(s32 = .int .i64 2/\s5 = .int .i64 ((s.size+(Y+X):Nat):Int)/\s6 = .bool (decide (0<Y+X))/\gk=0)))
   case atStart=>exact⟨Below.refl _ _,Or.inl ⟨rfl,rfl,rfl,rfl⟩⟩
   case round=>
    obtain⟨hbw,h⟩:=hrel;have ht0':wr.cell? ⟨gt,0,none⟩=some (.string ⟨#[b]⟩):=(hbw.cell (World.block_lt_of_cell? _ _ ht0)).trans ht0;have ht1':wr.cell? ⟨gt,1,none⟩=some (.string ⟨#[a]⟩):=(hbw.cell (World.block_lt_of_cell? _ _ ht1)).trans ht1;clear ht0 ht1;rcases h with⟨rfl,rfl,rfl,rfl⟩|⟨rfl,rfl,rfl,rfl⟩|⟨rfl,rfl,rfl,rfl⟩
    ·have cX:=cBc wr;by_cases h0:X=0
     ·subst h0
      go_wp2_with (go_at_call 116;go_must (refine cX.mono ?_;rintro e W1 ⟨rfl,rfl⟩))
      go_roundg 1
      case measure=>omega
      case rel=>exact⟨hbw,Or.inr (Or.inl ⟨rfl,rfl,rfl,rfl⟩)⟩
     ·have hz:¬((X:Int)=0):=by omega
      obtain⟨ga',gb',gt',ca',cb',ct',hR,-⟩:=(HB.out.below hbw).ex;have hRb:wr.cell? ⟨R,b.toNat,none⟩=some (.slice (some ⟨gb',0,none⟩) 2 cb'):=by rw[hR b];unfold rv;rw[qW (fun h=>hab h.symm),qX rfl]
      clear hR;have g0:∀h,(⟨#[b]⟩:ByteArray)[0]'h=b:=fun _=>rfl
      have g1:(b.toNat:Int)<256:=by have:=b.toNat_lt;omega
      go_wp2_with (go_at_call 116;go_must (refine cX.mono ?_;rintro e W1 ⟨rfl,rfl⟩))
      go_region
      all_goals go_wp2
      go_roundg 1
      case measure=>omega
      case rel=>exact⟨hbw.drew,Or.inr (Or.inl ⟨rfl,congrArg _ (by omega),by rw[decide_eq_true (Nat.pos_of_ne_zero h0)],rfl⟩)⟩
    ·have cX:=cAc wr;by_cases h0:Y=0
     ·subst h0
      go_wp2_with (go_at_call 116;go_must (refine cX.mono ?_;rintro e W1 ⟨rfl,rfl⟩))
      go_roundg 0
      case measure=>omega
      case rel=>exact⟨hbw,Or.inr (Or.inr ⟨rfl,congrArg _ (by omega),by rw[wO],rfl⟩)⟩
     ·have hz:¬((Y:Int)=0):=by omega
      obtain⟨ga',gb',gt',ca',cb',ct',hR,-⟩:=(HB.out.below hbw).ex;have hRb:wr.cell? ⟨R,a.toNat,none⟩=some (.slice (some ⟨ga',0,none⟩) 2 ca'):=by rw[hR a];unfold rv;rw[qX rfl]
      clear hR;have g0:∀h,(⟨#[a]⟩:ByteArray)[0]'h=a:=fun _=>rfl
      have g1:(a.toNat:Int)<256:=by have:=a.toNat_lt;omega
      go_wp2_with (go_at_call 116;go_must (refine cX.mono ?_;rintro e W1 ⟨rfl,rfl⟩))
      go_region
      all_goals go_wp2
      go_roundg 0
      case measure=>omega
      case rel=>exact⟨hbw.drew,Or.inr (Or.inr ⟨rfl,congrArg _ (by omega),by rw[decide_eq_true (show 0<Y+X by omega)],rfl⟩)⟩
    ·go_wp2
     go_meet
     case rel=>exact⟨by rw[← HM.out,HXY.out],by rw[HXY.out],hbw⟩
  ·rename_i h16;clear h16
   go_loopg [5,6,10] s.size (fun gk s5 s6 s10 wx=>wx=w/\∃k C:Nat,s10 = .int .i64 k/\s5 = .int .i64 ((s.size+C:Nat):Int)/\s6 = .bool (decide (0<C))/\k<=s.size/\s.size<=k+gk/\Aside (io a b (L.take k)=C)/\C<=2000000)
   case atStart=>exact⟨rfl,0,0,rfl,rfl,rfl,Nat.zero_le _,by omega,rfl,by omega⟩
   case round=>
    obtain⟨rfl,k,C,rfl,rfl,rfl,hk,hgk,HC,hC⟩:=hrel;by_cases hk2:k<s.size
    ·obtain⟨g,rfl⟩:∃g,gk=g+1:=⟨gk-1,by omega⟩
     obtain⟨c,hc⟩:∃c,s[k]'hk2=c:=⟨_,rfl⟩;have hstep:Aside (io a b (L.take (k+1))=C+(if c=a then 1 else if c=b then 1 else 0)):=by
      have h1:k<L.length:=by rw[ac];exact hk2
      have h2:L[k]'h1=c:=by subst hL;exact hc
      show _=_;rw[zbs L k h1,qwf,HC.out,qwg hab,h2]
     have hC3:Aside (io a b (L.take (k+1))<=2000000):=by
      show _<=_;unfold io;have h1:=List.count_le_length (a:=a) (l:=L.take (k+1));have h2:=List.count_le_length (a:=b) (l:=L.take (k+1));rw[List.length_take]at h1 h2;omega
     obtain⟨ga',gb',gt',ca',cb',ct',hR,-⟩:=HB.out.ex;have hRc:=hR c;unfold rv at hRc;clear hR;have g1:(c.toNat:Int)<256:=by have:=c.toNat_lt;omega
     by_cases h1:c=a
     ·rw[qX h1]at hRc;rw[qX h1]at hstep;clear h1
      go_wp2
      go_roundg g
      case measure=>omega
      case rel=>exact⟨rfl,k+1,C+1,congrArg _ (by omega),congrArg _ (by omega),by rw[decide_eq_true (Nat.succ_pos C)],by omega,by omega,hstep,by have:=hC3.out;rw[hstep.out]at this;exact this⟩
     ·rw[qW h1]at hRc;rw[qW h1]at hstep;by_cases h2:c=b
      ·rw[qX h2]at hRc;rw[qX h2]at hstep;clear h1 h2
       go_wp2
       go_roundg g
       case measure=>omega
       case rel=>exact⟨rfl,k+1,C+1,congrArg _ (by omega),congrArg _ (by omega),by rw[decide_eq_true (Nat.succ_pos C)],by omega,by omega,hstep,by have:=hC3.out;rw[hstep.out]at this;exact this⟩
      ·rw[qW h2]at hRc;rw[qW h2]at hstep;clear h1 h2
       go_wp2
       go_roundg g
       case measure=>omega
       case rel=>exact⟨rfl,k+1,C,congrArg _ (by omega),congrArg _ (by omega),rfl,by omega,by omega,hstep,hC⟩
    ·obtain rfl:k=s.size:=by omega
     have HC2:C=Z:=by rw[← HC.out,← ac,List.take_length,HZ.out]
     subst HC2
     go_wp2
     go_meet
     case rel=>exact⟨by rw[HM.out],rfl,Below.refl _ _⟩
 case rest=>
  obtain⟨rfl,hs6,hbw⟩:=hcut;cases h0:decide (0<Z)<;>rw[h0]at hs6<;>subst hs6
  ·have hz0:=of_decide_eq_false h0;have hid:=q61 hab [a1,a2] [b1,b2] L (by rw[HZ.out];omega)
   clear h0 hz0;have HI:Aside (dz a b [a1,a2] [b1,b2] L=L):=hid;clear hid
   go_wp2
   go_ret
   exact⟨by rw[HI.out,← hL];rfl,hbw⟩
  ·clear h0;have hmk:∀w:World,(Instr.makeSlice 23 (.int .i64 (M:Int)) (.int .i64 (M:Int))).run Tryz.prog w = .ok (.slice (some ⟨w.heap.size,0,none⟩) M M) (w.alloc (.cells (madeCells #[.int .u8 0] M) 5)):=fun w=>
    run_make_row' (P:=Tryz.prog) 23 5 (.int .u8 0) 1 Tryz.underlying23 (by kernel_rfl) rfl .i64 .i64 M (by omega) (by omega) w
   go_wp2
   obtain⟨G,hG⟩:∃G,wc.heap.size=G:=⟨_,rfl⟩;have hrow0:=World.rowIs_made wc (.int .u8 0) M 5;have hGle:w.heap.size<=G:=by rw[← hG];exact hbw.size
   have hbw1:=hbw.alloc hbw.size (Obj.cells (madeCells #[.int .u8 0] M) 5);rw[hG]at hrow0 ⊢;have hLM:Aside (∀k,(dz a b [a1,a2] [b1,b2] (L.take k)).length<=M):=fun k=>by
    have h1:dz a b [a1,a2] [b1,b2] L=dz a b [a1,a2] [b1,b2] (L.take k)++dz a b [a1,a2] [b1,b2] (L.drop k):=by rw[← qmv,List.take_append_drop]
    have h2:=congrArg List.length h1;rw[qmw hab,ac,HZ.out,HM.out,qM]at h2;omega
   go_loopg [13,14] s.size (fun gk s13 s14 wx=>∃k j:Nat,s13 = .int .i64 j/\s14 = .int .i64 k/\k<=s.size/\s.size<=k+gk/\j<=M/\Aside ((dz a b [a1,a2] [b1,b2] (L.take k)).length=j)/\Aside (wx.rowIs G 5 M (bv (dz a b [a1,a2] [b1,b2] (L.take k))))/\Below w.heap.size w wx)
   case atStart=>exact⟨0,0,rfl,rfl,Nat.zero_le _,by omega,Nat.zero_le _,rfl,hrow0.congr (fun i _=>(qgt [] i (Nat.zero_le _)).symm),hbw1⟩
   case round=>
    obtain⟨k,j,rfl,rfl,hk,hgk,hjM,HJ,hrow,hbx⟩:=hrel;clear hrow0 hbw1;by_cases hk2:k<s.size
    ·obtain⟨g,rfl⟩:∃g,gk=g+1:=⟨gk-1,by omega⟩
     have HG:Aside (s.size<=k+1+g):=by show _<=_;omega
     clear hgk hk;obtain⟨c,hc⟩:∃c,s[k]'hk2=c:=⟨_,rfl⟩;have hk1:k<L.length:=by rw[ac];exact hk2
     have hLk:L[k]'hk1=c:=by subst hL;exact hc
     have hstep:Aside (dz a b [a1,a2] [b1,b2] (L.take (k+1))=dz a b [a1,a2] [b1,b2] (L.take k)++oc a b [a1,a2] [b1,b2] c):=by
      show _=_;rw[zbs L k hk1,qmv,hLk];show _++(oc a b [a1,a2] [b1,b2] c++[])=_;rw[List.append_nil]
     have hfit:Aside (j+(oc a b [a1,a2] [b1,b2] c).length<=M):=by
      have:=hLM.out (k+1);rw[hstep.out,qM,HJ.out]at this;exact this
     clear hLk hk1;obtain⟨ga',gb',gt',ca',cb',ct',hR,hT',ht0',ht1',ha0,ha1,hb0,hb1⟩:=(HB.out.below hbx).ex;have hRc:=hR c;unfold rv at hRc;clear hR hT' ht0' ht1';have g1:(c.toNat:Int)<256:=by have:=c.toNat_lt;omega
     unfold oc at hstep hfit;by_cases h1:c=a
     ·rw[qX h1]at hRc hstep hfit;have hf2:j+2<=M:=hfit.out;clear h1;have hMj:¬M=j:=by omega
      obtain⟨ROW,hcp,hnew⟩:=q6h (w:=wr.drew) (c:=ca') hrow.out.drew hf2 (by rw[World.cell?_drew];exact ha0) (by rw[World.cell?_drew];exact ha1)
      have HN:Aside (_):=hnew;have HW:Aside (wrap64 ((j:Int)+2)=(j:Int)+2):=by have:=zcl (j+2);rw[Int.natCast_add]at this;exact this
      clear hnew
      go_wp2
      go_region
      all_goals go_wp2
      go_roundg g
      case measure=>exact Nat.lt_succ_self _
      case rel=>exact⟨k+1,j+2,by first|exact vI2 j|exact(congrArg (Value.int .i64) HW.out).trans (vI2 j),pb k,hk2,HG.out,hf2,by show _=_;rw[hstep.out,qM,HJ.out];rfl,World.rowIs.congr HN.out (fun i _=>by rw[hstep.out,← q56,HJ.out]),below_setRow hbx.drew hGle _⟩
     ·rw[qW h1]at hRc hstep hfit;by_cases h2:c=b
      ·rw[qX h2]at hRc hstep hfit;have hf2:j+2<=M:=hfit.out;clear h1 h2;have hMj:¬M=j:=by omega
       obtain⟨ROW,hcp,hnew⟩:=q6h (w:=wr.drew) (c:=cb') hrow.out.drew hf2 (by rw[World.cell?_drew];exact hb0) (by rw[World.cell?_drew];exact hb1)
       have HN:Aside (_):=hnew;have HW:Aside (wrap64 ((j:Int)+2)=(j:Int)+2):=by have:=zcl (j+2);rw[Int.natCast_add]at this;exact this
       clear hnew
       go_wp2
       go_region
       all_goals go_wp2
       go_roundg g
       case measure=>exact Nat.lt_succ_self _
       case rel=>exact⟨k+1,j+2,by first|exact vI2 j|exact(congrArg (Value.int .i64) HW.out).trans (vI2 j),pb k,hk2,HG.out,hf2,by show _=_;rw[hstep.out,qM,HJ.out];rfl,World.rowIs.congr HN.out (fun i _=>by rw[hstep.out,← q56,HJ.out]),below_setRow hbx.drew hGle _⟩
      ·rw[qW h2]at hRc hstep hfit;have hf1:j+1<=M:=hfit.out;clear h1 h2;have hcell:wr.cell? ⟨G,j,none⟩=some (bv (dz a b [a1,a2] [b1,b2] (L.take k)) j):=hrow.out.cell (by omega)
       have hfroz:wr.frozen? ⟨G,j,none⟩=false:=hrow.out.frozen j
       go_wp2
       go_roundg g
       case measure=>exact Nat.lt_succ_self _
       case rel=>exact⟨k+1,j+1,pb j,pb k,hk2,HG.out,hf1,by show _=_;rw[hstep.out,qM,HJ.out];rfl,World.rowIs.congr (World.rowIs.set hrow.out j _) (fun i _=>by rw[hstep.out,← zh6,HJ.out]),hbx.setCell hGle _⟩
    ·obtain rfl:k=s.size:=by omega
     have HT:Aside (L.take s.size=L):=by show _=_;rw[← ac,List.take_length]
     have HE:Aside (∃l,l=dz a b [a1,a2] [b1,b2] L/\l.length=M):=⟨_,rfl,by rw[qmw hab,ac,HZ.out,HM.out]⟩
     obtain⟨E,hE,hEl⟩:=HE.out;have hcv:(convert 23 9 (.slice (some ⟨G,0,none⟩) M M)).run Tryz.prog wr = .ok (.string ⟨E.toArray⟩) wr:=by
      have h:=run_convert_bytes_back (P:=Tryz.prog) wr 23 9 5 ⟨G,0,none⟩ M E Tryz.underlying23 Tryz.underlying5 Tryz.underlying9 (fun i hi=>by
       rw[jy,wO,hrow.out.cell (by omega),HT.out,← hE]
       unfold bv;rw[List.getD_eq_getElem?_getD,List.getElem?_eq_getElem hi];rfl)
      rw[hEl]at h;exact h
     have HEq:Aside (E=dz a b [a1,a2] [b1,b2] L):=hE;clear hE hEl
     go_wp2
     go_ret
     exact⟨by rw[← HEq.out];rfl,hbx⟩
end Go.Proofs.Repl
set_option linter.unusedVariables false
namespace Go.Proofs.Repl
open Go.Shelf Go.RowKit Go.Lib Go.Sym
def zkp:(Tryz.prog.info? 9).map (fun i=>(i.zero,i.size,i.bytes))=some (some (Value.string ⟨#[]⟩),1,16):=by kernel_rfl
def mk2(w:World):(Instr.makeSlice 33 (.int .i64 0) (.int .i64 2)).run Tryz.prog w = .ok (.slice (some ⟨w.heap.size,0,none⟩) 0 2) (w.alloc (.cells #[.string ⟨#[]⟩,.string ⟨#[]⟩] 9)):=by
 obtain⟨i,hi,hzz⟩:=Option.map_eq_some_iff.1 zkp;simp only[qP]at hzz;obtain⟨hz,hs,hb⟩:=hzz;have h:=run_make (P:=Tryz.prog) w 33 9 i (.string ⟨#[]⟩) Tryz.underlying33 hi hz .i64 .i64 0 2 (by decide) (by decide) (by rw[hb];decide) (by decide)
 rw[hs,show madeCells (Value.string ⟨#[]⟩).cells (Int.toNat 2*1)=#[.string ⟨#[]⟩,.string ⟨#[]⟩] from by kernel_rfl]at h
 exact h
def zr(V:Value)(j:Nat):Value:=if j=256 then V else .slice none 0 0
def z1(b:UInt8)(g c:Nat)(V:Value)(j:Nat):Value:=if j=b.toNat then .slice (some ⟨g,0,none⟩) 2 c else zr V j
def veg:Tryz.zeroCells310.toList.length=257:=by kernel_rfl
def ved:Tryz.zeroCells310.toList.all (fun v=>v.oneCell')=true:=by kernel_rfl
def kp:Option Value->Bool|some (.slice none n c)=>Nat.beq n 0&&Nat.beq c 0|_=>false
def zkv{v:Option Value}(h:kp v=true):v=some (.slice none 0 0):=by
 unfold kp at h;split at h
 ·simp only[qA]at h;rw[qN h.1,qN h.2]
 ·cases h
def vee:(List.range 257).all (fun j=>kp Tryz.zeroCells310.toList[j]?)=true:=by kernel_rfl
def zp2(w:World)(T:Nat):∃ROW,(storeCells ⟨w.heap.size,0,none⟩ (Tryz.zeroCells310.toList.set 256 (.slice (some ⟨T,0,none⟩) 0 2))).run Tryz.prog (w.alloc (.cells Tryz.zeroCells310 310)) = .ok () ((w.alloc (.cells Tryz.zeroCells310 310)).setRow w.heap.size ROW) /\
  ((w.alloc (.cells Tryz.zeroCells310 310)).setRow w.heap.size ROW).rowIs w.heap.size 310 257 (zr (.slice (some ⟨T,0,none⟩) 0 2)):=by
 have hnew:(w.alloc (.cells Tryz.zeroCells310 310)).heap[w.heap.size]? = some (.cells Tryz.zeroCells310 310):=heap_alloc_new w _;have hz:=veg;have h:=run_storeCells_at Tryz.prog w.heap.size 0 310 (Tryz.zeroCells310.toList.set 256 (.slice (some ⟨T,0,none⟩) 0 2)) 0 _ _ hnew (by rw[List.length_set,hz,← Array.length_toList,hz];decide) (fun v hv=>by
  rcases List.mem_or_eq_of_mem_set hv with hv|rfl
  ·exact List.all_eq_true.1 ved v hv
  ·rfl)
 refine⟨_,h,?_⟩;refine⟨_,setRow_heap _ _ _ _ _ _ hnew,?_,fun i hi => ?_⟩
 ·simp only[List.size_toArray,qM,List.length_set,List.length_take,List.length_drop,hz];decide
 ·rw[List.getElem?_toArray,List.length_set,hz,List.drop_eq_nil_of_le (by rw[hz];decide),List.append_nil]
  show([]++_)[i]? = _;rw[List.nil_append,List.getElem?_set];unfold zr;by_cases h2:256=i
  ·subst h2;rw[qX rfl,qX rfl,hz];rfl
  ·rw[qW h2,qW (fun e=>h2 e.symm)]
   exact zkv (List.all_eq_true.1 vee i (List.mem_range.2 hi))
def qbh(w:World)(x y:UInt8):Obj := .cells (bytesRow ⟨#[x,y]⟩ (grownCap w 2 0 5)) 5 ((bytesRow ⟨#[x,y]⟩ (grownCap w 2 0 5)).size,(bytesRow ⟨#[x,y]⟩ (grownCap w 2 0 5)).size+1)
def qbe(w:World):Nat:=grownCap w 2 0 5
def cv2(w:World)(x y:UInt8):(convert 9 23 (.string ⟨#[x,y]⟩)).run Tryz.prog w = .ok (.slice (some ⟨w.heap.size,0,none⟩) 2 (qbe w)) (w.drew.alloc (qbh w x y)):=
 run_bytes_of_string (P:=Tryz.prog) w 9 23 5 ⟨#[x,y]⟩ Tryz.underlying9 Tryz.underlying23 Tryz.underlying5
def zh2(w W:World)(x y:UInt8):(W.alloc (qbh w x y)).cell? ⟨W.heap.size,0,none⟩=some (.int .u8 x.toNat)/\(W.alloc (qbh w x y)).cell? ⟨W.heap.size,1,none⟩=some (.int .u8 y.toNat):=by
 unfold qbh;rw[World.cell?_alloc_mark,World.cell?_alloc_mark];exact⟨bytesRow_at ⟨#[x,y]⟩ _ 0 (by show 0<2;decide),bytesRow_at ⟨#[x,y]⟩ _ 1 (by show 1<2;decide)⟩
def cv1(w:World)(x:UInt8):(convert 23 9 (.slice (some ⟨w.heap.size,0,none⟩) 1 1)).run Tryz.prog (w.alloc (.cells #[.int .u8 x.toNat] 5)) = .ok (.string ⟨#[x]⟩) (w.alloc (.cells #[.int .u8 x.toNat] 5)):=
 run_convert_bytes_back (P:=Tryz.prog) _ 23 9 5 ⟨w.heap.size,0,none⟩ 1 [x] Tryz.underlying23 Tryz.underlying5 Tryz.underlying9 (fun i hi=>by
  have:i=0:=by simpa using hi
  subst this;rw[jy];show World.cell? _ ⟨w.heap.size,0,none⟩=_;unfold World.cell?;rw[show(w.alloc (.cells #[.int .u8 (x.toNat:Int)] 5)).heap[w.heap.size]? = _ from heap_alloc_new w _]
  rfl)
def w4(wr:World)(T k n:Nat)(c:UInt8):World:=(((wr.alloc (.cells #[.int .u8 c.toNat] 5)).alloc (.cells #[.string ⟨#[c]⟩] 9)).setCell ⟨T,k,none⟩ (.string ⟨#[c]⟩)).setCell ⟨T+1,256,none⟩ (.slice (some ⟨T,0,none⟩) n 2)
def w5(wr:World)(T k n:Nat)(c x y:UInt8):World:=(((w4 wr T k n c).alloc (qbh (w4 wr T k n c) x y)).setCell ⟨T+1,c.toNat,none⟩ (.slice (some ⟨wr.heap.size+1+1,0,none⟩) 2 (qbe (w4 wr T k n c)))).drew
def zbi(wr:World)(T k n:Nat)(c x y:UInt8)(hT:T+2<=wr.heap.size){f h:Nat->Value}(hR:wr.rowIs (T+1) 310 257 f)(hTr:wr.rowIs T 9 2 h) :
  (w5 wr T k n c x y).rowIs (T+1) 310 257 (fun j=>if j=c.toNat then .slice (some ⟨wr.heap.size+1+1,0,none⟩) 2 (qbe (w4 wr T k n c)) else if j=256 then .slice (some ⟨T,0,none⟩) n 2 else f j)/\(w5 wr T k n c x y).rowIs T 9 2 (fun i=>if i=k then .string ⟨#[c]⟩ else h i) /\
   (w5 wr T k n c x y).cell? ⟨wr.heap.size+1+1,0,none⟩=some (.int .u8 x.toNat)/\(w5 wr T k n c x y).cell? ⟨wr.heap.size+1+1,1,none⟩=some (.int .u8 y.toNat)/\(∀p:Addr,T+2<=p.block->p.block<wr.heap.size->(w5 wr T k n c x y).cell? p=wr.cell? p)/\Below T wr (w5 wr T k n c x y)/\T+2<=(w5 wr T k n c x y).heap.size:=by
 unfold w5;generalize hWb:qbh (w4 wr T k n c) x y=B;generalize (Value.slice (some ⟨wr.heap.size+1+1,0,none⟩) 2 (qbe (w4 wr T k n c)))=V3;have hbc0:=fun W=>zh2 (w4 wr T k n c) W x y
 rw[hWb]at hbc0;unfold w4;clear hWb;generalize (Obj.cells #[.int .u8 c.toNat] 5)=o1;generalize (Obj.cells #[.string ⟨#[c]⟩] 9)=o2;generalize (Value.string ⟨#[c]⟩)=S;generalize (Value.slice (some ⟨T,0,none⟩) n 2)=V2;have hsz:((((wr.alloc o1).alloc o2).setCell ⟨T,k,none⟩ S).setCell ⟨T+1,256,none⟩ V2).heap.size=wr.heap.size+1+1:=by simp[World.setCell]
 have hbc:=hbc0 ((((wr.alloc o1).alloc o2).setCell ⟨T,k,none⟩ S).setCell ⟨T+1,256,none⟩ V2);rw[hsz]at hbc;refine⟨?_,?_,?_,?_,fun p h1 h2 => ?_,?_,?_⟩
 ·exact(((((hR.alloc o1).alloc o2).setOther (a:=⟨T,k,none⟩) (by simp) S).set 256 V2).alloc _).set _ V3
 ·exact(((((hTr.alloc o1).alloc o2).set k S).setOther (a:=⟨T+1,256,none⟩) (by simp) V2).alloc _).setOther (a:=⟨T+1,c.toNat,none⟩) (by simp) V3
 ·rw[World.cell?_drew,World.cell?_setCell_other _ _ _ _ (by intro h;have:=congrArg Addr.block h;simp at this;omega)];exact hbc.1
 ·rw[World.cell?_drew,World.cell?_setCell_other _ _ _ _ (by intro h;have:=congrArg Addr.block h;simp at this;omega)];exact hbc.2
 ·refine World.cell?_of_block (w:=wr) ?_;show(World.setCell _ _ _).heap[p.block]? = _;rw[Below.heap_setCell _ _ _ _ (by simp;omega),Below.heap_alloc _ _ _ (by rw[hsz];omega),Below.heap_setCell _ _ _ _ (by simp;omega),Below.heap_setCell _ _ _ _ (by simp;omega),Below.heap_alloc _ _ _ (by simp;omega),Below.heap_alloc _ _ _ h2]
 ·have hsz2:wr.heap.size+1+1=((((wr.alloc o1).alloc o2).setCell ⟨T,k,none⟩ S).setCell ⟨T+1,256,none⟩ V2).heap.size:=hsz.symm;exact(((((((Below.refl T wr).alloc (by omega) o1).alloc (by simp;omega) o2).setCell (p:=⟨T,k,none⟩) (wF _) S).setCell (p:=⟨T+1,256,none⟩) (Nat.le_succ _) V2).alloc (by omega) _).setCell (p:=⟨T+1,c.toNat,none⟩) (Nat.le_succ _) V3).drew
 ·show _<=(World.setCell _ _ _).heap.size;simp[World.setCell];omega
set_option maxHeartbeats 4000000 in
set_option maxRecDepth 1000000 in
def zht(q ro cap:Nat)(a b a1 a2 b1 b2:UInt8)(w:World)(hab:a≠b)
  (hc:w.cell? ⟨q,4,none⟩=some (.slice (some ⟨ro,0,none⟩) 4 cap)) (h0:w.cell? ⟨ro,0,none⟩=some (.string ⟨#[a]⟩)) (h1:w.cell? ⟨ro,1,none⟩=some (.string ⟨#[a1,a2]⟩)) (h2:w.cell? ⟨ro,2,none⟩=some (.string ⟨#[b]⟩)) (h3:w.cell? ⟨ro,3,none⟩=some (.string ⟨#[b1,b2]⟩)) :
  Calls Tryz.prog 254 #[.pointer (some ⟨q,0,none⟩)] w fun e w'=>∃R,e = .returned (.iface 311 (.pointer (some ⟨R,0,none⟩)))/\jt R a b a1 a2 b1 b2 w'/\Below w.heap.size w w':=by
 go_enter Tryz.func254,Tryz.ntmps254
 go_wp2
 go_loopg [4,5] 2 (fun gk s4 s5 wx=>wx=w/\((s5 = .int .i64 0/\s4 = .bool true/\gk=2)\/(s5 = .int .i64 2/\s4 = .bool false/\gk=1)\/(s5 = .int .i64 4/\s4 = .bool false/\gk=0)))
 case atStart=>exact⟨rfl,Or.inl ⟨rfl,rfl,rfl⟩⟩
 case round=>
  obtain⟨rfl,⟨rfl,rfl,rfl⟩|⟨rfl,rfl,rfl⟩|⟨rfl,rfl,rfl⟩⟩:=hrel
  ·go_wp2
   go_roundg 1
   case measure=>exact Nat.lt_succ_self _
   case rel=>exact⟨rfl,Or.inr (Or.inl ⟨rfl,rfl,rfl⟩)⟩
  ·go_wp2
   go_roundg 0
   case measure=>exact Nat.lt_succ_self _
   case rel=>exact⟨rfl,Or.inr (Or.inr ⟨rfl,rfl,rfl⟩)⟩
  ·have hmk:=mk2;obtain⟨W1,hW1⟩:∃W1,wr.alloc (.cells #[.string ⟨#[]⟩,.string ⟨#[]⟩] 9)=W1:=⟨_,rfl⟩;have hz1:W1.heap.size=wr.heap.size+1:=by rw[← hW1];simp
   have hT1:W1.rowIs wr.heap.size 9 2 (fun _ => .string ⟨#[]⟩):=by rw[← hW1];exact World.rowIs_alloc wr _ _ _ (fun i hi=>by match i,hi with|0,_=>rfl|1,_=>rfl)
   have hb1:Below wr.heap.size wr W1:=by rw[← hW1];exact(Below.refl _ _).alloc (wF _) _
   obtain⟨ROW,hst,hrow⟩:=zp2 W1 wr.heap.size;rw[hz1]at hst hrow;have hT2:=(hT1.alloc (.cells Tryz.zeroCells310 310)).of_block (setRow_other (W1.alloc (.cells Tryz.zeroCells310 310)) (wr.heap.size+1) wr.heap.size ROW (by omega))
   have hb2:=below_setRow (hb1.alloc hb1.size (.cells Tryz.zeroCells310 310)) (Nat.le_succ wr.heap.size) ROW;obtain⟨W2,hW2⟩:∃W2,(W1.alloc (.cells Tryz.zeroCells310 310)).setRow (wr.heap.size+1) ROW=W2:=⟨_,rfl⟩;rw[hW2]at hst hrow hT2 hb2;have HB2:Aside (W2.rowIs (wr.heap.size+1) 310 257 (zr (.slice (some ⟨wr.heap.size,0,none⟩) 0 2))/\W2.rowIs wr.heap.size 9 2 (fun _ => .string ⟨#[]⟩)/\Below wr.heap.size wr W2):=⟨hrow,hT2,hb2⟩
   clear hrow hT2 hb2 hT1 hb1 hW2
   go_wp2
   obtain⟨T,hT⟩:∃T,wr.heap.size=T:=⟨_,rfl⟩;rw[hT]at HB2 ⊢;have hS:Aside (wr.heap.size=T):=hT;clear hst hmk hz1 hW1 hT
   go_loopg [12] 2 (fun gk s12 wx=>Below T wr wx/\T+2<=wx.heap.size/\(
    (s12 = .int .i64 2/\gk=2/\Aside (wx.rowIs (T+1) 310 257 (zr (.slice (some ⟨T,0,none⟩) 0 2))/\wx.rowIs T 9 2 (fun _ => .string ⟨#[]⟩))) \/
    (s12 = .int .i64 0/\gk=1/\∃gb cb,T+2<=gb/\gb<wx.heap.size/\Aside (wx.rowIs (T+1) 310 257 (fun j=>if j=b.toNat then .slice (some ⟨gb,0,none⟩) 2 cb else if j=256 then .slice (some ⟨T,0,none⟩) 1 2 else .slice none 0 0)/\wx.rowIs T 9 2 (fun i=>if i=0 then .string ⟨#[b]⟩ else .string ⟨#[]⟩)/\wx.cell? ⟨gb,0,none⟩=some (.int .u8 b1.toNat)/\wx.cell? ⟨gb,1,none⟩=some (.int .u8 b2.toNat))) \/
    (s12 = .int .i64 (-2)/\gk=0/\Aside (jt (T+1) a b a1 a2 b1 b2 wx))))
   case atStart=>exact⟨HB2.out.2.2,by have:=HB2.out.1.lt;omega,Or.inl ⟨rfl,rfl,HB2.out.1,HB2.out.2.1⟩⟩
   case round=>
    obtain⟨hbx,hsz,h⟩:=hrel;have k0:=(hbx.cell (p:=⟨ro,0,none⟩) (by rw[← hS.out];exact World.block_lt_of_cell? _ _ h0)).trans h0
    have k1:=(hbx.cell (p:=⟨ro,1,none⟩) (by rw[← hS.out];exact World.block_lt_of_cell? _ _ h1)).trans h1
    have k2:=(hbx.cell (p:=⟨ro,2,none⟩) (by rw[← hS.out];exact World.block_lt_of_cell? _ _ h2)).trans h2
    have k3:=(hbx.cell (p:=⟨ro,3,none⟩) (by rw[← hS.out];exact World.block_lt_of_cell? _ _ h3)).trans h3
    clear h0 h1 h2 h3 hc HB2;have e1:=zjg;have e2:=zjf;have e3:=cv1;have e4:=cv2;rcases h with⟨rfl,rfl,hr⟩|⟨rfl,rfl,gb,cb,hgb,hgs,hr⟩|⟨rfl,rfl,hr⟩
    ·have g0:∀h,(⟨#[b]⟩:ByteArray)[0]'h=b:=fun _=>rfl
     have g1:(b.toNat:Int)<256:=by have:=b.toNat_lt;omega
     have g2:b.toNat<256:=b.toNat_lt;have hRb:wr.cell? ⟨T+1,b.toNat,none⟩=some (.slice none 0 0):=by
      rw[hr.out.1.cell (by omega)];unfold zr;rw[qW (by have:=b.toNat_lt;omega)]
     have hR2:wr.cell? ⟨T+1,256,none⟩=some (.slice (some ⟨T,0,none⟩) 0 2):=by rw[hr.out.1.cell (by decide)];rfl
     have hT0:∀o1 o2,((wr.alloc o1).alloc o2).cell? ⟨T,0,none⟩=some (.string ⟨#[]⟩):=fun o1 o2=>((hr.out.2.alloc o1).alloc o2).cell (by decide)
     have hTf:∀o1 o2,((wr.alloc o1).alloc o2).frozen? ⟨T,0,none⟩=false:=fun o1 o2=>((hr.out.2.alloc o1).alloc o2).frozen _
     have hR3:∀o1 o2,((wr.alloc o1).alloc o2).cell? ⟨T+1,256,none⟩=some (.slice (some ⟨T,0,none⟩) 0 2):=fun o1 o2=>by rw[((hr.out.1.alloc o1).alloc o2).cell (by decide)];rfl
     have hRf:∀o1 o2,((wr.alloc o1).alloc o2).frozen? ⟨T+1,256,none⟩=false:=fun o1 o2=>((hr.out.1.alloc o1).alloc o2).frozen _
     have hR4:∀o1 o2 v1 v2 o3,(((((wr.alloc o1).alloc o2).setCell ⟨T,0,none⟩ v1).setCell ⟨T+1,256,none⟩ v2).alloc o3).cell? ⟨T+1,b.toNat,none⟩=some (.slice none 0 0):=fun o1 o2 v1 v2 o3=>by
      rw[((((((hr.out.1.alloc o1).alloc o2).setOther (a:=⟨T,0,none⟩) (by simp) v1).set 256 v2)).alloc o3).cell (by omega)]
      rw[qW (by omega)];unfold zr;rw[qW (by have:=b.toNat_lt;omega)]
     have hRg:∀o1 o2 v1 v2 o3,(((((wr.alloc o1).alloc o2).setCell ⟨T,0,none⟩ v1).setCell ⟨T+1,256,none⟩ v2).alloc o3).frozen? ⟨T+1,b.toNat,none⟩=false:=fun o1 o2 v1 v2 o3=>
      ((((((hr.out.1.alloc o1).alloc o2).setOther (a:=⟨T,0,none⟩) (by simp) v1).set 256 v2)).alloc o3).frozen _
     clear g2
     go_wp2
     go_roundg 1
     case measure=>exact Nat.lt_succ_self _
     case rel=>
      have HS:=zbi wr T 0 1 b b1 b2 hsz hr.out.1 hr.out.2;obtain⟨q1,q2,q3,q4,q5,q6,q7⟩:=HS;have q8:=World.block_lt_of_cell? _ _ q3;refine⟨hbx.trans q6,q7,Or.inr (Or.inl ⟨rfl,rfl,wr.heap.size+1+1,qbe (w4 wr T 0 1 b),by omega,q8,(?_:_/\_/\_/\_)⟩)⟩
      refine⟨q1.congr (fun j _ => ?_),q2,q3,q4⟩
      ·show(if _ then _ else if _ then _ else zr _ j)=_
       unfold zr;by_cases h1:j=b.toNat
       ·rw[qX h1,qX h1]
       ·by_cases h2:j=256
        ·rw[qW h1,qX h2,qW h1,qX h2]
        ·rw[qW h1,qW h2,qW h2,qW h1,qW h2]
    ·have g0:∀h,(⟨#[a]⟩:ByteArray)[0]'h=a:=fun _=>rfl
     have g1:(a.toNat:Int)<256:=by have:=a.toNat_lt;omega
     have g2:a.toNat<256:=a.toNat_lt;have hne:¬a.toNat=b.toNat:=fun h=>hab (UInt8.toNat_inj.1 h)
     have HNE:Aside (¬a.toNat=b.toNat):=hne;have hRb:wr.cell? ⟨T+1,a.toNat,none⟩=some (.slice none 0 0):=by
      rw[hr.out.1.cell (by omega)];rw[qW (by omega),qW (by omega)]
     have hR2:wr.cell? ⟨T+1,256,none⟩=some (.slice (some ⟨T,0,none⟩) 1 2):=by rw[hr.out.1.cell (by decide)];rw[qW (by have:=b.toNat_lt;omega),qX rfl]
     have hT0:∀o1 o2,((wr.alloc o1).alloc o2).cell? ⟨T,1,none⟩=some (.string ⟨#[]⟩):=fun o1 o2=>((hr.out.2.1.alloc o1).alloc o2).cell (by decide)
     have hTf:∀o1 o2,((wr.alloc o1).alloc o2).frozen? ⟨T,1,none⟩=false:=fun o1 o2=>((hr.out.2.1.alloc o1).alloc o2).frozen _
     have hR3:∀o1 o2,((wr.alloc o1).alloc o2).cell? ⟨T+1,256,none⟩=some (.slice (some ⟨T,0,none⟩) 1 2):=fun o1 o2=>by rw[((hr.out.1.alloc o1).alloc o2).cell (by decide)];rw[qW (by have:=b.toNat_lt;omega),qX rfl]
     have hRf:∀o1 o2,((wr.alloc o1).alloc o2).frozen? ⟨T+1,256,none⟩=false:=fun o1 o2=>((hr.out.1.alloc o1).alloc o2).frozen _
     have hR4:∀o1 o2 v1 v2 o3,(((((wr.alloc o1).alloc o2).setCell ⟨T,1,none⟩ v1).setCell ⟨T+1,256,none⟩ v2).alloc o3).cell? ⟨T+1,a.toNat,none⟩=some (.slice none 0 0):=fun o1 o2 v1 v2 o3=>by
      rw[((((((hr.out.1.alloc o1).alloc o2).setOther (a:=⟨T,1,none⟩) (by simp) v1).set 256 v2)).alloc o3).cell (by omega)]
      rw[qW (by omega)];rw[qW (by omega),qW (by omega)]
     have hRg:∀o1 o2 v1 v2 o3,(((((wr.alloc o1).alloc o2).setCell ⟨T,1,none⟩ v1).setCell ⟨T+1,256,none⟩ v2).alloc o3).frozen? ⟨T+1,a.toNat,none⟩=false:=fun o1 o2 v1 v2 o3=>
      ((((((hr.out.1.alloc o1).alloc o2).setOther (a:=⟨T,1,none⟩) (by simp) v1).set 256 v2)).alloc o3).frozen _
     clear g2 hne
     go_wp2
     go_roundg 0
     case measure=>exact Nat.lt_succ_self _
     case rel=>
      have HS:=zbi wr T 1 2 a a1 a2 hsz hr.out.1 hr.out.2.1;obtain⟨q1,q2,q3,q4,q5,q6,q7⟩:=HS;have hgbR:=(q5 ⟨gb,0,none⟩ hgb hgs).trans hr.out.2.2.1;have hgbS:=(q5 ⟨gb,1,none⟩ hgb hgs).trans hr.out.2.2.2;have hB:jt (T+1) a b a1 a2 b1 b2 (w5 wr T 1 2 a a1 a2):=by
       refine⟨wr.heap.size+1+1,gb,T,qbe (w4 wr T 1 2 a),cb,2,fun d => ?_,?_,?_,?_,q3,q4,hgbR,hgbS⟩
       ·rw[q1.cell (by have:=d.toNat_lt;omega)]
        unfold rv;by_cases h1:d=a
        ·rw[qX (congrArg _ h1),qX h1]
        ·rw[qW (fun h=>h1 (UInt8.toNat_inj.1 h)),qW h1,qW (by have:=d.toNat_lt;omega)]
         by_cases h2:d=b
         ·rw[qX (congrArg _ h2),qX h2]
         ·rw[qW (fun h=>h2 (UInt8.toNat_inj.1 h)),qW h2,qW (by have:=d.toNat_lt;omega)]
       ·rw[q1.cell (by decide),qW (by have:=a.toNat_lt;omega),qX rfl]
       ·rw[q2.cell (by decide)];rfl
       ·rw[q2.cell (by decide)];rfl
      exact⟨hbx.trans q6,q7,Or.inr (Or.inr ⟨rfl,rfl,hB⟩)⟩
    ·go_wp2
     go_ret
     exact⟨T+1,rfl,hr.out,by rw[hS.out];exact hbx⟩
end Go.Proofs.Repl
namespace Go.Proofs.YtbcijcbgdaggdabGreatDoor.Once
def disable(w:World):(callFunc 305 #[]).run Tryz.prog w = .ok (.value (.tuple #[])) w:=run_call_mark0 Tryz.func305 (by kernel_rfl) (by kernel_rfl) (by kernel_rfl) .disable (by kernel_rfl) w
def enable(w:World):(callFunc 307 #[]).run Tryz.prog w = .ok (.value (.tuple #[])) w:=run_call_mark0 Tryz.func307 (by kernel_rfl) (by kernel_rfl) (by kernel_rfl) .enable (by kernel_rfl) w
def acquire(a:Addr)(w:World):(callFunc 308 #[.pointer (some a)]).run Tryz.prog w = .ok (.value (.tuple #[])) w:=run_call_marked Tryz.func308 (by kernel_rfl) (by kernel_rfl) (by kernel_rfl) .acquire (by kernel_rfl) a w
def releaseMerge(a:Addr)(w:World):(callFunc 310 #[.pointer (some a)]).run Tryz.prog w = .ok (.value (.tuple #[])) w:=run_call_marked Tryz.func310 (by kernel_rfl) (by kernel_rfl) (by kernel_rfl) .releaseMerge (by kernel_rfl) a w
set_option maxHeartbeats 1600000 in
def zp7(a:Addr)(x:Value)(u:FrameMode)(w:World)(hc:w.cell? a=some x)(hz:w.frozen? a=false) :
  CallsD Tryz.prog 278 #[.pointer (some a),.bool true] u w fun e u' w'=>u'=u/\(e = .returned (.tuple #[])/\w'=w.drew.setCell a (.int .u32 1)):=by
 have hc':w.drew.cell? a=some x:=by go_simp
 have hz':w.drew.frozen? a=false:=by go_simp
 have hst:=run_call_store (P:=Tryz.prog) Tryz.func295 (by kernel_rfl) (by kernel_rfl) (by kernel_rfl) (by kernel_rfl) (k := .u32) (y:=1) hc' hz'
 go_enter_d Tryz.func278,Tryz.ntmps278
 go_wp2
 go_region_calls
 all_goals (go_end0;exact⟨rfl,rfl⟩)
set_option maxHeartbeats 1600000 in
def zrc(a:Addr)(u:FrameMode)(w:World)(hc:w.cell? a=some (.int .i32 1))(hz:w.frozen? a=false) :
  CallsD Tryz.prog 277 #[.pointer (some a)] u w fun e u' w'=>u'=u/\(e = .returned (.tuple #[])/\w'=w.setCell a (.int .i32 0)):=by
 have hd:=disable;have he:=enable;have hr:=releaseMerge;have hadd:=run_call_add (P:=Tryz.prog) Tryz.func311 (by kernel_rfl) (by kernel_rfl) (by kernel_rfl) .i32 (by kernel_rfl) (y := -1) (s:=0) hc hz (by simp[go_sem];rfl)
 have hcv:=run_convert_to_unsafe (P:=Tryz.prog) (src:=342) (dst:=160) Tryz.underlying342 Tryz.underlying160 (by kernel_rfl) hc
 go_enter_d Tryz.func277,Tryz.ntmps277
 go_wp2
 go_end0
 go_wp2
 go_end0
 exact⟨rfl,rfl⟩
set_option maxHeartbeats 1600000 in
def zlk(a:Addr)(w:World)(hc:w.cell? a=some (.int .i32 0))(hz:w.frozen? a=false) :
  Calls Tryz.prog 276 #[.pointer (some a)] w fun e w'=>e = .returned (.tuple #[])/\w'=w.setCell a (.int .i32 1):=by
 have hd:=disable;have he:=enable;have ha:=acquire;have hcas:=run_call_cas_hit (P:=Tryz.prog) Tryz.func306 (by kernel_rfl) (by kernel_rfl) (by kernel_rfl) .i32 (by kernel_rfl) (y:=1) hc hz
 have hc':(w.setCell a (.int .i32 1)).cell? a=some (.int .i32 1):=World.cell?_setCell_same w a _ hc;have hcv:=run_convert_to_unsafe (P:=Tryz.prog) (src:=342) (dst:=160) Tryz.underlying342 Tryz.underlying160 (by kernel_rfl) hc'
 go_enter Tryz.func276,Tryz.ntmps276
 go_wp2
 first|go_end0|(simp only[Exit.inBlock,Exit.then];refine bodyPost_ret (results_none rfl _ _ _) rfl ?_)|refine bodyPost_ret (results_none rfl _ _ _) rfl ?_
 go_wp2
 go_end0
 exact⟨rfl,rfl⟩
end Go.Proofs.YtbcijcbgdaggdabGreatDoor.Once
namespace Go.Proofs.YtbcijcbgdaggdabGreatDoor.Once
set_option maxHeartbeats 1600000 in
def zpw(b:Nat)(w:World)(R:World->Prop)
  (h0:w.cell? ⟨b,0,none⟩=some (.int .u32 0)) (h1:w.cell? ⟨b,0+1,none⟩=some (.int .i32 0)) (f0:w.frozen? ⟨b,0,none⟩=false) (f1:w.frozen? ⟨b,0+1,none⟩=false)
  (hf:Calls Tryz.prog 226 #[.pointer (some ⟨b,0,none⟩)] (w.setCell ⟨b,0+1,none⟩ (.int .i32 1)) fun e w'=>e = .returned (.tuple #[])/\R w')
  (hR:∀w',R w'->w'.cell? ⟨b,0,none⟩=some (.int .u32 0)/\w'.frozen? ⟨b,0,none⟩=false/\w'.cell? ⟨b,0+1,none⟩=some (.int .i32 1)/\w'.frozen? ⟨b,0+1,none⟩=false) :
  Calls Tryz.prog 253 #[.pointer (some ⟨b,0,none⟩),.func (.func 226) #[.pointer (some ⟨b,0,none⟩)] #[]] w fun e w'=>e = .returned (.tuple #[])/\∃w1,R w1/\w'=(w1.drew.setCell ⟨b,0,none⟩ (.int .u32 1)).setCell ⟨b,0+1,none⟩ (.int .i32 0):=by
 have hl:=run_call_load (P:=Tryz.prog) Tryz.func275 (by kernel_rfl) (by kernel_rfl) (by kernel_rfl) .u32 (by kernel_rfl) (w:=w.setCell ⟨b,0+1,none⟩ (.int .i32 1)) (a:=⟨b,0,none⟩) (x:=0) ((World.cell?_setCell_other _ ⟨b,0+1,none⟩ ⟨b,0,none⟩ _ (by simp)).trans h0)
 have hnot:∀(x:Bool)(w:World),(Op.unary .not (.bool x)).run Tryz.prog w = .ok (.bool (!x)) w:=fun _ _=>rfl
 go_enter_defers Tryz.func253,Tryz.ntmps253
 go_wp2_with (first|(go_at_call 276;refine(zlk ⟨b,0+1,none⟩ _ (by go_simp) (by go_simp)).mono ?_;rintro e w' ⟨rfl,rfl⟩)|(go_at_call 252;go_in)|(go_at_call 226;refine hf.mono ?_;rintro e w' ⟨rfl,hw⟩))
 obtain⟨r0,rf0,r1,rf1⟩:=hR w' hw
 first|go_end0|skip
 first|go_wp2|skip
 refine leaves_cons (f:=278) (args:=#[.pointer (some ⟨b,0,none⟩),.bool true]) (by simp) (by simp[go_sem]) ?_
 refine(zp7 ⟨b,0,none⟩ (.int .u32 0) .returning _ r0 rf0).mono ?_;rintro e u' w'' ⟨rfl,rfl,rfl⟩
 refine leaves_cons (f:=277) (args:=#[.pointer (some ⟨b,0+1,none⟩)]) (by simp[settle]) (by simp[go_sem]) ?_
 have r1':(w'.drew.setCell ⟨b,0,none⟩ (.int .u32 1)).cell? ⟨b,0+1,none⟩=some (.int .i32 1):=by
  refine(World.cell?_setCell_other _ ⟨b,0,none⟩ ⟨b,0+1,none⟩ _ (by simp)).trans ?_
  rw[World.cell?_drew];exact r1
 refine(zrc ⟨b,0+1,none⟩ _ _ r1' (by simp[rf1])).mono ?_
 rintro e u' w'' ⟨rfl,rfl,rfl⟩
 simp[Leaves,settle,results,Tryz.results253];exact⟨w',hw,rfl⟩
set_option maxHeartbeats 1600000 in
def ziz(b:Nat)(w:World)(R:World->Prop)
  (h0:w.cell? ⟨b,0,none⟩=some (.int .u32 0)) (h1:w.cell? ⟨b,0+1,none⟩=some (.int .i32 0)) (f0:w.frozen? ⟨b,0,none⟩=false) (f1:w.frozen? ⟨b,0+1,none⟩=false)
  (hf:Calls Tryz.prog 226 #[.pointer (some ⟨b,0,none⟩)] (w.setCell ⟨b,0+1,none⟩ (.int .i32 1)) fun e w'=>e = .returned (.tuple #[])/\R w')
  (hR:∀w',R w'->w'.cell? ⟨b,0,none⟩=some (.int .u32 0)/\w'.frozen? ⟨b,0,none⟩=false/\w'.cell? ⟨b,0+1,none⟩=some (.int .i32 1)/\w'.frozen? ⟨b,0+1,none⟩=false) :
  Calls Tryz.prog 225 #[.pointer (some ⟨b,0,none⟩),.func (.func 226) #[.pointer (some ⟨b,0,none⟩)] #[]] w fun e w'=>e = .returned (.tuple #[])/\∃w1,R w1/\w'=(w1.drew.setCell ⟨b,0,none⟩ (.int .u32 1)).setCell ⟨b,0+1,none⟩ (.int .i32 0):=by
 have hl:=run_call_load (P:=Tryz.prog) Tryz.func275 (by kernel_rfl) (by kernel_rfl) (by kernel_rfl) .u32 (by kernel_rfl) h0
 have hnot:∀(x:Bool)(w:World),(Op.unary .not (.bool x)).run Tryz.prog w = .ok (.bool (!x)) w:=fun _ _=>rfl
 go_enter Tryz.func225,Tryz.ntmps225
 go_wp2_with (first|(go_at_call 252;go_in)|(go_at_call 253;refine(zpw b w R h0 h1 f0 f1 hf hR).mono ?_;rintro e w' ⟨rfl,w1,hw1,rfl⟩))
 go_end0
 exact⟨rfl,w1,hw1,rfl⟩
end Go.Proofs.YtbcijcbgdaggdabGreatDoor.Once
namespace Go.Proofs.YtbcijcbgdaggdabGreatDoor.Once
set_option maxHeartbeats 1600000 in
def replaceS_first(b:Nat)(s:ByteArray)(w:World)(R:World->Prop)(Q:Value->World->Prop)
  (h0:w.cell? ⟨b,0,none⟩=some (.int .u32 0)) (h1:w.cell? ⟨b,0+1,none⟩=some (.int .i32 0)) (f0:w.frozen? ⟨b,0,none⟩=false) (f1:w.frozen? ⟨b,0+1,none⟩=false)
  (hf:Calls Tryz.prog 226 #[.pointer (some ⟨b,0,none⟩)] (w.setCell ⟨b,0+1,none⟩ (.int .i32 1)) fun e w'=>e = .returned (.tuple #[])/\R w')
  (hR:∀w',R w'->w'.cell? ⟨b,0,none⟩=some (.int .u32 0)/\w'.frozen? ⟨b,0,none⟩=false/\w'.cell? ⟨b,0+1,none⟩=some (.int .i32 1)/\w'.frozen? ⟨b,0+1,none⟩=false)
  (hg:∀w',R w'->∃g,w'.cell? ⟨b,3,none⟩=some (.iface 311 (.pointer (some ⟨g,0,none⟩))) /\
   Calls Tryz.prog 353 #[.pointer (some ⟨g,0,none⟩),.string s] ((w'.drew.setCell ⟨b,0,none⟩ (.int .u32 1)).setCell ⟨b,0+1,none⟩ (.int .i32 0)) fun e w''=>∃v,e = .returned v/\Q v w'') :
  Calls Tryz.prog 191 #[.pointer (some ⟨b,0,none⟩),.string s] w fun e w'=>∃v,e = .returned v/\Q v w':=by
 have hme : ∀ (g : Nat) (w : World), (method 482 311 (.pointer (some ⟨g, 0, none⟩)) "Replace").run Tryz.prog w = .ok (353, .pointer (some ⟨g, 0, none⟩)) w := fun _ _ => by kernel_rfl
 go_enter Tryz.func191,Tryz.ntmps191
 go_wp2_with (first|(go_at_call 225;refine(ziz b w R h0 h1 f0 f1 hf hR).mono ?_;rintro e w' ⟨rfl,w1,hw1,rfl⟩;obtain⟨g,hg1,hg2⟩:=hg w1 hw1;have hc3:((w1.drew.setCell ⟨b,0,none⟩ (.int .u32 1)).setCell ⟨b,0+1,none⟩ (.int .i32 0)).cell? ⟨b,3,none⟩=some (.iface 311 (.pointer (some ⟨g,0,none⟩))):=((World.cell?_setCell_other _ ⟨b,0+1,none⟩ ⟨b,3,none⟩ _ (by simp)).trans ((World.cell?_setCell_other _ ⟨b,0,none⟩ ⟨b,3,none⟩ _ (by simp)).trans (by rw[World.cell?_drew];exact hg1))))|(go_at_call 353;refine hg2.mono ?_;rintro e w' ⟨v,rfl,hq⟩))
 go_ret
 exact⟨_,rfl,hq⟩
end Go.Proofs.YtbcijcbgdaggdabGreatDoor.Once
namespace Go.Sym
open Go.RowKit
variable[LC]
def da.blocks_none{G:Gh}{hp:List (Nat×ah)}{w:World}(hm:da G hp w){b:Nat}(h:n8 G hp b)(o:Nat):G.imm b o=none:=by
 obtain⟨n,bx,hl,ha⟩:=h;have hb:=hm.holds n bx hl
 cases bx with
 |cells cs T=>obtain⟨B,vs,h1,_,_,_,h5⟩:=hb;simp only[Gh.at,h1,qI]at ha;subst ha;exact h5 o
 |row τ l E=>
  obtain⟨a,c,h1,h2⟩:=hb;rcases h2 with⟨rfl,_⟩|⟨g,vs,fz,rfl,_,_,_,_,_,_,_,h9⟩
  ·simp only[Gh.at,h1]at ha;cases ha
  ·simp only[Gh.at,h1,qI]at ha;subst ha;exact h9 o
 |loop st pe f m fr ps tag D=>obtain⟨B,tmps,DB,h1,_,_,_,_,h5⟩:=hb;simp only[Gh.at,h1,qI]at ha;subst ha;exact h5 o
 |dfr=>obtain⟨B,h1,_,h5⟩:=hb;simp only[Gh.at,h1,qI]at ha;subst ha;exact h5 o
 |it s p=>obtain⟨B,h1,_,h5⟩:=hb;simp only[Gh.at,h1,qI]at ha;subst ha;exact h5 o
 |dead=>cases ha
def dx.gone{P:Program}{f:FuncId}{xs:List AV}{hp:List (Nat×ah)}{r:AV}
  (h:∀(w:World)(G:Gh)(vs:List Value),da G hp w->al xs G vs->Calls P f vs.toArray w fun e w'=>∃v,e = .returned v/\aj r G v/\d9 (n8 G hp) w w'):dx P f xs hp r []:=by
 intro w G vs hm hr;refine(h w G vs hm hr).mono ?_;rintro e w' ⟨v,rfl,hv,hs⟩
 have hblk:∀b o v,G.imm b o=some v->w'.heap[b]? = w.heap[b]? := fun b o v hv=>hs.block b (World.block_lt_of_cell? _ _ (hm.agree b o v hv)) fun hb=>by
  rw[hm.blocks_none hb o]at hv;cases hv
 refine⟨v,G,rfl,⟨⟨fun b o v hv=>by rw[World.cell?_of_block (w:=w) (hblk b o v hv)];exact hm.agree b o v hv,hm.one,fun n bx h=>(by cases h),fun n m bx bx' b h=>(by cases h),LC.mono (fun _ _ _ h=>h) hblk hm.tab⟩,hs,fun _ _ _ h=>h,fun _ _ _ h => .inl h,fun n bx b h=>(by cases h),fun _ _ _ _ h=>h,fun _ _ _ _ h=>h⟩,hv⟩
end Go.Sym
set_option linter.unusedVariables false
namespace Go.Proofs.Repl
open Go.Shelf Go.RowKit Go.Lib Go.Sym
def jt.setCell{R q n:Nat}{u:Int}{a b a1 a2 b1 b2:UInt8}{w:World}(h:jt R a b a1 a2 b1 b2 w)(hq:w.cell? ⟨q,0,none⟩=some (.int .u32 u))(v:Value):jt R a b a1 a2 b1 b2 (w.setCell ⟨q,n,none⟩ v):=by
 obtain⟨ga,gb,gt,ca,cb,ct,h1,h2,h3,h4,h5,h6,h7,h8⟩:=h.ex;have kR:¬R=q:=fun e=>by
  have:=h1 0;subst e;rw[show(0:UInt8).toNat=0 from rfl,hq]at this
  unfold rv at this;split at this
  ·cases this
  ·split at this<;>cases this
 have kt:¬gt=q:=fun e=>by subst e;rw[hq]at h3;cases h3
 have ka:¬ga=q:=fun e=>by subst e;rw[hq]at h5;cases h5
 have kb:¬gb=q:=fun e=>by subst e;rw[hq]at h7;cases h7
 have k:∀{p:Nat}{o:Nat}{x:Value},¬p=q->w.cell? ⟨p,o,none⟩=some x->(w.setCell ⟨q,n,none⟩ v).cell? ⟨p,o,none⟩=some x:=fun{p o x} hp hx=>by
  rw[World.cell?_of_block (w:=w) (Below.heap_setCell w ⟨q,n,none⟩ v p hp)];exact hx
 exact⟨ga,gb,gt,ca,cb,ct,fun c=>k kR (h1 c),k kR h2,k kt h3,k kt h4,k ka h5,k ka h6,k kb h7,k kb h8⟩
structure Once(q:Nat)(w w':World):Prop where
 bel:d9 (fun k=>k=q) w w'
 c0:w'.cell? ⟨q,0,none⟩=some (.int .u32 0)
 c1:w'.cell? ⟨q,0+1,none⟩=some (.int .i32 1)
 f0:w'.frozen? ⟨q,0,none⟩=false
 f1:w'.frozen? ⟨q,0+1,none⟩=false
def zhn(S:Nat->Prop)(w:World):d9 S w w.drew:=⟨rfl,rfl,rfl,wF _,fun _ _ _=>rfl⟩
def qv4{S:Nat->Prop}{w w':World}(h:Below w.heap.size w w'):d9 S w w':=⟨h.os,h.tape,h.output,h.size,fun k hk _=>h.block k hk⟩
def qgr{q:Nat}{w w':World}(h:d9 (fun k=>k=q) w w')(n:Nat)(v:Value):d9 (fun k=>k=q) w (w'.setCell ⟨q,n,none⟩ v):=
 ⟨h.os,h.tape,h.output,by simp[World.setCell];exact h.size,fun k hk hn=>(Below.heap_setCell w' ⟨q,n,none⟩ v k hn).trans (h.block k hk hn)⟩
def qv5{S:Nat->Prop}{a b c:World}(h:d9 S a b)(k:d9 S b c):d9 S a c:=
 ⟨k.os.trans h.os,k.tape.trans h.tape,k.output.trans h.output,Nat.le_trans h.size k.size,fun i hi hn=>(k.block i (Nat.lt_of_lt_of_le hi h.size) hn).trans (h.block i hi hn)⟩
set_option maxHeartbeats 1600000 in
def zhw(q ro cap:Nat)(v3:Value)(a b a1 a2 b1 b2:UInt8)(w:World)(hab:a≠b)
  (c0:w.cell? ⟨q,0,none⟩=some (.int .u32 0)) (c1:w.cell? ⟨q,0+1,none⟩=some (.int .i32 1)) (hf:∀j,w.frozen? ⟨q,j,none⟩=false) (c3:w.cell? ⟨q,3,none⟩=some v3)
  (hc:w.cell? ⟨q,4,none⟩=some (.slice (some ⟨ro,0,none⟩) 4 cap)) (h0:w.cell? ⟨ro,0,none⟩=some (.string ⟨#[a]⟩)) (h1:w.cell? ⟨ro,1,none⟩=some (.string ⟨#[a1,a2]⟩)) (h2:w.cell? ⟨ro,2,none⟩=some (.string ⟨#[b]⟩)) (h3:w.cell? ⟨ro,3,none⟩=some (.string ⟨#[b1,b2]⟩)) :
  Calls Tryz.prog 226 #[.pointer (some ⟨q,0,none⟩)] w fun e w'=>e = .returned (.tuple #[])/\Once q w w'/\∃R,w'.cell? ⟨q,3,none⟩=some (.iface 311 (.pointer (some ⟨R,0,none⟩)))/\jt R a b a1 a2 b1 b2 w':=by
 have hqlt:q<w.heap.size:=World.block_lt_of_cell? _ _ c0;have hB:=zht q ro cap a b a1 a2 b1 b2 w hab hc h0 h1 h2 h3
 go_enter Tryz.func226,Tryz.ntmps226
 go_wp2_with (go_at_call 254;go_must (refine hB.mono ?_;rintro e W ⟨R,rfl,hBu,hbe⟩;have k0:∀{j:Nat}{v:Value},w.cell? ⟨q,j,none⟩=some v->W.cell? ⟨q,j,none⟩=some v:=(fun hj=>(hbe.cell (World.block_lt_of_cell? _ _ hj)).trans hj);have kf:∀j,W.frozen? ⟨q,j,none⟩=false:=(fun j=>(hbe.frozen (p:=⟨q,j,none⟩) hqlt).trans (hf j));have d0:=k0 c0;have d1:=k0 c1;have d3:=k0 c3;have d4:=k0 hc;clear hB hf k0))
 have d0':(W.setCell ⟨q,3,none⟩ (.iface 311 (.pointer (some ⟨R,0,none⟩)))).cell? ⟨q,0,none⟩=some (.int .u32 0):=by rw[World.cell?_setCell_other _ _ _ _ (by simp)];exact d0
 have d1':(W.setCell ⟨q,3,none⟩ (.iface 311 (.pointer (some ⟨R,0,none⟩)))).cell? ⟨q,0+1,none⟩=some (.int .i32 1):=by rw[World.cell?_setCell_other _ _ _ _ (by simp)];exact d1
 have d3':=World.cell?_setCell_same W ⟨q,3,none⟩ (.iface 311 (.pointer (some ⟨R,0,none⟩))) d3
 go_end0
 refine⟨rfl,⟨qgr (qgr (qv4 hbe) 3 _) 4 _,?_,?_,?_,?_⟩,R,?_,(hBu.setCell d0 _).setCell d0' _⟩
 ·rw[World.cell?_setCell_other _ _ _ _ (by simp)];exact d0'
 ·rw[World.cell?_setCell_other _ _ _ _ (by simp)];exact d1'
 ·simp[kf]
 ·simp[kf]
 ·rw[World.cell?_setCell_other _ _ _ _ (by simp)];exact d3'
def replS(q ro cap:Nat)(v3:Value)(a b a1 a2 b1 b2:UInt8)(s:ByteArray)(w:World)(hab:a≠b)(hs:s.size<=1000000)
  (c0:w.cell? ⟨q,0,none⟩=some (.int .u32 0)) (c1:w.cell? ⟨q,0+1,none⟩=some (.int .i32 0)) (hf:∀j,w.frozen? ⟨q,j,none⟩=false) (c3:w.cell? ⟨q,3,none⟩=some v3)
  (hc:w.cell? ⟨q,4,none⟩=some (.slice (some ⟨ro,0,none⟩) 4 cap)) (h0:w.cell? ⟨ro,0,none⟩=some (.string ⟨#[a]⟩)) (h1:w.cell? ⟨ro,1,none⟩=some (.string ⟨#[a1,a2]⟩)) (h2:w.cell? ⟨ro,2,none⟩=some (.string ⟨#[b]⟩)) (h3:w.cell? ⟨ro,3,none⟩=some (.string ⟨#[b1,b2]⟩)) :
  Calls Tryz.prog 191 #[.pointer (some ⟨q,0,none⟩),.string s] w fun e w'=>∃v,e = .returned v/\v = .string ⟨(dz a b [a1,a2] [b1,b2] s.data.toList).toArray⟩/\d9 (fun k=>k=q) w w':=by
 have hne:¬ro=q:=fun e=>by subst e;rw[c0]at h0;cases h0
 have k:∀{p:Addr}{x:Value},p≠⟨q,0+1,none⟩->w.cell? p=some x->(w.setCell ⟨q,0+1,none⟩ (.int .i32 1)).cell? p=some x:=fun{p x} hp hx=>by
  rw[World.cell?_setCell_other _ _ _ _ (fun e=>hp e.symm)];exact hx
 have kb:d9 (fun k=>k=q) w (w.setCell ⟨q,0+1,none⟩ (.int .i32 1)):=qgr (qv4 (Below.refl _ _)) _ _
 refine Go.Proofs.YtbcijcbgdaggdabGreatDoor.Once.replaceS_first q s w (fun w'=>Once q (w.setCell ⟨q,0+1,none⟩ (.int .i32 1)) w'/\∃R,w'.cell? ⟨q,3,none⟩=some (.iface 311 (.pointer (some ⟨R,0,none⟩)))/\jt R a b a1 a2 b1 b2 w') (fun v w'=>v = .string ⟨(dz a b [a1,a2] [b1,b2] s.data.toList).toArray⟩/\d9 (fun k=>k=q) w w') c0 c1 (hf _) (hf _) ?_ ?_ ?_
 ·exact zhw q ro cap v3 a b a1 a2 b1 b2 _ hab (k (by simp) c0) (World.cell?_setCell_same w _ _ c1) (fun j=>by simp[hf]) (k (by simp) c3) (k (by simp) hc) (k (by intro h;exact hne (congrArg Addr.block h)) h0) (k (by intro h;exact hne (congrArg Addr.block h)) h1) (k (by intro h;exact hne (congrArg Addr.block h)) h2) (k (by intro h;exact hne (congrArg Addr.block h)) h3)
 ·rintro w' ⟨ho,_⟩
  exact⟨ho.c0,ho.f0,ho.c1,ho.f1⟩
 ·rintro w' ⟨ho,R,hR,hBu⟩
  refine⟨R,hR,?_⟩;have e0:w'.drew.cell? ⟨q,0,none⟩=some (.int .u32 0):=by rw[World.cell?_drew];exact ho.c0
  have e1:=World.cell?_setCell_same w'.drew ⟨q,0,none⟩ (.int .u32 1) e0;have hB2:jt R a b a1 a2 b1 b2 ((w'.drew.setCell ⟨q,0,none⟩ (.int .u32 1)).setCell ⟨q,0+1,none⟩ (.int .i32 0)):=
   ((hBu.below (Below.refl _ w').drew).setCell e0 _).setCell e1 _
  have hBel:d9 (fun k=>k=q) w ((w'.drew.setCell ⟨q,0,none⟩ (.int .u32 1)).setCell ⟨q,0+1,none⟩ (.int .i32 0)):=
   qgr (qgr (qv5 (qv5 kb ho.bel) (zhn _ _)) 0 _) (0+1) _
  refine(zh0 R a b a1 a2 b1 b2 s _ hab hs hB2).mono ?_;rintro e w2 ⟨rfl,hb2⟩
  exact⟨_,rfl,rfl,qv5 hBel (qv4 hb2)⟩
end Go.Proofs.Repl
namespace Go.Sym
open Go.Proofs Go.RowKit
variable[LC]
def zoa(a b a1 a2 b1 b2:UInt8)(s:Bs)(p2:Int)(hab:a≠b)(hs:s.length<=1000000) :
  dx Tryz.prog 191 [.ptr 0 0,.str s] [(0,.cells [.int .u32 0,.int .i32 0,.int .u32 p2,.val .nilIface,.own 1] 252),(1,.row .str [[a],[a1,a2],[b],[b1,b2]] 9)] (.str (dz a b [a1,a2] [b1,b2] s)) []:=by
 refine dx.gone fun w G vs hm hr => ?_
 match vs,hr with
 |[v1,v2],hr=>
 obtain⟨⟨q,hG,rfl⟩,r2,_⟩:=hr;have r2:v2 = .string ⟨s.toArray⟩:=r2;subst r2;obtain⟨B,cs,g1,g2,g3,g4,g5⟩:=hm.holds 0 _ rfl;rw[show G.box 0=some q from hG]at g1
 cases g1
 obtain⟨ad,c,us,o1,o2,o3,o4⟩:=(hm.holds 1 (.row .str [[a],[a1,a2],[b],[b1,b2]] 9) rfl).rowAt;obtain⟨u0,c0,x0⟩:=la g3 (i:=0) rfl;obtain⟨u1,c1,x1⟩:=la g3 (i:=1) rfl;obtain⟨u3,c3,x3⟩:=la g3 (i:=3) rfl;obtain⟨u4,c4,x4⟩:=la g3 (i:=4) rfl;have x0:u0 = .int .u32 0:=x0;have x1:u1 = .int .i32 0:=x1;obtain⟨ad',n',c',x5,x4⟩:=x4;rw[o1]at x5;cases x5
 subst x0 x1 x4;have k:∀{i:Nat}{v:Value},cs.toList[i]? = some v->w.cell? ⟨q,i,none⟩=some v:=fun{i v} h=>cell_of_heap g2 h
 obtain⟨ho1,ho2⟩:=o2;rcases ho2 with⟨_,h0,_⟩|⟨g,vr,fz,rfl,e1,_,e3,e4,e5,e6,_⟩
 ·cases h0
 ·have hus:us=[.string ⟨#[a]⟩,.string ⟨#[a1,a2]⟩,.string ⟨#[b]⟩,.string ⟨#[b1,b2]⟩]:=by
   match us,o3 with
   |[y0,y1,y2,y3],⟨z0,z1,z2,z3,_⟩=>
    have z0:y0 = .string ⟨#[a]⟩:=z0;have z1:y1 = .string ⟨#[a1,a2]⟩:=z1;have z2:y2 = .string ⟨#[b]⟩:=z2;have z3:y3 = .string ⟨#[b1,b2]⟩:=z3;rw[z0,z1,z2,z3]
  have kr:∀{i:Nat}{v:Value},us[i]? = some v->w.cell? ⟨g,i,none⟩=some v:=fun{i v} h=>by
   rw[← e6,List.getElem?_take]at h;split at h
   ·exact cell_of_heap e1 h
   ·cases h
  subst hus;refine(Go.Proofs.Repl.replS q g c u3 a b a1 a2 b1 b2 ⟨s.toArray⟩ w hab (by rw[iw];exact hs) (k c0) (k c1) (fun j=>by simp[World.frozen?,g2]) (k c3) (k c4) (kr (i:=0) rfl) (kr (i:=1) rfl) (kr (i:=2) rfl) (kr (i:=3) rfl)).mono ?_
  rintro e w' ⟨v,rfl,rfl,hb⟩
  refine⟨_,rfl,rfl,⟨hb.os,hb.tape,hb.output,hb.size,fun k hk hn=>hb.block k hk (fun e=>hn ?_)⟩⟩
  subst e;exact⟨0,_,rfl,hG⟩
def q98:IF:=⟨.fn 191,[.ptr 0 0,.h .str],[(0,.cells [.h (.int .u32),.h (.int .i32),.h (.int .u32),.c .nilIface,.own 1] 252),(1,.row .str 9)],_,RS.mk (.h .str) []⟩
def zob:(q98.e t7).Sound Tryz.prog:=fun d d' r h=>by
 obtain⟨_,s,_⟩:=d;obtain⟨⟨p0,p1,p2,_,_,_⟩,on,_⟩:=d';have h:t7 s p0 p1 p2 on=some r:=h;obtain⟨a,a1,a2,b,b1,b2,rfl,rfl,rfl,hab,hs,rfl⟩:=zoc h;exact⟨Tryz.call191,zoa a b a1 a2 b1 b2 s p2 hab hs⟩
end Go.Sym
namespace Go.Sym
open Go.Proofs Go.RowKit
open Go.Proofs.Tryz
variable[LC]
def zhp:Builder.Extra Tryz.prog Tryz.lays155_ren:={
 sizeBuilder:=by kernel_rfl
 liesBuilder:=by kernel_rfl
 t5:=Tryz.lays155.t5
 a5:=Tryz.lays155.a5
 z5:=Tryz.lays155.z5
 v5:=Tryz.lays155.v5
 infoByte:=by kernel_rfl
 cellsByte:=by kernel_rfl
 sizeByte:=by kernel_rfl
 neB5:=by decide }
def zn8{G:Gh}{w:World}(hm:da G [] w)(hi:2∈LC.ints)(s o n:Bs)(d1:1<=o.length)(d2:s.length<4294967281)(d3:s.length+s.length*n.length<=140737488355328) :
  Calls Tryz.prog 40 #[.string ⟨s.toArray⟩,.string ⟨o.toArray⟩,.string ⟨n.toArray⟩] w fun e w'=>e = .returned (.string ⟨(Lib.replaceAll s o n).toArray⟩)/\ce w w':=by
 obtain⟨k,hk⟩:=hm.tab.2.1 _ hi;have hk:=hm.agree _ _ _ hk;have hc:Lib.countB ⟨s.toArray⟩ ⟨o.toArray⟩<=s.length:=by
  have:=Lib.countB_mul_le (⟨o.toArray⟩:ByteArray) (by rw[iw];exact d1) _ (⟨s.toArray⟩:ByteArray) (wF _)
  rw[iw,iw]at this;exact Nat.le_trans (Nat.le_mul_of_pos_right _ d1) this
 exact(Any.strings_ReplaceAll Tryz.lays155 zhp ⟨s.toArray⟩ ⟨o.toArray⟩ ⟨n.toArray⟩ k w (by rw[iw];exact d2) hk (by rw[iw];exact d1) (by
  rw[iw,iw];exact Nat.le_trans (Nat.add_le_add_left (Nat.mul_le_mul_right _ hc) _) d3)).mono fun e w'⟨he,hw⟩=>⟨he,ce.of_below hw⟩
def q97:IF:=⟨.fn 40,[.h .str,.h .str,.h .str],[],_,RS.mk (.h .str) []⟩
def zn9(hi:2∈LC.ints):(q97.e qaw).Sound Tryz.prog:=fun d d' r h=>by
 obtain⟨s,o,n,_⟩:=d;have h:qaw s o n=some r:=h;unfold qaw at h;cases hd:decide (1<=List.length (α:=UInt8) o/\List.length (α:=UInt8) s<4294967281/\List.length (α:=UInt8) s+List.length (α:=UInt8) s*List.length (α:=UInt8) n<=140737488355328)<;>rw[hd]at h<;>simp only[qT,qF,reduceCtorEq]at h
 have h:=qJ h;subst h;obtain⟨d1,d2,d3⟩:=of_decide_eq_true hd;refine⟨call40,dx.data fun w G vs hm hr => ?_⟩
 match vs,hr with
 |[u,v,x],⟨h1,h2,h3,_⟩=>
  have h1:u = .string ⟨s.toArray⟩:=h1;have h2:v = .string ⟨o.toArray⟩:=h2;have h3:x = .string ⟨n.toArray⟩:=h3;subst h1 h2 h3;exact(zn8 hm hi s o n d1 d2 d3).mono fun e w'⟨he,hw⟩=>⟨_,he,rfl,hw⟩
end Go.Sym
namespace Go.Sym
noncomputable section
open Go.Proofs
set_option linter.unusedVariables false
set_option maxRecDepth 100000
set_option maxHeartbeats 2000000
open Tryz
abbrev wT : Ty := .tree (.prod (.list (.prod .str .str)) (.list .byte))
abbrev wL : Ty := .list (.prod .str .str)
abbrev wP : Ty := .prod .str .str
abbrev wH : Pt := .h (.int .i64)
abbrev wI : Ty := .int .i64
abbrev wB : Ty := .list .byte
abbrev wN : Pt := .c .nilS
abbrev wS : Pt := .h .str
abbrev wG : Program := Tryz.prog
section
variable(fu:Nat)
def qxh:Nat->Option ((τ:Ty)×List τ.den)|0=>some ⟨.byte,qh8⟩|1=>some ⟨.prod .byte .byte,qh9⟩|5=>some ⟨.int .u64,zqh⟩|_=>none
def zld:Nat->Option (Code×Code)|0=>some (g8 0 (sub (ki f14) [0,1,0,1,1]),g8 1 (sub (ki f14) [0,1,0,1,1]))|1=>some (g8 0 (sub (ki f14) [0,1,0,1,1,1,1]),g8 1 (sub (ki f14) [0,1,0,1,1,1,1]))|2=>some (g8 0 (sub (ki f104) [0,1,0,1,1,1]),g8 1 (sub (ki f104) [0,1,0,1,1,1]))|3=>some (g8 0 (sub (ki f16) [0,1,0,1]),g8 1 (sub (ki f16) [0,1,0,1]))|4=>some (g8 0 (sub (ki f49) [0,1,1]),g8 1 (sub (ki f49) [0,1,1]))|5=>some (g8 0 (sub (ki f9) [0,1,0,1,1,1]),g8 1 (sub (ki f9) [0,1,0,1,1,1]))|_=>none
instance:LC:=⟨zld,qxh,[2],[3,4],[(0,256),(1,32),(5,20)]⟩
def Fx.fi{P:Program}{i:IF}(x:Fx P i)(f:i.T)(l:List (SL x))(hp:rt P x.f)(hk:i.key = .fn x.f:=by exact rfl)(hb:x.fn.body=some x.body:=by exact rfl)(hfine:qm7 x.cx i.args i.hp=true:=by kernel_rfl)(h:∀d d',qy9 x.cx x.body i.out (SL.qs l) i.args i.hp (Pts.put i.args d) (cg i.hp d')=app f (Pts.pk i.args d (fw i.hp d' oq)):=by intro d d';kernel_rfl):EI P i:=x.fin f l hp hk hb hfine h
def Fx.jm{P:Program}{i:IF}{x:Fx P i}{k:Nat}(f:(kl k x.ls).T i.R)(l:List (SL x))(h:∀d,run x.cx i.out (SL.qs l) 1000000 false (lz x.body (kl k x.ls).1) ((kl k x.ls).2.st d)=app f (ly (kl k x.ls).2.fr d.1 (fw (kl k x.ls).2.hp d.2 ())):=by intro d;kernel_rfl):PL x k:=Fx.jn f l h
def Fx.lq{P:Program}{i:IF}{x:Fx P i}{k:Nat}(g:Nat->(kl k x.ls).T i.R)(b:(kl k x.ls).T i.R->(kl k x.ls).T i.R)(l:PL x k->List (SL x))(h0:∀d:(kl k x.ls).2.den,app (g 0) (ly (kl k x.ls).2.fr d.1 (fw (kl k x.ls).2.hp d.2 ()))=none:=by intro _;exact rfl)(hg:∀n,g (n+1)=b (g n):=by intro _;exact rfl)(h:∀r d,run x.cx i.out (SL.qs (l r)) 1000000 false (lz x.body (kl k x.ls).1) ((kl k x.ls).2.st d)=app (b r.f) (ly (kl k x.ls).2.fr d.1 (fw (kl k x.ls).2.hp d.2 ())):=by intro _ d;kernel_rfl)(n:Nat):PL x k:=Fx.lp g b h0 hg l h n
def zf1:wG.follows .mixedOrders=true:=by kernel_rfl
def etys:List (Nat×Ty):=[(3,.int .i64),(5,.byte),(9,.str),(21,.int .i32),(23,.list .byte),(26,.tree (.prod wL wB)),(40,.prod .str .str),(105,.prod .str (.prod .str (.prod wI .bool))),(108,.prod .str .str),(178,.prod .str (.prod wI (.prod .bool .str)))]
abbrev fx{i:IF}:=@Fx.mk inferInstance wG i etys zf1
def ze9:(qrw 120 tv).Sound wG:=ze8 func120 (by kernel_rfl) (by kernel_rfl) (by kernel_rfl) (by kernel_rfl)
def zfb:(qrx 256 tv).Sound wG:=zfa func256 (by kernel_rfl) (by kernel_rfl) (by kernel_rfl) (by kernel_rfl)
def x0i:IF:=⟨.fn 32,[.h wT],[],_,RS.mk (.fn 64 [.ptr 0 0]) [(0,.dat wT 26)]⟩
def x0:Fx wG x0i:=fx f32 32 func32 [] false [] ao []
def x0s:=x0.fi wm [] call32
def x1i:IF:=⟨.fn 33,[wH,wH],[],_,RS.mk (.h (.prod wI wI)) []⟩
def x1:Fx wG x1i:=fx f33 33 func33 [] false [] ao []
def nj:=x1.fi ch [] call33
def x2i:IF:=⟨.yld 0,[wH,.agg [.h wL,.h wB,.h (.list wT),wH]],[(0,.loop .ready none 14 36 [(2,.ptr 1 0),(3,.ptr 2 0)] [11,12] 0 3),(1,.dat (.prod wI wI) 29),(2,.cells [.h .bool] 4),(3,.dfr)],_,.two (RS.mk (.c (.bool false)) [(0,.loop .done (some .ret) 14 36 [(2,.ptr 1 0),(3,.ptr 2 0)] [11,12] 0 3),(1,.dat (.prod wI wI) 29),(2,.cells [.h .bool] 4),(3,.dfr)]) (RS.mk (.c (.bool true)) [(0,.loop .ready none 14 36 [(2,.ptr 1 0),(3,.ptr 2 0)] [11,12] 0 3),(1,.dat (.prod wI wI) 29),(2,.cells [.h .bool] 4),(3,.dfr)])⟩
def x2:Fx wG x2i:=fx f14 14 func14 [nj.p] false [([0,1,0,1,1],0)] (lg rfl ao) []
def x2s:EI wG x2i:=x2.fiy qs7 [] 0 rfl [0,1,0,1,1] (by kernel_rfl) (by kernel_rfl) fun d d'=>by kernel_rfl
def x3i:IF:=⟨.fn 65,[.h wT,wH,.ptr 0 0,.ptr 1 0,.ptr 2 0],[(0,.cells [.yld 3] 110),(1,.cells [wH] 3),(2,.cells [.fn 65 [.ptr 0 0,.ptr 1 0,.ptr 2 0]] 111),(3,.loop .ready none 14 36 [(2,.ptr 4 0),(3,.ptr 5 0)] [11,12] 0 6),(4,.dat (.prod wI wI) 29),(5,.cells [.h .bool] 4),(6,.dfr)],_,.two (RS.mk (.c (.bool false)) [(0,.cells [.yld 3] 110),(1,.cells [wH] 3),(2,.cells [.fn 65 [.ptr 0 0,.ptr 1 0,.ptr 2 0]] 111),(3,.loop .done (some .ret) 14 36 [(2,.ptr 4 0),(3,.ptr 5 0)] [11,12] 0 6),(4,.dat (.prod wI wI) 29),(5,.cells [.h .bool] 4),(6,.dfr)]) (RS.mk (.c (.bool true)) [(0,.cells [.yld 3] 110),(1,.cells [wH] 3),(2,.cells [.fn 65 [.ptr 0 0,.ptr 1 0,.ptr 2 0]] 111),(3,.loop .ready none 14 36 [(2,.ptr 4 0),(3,.ptr 5 0)] [11,12] 0 6),(4,.dat (.prod wI wI) 29),(5,.cells [.h .bool] 4),(6,.dfr)])⟩
def x3(s7:EI wG x3i)(fu:Nat):Fx wG x3i:=fx f65 65 func65 [x2s.p,s7.p] false [] ao [(ai [(0,488),(0,489),(2,122),(1,61),(0,31)],⟨33,[(1,wH),(4,.ptr 2 0),(20,.h (.list wT)),(21,wH),(22,wH)],[(0,.cells [.yld 3] 110),(1,.cells [wH] 3),(2,.cells [.fn 65 [.ptr 0 0,.ptr 1 0,.ptr 2 0]] 111),(3,.loop .ready none 14 36 [(2,.ptr 4 0),(3,.ptr 5 0)] [11,12] 0 6),(4,.dat (.prod wI wI) 29),(5,.cells [.h .bool] 4),(6,.dfr)],64,[]⟩)]
def z7s(s7:EI wG x3i)(fu:Nat):Nat->(x3 s7 fu).L 0:=Fx.lq (qfy s7.f fu) (qta s7.f fu) (fun r0=>[r0.s])
def x3k(s7:EI wG x3i)(fu:Nat):EI wG x3i:=(x3 s7 fu).fi (qkt s7.f fu) [(z7s s7 fu fu).s] call65
def x3s:EI wG x3i := .rc (qat fu) (fun r=>qkt r fu) (fun _ _=>rfl) (fun _=>rfl) (fun s7=>x3k s7 fu) (fun _=>rfl) fu
def x4i:IF:=⟨.fn 64,[.yld 0,.ptr 1 0],[(0,.loop .ready none 14 36 [(2,.ptr 2 0),(3,.ptr 3 0)] [11,12] 0 4),(1,.dat wT 26),(2,.dat (.prod wI wI) 29),(3,.cells [.h .bool] 4),(4,.dfr)],_,.two (RS.mk (.tup []) [(0,.loop .done (some .ret) 14 36 [(2,.ptr 2 0),(3,.ptr 3 0)] [11,12] 0 4),(1,.dat wT 26),(2,.dat (.prod wI wI) 29),(3,.cells [.h .bool] 4),(4,.dfr)]) (RS.mk (.tup []) [(0,.loop .ready none 14 36 [(2,.ptr 2 0),(3,.ptr 3 0)] [11,12] 0 4),(1,.dat wT 26),(2,.dat (.prod wI wI) 29),(3,.cells [.h .bool] 4),(4,.dfr)])⟩
def x4:Fx wG x4i:=fx f64 64 func64 [(x3s fu).p] false [] ao []
def x4s:=(x4 fu).fi (qks fu) [] call64
def x5i:IF:=⟨.fn 186,[.h .byte],[],_,RS.mk (.h .bool) []⟩
def x5:Fx wG x5i:=fx f186 186 func186 [] false [] ao []
def x5s:=x5.fi qj7 [] call186
def x6i:IF:=⟨.fn 147,[wS,.fn 186 []],[],_,RS.mk (.h .bool) []⟩
def x6(fu:Nat):Fx wG x6i:=fx f147 147 func147 [x5s.p] false [] ao [(ai [(0,104),(0,105),(2,26),(1,13),(0,7)],⟨18,[(0,wS),(1,.fn 186 []),(7,wH),(8,wH)],[],64,[]⟩)]
def va5:Nat->(x6 fu).L 0:=Fx.lq (qe2 fu) (qrr fu) (fun r0=>[r0.s])
def x6s:=(x6 fu).fi (qrq fu) [(va5 fu fu).s] call147
def x7i:IF:=⟨.fn 143,[wS],[],_,RS.mk (.h .bool) []⟩
def x7:Fx wG x7i:=fx f143 143 func143 [(x6s fu).p] false [] ao []
def x7s:=(x7 fu).fi (qj6 fu) [] call143
def x8i:IF:=⟨.fn 274,[wH],[],_,RS.mk (.h .bool) []⟩
def x8:Fx wG x8i:=fx f274 274 func274 [] false [] ao []
def x8s:=x8.fi qt7 [] call274
def x9i:IF:=⟨.fn 123,[wS],[],_,RS.mk (.tup [.arr .bool,.h .bool]) []⟩
def x9(fu:Nat):Fx wG x9i:=fx f123 123 func123 [] false [] ao [(ai [(0,208),(0,209),(0,105),(2,26),(1,13),(0,7)],⟨21,[(0,wS),(2,.el 32 1),(4,wH)],[(32,.row .bool 164)],64,[]⟩)]
def vd9:Nat->(x9 fu).L 0:=Fx.lq (qt6 fu) (q3y fu) (fun r0=>[r0.s])
def x9s:=(x9 fu).fi (qf8 fu) [(vd9 fu fu).s] call123
def zsu:IF:=⟨.fn 76,[wS,.h .byte],[],_,RS.mk (wH) []⟩
def x10:Fx wG zsu:=fx f76 76 func76 [⟨qrw 120 tv,ze9⟩] false [] ao []
def zcs:=x10.fi qsm [] call76
def ztn:IF:=⟨.fn 41,[wS,.h .byte],[],_,RS.mk (wH) []⟩
def x11:Fx wG ztn:=fx f41 41 func41 [zcs.p] false [] ao []
def zcx:=x11.fi qf5 [] call41
def zu4:IF:=⟨.fn 244,[.h (.int .i32)],[],_,RS.mk (.h .bool) []⟩
def x12:Fx wG zu4:=fx f244 244 func244 [] false [] ao []
def zu5:=x12.fi qlg [] call244
def zwb:IF:=⟨.fn 207,[wS,.h (.int .i32)],[],_,RS.mk (wH) []⟩
def qz(fu:Nat):Fx wG zwb:=fx f207 207 func207 [zcx.p,zu5.p] false [] ao [(ai [(0,3528),(0,3529),(2,882),(1,441),(0,221),(1,3)],⟨187,[(175,.ptr 32 0)],[(32,.it)],64,[]⟩),(ai [(0,117301840),(0,117301841),(0,58650921),(2,14662730),(1,7331365),(0,3665683),(3,458210),(1,229105),(2,57276),(1,28638),(0,28639),(3,447),(1,3)],⟨187,[(0,wS),(7,wS),(8,wH),(9,wH),(12,wH)],[],64,[]⟩),(ai [(0,7331364),(0,7331365),(0,3665683),(3,458210),(1,229105),(2,57276),(1,28638),(0,28639),(3,447),(1,3)],⟨187,[(0,wS),(7,wS),(8,wH),(9,wH)],[],64,[]⟩),(ai [(0,458208),(0,458209),(0,229105),(2,57276),(1,28638),(0,28639),(3,447),(1,3)],⟨187,[(0,wS),(7,wS),(8,wH),(9,wH)],[],64,[]⟩),(ai [(0,13),(1,3)],⟨187,[(0,wS),(1,.h (.int .i32)),(160,.h .bool)],[],64,[]⟩)]
def zwd:Nat->(qz fu).L 0:=Fx.lq (qf7 fu) (qtx fu) (fun r1=>[r1.s])
def zwg(r2:(qz fu).L 3):Nat->(qz fu).L 1:=Fx.lq (qt0 fu r2.f) (q3x fu r2.f) (fun r4=>[r4.s])
def zwf(r2:(qz fu).L 3):(qz fu).L 2:=Fx.jm (qtz fu r2.f) [(zwg fu r2 fu).s]
def zwe:Nat->(qz fu).L 3:=Fx.lq (qk9 fu) (qty fu) (fun r2=>[(zwf fu r2).s])
def zwc:(qz fu).L 4:=Fx.jm (qf6 fu) [(zwd fu fu).s,(zwe fu fu).s]
def zc7:=(qz fu).fi (t8 fu) [(zwc fu).s] call207
def zxb:IF:=⟨.fn 164,[.el 0 1,.h .byte],[(0,.row .bool 164)],_,RS.mk (.h .bool) [(0,.row .bool 164)]⟩
def x14:Fx wG zxb:=fx f164 164 func164 [] false [] ao []
def q0p:=x14.fi qax [] call164
def zyg:IF:=⟨.fn 251,[wS,wS],[],_,RS.mk (wH) []⟩
def x15:Fx wG zyg:=fx f251 251 func251 [x8s.p,(x9s fu).p,(zc7 fu).p,q0p.p] false [] ao [(ai [(0,470),(0,471),(0,15)],⟨55,[(0,wS),(5,.h (.int .i32))],[],64,[]⟩),(ai [(0,62864),(0,62865),(0,31433),(2,7858),(1,3929),(0,1965),(0,31)],⟨55,[(0,wS),(6,.el 32 1),(8,wH)],[(32,.row .bool 164)],64,[]⟩),(ai [(0,1000),(0,1001),(2,250),(1,125),(0,63)],⟨55,[(1,wS),(45,.ptr 32 0)],[(32,.it)],64,[]⟩),(ai [(0,124),(0,125),(0,63)],⟨55,[(0,wS),(1,wS)],[],64,[]⟩)]
def zyh:(x15 fu).L 0:=Fx.jm (qtw fu) []
def zyi:Nat->(x15 fu).L 1:=Fx.lq (qf3 fu) (qtu fu) (fun r1=>[r1.s])
def zyk:Nat->(x15 fu).L 2:=Fx.lq (qf4 fu) (qtv fu) (fun r3=>[r3.s])
def zyj:(x15 fu).L 3:=Fx.jm (qk8 fu) [(zyk fu fu).s]
def zyl:=(x15 fu).fi (qk7 fu) [(zyh fu).s,(zyi fu fu).s,(zyj fu).s] call251
def zzj:IF:=⟨.fn 224,[wS,wS],[],_,RS.mk (.h .bool) []⟩
def x16:Fx wG zzj:=fx f224 224 func224 [(zyl fu).p] false [] ao []
def zzk:=(x16 fu).fi (qk2 fu) [] call224
def z1u:IF:=⟨.fn 187,[wS],[],_,RS.mk (.h .bool) []⟩
def x17:Fx wG z1u:=fx f187 187 func187 [(zzk fu).p] false [] ao []
def z1v:=(x17 fu).fi (qsh fu) [] call187
def z3r:IF:=⟨.fn 188,[.h .byte],[],_,RS.mk (.h .bool) []⟩
def x18:Fx wG z3r:=fx f188 188 func188 [] false [] ao []
def zd6:=x18.fi we [] call188
def z47:IF:=⟨.fn 144,[wS],[],_,RS.mk (.h .bool) []⟩
def x19:Fx wG z47:=fx f144 144 func144 [(z1v fu).p,zd6.p] false [] ao []
def z48:=(x19 fu).fi (qka fu) [] call144
def z5a:IF:=⟨.fn 145,[wS,wH],[],_,RS.mk (wH) []⟩
def x20(fu:Nat):Fx wG z5a:=fx f145 145 func145 [zd6.p] false [] ao [(ai [(0,3729),(0,1865),(1,466),(0,467),(2,58),(1,29),(0,15)],⟨35,[(0,wS),(5,wH),(6,wH),(26,.h .bool)],[],64,[]⟩),(ai [(0,464),(0,465),(0,233),(2,58),(1,29),(0,15)],⟨35,[(0,wS),(5,wH),(6,wH)],[],64,[]⟩)]
def z5c(r0:(x20 fu).L 1):(x20 fu).L 0:=Fx.jm (qj9 fu r0.f) [r0.s]
def z5b:Nat->(x20 fu).L 1:=Fx.lq (qfa fu) (qsi fu) (fun r0=>[(z5c fu r0).s])
def z5d:=(x20 fu).fi (qj8 fu) [(z5b fu fu).s] call145
def z5g:IF:=⟨.fn 18,[],[],_,RS.mk (.h (.prod wI wI)) []⟩
def x21:Fx wG z5g:=fx f18 18 func18 [] false [] ao []
def li:=x21.fi ee [] call18
def z5h:IF:=⟨.fn 101,[wS,wS],[],_,RS.mk (.tup [.own 0,.h (.prod wI wI)]) [(0,.row .str 9)]⟩
def x22:Fx wG z5h:=fx f101 101 func101 [(x7s fu).p,nj.p,(z48 fu).p,(z5d fu).p,li.p] false [] ao [(ai [(0,4072),(0,4073),(2,1018),(1,509),(0,255)],⟨70,[(5,.ptr 32 0),(8,.own 33),(55,.own 33),(56,wH),(57,wH)],[(32,.dat (.prod wI wI) 29),(33,.row .str 9)],64,[]⟩),(ai [(0,126),(0,127)],⟨70,[(5,.ptr 32 0),(6,wS),(8,.own 33)],[(32,.dat (.prod wI wI) 29),(33,.row .str 9)],64,[]⟩),(ai [(0,992),(0,993),(0,497),(2,124),(1,62),(0,63)],⟨70,[(5,.ptr 32 0),(6,wS),(7,wH),(8,.own 33)],[(32,.dat (.prod wI wI) 29),(33,.row .str 9)],64,[]⟩)]
def z5k:Nat->(x22 fu).L 0:=Fx.lq (qe9 fu) (qsg fu) (fun r2=>[r2.s])
def z5j:(x22 fu).L 1:=Fx.jm (qe8 fu) [(z5k fu fu).s]
def z5i:Nat->(x22 fu).L 2:=Fx.lq (qe7 fu) (qsf fu) (fun r0=>[(z5j fu).s,r0.s])
def z5l:=(x22 fu).fi (qj5 fu) [(z5i fu fu).s] call101
def z5o:IF:=⟨.fn 15,[.h (.prod wI wI)],[],_,RS.mk (.h .bool) []⟩
def x23:Fx wG z5o:=fx f15 15 func15 [] false [] ao []
def ph:=x23.fi e9 [] call15
def z5p:IF:=⟨.fn 66,[.h wL],[],_,RS.mk (.h (.prod wI wI)) []⟩
def x24:Fx wG z5p:=fx f66 66 func66 [nj.p,(z5l fu).p,ph.p,li.p] false [] ao [(ai [(0,232),(0,233),(2,58),(1,29),(0,15)],⟨34,[(2,.ptr 32 0),(11,.h wL),(12,wH),(13,wH)],[(32,.dat (.prod wI wI) 29)],64,[]⟩)]
def z5q:Nat->(x24 fu).L 0:=Fx.lq (qfb fu) (qsj fu) (fun r0=>[r0.s])
def z5r:=(x24 fu).fi (qkb fu) [(z5q fu fu).s] call66
def z5s:IF:=⟨.fn 71,[wS],[],_,RS.mk (wS) []⟩
def x25(fu:Nat):Fx wG z5s:=fx f71 71 func71 [] false [] ao [(ai [(0,232),(0,233),(2,58),(1,29),(0,15)],⟨30,[(3,.own 32),(8,.own 32),(9,wH),(10,wH)],[(32,.row .byte 5)],64,[]⟩)]
def z5t:Nat->(x25 fu).L 0:=Fx.lq (qag fu) (qj2 fu) (fun r0=>[r0.s])
def z5u:=(x25 fu).fi (qe6 fu) [(z5t fu fu).s] call71
def z5w:IF:=⟨.fn 36,[wS,wS],[],_,RS.mk (.h .bool) []⟩
def x26:Fx wG z5w:=fx f36 36 func36 [(z5u fu).p] false [] ao []
def nk:=(x26 fu).fi (ep fu) [] call36
def z5x:IF:=⟨.fn 216,[wS,.h .byte],[],_,RS.mk (wS) []⟩
def x27(fu:Nat):Fx wG z5x:=fx f216 216 func216 [] false [] ao [(ai [(0,96),(0,97),(0,49),(2,12),(1,6),(0,7)],⟨17,[(0,wS),(1,.h .byte)],[],64,[]⟩)]
def z5y:Nat->(x27 fu).L 0:=Fx.lq (qua fu) (q30 fu) (fun r0=>[r0.s])
def z5z:=(x27 fu).fi (q3z fu) [(z5y fu fu).s] call216
def z52:IF:=⟨.fn 217,[wS,.el 0 1],[(0,.row .bool 164)],_,RS.mk (wS) [(0,.row .bool 164)]⟩
def x28(fu:Nat):Fx wG z52:=fx f217 217 func217 [q0p.p] false [] ao [(ai [(0,96),(0,97),(0,49),(2,12),(1,6),(0,7)],⟨16,[(0,wS),(1,.el 0 1)],[(0,.row .bool 164)],64,[]⟩)]
def z54:Nat->(x28 fu).L 0:=Fx.lq (qf9 fu) (qt9 fu) (fun r0=>[r0.s])
def z56:=(x28 fu).fi (qt8 fu) [(z54 fu fu).s] call217
def z57:IF:=⟨.fn 163,[wS],[],_,RS.mk (.tup [.h (.int .i32),wH]) []⟩
def y7:Fx wG z57:=fx f163 163 func163 [] false [] ao [(ai [(0,524286),(0,524287)],⟨117,[(5,.h .byte),(10,.h .byte),(11,.h .byte),(12,.h .byte)],[],64,[]⟩),(ai [(0,524285),(0,262143)],⟨117,[(5,.h .byte),(10,.h .byte),(11,.h .byte),(12,.h .byte),(98,.h .bool)],[],64,[]⟩),(ai [(0,131068),(0,131069),(0,65535)],⟨117,[(0,wS),(5,.h .byte),(8,wH),(10,.h .byte),(11,.h .byte)],[],64,[]⟩),(ai [(0,65533),(0,32767)],⟨117,[(0,wS),(5,.h .byte),(8,wH),(10,.h .byte),(11,.h .byte),(75,.h .bool)],[],64,[]⟩),(ai [(0,16380),(0,16381),(0,8191)],⟨117,[(0,wS),(5,.h .byte),(8,wH),(10,.h .byte)],[],64,[]⟩),(ai [(0,8189),(0,4095)],⟨117,[(0,wS),(5,.h .byte),(8,wH),(10,.h .byte),(57,.h .bool)],[],64,[]⟩)]
def z6d:y7.L 0:=Fx.jn q4i [] fun d=>by kernel_rfl
def z6c:y7.L 1:=Fx.jn quv [(z6d).s] fun d=>by kernel_rfl
def z6b:y7.L 2:=Fx.jn q4h [(z6c).s] fun d=>by kernel_rfl
def z6a:y7.L 3:=Fx.jn quu [(z6b).s] fun d=>by kernel_rfl
def z59:y7.L 4:=Fx.jn q4g [(z6a).s] fun d=>by kernel_rfl
def z58:y7.L 5:=Fx.jn qut [(z59).s] fun d=>by kernel_rfl
def z6e:=y7.fi qus [(z58).s] call163
def z6n:IF:=⟨.fn 119,[wS],[],_,RS.mk (.tup [.h (.int .i32),wH]) []⟩
def x30:Fx wG z6n:=fx f119 119 func119 [z6e.p] false [] ao []
def zee:=x30.fi qup [] call119
def z6p:IF:=⟨.fn 166,[wS,.h (.int .i32)],[],_,RS.mk (.h .bool) []⟩
def x31:Fx wG z6p:=fx f166 166 func166 [(zc7 fu).p] false [] ao []
def zef:=(x31 fu).fi (qk3 fu) [] call166
def z6q:IF:=⟨.fn 218,[wS,wS],[],_,RS.mk (wS) []⟩
def x32:Fx wG z6q:=fx f218 218 func218 [zee.p,(zef fu).p] false [] ao [(ai [(0,96),(0,97),(0,49),(2,12),(1,6),(0,7)],⟨23,[(0,wS),(1,wS)],[],64,[]⟩)]
def z6r:Nat->(x32 fu).L 0:=Fx.lq (qub fu) (q32 fu) (fun r0=>[r0.s])
def z6s:=(x32 fu).fi (q31 fu) [(z6r fu fu).s] call218
def z6t:IF:=⟨.fn 180,[wS,wS],[],_,RS.mk (wS) []⟩
def x33:Fx wG z6t:=fx f180 180 func180 [(z5z fu).p,(x9s fu).p,(z56 fu).p,(z6s fu).p] false [] ao [(ai [(0,60),(0,61),(0,31)],⟨37,[(0,wS),(1,wS)],[],64,[]⟩),(ai [(0,29),(0,15)],⟨37,[(0,wS),(1,wS),(21,.h .bool)],[],64,[]⟩),(ai [(0,28),(0,29),(0,15)],⟨37,[(0,wS),(1,wS)],[],64,[]⟩),(ai [(0,13),(0,7)],⟨37,[(0,wS),(1,wS),(12,.h .bool)],[],64,[]⟩)]
def z6x:(x33 fu).L 0:=Fx.jm (qt3 fu) []
def z6w:(x33 fu).L 1:=Fx.jm (qlc fu) [(z6x fu).s]
def z6v:(x33 fu).L 2:=Fx.jm (qt2 fu) [(z6w fu).s]
def z6u:(x33 fu).L 3:=Fx.jm (qlb fu) [(z6v fu).s]
def z6y:=(x33 fu).fi (qla fu) [(z6u fu).s] call180
def z64:IF:=⟨.fn 136,[.ptr 0 0],[(0,.cells [wS] 174)],_,RS.mk (.tup []) [(0,.cells [wS] 174)]⟩
def x34:Fx wG z64:=fx f136 136 func136 [(z6y fu).p] false [] ao []
def qit:=(x34 fu).fi (tz fu) [] call136
def z67:IF:=⟨.fn 133,[.h .byte],[],_,RS.mk (.h .bool) []⟩
def x35:Fx wG z67:=fx f133 133 func133 [zcx.p] false [] ao []
def qiu:=x35.fi nr [] call133
def z68:IF:=⟨.fn 132,[.ptr 0 0,.fn 133 []],[(0,.cells [wS] 174)],_,RS.mk (wS) [(0,.cells [wS] 174)]⟩
def x36:Fx wG z68:=fx f132 132 func132 [(qit fu).p,qiu.p] false [] ao [(ai [(0,482),(1,241),(2,60),(1,30),(0,31)],⟨44,[(0,.ptr 0 0),(1,.fn 133 []),(5,wH)],[(0,.cells [wS] 174)],64,[]⟩),(ai [(0,481),(0,241),(2,60),(1,30),(0,31)],⟨44,[(0,.ptr 0 0),(1,.fn 133 []),(5,wH),(25,.h .bool)],[(0,.cells [wS] 174)],64,[]⟩),(ai [(0,480),(0,481),(0,241),(2,60),(1,30),(0,31)],⟨44,[(0,.ptr 0 0),(1,.fn 133 []),(5,wH)],[(0,.cells [wS] 174)],64,[]⟩)]
def z7b(r0:(x36 fu).L 2):(x36 fu).L 0:=Fx.jm (q3h fu r0.f) [r0.s]
def z7a(r0:(x36 fu).L 2):(x36 fu).L 1:=Fx.jm (qs1 fu r0.f) [(z7b fu r0).s]
def z69:Nat->(x36 fu).L 2:=Fx.lq (qfr fu) (q3g fu) (fun r0=>[(z7a fu r0).s])
def z7c:=(x36 fu).fi (qfq fu) [(z69 fu fu).s] call132
def z7g:IF:=⟨.fn 134,[.ptr 0 0,.h .byte],[(0,.cells [wS] 174)],_,RS.mk (.h .bool) [(0,.cells [wS] 174)]⟩
def x37:Fx wG z7g:=fx f134 134 func134 [(qit fu).p] false [] ao []
def q1w:=(x37 fu).fi (wj fu) [] call134
def z7i:IF:=⟨.fn 175,[.h .byte],[],_,RS.mk (.h .bool) []⟩
def x38:Fx wG z7i:=fx f175 175 func175 [qiu.p] false [] ao []
def z7j:=x38.fi qfp [] call175
def z7k:IF:=⟨.fn 132,[.ptr 0 0,.fn 175 []],[(0,.cells [wS] 174)],_,RS.mk (wS) [(0,.cells [wS] 174)]⟩
def x39:Fx wG z7k:=fx f132 132 func132 [(qit fu).p,z7j.p] false [] ao [(ai [(0,482),(1,241),(2,60),(1,30),(0,31)],⟨44,[(0,.ptr 0 0),(1,.fn 175 []),(5,wH)],[(0,.cells [wS] 174)],64,[]⟩),(ai [(0,481),(0,241),(2,60),(1,30),(0,31)],⟨44,[(0,.ptr 0 0),(1,.fn 175 []),(5,wH),(25,.h .bool)],[(0,.cells [wS] 174)],64,[]⟩),(ai [(0,480),(0,481),(0,241),(2,60),(1,30),(0,31)],⟨44,[(0,.ptr 0 0),(1,.fn 175 []),(5,wH)],[(0,.cells [wS] 174)],64,[]⟩)]
def z7n(r0:(x39 fu).L 2):(x39 fu).L 0:=Fx.jm (q3j fu r0.f) [r0.s]
def z7m(r0:(x39 fu).L 2):(x39 fu).L 1:=Fx.jm (qs2 fu r0.f) [(z7n fu r0).s]
def z7l:Nat->(x39 fu).L 2:=Fx.lq (qfs fu) (q3i fu) (fun r0=>[(z7m fu r0).s])
def z7o:=(x39 fu).fi (qkk fu) [(z7l fu fu).s] call132
def z7v:IF:=⟨.fn 213,[.h .byte],[],_,RS.mk (.h .bool) []⟩
def x40:Fx wG z7v:=fx f213 213 func213 [qiu.p] false [] ao []
def z7w:=x40.fi qfu [] call213
def z7x:IF:=⟨.fn 132,[.ptr 0 0,.fn 213 []],[(0,.cells [wS] 174)],_,RS.mk (wS) [(0,.cells [wS] 174)]⟩
def x41:Fx wG z7x:=fx f132 132 func132 [(qit fu).p,z7w.p] false [] ao [(ai [(0,482),(1,241),(2,60),(1,30),(0,31)],⟨44,[(0,.ptr 0 0),(1,.fn 213 []),(5,wH)],[(0,.cells [wS] 174)],64,[]⟩),(ai [(0,481),(0,241),(2,60),(1,30),(0,31)],⟨44,[(0,.ptr 0 0),(1,.fn 213 []),(5,wH),(25,.h .bool)],[(0,.cells [wS] 174)],64,[]⟩),(ai [(0,480),(0,481),(0,241),(2,60),(1,30),(0,31)],⟨44,[(0,.ptr 0 0),(1,.fn 213 []),(5,wH)],[(0,.cells [wS] 174)],64,[]⟩)]
def z71(r0:(x41 fu).L 2):(x41 fu).L 0:=Fx.jm (q3l fu r0.f) [r0.s]
def z7z(r0:(x41 fu).L 2):(x41 fu).L 1:=Fx.jm (qs3 fu r0.f) [(z71 fu r0).s]
def z7y:Nat->(x41 fu).L 2:=Fx.lq (qft fu) (q3k fu) (fun r0=>[(z7z fu r0).s])
def z73:=(x41 fu).fi (qkl fu) [(z7y fu fu).s] call132
def z79:IF:=⟨.fn 176,[.ptr 0 0],[(0,.cells [wS] 174)],_,RS.mk (.tup [wS,.h .bool]) [(0,.cells [wS] 174)]⟩
def x42:Fx wG z79:=fx f176 176 func176 [(q1w fu).p,(z73 fu).p] false [] ao [(ai [(0,976),(0,977),(0,489),(2,122),(1,61),(0,31)],⟨66,[(0,.ptr 0 0),(4,.own 32),(5,wH)],[(0,.cells [wS] 174),(32,.row .byte 5)],64,[]⟩)]
def z8a:Nat->(x42 fu).L 0:=Fx.lq (qfv fu) (qs4 fu) (fun r0=>[r0.s])
def z8b:=(x42 fu).fi (qkm fu) [(z8a fu fu).s] call176
def z8c:IF:=⟨.fn 162,[wS,wS],[],_,RS.mk (wH) []⟩
def x43:Fx wG z8c:=fx f162 162 func162 [zcs.p] false [] ao [(ai [(0,57),(1,14),(0,15)],⟨143,[(0,wS),(1,wS),(5,wH),(16,.h .bool)],[],64,[]⟩)]
def z8d:x43.L 0:=Fx.jn qkd [] fun d=>by kernel_rfl
def z8e:=x43.fi qkc [(z8d).s] call162
def z8h:IF:=⟨.fn 214,[wS,wS],[],_,RS.mk (.tup [wS,wS,.h .bool]) []⟩
def x44:Fx wG z8h:=fx f214 214 func214 [z8e.p] false [] ao []
def z8i:=x44.fi qsk [] call214
def z8k:IF:=⟨.fn 177,[wS,wS],[],_,RS.mk (.tup [wS,wS,.h .bool]) []⟩
def x45:Fx wG z8k:=fx f177 177 func177 [z8i.p] false [] ao []
def z8l:=x45.fi qk4 [] call177
def z8n:IF:=⟨.fn 194,[wS,wS],[],_,RS.mk (.h .bool) []⟩
def x46:Fx wG z8n:=fx f194 194 func194 [] false [] ao []
def zej:=x46.fi qfc [] call194
def z8p:IF:=⟨.fn 215,[wS,wS],[],_,RS.mk (.tup [wS,.h .bool]) []⟩
def x47:Fx wG z8p:=fx f215 215 func215 [zej.p] false [] ao []
def z8q:=x47.fi qsl [] call215
def z8s:IF:=⟨.fn 178,[wS,wS],[],_,RS.mk (.tup [wS,.h .bool]) []⟩
def x48:Fx wG z8s:=fx f178 178 func178 [z8q.p] false [] ao []
def z8t:=x48.fi qk5 [] call178
def q9o:LC.glob 5=some ⟨.int .u64,Lib.pow10Tab⟩:=rfl
def q9p:(5,20)∈LC.sizes:=by decide
def z8v:IF:=⟨.fn 135,[.ptr 0 0],[(0,.cells [wS] 174)],_,RS.mk (.tup [.h (.prod .str (.prod wI (.prod .bool .str))),.h .bool]) [(0,.cells [wS] 174)]⟩
def x49:Fx wG z8v:=fx f135 135 func135 [(z7o fu).p,(q1w fu).p,(z8b fu).p,z8l.p,z8t.p,⟨q84.e wg,zmc q9o q9p (by decide) (by decide)⟩] false [] ao []
def z8w:=(x49 fu).fi (qkj fu) [] call135
def z81:IF:=⟨.fn 181,[.h (.prod .str (.prod wI (.prod .bool .str))),.ptr 0 0],[(0,.dat (.prod .str (.prod wI (.prod .bool .str))) 178)],_,RS.mk (.h .bool) [(0,.dat (.prod .str (.prod wI (.prod .bool .str))) 178)]⟩
def x50:Fx wG z81:=fx f181 181 func181 [(nk fu).p] false [] ao []
def zek:=(x50 fu).fi (qfj fu) [] call181
def z82:IF:=⟨.fn 219,[.h (.list (.prod .str (.prod wI (.prod .bool .str)))),.fn 181 [.ptr 0 0]],[(0,.dat (.prod .str (.prod wI (.prod .bool .str))) 178)],_,RS.mk (wH) [(0,.dat (.prod .str (.prod wI (.prod .bool .str))) 178)]⟩
def x51:Fx wG z82:=fx f219 219 func219 [(zek fu).p] false [] ao [(ai [(0,104),(0,105),(2,26),(1,13),(0,7)],⟨19,[(0,.h (.list (.prod .str (.prod wI (.prod .bool .str))))),(1,.fn 181 [.ptr 0 0]),(7,wH),(8,wH)],[(0,.dat (.prod .str (.prod wI (.prod .bool .str))) 178)],64,[]⟩)]
def z83:Nat->(x51 fu).L 0:=Fx.lq (qf2 fu) (qtt fu) (fun r0=>[r0.s])
def z84:=(x51 fu).fi (qts fu) [(z83 fu fu).s] call219
def z87:IF:=⟨.fn 182,[.h (.list (.prod .str (.prod wI (.prod .bool .str)))),.fn 181 [.ptr 0 0]],[(0,.dat (.prod .str (.prod wI (.prod .bool .str))) 178)],_,RS.mk (.h .bool) [(0,.dat (.prod .str (.prod wI (.prod .bool .str))) 178)]⟩
def x52:Fx wG z87:=fx f182 182 func182 [(z84 fu).p] false [] ao []
def z88:=(x52 fu).fi (qk1 fu) [] call182
def z89:IF:=⟨.fn 273,[.h .byte],[],_,RS.mk (.tup [.h .byte,.h .bool]) []⟩
def x54:Fx wG z89:=fx f273 273 func273 [] false [] ao [(ai [(0,103),(1,6),(0,7)],⟨33,[(0,.h .byte),(13,.h .bool)],[],64,[]⟩),(ai [(0,25),(1,6),(0,7)],⟨33,[(0,.h .byte),(4,.h .bool)],[],64,[]⟩)]
def z9b:x54.L 0:=Fx.jn qrv [] fun d=>by kernel_rfl
def z9a:x54.L 1:=Fx.jn qru [(z9b).s] fun d=>by kernel_rfl
def z9c:=x54.fi qaf [(z9a).s] call273
def z9g:IF:=⟨.fn 249,[wS],[],_,RS.mk (.tup [.h .byte,.h .bool]) []⟩
def x55:Fx wG z9g:=fx f249 249 func249 [z9c.p] false [] ao []
def zem:=x55.fi qah [] call249
def z9h:IF:=⟨.fn 222,[.h (.prod .str (.prod wI (.prod .bool .str)))],[],_,RS.mk (wS) []⟩
def x56:Fx wG z9h:=fx f222 222 func222 [(nk fu).p,zem.p] false [] ao [(ai [(0,4048),(0,4049),(0,2025),(2,506),(1,253),(0,127)],⟨62,[(3,wS),(4,.own 32),(5,wH)],[(32,.row .byte 5)],64,[]⟩),(ai [(0,62),(0,63)],⟨62,[(3,wS)],[],64,[]⟩),(ai [(0,61),(0,31)],⟨62,[(3,wS),(26,.h .bool)],[],64,[]⟩)]
def z9k:Nat->(x56 fu).L 0:=Fx.lq (qfn fu) (qsz fu) (fun r2=>[r2.s])
def z9j:(x56 fu).L 1:=Fx.jm (qao fu) [(z9k fu fu).s]
def z9i:(x56 fu).L 2:=Fx.jm (tx fu) [(z9j fu).s]
def z9l:=(x56 fu).fi (qkh fu) [(z9i fu).s] call222
def q7b:LC.glob 0=some ⟨.byte,qh8⟩:=rfl
def q41:LC.glob 1=some ⟨.prod .byte .byte,qh9⟩:=rfl
def q7a:qbj qh8=true:=by kernel_rfl
def q40:qbk qh9=true:=by kernel_rfl
def z9o:IF:=⟨.fn 183,[.own 0],[(0,.row (.prod .str (.prod wI (.prod .bool .str))) 178)],_,RS.mk (.tup [.h wP,.h .bool]) [(0,.dead)]⟩
def x57:Fx wG z9o:=fx f183 183 func183 [⟨zbd.e wo,zpz⟩,(z9l fu).p,⟨zbz.e ws,zqy q7b q41 q7a q40⟩] true [] ao [(ai [(0,2024),(0,2025),(2,506),(1,253),(0,127)],⟨52,[(2,.ptr 32 0),(4,.ptr 33 0),(28,.own 34),(29,wH),(30,wH)],[(0,.dead),(32,.dat wP 108),(33,.dat wP 108),(34,.row (.prod .str (.prod wI (.prod .bool .str))) 178)],64,[]⟩)]
def z9p:Nat->(x57 fu).L 0:=Fx.lq (qfg fu) (qss fu) (fun r0=>[r0.s])
def z9q:=(x57 fu).fi (qff fu) [(z9p fu fu).s] call183
def z9r:IF:=⟨.fn 137,[.h (.list (.prod .str (.prod wI (.prod .bool .str))))],[],_,RS.mk (.tup [.own 0,.h .bool]) [(0,.row wP 108)]⟩
def y8:Fx wG z9r:=fx f137 137 func137 [(z88 fu).p,(zek fu).p,(z9q fu).p] false [] ao [(ai [(0,3827623),(2,239226),(1,119613),(0,59807),(1,934),(0,935),(2,58),(1,29),(0,15)],⟨56,[(0,.h (.list (.prod .str (.prod wI (.prod .bool .str))))),(4,.own 34),(6,.ptr 32 0),(7,.fn 181 [.ptr 32 0]),(8,.own 33),(13,.h (.list (.prod .str (.prod wI (.prod .bool .str))))),(14,wH),(15,wH),(26,.h (.list (.prod .str (.prod wI (.prod .bool .str))))),(27,wH),(28,wH)],[(32,.dat (.prod .str (.prod wI (.prod .bool .str))) 178),(33,.row (.prod .str (.prod wI (.prod .bool .str))) 178),(34,.row wP 108)],64,[]⟩),(ai [(0,956904),(0,956905),(2,239226),(1,119613),(0,59807),(1,934),(0,935),(2,58),(1,29),(0,15)],⟨56,[(0,.h (.list (.prod .str (.prod wI (.prod .bool .str))))),(4,.own 33),(6,.ptr 32 0),(7,.fn 181 [.ptr 32 0]),(8,.own 34),(13,.h (.list (.prod .str (.prod wI (.prod .bool .str))))),(14,wH),(15,wH),(26,.h (.list (.prod .str (.prod wI (.prod .bool .str))))),(27,wH),(28,wH)],[(32,.dat (.prod .str (.prod wI (.prod .bool .str))) 178),(33,.row wP 108),(34,.row (.prod .str (.prod wI (.prod .bool .str))) 178)],64,[]⟩),(ai [(0,232),(0,233),(2,58),(1,29),(0,15)],⟨56,[(0,.h (.list (.prod .str (.prod wI (.prod .bool .str))))),(4,.own 32),(13,.h (.list (.prod .str (.prod wI (.prod .bool .str))))),(14,wH),(15,wH)],[(32,.row wP 108)],64,[]⟩)]
def z9u(r0:(y8 fu).L 2)(r1:(y8 fu).L 1):(y8 fu).L 0:=Fx.jm (qfl fu r0.f r1.f) [r1.s]
def z9t(r0:(y8 fu).L 2):Nat->(y8 fu).L 1:=Fx.lq (qfk fu r0.f) (qsw fu r0.f) (fun r1=>[(z9u fu r0 r1).s,r0.s])
def z9s:Nat->(y8 fu).L 2:=Fx.lq (qan fu) (qsv fu) (fun r0=>[r0.s,(z9t fu r0 fu).s])
def z9v:=(y8 fu).fi (qam fu) [(z9s fu fu).s] call137
def z9x:IF:=⟨.fn 87,[wS],[],_,.two (RS.mk (.tup [.agg [wS,wS,wN],.h .bool]) []) (RS.mk (.tup [.agg [wS,wS,.own 0],.h .bool]) [(0,.row wP 108)])⟩
def x59:Fx wG z9x:=fx f87 87 func87 [(z7c fu).p,(q1w fu).p,(z8w fu).p,(qit fu).p,(z9v fu).p] false [] ao [(ai [(0,16352),(0,16353),(0,8177),(2,2044),(1,1022),(0,1023)],⟨66,[(2,.ptr 32 0),(4,.ptr 33 0),(5,.ptr 34 0),(7,.own 35)],[(32,.cells [wS,wS,wN] 62),(33,.cells [wS] 174),(34,.cells [wS,wS,wN] 62),(35,.row (.prod .str (.prod wI (.prod .bool .str))) 178)],64,[]⟩),(ai [(0,510),(0,511)],⟨66,[(2,.ptr 32 0),(4,.ptr 33 0),(5,.ptr 34 0)],[(32,.cells [wS,wS,wN] 62),(33,.cells [wS] 174),(34,.cells [wS,wS,wN] 62)],64,[]⟩),(ai [(0,509),(0,255)],⟨66,[(2,.ptr 32 0),(4,.ptr 33 0),(5,.ptr 34 0),(33,.h .bool)],[(32,.cells [wS,wS,wN] 62),(33,.cells [wS] 174),(34,.cells [wS,wS,wN] 62)],64,[]⟩)]
def z90:Nat->(x59 fu).L 0:=Fx.lq (qfm fu) (qsx fu) (fun r2=>[r2.s])
def z9z:(x59 fu).L 1:=Fx.jm (qsy fu) [(z90 fu fu).s]
def z9y:(x59 fu).L 2:=Fx.jm (tw fu) [(z9z fu).s]
def z91:=(x59 fu).fi (qkg fu) [(z9y fu).s] call87
def z96:IF:=⟨.fn 147,[wS,.fn 133 []],[],_,RS.mk (.h .bool) []⟩
def x60(fu:Nat):Fx wG z96:=fx f147 147 func147 [qiu.p] false [] ao [(ai [(0,104),(0,105),(2,26),(1,13),(0,7)],⟨18,[(0,wS),(1,.fn 133 []),(7,wH),(8,wH)],[],64,[]⟩)]
def z97:Nat->(x60 fu).L 0:=Fx.lq (qe3 fu) (q2t fu) (fun r0=>[r0.s])
def z98:=(x60 fu).fi (qjy fu) [(z97 fu fu).s] call147
def vaa:IF:=⟨.fn 105,[wS],[],_,RS.mk (.h .bool) []⟩
def x61:Fx wG vaa:=fx f105 105 func105 [(z98 fu).p] false [] ao []
def zep:=(x61 fu).fi (wk fu) [] call105
def vac:IF:=⟨.fn 107,[.h wP,.ptr 0 0],[(0,.dat wP 108)],_,RS.mk (.h .bool) [(0,.dat wP 108)]⟩
def x62:Fx wG vac:=fx f107 107 func107 [(nk fu).p] false [] ao []
def vad:=(x62 fu).fi (qsp fu) [] call107
def vae:IF:=⟨.fn 152,[.h wL,.fn 107 [.ptr 0 0]],[(0,.dat wP 108)],_,RS.mk (wH) [(0,.dat wP 108)]⟩
def x63:Fx wG vae:=fx f152 152 func152 [(vad fu).p] false [] ao [(ai [(0,104),(0,105),(2,26),(1,13),(0,7)],⟨19,[(0,.h wL),(1,.fn 107 [.ptr 0 0]),(7,wH),(8,wH)],[(0,.dat wP 108)],64,[]⟩)]
def vaf:Nat->(x63 fu).L 0:=Fx.lq (qf1 fu) (qtr fu) (fun r0=>[r0.s])
def vag:=(x63 fu).fi (qtq fu) [(vaf fu fu).s] call152
def vai:IF:=⟨.fn 106,[.h wL,.fn 107 [.ptr 0 0]],[(0,.dat wP 108)],_,RS.mk (.h .bool) [(0,.dat wP 108)]⟩
def x64:Fx wG vai:=fx f106 106 func106 [(vag fu).p] false [] ao []
def vaj:=(x64 fu).fi (qk0 fu) [] call106
def vak:IF:=⟨.fn 72,[.h (.prod .str (.prod .str wL))],[],_,RS.mk (.h (.prod wI wI)) []⟩
def x65:Fx wG vak:=fx f72 72 func72 [(zep fu).p,nj.p,li.p,(vaj fu).p,⟨zcc.e wt,zrk q7b q41 q7a q40⟩] false [] ao [(ai [(0,31333),(1,7833),(1,1958),(0,1959),(2,122),(1,61),(0,31)],⟨67,[(1,.ptr 32 0),(2,.ptr 33 0),(3,wH),(4,.ptr 34 0),(22,.h wL),(23,wH),(24,wH),(29,.h .bool)],[(32,.dat (.prod .str (.prod .str wL)) 62),(33,.dat (.prod wI wI) 29),(34,.dat wP 108)],64,[]⟩),(ai [(0,488),(0,489),(2,122),(1,61),(0,31)],⟨67,[(1,.ptr 32 0),(2,.ptr 33 0),(22,.h wL),(23,wH),(24,wH)],[(32,.dat (.prod .str (.prod .str wL)) 62),(33,.dat (.prod wI wI) 29)],64,[]⟩),(ai [(0,28),(0,29),(0,15)],⟨67,[(1,.ptr 32 0),(2,.ptr 33 0)],[(32,.dat (.prod .str (.prod .str wL)) 62),(33,.dat (.prod wI wI) 29)],64,[]⟩),(ai [(0,13),(0,7)],⟨67,[(1,.ptr 32 0),(2,.ptr 33 0),(14,.h .bool)],[(32,.dat (.prod .str (.prod .str wL)) 62),(33,.dat (.prod wI wI) 29)],64,[]⟩)]
def vap(r2:(x65 fu).L 1):(x65 fu).L 0:=Fx.jm (wi fu r2.f) [r2.s]
def vao:Nat->(x65 fu).L 1:=Fx.lq (qak fu) (qsq fu) (fun r2=>[(vap fu r2).s])
def van:(x65 fu).L 2:=Fx.jm (qsr fu) [(vao fu fu).s]
def vam:(x65 fu).L 3:=Fx.jm (qaj fu) [(van fu).s]
def q16:=(x65 fu).fi (rr fu) [(vam fu).s] call72
def vau:IF:=⟨.fn 50,[wS],[],_,.two (RS.mk (.tup [.agg [wS,wS,wN],.agg [wH,wH]]) []) (RS.mk (.tup [.agg [wS,wS,.own 0],.agg [wH,wH]]) [(0,.row wP 108)])⟩
def x66:Fx wG vau:=fx f50 50 func50 [nj.p,(z91 fu).p,(q16 fu).p,ph.p,li.p] false [] ao []
def zer:=(x66 fu).fi (qai fu) [] call50
def vav:IF:=⟨.fn 70,[.h wL],[],_,.two (RS.mk (.tup [.agg [wS,wS,wN],wH,.h .bool]) []) (RS.mk (.tup [.agg [wS,wS,.own 0],wH,.h .bool]) [(0,.row wP 108)])⟩
def x67:Fx wG vav:=fx f70 70 func70 [(nk fu).p,(zer fu).p,ph.p] false [] ao [(ai [(0,935),(2,58),(1,29),(0,15)],⟨42,[(0,.h wL),(2,.ptr 32 0),(5,wH),(10,.h wL),(11,wH),(12,wH)],[(32,.cells [wS,wS,wN] 62)],64,[]⟩),(ai [(0,232),(0,233),(2,58),(1,29),(0,15)],⟨42,[(0,.h wL),(2,.ptr 32 0),(5,wH),(10,.h wL),(11,wH),(12,wH)],[(32,.cells [wS,wS,wN] 62)],64,[]⟩)]
def vax(r0:(x67 fu).L 1):(x67 fu).L 0:=Fx.jm (qar fu r0.f) [r0.s]
def vaw:Nat->(x67 fu).L 1:=Fx.lq (t6 fu) (qko fu) (fun r0=>[(vax fu r0).s])
def q17:=(x67 fu).fi (qaq fu) [(vaw fu fu).s] call70
def vaz:IF:=⟨.fn 37,[.h (.prod .str (.prod .str wL)),wS],[],_,RS.mk (.tup [wS,.h .bool,.h (.prod wI wI)]) []⟩
def x68:Fx wG vaz:=fx f37 37 func37 [(q16 fu).p,ph.p,(nk fu).p,li.p] false [] ao [(ai [(0,232),(0,233),(2,58),(1,29),(0,15)],⟨31,[(1,wS),(6,.ptr 32 0),(16,.h wL),(17,wH),(18,wH)],[(32,.dat (.prod wI wI) 29)],64,[]⟩)]
def va0:Nat->(x68 fu).L 0:=Fx.lq (qfd fu) (qsn fu) (fun r0=>[r0.s])
def qpu:=(x68 fu).fi (po fu) [(va0 fu fu).s] call37
def va2:IF:=⟨.fn 189,[.h .byte],[],_,RS.mk (.h .bool) []⟩
def x69:Fx wG va2:=fx f189 189 func189 [] false [] ao []
def va3:=x69.fi qfh [] call189
def va7:IF:=⟨.fn 147,[wS,.fn 189 []],[],_,RS.mk (.h .bool) []⟩
def x70(fu:Nat):Fx wG va7:=fx f147 147 func147 [va3.p] false [] ao [(ai [(0,104),(0,105),(2,26),(1,13),(0,7)],⟨18,[(0,wS),(1,.fn 189 []),(7,wH),(8,wH)],[],64,[]⟩)]
def va8:Nat->(x70 fu).L 0:=Fx.lq (qe4 fu) (q2u fu) (fun r0=>[r0.s])
def va9:=(x70 fu).fi (qjz fu) [(va8 fu fu).s] call147
def vbb:IF:=⟨.fn 190,[.own 0],[(0,.row .str 9)],_,RS.mk (.ptr 1 0) [(0,.dead),(1,.cells [.h (.int .u32),.h (.int .i32),.h (.int .u32),.c .nilIface,.own 2] 252),(2,.row .str 9)]⟩
def x71:Fx wG vbb:=fx f190 190 func190 [] true [] ao []
def vbc:=x71.fi qt1 [] call190
end
end
noncomputable section
open Go.Proofs
set_option linter.unusedVariables false
set_option maxRecDepth 100000
set_option maxHeartbeats 2000000
open Tryz
section
variable(fu:Nat)
def vbe:IF:=⟨.fn 227,[.h .byte],[],_,RS.mk (.h .byte) []⟩
def x75:Fx wG vbe:=fx f227 227 func227 [] false [] ao []
def vbf:=x75.fi nq [] call227
def vbg:IF:=⟨.fn 192,[wS],[],_,RS.mk (.own 0) [(0,.row .str 9)]⟩
def x76(fu:Nat):Fx wG vbg:=fx f192 192 func192 [qiu.p,vbf.p] false [] ao [(ai [(0,29902),(0,29903),(1,934),(0,935),(2,58),(1,29),(0,15)],⟨59,[(0,wS),(3,.own 32),(5,wS),(9,wH),(10,wH)],[(32,.row .str 9)],64,[]⟩),(ai [(0,232),(0,233),(2,58),(1,29),(0,15)],⟨59,[(0,wS),(3,.own 32),(9,wH),(10,wH)],[(32,.row .str 9)],64,[]⟩)]
def vbi(r0:(x76 fu).L 1):(x76 fu).L 0:=Fx.jm (qfo fu r0.f) [r0.s]
def vbh:Nat->(x76 fu).L 1:=Fx.lq (qap fu) (qs0 fu) (fun r0=>[(vbi fu r0).s])
def vbj:=(x76 fu).fi (qki fu) [(vbh fu fu).s] call192
def vbl:IF:=⟨.fn 146,[.h wP],[],_,RS.mk (wS) []⟩
def x77:Fx wG vbl:=fx f146 146 func146 [(zep fu).p,(va9 fu).p,vbc.p,⟨q98.e t7,zob⟩,(vbj fu).p,⟨q72.e wq,zk1 q9o q9p⟩] false [] ao [(ai [(0,1000),(0,1001),(2,250),(1,125),(0,63)],⟨59,[(1,.ptr 32 0),(3,wS),(38,.own 33),(39,wH),(40,wH)],[(32,.dat wP 108),(33,.row .str 9)],64,[]⟩),(ai [(0,30),(0,31)],⟨59,[(1,.ptr 32 0)],[(32,.dat wP 108)],64,[]⟩),(ai [(0,29),(0,15)],⟨59,[(1,.ptr 32 0),(24,.h .bool)],[(32,.dat wP 108)],64,[]⟩)]
def vbo:Nat->(x77 fu).L 0:=Fx.lq (qfi fu) (qst fu) (fun r2=>[r2.s])
def vbn:(x77 fu).L 1:=Fx.jm (qsu fu) [(vbo fu fu).s]
def vbm:(x77 fu).L 2:=Fx.jm (qal fu) [(vbn fu).s]
def vbp:=(x77 fu).fi (qkf fu) [(vbm fu).s] call146
def vbs:IF:=⟨.fn 102,[.h (.prod .str (.prod .str wL))],[],_,RS.mk (.tup [wS,.h (.prod wI wI)]) []⟩
def x78:Fx wG vbs:=fx f102 102 func102 [(q16 fu).p,ph.p,(vbp fu).p,nj.p,li.p] false [] ao [(ai [(0,488),(0,489),(2,122),(1,61),(0,31)],⟨37,[(3,.ptr 32 0),(5,wS),(20,.h wL),(21,wH),(22,wH)],[(32,.dat (.prod wI wI) 29)],64,[]⟩)]
def vbt:Nat->(x78 fu).L 0:=Fx.lq (qfe fu) (qso fu) (fun r0=>[r0.s])
def vbu:=(x78 fu).fi (qke fu) [(vbt fu fu).s] call102
def vbv:IF:=⟨.fn 67,[.h wT],[],_,RS.mk (wH) []⟩
def x79:Fx wG vbv:=fx f67 67 func67 [(q17 fu).p,(nk fu).p,(qpu fu).p,(vbu fu).p,ph.p] false [] ao [(ai [(0,30),(0,31)],⟨69,[(1,.ptr 32 0),(3,.ptr 33 0),(4,wH)],[(32,.dat wT 26),(33,.cells [wS,wS,.own 34] 62),(34,.row wP 108)],64,[]⟩),(ai [(0,29),(0,15)],⟨69,[(1,.ptr 32 0),(3,.ptr 33 0),(4,wH),(31,.h .bool)],[(32,.dat wT 26),(33,.cells [wS,wS,.own 34] 62),(34,.row wP 108)],64,[]⟩)]
def vbx:(x79 fu).L 0:=Fx.jm (qtk fu) []
def vbw:(x79 fu).L 1:=Fx.jm (nt fu) [(vbx fu).s]
def vby:=(x79 fu).fi (qkz fu) [(vbw fu).s] call67
def vb3:IF:=⟨.fn 68,[.h wB],[],_,RS.mk (wH) []⟩
def y9(fu:Nat):Fx wG vb3:=fx f68 68 func68 [] false [] ao [(ai [(0,14924),(0,14925),(0,7463),(1,466),(0,467),(2,58),(1,29),(0,15)],⟨45,[(0,.h wB),(3,wH),(4,wH),(5,.h .byte)],[],64,[]⟩),(ai [(0,7461),(0,3731),(1,466),(0,467),(2,58),(1,29),(0,15)],⟨45,[(0,.h wB),(3,wH),(4,wH),(5,.h .byte),(32,.h .bool)],[],64,[]⟩),(ai [(0,464),(0,465),(0,233),(2,58),(1,29),(0,15)],⟨45,[(0,.h wB),(3,wH),(4,wH)],[],64,[]⟩)]
def vb6(r0:(y9 fu).L 2):(y9 fu).L 0:=Fx.jm (qrt fu r0.f) [r0.s]
def vb5(r0:(y9 fu).L 2):(y9 fu).L 1:=Fx.jm (qae fu r0.f) [r0.s,(vb6 fu r0).s]
def vb4:Nat->(y9 fu).L 2:=Fx.lq (qad fu) (qrs fu) (fun r0=>[(vb5 fu r0).s])
def vb7:=(y9 fu).fi (qj1 fu) [(vb4 fu fu).s] call68
def vcb:IF:=⟨.fn 148,[.h .byte],[],_,RS.mk (.h .bool) []⟩
def x81:Fx wG vcb:=fx f148 148 func148 [] false [] ao []
def vcc:=x81.fi qfx [] call148
def vcd:IF:=⟨.fn 147,[wS,.fn 148 []],[],_,RS.mk (.h .bool) []⟩
def x82(fu:Nat):Fx wG vcd:=fx f147 147 func147 [vcc.p] false [] ao [(ai [(0,104),(0,105),(2,26),(1,13),(0,7)],⟨18,[(0,wS),(1,.fn 148 []),(7,wH),(8,wH)],[],64,[]⟩)]
def vce:Nat->(x82 fu).L 0:=Fx.lq (qe5 fu) (q2v fu) (fun r0=>[r0.s])
def vcf:=(x82 fu).fi (qj0 fu) [(vce fu fu).s] call147
def vch:IF:=⟨.fn 149,[wS,wS],[],_,RS.mk (.h .bool) []⟩
def x83:Fx wG vch:=fx f149 149 func149 [zej.p] false [] ao []
def vci:=x83.fi qk6 [] call149
def vcj:IF:=⟨.fn 103,[.h wL],[],_,RS.mk (.tup [wS,.h .bool]) []⟩
def x84:Fx wG vcj:=fx f103 103 func103 [(q17 fu).p,(nk fu).p,(qpu fu).p,(vcf fu).p,vci.p] false [] ao [(ai [(0,30),(0,31)],⟨52,[(4,.ptr 32 0)],[(32,.cells [wS,wS,.own 33] 62),(33,.row wP 108)],64,[]⟩),(ai [(0,29),(0,15)],⟨52,[(4,.ptr 32 0),(24,.h .bool)],[(32,.cells [wS,wS,.own 33] 62),(33,.row wP 108)],64,[]⟩)]
def vcl:(x84 fu).L 0:=Fx.jm (qs9 fu) []
def vck:(x84 fu).L 1:=Fx.jm (wl fu) [(vcl fu).s]
def vcm:=(x84 fu).fi (qkp fu) [(vck fu).s] call103
def vcq:IF:=⟨.fn 150,[.h wB],[],_,RS.mk (.fn 195 [.ptr 0 0]) [(0,.cells [.h wB] 23)]⟩
def x85:Fx wG vcq:=fx f150 150 func150 [] false [] ao []
def vcr:=x85.fi qth [] call150
def vcs:IF:=⟨.fn 122,[wS,.h .byte],[],_,RS.mk (wS) []⟩
def x86(fu:Nat):Fx wG vcs:=fx f122 122 func122 [] false [] ao [(ai [(0,96),(0,97),(0,49),(2,12),(1,6),(0,7)],⟨23,[(0,wS),(1,.h .byte)],[],64,[]⟩)]
def vct:Nat->(x86 fu).L 0:=Fx.lq (que fu) (q34 fu) (fun r0=>[r0.s])
def vcu:=(x86 fu).fi (q33 fu) [(vct fu fu).s] call122
def vcv:IF:=⟨.fn 124,[wS,.el 0 1],[(0,.row .bool 164)],_,RS.mk (wS) [(0,.row .bool 164)]⟩
def x87(fu:Nat):Fx wG vcv:=fx f124 124 func124 [q0p.p] false [] ao [(ai [(0,96),(0,97),(0,49),(2,12),(1,6),(0,7)],⟨22,[(0,wS),(1,.el 0 1)],[(0,.row .bool 164)],64,[]⟩)]
def vcw:Nat->(x87 fu).L 0:=Fx.lq (qga fu) (qud fu) (fun r0=>[r0.s])
def vcx:=(x87 fu).fi (quc fu) [(vcw fu fu).s] call124
def vcz:IF:=⟨.fn 206,[.h .byte],[],_,RS.mk (.h .bool) []⟩
def x88:Fx wG vcz:=fx f206 206 func206 [] false [] ao []
def zey:=x88.fi qur [] call206
def vc0:IF:=⟨.fn 165,[wS],[],_,RS.mk (.tup [.h (.int .i32),wH]) []⟩
def x89(fu:Nat):Fx wG vc0:=fx f165 165 func165 [zey.p,zee.p] false [] ao [(ai [(0,2046),(0,2047)],⟨51,[(0,wS),(4,wH),(5,wH)],[],64,[]⟩),(ai [(0,2044),(0,2045),(0,1023)],⟨51,[(0,wS),(4,wH),(5,wH)],[],64,[]⟩),(ai [(0,16336),(0,16337),(0,8169),(2,2042),(1,1021),(0,511)],⟨51,[(0,wS),(4,wH),(5,wH),(6,wH)],[],64,[]⟩)]
def vc3:(x89 fu).L 0:=Fx.jm (quk fu) []
def vc2:(x89 fu).L 1:=Fx.jm (quj fu) [(vc3 fu).s]
def vc1:Nat->(x89 fu).L 2:=Fx.lq (qui fu) (q4c fu) (fun r0=>[(vc2 fu).s,r0.s])
def vc4:=(x89 fu).fi (q4b fu) [(vc1 fu fu).s] call165
def vc9:IF:=⟨.fn 125,[wS,wS],[],_,RS.mk (wS) []⟩
def x90:Fx wG vc9:=fx f125 125 func125 [(vc4 fu).p,(zef fu).p] false [] ao [(ai [(0,96),(0,97),(0,49),(2,12),(1,6),(0,7)],⟨34,[(0,wS),(1,wS)],[],64,[]⟩)]
def vda:Nat->(x90 fu).L 0:=Fx.lq (quf fu) (q36 fu) (fun r0=>[r0.s])
def vdb:=(x90 fu).fi (q35 fu) [(vda fu fu).s] call125
def vdc:IF:=⟨.fn 78,[wS,wS],[],_,RS.mk (wS) []⟩
def x91:Fx wG vdc:=fx f78 78 func78 [(vcu fu).p,(x9s fu).p,(vcx fu).p,(vdb fu).p] false [] ao [(ai [(0,60),(0,61),(0,31)],⟨37,[(0,wS),(1,wS)],[],64,[]⟩),(ai [(0,29),(0,15)],⟨37,[(0,wS),(1,wS),(21,.h .bool)],[],64,[]⟩),(ai [(0,28),(0,29),(0,15)],⟨37,[(0,wS),(1,wS)],[],64,[]⟩),(ai [(0,13),(0,7)],⟨37,[(0,wS),(1,wS),(12,.h .bool)],[],64,[]⟩)]
def vdg:(x91 fu).L 0:=Fx.jm (qt5 fu) []
def vdf:(x91 fu).L 1:=Fx.jm (qlf fu) [(vdg fu).s]
def vde:(x91 fu).L 2:=Fx.jm (qt4 fu) [(vdf fu).s]
def vdd:(x91 fu).L 3:=Fx.jm (qle fu) [(vde fu).s]
def vdh:=(x91 fu).fi (qld fu) [(vdd fu).s] call78
def vdn:IF:=⟨.fn 151,[wS,wS],[],_,RS.mk (wH) []⟩
def x92:Fx wG vdn:=fx f151 151 func151 [(vdh fu).p] false [] ao []
def vdo:=(x92 fu).fi (qky fu) [] call151
def ze0:IF:=⟨.yld 0,[wH,wS],[(0,.loop .ready none 104 51 [(2,.ptr 1 0),(3,.ptr 2 0),(4,.ptr 3 0),(5,.ptr 4 0),(6,.ptr 5 0)] [12,13] 2 6),(1,.cells [.h wB] 23),(2,.cells [wS] 9),(3,.cells [.own 7] 99),(4,.cells [.own 8] 99),(5,.cells [wH] 3),(6,.dfr),(7,.row wB 23),(8,.row wB 23)],_,.two (RS.mk (.c (.bool true)) [(0,.loop .ready none 104 51 [(2,.ptr 1 0),(3,.ptr 2 0),(4,.ptr 3 0),(5,.ptr 4 0),(6,.ptr 5 0)] [12,13] 2 6),(1,.cells [.h wB] 23),(2,.cells [wS] 9),(3,.cells [.own 9] 99),(4,.cells [.own 10] 99),(5,.cells [wH] 3),(6,.dfr),(7,.dead),(8,.dead),(9,.row wB 23),(10,.row wB 23)]) (RS.mk (.c (.bool false)) [(0,.loop .done (some .ret) 104 51 [(2,.ptr 1 0),(3,.ptr 2 0),(4,.ptr 3 0),(5,.ptr 4 0),(6,.ptr 5 0)] [12,13] 2 6),(1,.cells [.h wB] 23),(2,.cells [wS] 9),(3,.cells [.own 9] 99),(4,.cells [.own 9] 99),(5,.cells [wH] 3),(6,.dfr),(7,.dead),(8,.dead),(9,.row wB 23)])⟩
def x93:Fx wG ze0:=fx f104 104 func104 [(vdo fu).p] false [([0,1,0,1,1,1],2)] (lg rfl ao) []
def vdq:EI wG ze0:=(x93 fu).fiy (qas fu) [] 0 rfl [0,1,0,1,1,1] (by kernel_rfl) (by kernel_rfl) fun d d'=>by kernel_rfl
def vdr:IF:=⟨.fn 195,[.yld 0,.ptr 1 0],[(0,.loop .ready none 104 51 [(2,.ptr 2 0),(3,.ptr 3 0),(4,.ptr 4 0),(5,.ptr 5 0),(6,.ptr 6 0)] [12,13] 2 7),(1,.cells [.h wB] 23),(2,.cells [.h wB] 23),(3,.cells [wS] 9),(4,.cells [.own 8] 99),(5,.cells [.own 9] 99),(6,.cells [wH] 3),(7,.dfr),(8,.row wB 23),(9,.row wB 23)],_,.two (RS.mk (.tup []) [(0,.loop .done (some .ret) 104 51 [(2,.ptr 2 0),(3,.ptr 3 0),(4,.ptr 4 0),(5,.ptr 5 0),(6,.ptr 6 0)] [12,13] 2 7),(1,.cells [.h wB] 23),(2,.cells [.h wB] 23),(3,.cells [wS] 9),(4,.cells [.own 10] 99),(5,.cells [.own 10] 99),(6,.cells [wH] 3),(7,.dfr),(8,.dead),(9,.dead),(10,.row wB 23)]) (RS.mk (.tup []) [(0,.loop .ready none 104 51 [(2,.ptr 2 0),(3,.ptr 3 0),(4,.ptr 4 0),(5,.ptr 5 0),(6,.ptr 6 0)] [12,13] 2 7),(1,.cells [.h wB] 23),(2,.cells [.h wB] 23),(3,.cells [wS] 9),(4,.cells [.own 10] 99),(5,.cells [.own 11] 99),(6,.cells [wH] 3),(7,.dfr),(8,.dead),(9,.dead),(10,.row wB 23),(11,.row wB 23)])⟩
def x94:Fx wG vdr:=fx f195 195 func195 [⟨q5w.e wh,zhs (by decide)⟩,(vdq fu).p] false [] ao [(ai [(0,48),(0,49),(0,25),(2,6),(1,3)],⟨39,[(0,.yld 0),(1,.ptr 1 0),(3,wH)],[(0,.loop .ready none 104 51 [(2,.ptr 2 0),(3,.ptr 3 0),(4,.ptr 4 0),(5,.ptr 5 0),(6,.ptr 6 0)] [12,13] 2 7),(1,.cells [.h wB] 23),(2,.cells [.h wB] 23),(3,.cells [wS] 9),(4,.cells [.own 32] 99),(5,.cells [.own 33] 99),(6,.cells [wH] 3),(7,.dfr),(8,.dead),(9,.dead),(32,.row wB 23),(33,.row wB 23)],64,[]⟩)]
def vds:Nat->(x94 fu).L 0:=Fx.lq (wn fu) (qtj fu) (fun r0=>[r0.s])
def vdt:=(x94 fu).fi (qti fu) [(vds fu fu).s] call195
def vdv:IF:=⟨.fn 104,[.h wB,wS],[],_,RS.mk (.own 0) [(0,.row wB 23)]⟩
def x95:Fx wG vdv:=fx f104 104 func104 [vcr.p,(vdt fu).p] false [([0,1,0,1,1,1],2)] (lg rfl ao) []
def vdw:=(x95 fu).fi (qkr fu) [] call104
def vdy:IF:=⟨.fn 69,[.h wL,.h wB,wH],[],_,RS.mk (.own 0) [(0,.row wB 23)]⟩
def x96:Fx wG vdy:=fx f69 69 func69 [(vcm fu).p,(vdw fu).p] false [] ao []
def vdz:=(x96 fu).fi (qkx fu) [] call69
def vd1:IF:=⟨.fn 34,[.h (.prod wT wI)],[],_,RS.mk (wH) []⟩
def x97:Fx wG vd1:=fx f34 34 func34 [(z5r fu).p,ph.p,(vby fu).p,(vb7 fu).p,(vdz fu).p] false [] ao []
def vd2:=(x97 fu).fi (qkq fu) [] call34
def ze2:IF:=⟨.yld 0,[wH,.agg [.h wL,.h wB,.h (.list wT),wH]],[(0,.loop .ready none 14 36 [(2,.ptr 1 0)] [26,27] 1 2),(1,.dat (.prod wI wI) 29),(2,.dfr)],_,.two (RS.mk (.c (.bool false)) [(0,.loop .done (some .ret) 14 36 [(2,.ptr 1 0)] [26,27] 1 2),(1,.dat (.prod wI wI) 29),(2,.dfr)]) (RS.mk (.c (.bool true)) [(0,.loop .ready none 14 36 [(2,.ptr 1 0)] [26,27] 1 2),(1,.dat (.prod wI wI) 29),(2,.dfr)])⟩
def x98:Fx wG ze2:=fx f14 14 func14 [(vd2 fu).p,nj.p] false [([0,1,0,1,1,1,1],1)] (lg rfl ao) []
def vd4:EI wG ze2:=(x98 fu).fiy (qs8 fu) [] 0 rfl [0,1,0,1,1,1,1] (by kernel_rfl) (by kernel_rfl) fun d d'=>by kernel_rfl
def qdk:IF:=⟨.fn 65,[.h wT,wH,.ptr 0 0,.ptr 1 0,.ptr 2 0],[(0,.cells [.yld 3] 110),(1,.cells [wH] 3),(2,.cells [.fn 65 [.ptr 0 0,.ptr 1 0,.ptr 2 0]] 111),(3,.loop .ready none 14 36 [(2,.ptr 4 0)] [26,27] 1 5),(4,.dat (.prod wI wI) 29),(5,.dfr)],_,.two (RS.mk (.c (.bool false)) [(0,.cells [.yld 3] 110),(1,.cells [wH] 3),(2,.cells [.fn 65 [.ptr 0 0,.ptr 1 0,.ptr 2 0]] 111),(3,.loop .done (some .ret) 14 36 [(2,.ptr 4 0)] [26,27] 1 5),(4,.dat (.prod wI wI) 29),(5,.dfr)]) (RS.mk (.c (.bool true)) [(0,.cells [.yld 3] 110),(1,.cells [wH] 3),(2,.cells [.fn 65 [.ptr 0 0,.ptr 1 0,.ptr 2 0]] 111),(3,.loop .ready none 14 36 [(2,.ptr 4 0)] [26,27] 1 5),(4,.dat (.prod wI wI) 29),(5,.dfr)])⟩
def x99(s11:EI wG qdk)(fu:Nat):Fx wG qdk:=fx f65 65 func65 [(vd4 fu).p,s11.p] false [] ao [(ai [(0,488),(0,489),(2,122),(1,61),(0,31)],⟨33,[(1,wH),(4,.ptr 2 0),(20,.h (.list wT)),(21,wH),(22,wH)],[(0,.cells [.yld 3] 110),(1,.cells [wH] 3),(2,.cells [.fn 65 [.ptr 0 0,.ptr 1 0,.ptr 2 0]] 111),(3,.loop .ready none 14 36 [(2,.ptr 4 0)] [26,27] 1 5),(4,.dat (.prod wI wI) 29),(5,.dfr)],64,[]⟩)]
def vd6(s11:EI wG qdk)(fu:Nat):Nat->(x99 s11 fu).L 0:=Fx.lq (qfz s11.f fu) (qtb s11.f fu) (fun r0=>[r0.s])
def vd5(s11:EI wG qdk)(fu:Nat):EI wG qdk:=(x99 s11 fu).fi (qku s11.f fu) [(vd6 s11 fu fu).s] call65
def vd7:EI wG qdk := .rc (qau fu) (fun r=>qku r fu) (fun _ _=>rfl) (fun _=>rfl) (fun s11=>vd5 s11 fu) (fun _=>rfl) fu
def zr6:IF:=⟨.fn 64,[.yld 0,.ptr 1 0],[(0,.loop .ready none 14 36 [(2,.ptr 2 0)] [26,27] 1 3),(1,.dat wT 26),(2,.dat (.prod wI wI) 29),(3,.dfr)],_,.two (RS.mk (.tup []) [(0,.loop .done (some .ret) 14 36 [(2,.ptr 2 0)] [26,27] 1 3),(1,.dat wT 26),(2,.dat (.prod wI wI) 29),(3,.dfr)]) (RS.mk (.tup []) [(0,.loop .ready none 14 36 [(2,.ptr 2 0)] [26,27] 1 3),(1,.dat wT 26),(2,.dat (.prod wI wI) 29),(3,.dfr)])⟩
def zr5:Fx wG zr6:=fx f64 64 func64 [(vd7 fu).p] false [] ao []
def zr7:=(zr5 fu).fi (qkw fu) [] call64
def zr9:IF:=⟨.fn 14,[.h wT],[],_,RS.mk (.h (.prod wI wI)) []⟩
def zr8:Fx wG zr9:=fx f14 14 func14 [x0s.p,(x4s fu).p,nj.p,(zr7 fu).p,li.p] false [([0,1,0,1,1],0),([0,1,0,1,1,1,1],1)] (lg rfl (lg rfl ao)) []
def zcn:=(zr8 fu).fi (qfw fu) [] call14
def zsb:IF:=⟨.fn 21,[.h wT],[],_,RS.mk (.fn 49 [.ptr 0 0]) [(0,.dat wT 26)]⟩
def zsa:Fx wG zsb:=fx f21 21 func21 [] false [] ao []
def zco:=zsa.fi qkn [] call21
def zsd:IF:=⟨.fn 35,[.h wT],[],_,RS.mk (.h (.prod .str (.prod .str wL))) []⟩
def zsc:Fx wG zsd:=fx f35 35 func35 [(q17 fu).p] false [] ao []
def qz7:=(zsc fu).fi (qaz fu) [] call35
def zcp:IF:=⟨.yld 0,[wH,.agg [.h wL,.h wB,.h (.list wT)]],[(0,.loop .ready none 16 35 [(4,.ptr 1 0),(5,.ptr 2 0),(6,.ptr 3 0),(7,.ptr 4 0)] [13,14] 3 5),(1,.cells [wS] 9),(2,.cells [wS] 9),(3,.dat wT 26),(4,.cells [.h .bool] 4),(5,.dfr)],_,.two (RS.mk (.c (.bool false)) [(0,.loop .done (some .ret) 16 35 [(4,.ptr 1 0),(5,.ptr 2 0),(6,.ptr 3 0),(7,.ptr 4 0)] [13,14] 3 5),(1,.cells [wS] 9),(2,.cells [wS] 9),(3,.dat wT 26),(4,.cells [.h .bool] 4),(5,.dfr)]) (RS.mk (.c (.bool true)) [(0,.loop .ready none 16 35 [(4,.ptr 1 0),(5,.ptr 2 0),(6,.ptr 3 0),(7,.ptr 4 0)] [13,14] 3 5),(1,.cells [wS] 9),(2,.cells [wS] 9),(3,.dat wT 26),(4,.cells [.h .bool] 4),(5,.dfr)])⟩
def zse:Fx wG zcp:=fx f16 16 func16 [(qz7 fu).p,(nk fu).p] false [([0,1,0,1],3)] (lg rfl ao) []
def zsf:EI wG zcp:=(zse fu).fiy (q4p fu) [] 0 rfl [0,1,0,1] (by kernel_rfl) (by kernel_rfl) fun d d'=>by kernel_rfl
def zcq:IF:=⟨.yld 0,[wH,.agg [.h wL,.h wB,.h (.list wT),wH]],[(0,.loop .ready none 49 15 [(2,.ptr 1 0)] [7,8] 4 2),(1,.cells [.yld 3] 92),(2,.dfr),(3,.loop .ready none 16 35 [(4,.ptr 4 0),(5,.ptr 5 0),(6,.ptr 6 0),(7,.ptr 7 0)] [13,14] 3 8),(4,.cells [wS] 9),(5,.cells [wS] 9),(6,.dat wT 26),(7,.cells [.h .bool] 4),(8,.dfr)],_,.two (RS.mk (.c (.bool false)) [(0,.loop .done (some .ret) 49 15 [(2,.ptr 1 0)] [7,8] 4 2),(1,.cells [.yld 3] 92),(2,.dfr),(3,.loop .done (some .ret) 16 35 [(4,.ptr 4 0),(5,.ptr 5 0),(6,.ptr 6 0),(7,.ptr 7 0)] [13,14] 3 8),(4,.cells [wS] 9),(5,.cells [wS] 9),(6,.dat wT 26),(7,.cells [.h .bool] 4),(8,.dfr)]) (RS.mk (.c (.bool true)) [(0,.loop .ready none 49 15 [(2,.ptr 1 0)] [7,8] 4 2),(1,.cells [.yld 3] 92),(2,.dfr),(3,.loop .ready none 16 35 [(4,.ptr 4 0),(5,.ptr 5 0),(6,.ptr 6 0),(7,.ptr 7 0)] [13,14] 3 8),(4,.cells [wS] 9),(5,.cells [wS] 9),(6,.dat wT 26),(7,.cells [.h .bool] 4),(8,.dfr)])⟩
def zsg:Fx wG zcq:=fx f49 49 func49 [(zsf fu).p] false [([0,1,1],4)] (lg rfl ao) []
def zsh:EI wG zcq:=(zsg fu).fiy (q3n fu) [] 0 rfl [0,1,1] (by kernel_rfl) (by kernel_rfl) fun d d'=>by kernel_rfl
def qc4:IF:=⟨.fn 65,[.h wT,wH,.ptr 0 0,.ptr 1 0,.ptr 2 0],[(0,.cells [.yld 3] 110),(1,.cells [wH] 3),(2,.cells [.fn 65 [.ptr 0 0,.ptr 1 0,.ptr 2 0]] 111),(3,.loop .ready none 49 15 [(2,.ptr 4 0)] [7,8] 4 5),(4,.cells [.yld 6] 92),(5,.dfr),(6,.loop .ready none 16 35 [(4,.ptr 7 0),(5,.ptr 8 0),(6,.ptr 9 0),(7,.ptr 10 0)] [13,14] 3 11),(7,.cells [wS] 9),(8,.cells [wS] 9),(9,.dat wT 26),(10,.cells [.h .bool] 4),(11,.dfr)],_,.two (RS.mk (.c (.bool false)) [(0,.cells [.yld 3] 110),(1,.cells [wH] 3),(2,.cells [.fn 65 [.ptr 0 0,.ptr 1 0,.ptr 2 0]] 111),(3,.loop .done (some .ret) 49 15 [(2,.ptr 4 0)] [7,8] 4 5),(4,.cells [.yld 6] 92),(5,.dfr),(6,.loop .done (some .ret) 16 35 [(4,.ptr 7 0),(5,.ptr 8 0),(6,.ptr 9 0),(7,.ptr 10 0)] [13,14] 3 11),(7,.cells [wS] 9),(8,.cells [wS] 9),(9,.dat wT 26),(10,.cells [.h .bool] 4),(11,.dfr)]) (RS.mk (.c (.bool true)) [(0,.cells [.yld 3] 110),(1,.cells [wH] 3),(2,.cells [.fn 65 [.ptr 0 0,.ptr 1 0,.ptr 2 0]] 111),(3,.loop .ready none 49 15 [(2,.ptr 4 0)] [7,8] 4 5),(4,.cells [.yld 6] 92),(5,.dfr),(6,.loop .ready none 16 35 [(4,.ptr 7 0),(5,.ptr 8 0),(6,.ptr 9 0),(7,.ptr 10 0)] [13,14] 3 11),(7,.cells [wS] 9),(8,.cells [wS] 9),(9,.dat wT 26),(10,.cells [.h .bool] 4),(11,.dfr)])⟩
def zcr(s110:EI wG qc4)(fu:Nat):Fx wG qc4:=fx f65 65 func65 [(zsh fu).p,s110.p] false [] ao [(ai [(0,488),(0,489),(2,122),(1,61),(0,31)],⟨33,[(1,wH),(4,.ptr 2 0),(20,.h (.list wT)),(21,wH),(22,wH)],[(0,.cells [.yld 3] 110),(1,.cells [wH] 3),(2,.cells [.fn 65 [.ptr 0 0,.ptr 1 0,.ptr 2 0]] 111),(3,.loop .ready none 49 15 [(2,.ptr 4 0)] [7,8] 4 5),(4,.cells [.yld 6] 92),(5,.dfr),(6,.loop .ready none 16 35 [(4,.ptr 7 0),(5,.ptr 8 0),(6,.ptr 9 0),(7,.ptr 10 0)] [13,14] 3 11),(7,.cells [wS] 9),(8,.cells [wS] 9),(9,.dat wT 26),(10,.cells [.h .bool] 4),(11,.dfr)],64,[]⟩)]
def zsj(s110:EI wG qc4)(fu:Nat):Nat->(zcr s110 fu).L 0:=Fx.lq (qte s110.f fu) (q3q s110.f fu) (fun r0=>[r0.s])
def zsi(s110:EI wG qc4)(fu:Nat):EI wG qc4:=(zcr s110 fu).fi (qtc s110.f fu) [(zsj s110 fu fu).s] call65
def zsk:EI wG qc4 := .rc (qtd fu) (fun r=>qtc r fu) (fun _ _=>rfl) (fun _=>rfl) (fun s110=>zsi s110 fu) (fun _=>rfl) fu
def zsm:IF:=⟨.fn 64,[.yld 0,.ptr 1 0],[(0,.loop .ready none 49 15 [(2,.ptr 2 0)] [7,8] 4 3),(1,.dat wT 26),(2,.cells [.yld 4] 92),(3,.dfr),(4,.loop .ready none 16 35 [(4,.ptr 5 0),(5,.ptr 6 0),(6,.ptr 7 0),(7,.ptr 8 0)] [13,14] 3 9),(5,.cells [wS] 9),(6,.cells [wS] 9),(7,.dat wT 26),(8,.cells [.h .bool] 4),(9,.dfr)],_,.two (RS.mk (.tup []) [(0,.loop .done (some .ret) 49 15 [(2,.ptr 2 0)] [7,8] 4 3),(1,.dat wT 26),(2,.cells [.yld 4] 92),(3,.dfr),(4,.loop .done (some .ret) 16 35 [(4,.ptr 5 0),(5,.ptr 6 0),(6,.ptr 7 0),(7,.ptr 8 0)] [13,14] 3 9),(5,.cells [wS] 9),(6,.cells [wS] 9),(7,.dat wT 26),(8,.cells [.h .bool] 4),(9,.dfr)]) (RS.mk (.tup []) [(0,.loop .ready none 49 15 [(2,.ptr 2 0)] [7,8] 4 3),(1,.dat wT 26),(2,.cells [.yld 4] 92),(3,.dfr),(4,.loop .ready none 16 35 [(4,.ptr 5 0),(5,.ptr 6 0),(6,.ptr 7 0),(7,.ptr 8 0)] [13,14] 3 9),(5,.cells [wS] 9),(6,.cells [wS] 9),(7,.dat wT 26),(8,.cells [.h .bool] 4),(9,.dfr)])⟩
def zsl:Fx wG zsm:=fx f64 64 func64 [(zsk fu).p] false [] ao []
def zsn:=(zsl fu).fi (q3s fu) [] call64
def zsp:IF:=⟨.fn 49,[.yld 0,.ptr 1 0],[(0,.loop .ready none 16 35 [(4,.ptr 2 0),(5,.ptr 3 0),(6,.ptr 4 0),(7,.ptr 5 0)] [13,14] 3 6),(1,.dat wT 26),(2,.cells [wS] 9),(3,.cells [wS] 9),(4,.dat wT 26),(5,.cells [.h .bool] 4),(6,.dfr)],_,.two (RS.mk (.tup []) [(0,.loop .done (some .ret) 16 35 [(4,.ptr 2 0),(5,.ptr 3 0),(6,.ptr 4 0),(7,.ptr 5 0)] [13,14] 3 6),(1,.dat wT 26),(2,.cells [wS] 9),(3,.cells [wS] 9),(4,.dat wT 26),(5,.cells [.h .bool] 4),(6,.dfr)]) (RS.mk (.tup []) [(0,.loop .ready none 16 35 [(4,.ptr 2 0),(5,.ptr 3 0),(6,.ptr 4 0),(7,.ptr 5 0)] [13,14] 3 6),(1,.dat wT 26),(2,.cells [wS] 9),(3,.cells [wS] 9),(4,.dat wT 26),(5,.cells [.h .bool] 4),(6,.dfr)])⟩
def zso:Fx wG zsp:=fx f49 49 func49 [x0s.p,(zsn fu).p] false [([0,1,1],4)] (lg rfl ao) []
def zsq:=(zso fu).fi (q3m fu) [] call49
def zss:IF:=⟨.fn 16,[.h wT,wS,wS],[],_,RS.mk (.tup [.h wT,.h .bool]) []⟩
def zsr:Fx wG zss:=fx f16 16 func16 [zco.p,(zsq fu).p] false [([0,1,0,1],3)] (lg rfl ao) []
def zst:=(zsr fu).fi (qu2 fu) [] call16
def zsw:IF:=⟨.fn 197,[wS,.h .byte],[],_,RS.mk (.agg [wS,.fn 233 [.ptr 0 0],.fn 235 []]) [(0,.cells [.h .byte] 5)]⟩
def zsv:Fx wG zsw:=fx f197 197 func197 [] false [] ao []
def zsx:=zsv.fi quh [] call197
def zsz:IF:=⟨.fn 154,[wS],[],_,.two (RS.mk (.tup [.agg [wS,.fn 233 [.ptr 0 0],.fn 235 []],.h .bool]) [(0,.cells [.h .byte] 5)]) (.two (RS.mk (.tup [.agg [wS,.fn 198 [],.fn 199 []],.h .bool]) []) (.two (RS.mk (.tup [.agg [wS,.fn 200 [],.fn 201 []],.h .bool]) []) (RS.mk (.tup [.agg [wS,.c .nilFunc,.c .nilFunc],.h .bool]) [])))⟩
def zsy:Fx wG zsz:=fx f154 154 func154 [zsx.p,(nk fu).p] false [] ao []
def zs0:=(zsy fu).fi (q38 fu) [] call154
def zs2:IF:=⟨.fn 109,[.h wB,wS],[],_,.two (RS.mk (.tup [.agg [wS,.fn 233 [.ptr 0 0],.fn 235 []],.h (.prod wI wI)]) [(0,.cells [.h .byte] 5)]) (.two (RS.mk (.tup [.agg [wS,.fn 198 [],.fn 199 []],.h (.prod wI wI)]) []) (.two (RS.mk (.tup [.agg [wS,.fn 200 [],.fn 201 []],.h (.prod wI wI)]) []) (RS.mk (.tup [.agg [wS,.c .nilFunc,.c .nilFunc],.h (.prod wI wI)]) [])))⟩
def zs1:Fx wG zs2:=fx f109 109 func109 [(zs0 fu).p,nj.p,li.p] false [] ao []
def zs3:=(zs1 fu).fi (q39 fu) [] call109
def zs5:IF:=⟨.fn 235,[.h wB],[],_,RS.mk (.tup [.own 0,.h (.prod wI wI)]) [(0,.row .byte 5)]⟩
def zs4:Fx wG zs5:=fx f235 235 func235 [li.p] false [] ao []
def zs6:=zs4.fi q37 [] call235
def zs8:IF:=⟨.fn 229,[.h wB,.h .byte],[],_,RS.mk (wH) []⟩
def zs7:Fx wG zs8:=fx f229 229 func229 [⟨qrx 256 tv,zfb⟩] false [] ao []
def zct:=zs7.fi qrz [] call229
def zs9:IF:=⟨.fn 199,[.h wB],[],_,RS.mk (.tup [.own 0,.h (.prod wI wI)]) [(0,.row .byte 5)]⟩
def zcu(fu:Nat):Fx wG zs9:=fx f199 199 func199 [nj.p,li.p,zct.p] false [] ao [(ai [(0,1000),(0,1001),(2,250),(1,125),(0,63)],⟨53,[(3,.ptr 32 0),(4,.own 33),(5,wH),(6,wH),(14,.h wB),(15,wH),(16,wH)],[(32,.dat (.prod wI wI) 29),(33,.row .byte 5)],64,[]⟩)]
def zta:Nat->(zcu fu).L 0:=Fx.lq (qrp fu) (q2s fu) (fun r0=>[r0.s])
def ztb:=(zcu fu).fi (q2r fu) [(zta fu fu).s] call199
def ztd:IF:=⟨.fn 230,[.h wB,.h wB],[],_,RS.mk (.h .bool) []⟩
def ztc:Fx wG ztd:=fx f230 230 func230 [] false [] ao []
def zte:=ztc.fi q2w [] call230
def ztg:IF:=⟨.fn 241,[.h wB,.h wB],[],_,RS.mk (.h .bool) []⟩
def ztf:Fx wG ztg:=fx f241 241 func241 [zte.p] false [] ao []
def zcv:=ztf.fi qry [] call241
def zti:IF:=⟨.fn 239,[.h wB,.h wB],[],_,RS.mk (.h wB) []⟩
def zth:Fx wG zti:=fx f239 239 func239 [zcv.p] false [] ao []
def ztj:=zth.fi qr2 [] call239
def ztk:IF:=⟨.fn 259,[.h wB,.h .byte],[],_,RS.mk (.h wB) []⟩
def zcw(fu:Nat):Fx wG ztk:=fx f259 259 func259 [] false [] ao [(ai [(0,96),(0,97),(0,49),(2,12),(1,6),(0,7)],⟨24,[(0,.h wB),(1,.h .byte)],[],64,[]⟩)]
def ztl:Nat->(zcw fu).L 0:=Fx.lq (qr7 fu) (q27 fu) (fun r0=>[r0.s])
def ztm:=(zcw fu).fi (q26 fu) [(ztl fu fu).s] call259
def zto:IF:=⟨.fn 260,[wS],[],_,RS.mk (.tup [.arr .bool,.h .bool]) []⟩
def zcy(fu:Nat):Fx wG zto:=fx f260 260 func260 [] false [] ao [(ai [(0,208),(0,209),(0,105),(2,26),(1,13),(0,7)],⟨21,[(0,wS),(2,.el 32 1),(4,wH)],[(32,.row .bool 282)],64,[]⟩)]
def ztp:Nat->(zcy fu).L 0:=Fx.lq (qr5 fu) (q23 fu) (fun r0=>[r0.s])
def ztq:=(zcy fu).fi (q22 fu) [(ztp fu fu).s] call260
def zts:IF:=⟨.fn 285,[.el 0 1,.h .byte],[(0,.row .bool 282)],_,RS.mk (.h .bool) [(0,.row .bool 282)]⟩
def ztr:Fx wG zts:=fx f285 285 func285 [] false [] ao []
def ztt:=ztr.fi q20 [] call285
def ztu:IF:=⟨.fn 261,[.h wB,.el 0 1],[(0,.row .bool 282)],_,RS.mk (.h wB) [(0,.row .bool 282)]⟩
def zcz(fu:Nat):Fx wG ztu:=fx f261 261 func261 [ztt.p] false [] ao [(ai [(0,96),(0,97),(0,49),(2,12),(1,6),(0,7)],⟨23,[(0,.h wB),(1,.el 0 1)],[(0,.row .bool 282)],64,[]⟩)]
def ztv:Nat->(zcz fu).L 0:=Fx.lq (qr6 fu) (q25 fu) (fun r0=>[r0.s])
def ztw:=(zcz fu).fi (q24 fu) [(ztv fu fu).s] call261
def ztx:IF:=⟨.fn 317,[.h wB],[],_,RS.mk (.tup [.h (.int .i32),wH]) []⟩
def yx:Fx wG ztx:=fx f317 317 func317 [] false [] ao [(ai [(0,524286),(0,524287)],⟨122,[(5,.h .byte),(10,.h .byte),(11,.h .byte),(12,.h .byte)],[],64,[]⟩),(ai [(0,524285),(0,262143)],⟨122,[(5,.h .byte),(10,.h .byte),(11,.h .byte),(12,.h .byte),(103,.h .bool)],[],64,[]⟩),(ai [(0,131068),(0,131069),(0,65535)],⟨122,[(0,.h wB),(5,.h .byte),(8,wH),(10,.h .byte),(11,.h .byte)],[],64,[]⟩),(ai [(0,65533),(0,32767)],⟨122,[(0,.h wB),(5,.h .byte),(8,wH),(10,.h .byte),(11,.h .byte),(79,.h .bool)],[],64,[]⟩),(ai [(0,16380),(0,16381),(0,8191)],⟨122,[(0,.h wB),(5,.h .byte),(8,wH),(10,.h .byte)],[],64,[]⟩),(ai [(0,8189),(0,4095)],⟨122,[(0,.h wB),(5,.h .byte),(8,wH),(10,.h .byte),(60,.h .bool)],[],64,[]⟩)]
def zt3:yx.L 0:=Fx.jn q4l [] fun d=>by kernel_rfl
def zt2:yx.L 1:=Fx.jn quz [(zt3).s] fun d=>by kernel_rfl
def zt1:yx.L 2:=Fx.jn q4k [(zt2).s] fun d=>by kernel_rfl
def zt0:yx.L 3:=Fx.jn quy [(zt1).s] fun d=>by kernel_rfl
def ztz:yx.L 4:=Fx.jn q4j [(zt0).s] fun d=>by kernel_rfl
def zty:yx.L 5:=Fx.jn qux [(ztz).s] fun d=>by kernel_rfl
def zt4:=yx.fi quw [(zty).s] call317
end
end
noncomputable section
open Go.Proofs
set_option linter.unusedVariables false
set_option maxRecDepth 100000
set_option maxHeartbeats 2000000
open Tryz
section
variable(fu:Nat)
def zub:IF:=⟨.fn 303,[.h wB],[],_,RS.mk (.tup [.h (.int .i32),wH]) []⟩
def zc0(fu:Nat):Fx wG zub:=fx f303 303 func303 [zt4.p] false [] ao [(ai [(0,104),(0,105),(2,26),(1,13),(0,7)],⟨22,[(0,.h wB),(6,.h wB),(7,wH),(8,.c (.int .i64 0))],[],64,[]⟩)]
def zuc:Nat->(zc0 fu).L 0:=Fx.lq (quq fu) (q4f fu) (fun r0=>[])
def zud:=(zc0 fu).fi (q4e fu) [(zuc fu fu).s] call303
def zue:IF:=⟨.fn 286,[.h wB],[],_,RS.mk (.tup [.h (.int .i32),wH]) []⟩
def qo3:Fx wG zue:=fx f286 286 func286 [zey.p,(zud fu).p] false [] ao [(ai [(0,2046),(0,2047)],⟨53,[(0,.h wB),(4,wH),(5,wH)],[],64,[]⟩),(ai [(0,2044),(0,2045),(0,1023)],⟨53,[(0,.h wB),(4,wH),(5,wH)],[],64,[]⟩),(ai [(0,16336),(0,16337),(0,8169),(2,2042),(1,1021),(0,511)],⟨53,[(0,.h wB),(4,wH),(5,wH),(6,wH)],[],64,[]⟩)]
def zuh:(qo3 fu).L 0:=Fx.jm (qun fu) []
def zug:(qo3 fu).L 1:=Fx.jm (qum fu) [(zuh fu).s]
def zuf:Nat->(qo3 fu).L 2:=Fx.lq (qul fu) (q4d fu) (fun r0=>[(zug fu).s,r0.s])
def zui:=(qo3 fu).fi (q4a fu) [(zuf fu fu).s] call286
def zul:IF:=⟨.fn 287,[wS,.h (.int .i32)],[],_,RS.mk (.h .bool) []⟩
def zc1(fu:Nat):Fx wG zul:=fx f287 287 func287 [] false [] ao [(ai [(0,104),(0,105),(2,26),(1,13),(0,7)],⟨15,[(1,.h (.int .i32)),(8,.ptr 32 0)],[(32,.it)],64,[]⟩)]
def zum:Nat->(zc1 fu).L 0:=Fx.lq (qr4 fu) (q21 fu) (fun r0=>[r0.s])
def zun:=(zc1 fu).fi (qr3 fu) [(zum fu fu).s] call287
def zuo:IF:=⟨.fn 262,[.h wB,wS],[],_,RS.mk (.h wB) []⟩
def zc2:Fx wG zuo:=fx f262 262 func262 [(zui fu).p,(zun fu).p] false [] ao [(ai [(0,96),(0,97),(0,49),(2,12),(1,6),(0,7)],⟨35,[(0,.h wB),(1,wS)],[],64,[]⟩)]
def zup:Nat->(zc2 fu).L 0:=Fx.lq (qr8 fu) (q29 fu) (fun r0=>[r0.s])
def zuq:=(zc2 fu).fi (q28 fu) [(zup fu fu).s] call262
def zur:IF:=⟨.fn 240,[.h wB,wS],[],_,RS.mk (.h wB) []⟩
def qif:Fx wG zur:=fx f240 240 func240 [(ztm fu).p,(ztq fu).p,(ztw fu).p,(zuq fu).p] false [] ao [(ai [(0,60),(0,61),(0,31)],⟨38,[(0,.h wB),(1,wS)],[],64,[]⟩),(ai [(0,29),(0,15)],⟨38,[(0,.h wB),(1,wS),(22,.h .bool)],[],64,[]⟩),(ai [(0,28),(0,29),(0,15)],⟨38,[(0,.h wB),(1,wS)],[],64,[]⟩),(ai [(0,13),(0,7)],⟨38,[(0,.h wB),(1,wS),(13,.h .bool)],[],64,[]⟩)]
def zuv:(qif fu).L 0:=Fx.jm (q2z fu) []
def zuu:(qif fu).L 1:=Fx.jm (qr1 fu) [(zuv fu).s]
def zut:(qif fu).L 2:=Fx.jm (q2y fu) [(zuu fu).s]
def zus:(qif fu).L 3:=Fx.jm (qr0 fu) [(zut fu).s]
def zuw:=(qif fu).fi (q2x fu) [(zus fu).s] call240
def zu1:IF:=⟨.fn 242,[.h wB],[],_,RS.mk (.own 0) [(0,.row .byte 5)]⟩
def zc3(fu:Nat):Fx wG zu1:=fx f242 242 func242 [zem.p] false [] ao [(ai [(0,464),(0,465),(0,233),(2,58),(1,29),(0,15)],⟨47,[(0,.h wB),(3,.own 32),(4,wH)],[(32,.row .byte 5)],64,[]⟩)]
def zu2:Nat->(zc3 fu).L 0:=Fx.lq (qtp fu) (q3w fu) (fun r0=>[r0.s])
def zu3:=(zc3 fu).fi (q3v fu) [(zu2 fu fu).s] call242
def zu6:IF:=⟨.fn 201,[.h wB],[],_,RS.mk (.tup [.own 0,.h (.prod wI wI)]) [(0,.row .byte 5)]⟩
def vh:Fx wG zu6:=fx f201 201 func201 [nj.p,zct.p,li.p,ztj.p,(zuw fu).p,zcv.p,(zu3 fu).p] false [] ao [(ai [(0,123646),(0,123647),(1,241),(2,60),(1,30),(0,31)],⟨63,[(0,.h wB),(3,.ptr 32 0),(4,.own 33),(5,wH),(6,.h wB),(7,.h wB)],[(32,.dat (.prod wI wI) 29),(33,.row .byte 5)],64,[]⟩),(ai [(0,15454),(0,15455),(1,241),(2,60),(1,30),(0,31)],⟨63,[(0,.h wB),(3,.ptr 32 0),(4,.own 33),(5,wH),(6,.h wB)],[(32,.dat (.prod wI wI) 29),(33,.row .byte 5)],64,[]⟩),(ai [(0,3862),(0,3863),(1,241),(2,60),(1,30),(0,31)],⟨63,[(0,.h wB),(3,.ptr 32 0),(4,.own 33),(5,wH)],[(32,.dat (.prod wI wI) 29),(33,.row .byte 5)],64,[]⟩),(ai [(0,480),(0,481),(0,241),(2,60),(1,30),(0,31)],⟨63,[(0,.h wB),(3,.ptr 32 0),(4,.own 33)],[(32,.dat (.prod wI wI) 29),(33,.row .byte 5)],64,[]⟩)]
def zva(r0:(vh fu).L 3):(vh fu).L 0:=Fx.jm (qto fu r0.f) [r0.s]
def zu9(r0:(vh fu).L 3):(vh fu).L 1:=Fx.jm (qtn fu r0.f) [(zva fu r0).s]
def zu8(r0:(vh fu).L 3):(vh fu).L 2:=Fx.jm (qtm fu r0.f) [(zu9 fu r0).s]
def zu7:Nat->(vh fu).L 3:=Fx.lq (qtl fu) (q3u fu) (fun r0=>[(zu8 fu r0).s])
def zvb:=(vh fu).fi (q3t fu) [(zu7 fu fu).s] call201
def zvg:IF:=⟨.fn 73,[.h wB,wS],[],_,RS.mk (.tup [.own 0,.h (.prod wI wI)]) [(0,.row .byte 5)]⟩
def zvf:Fx wG zvg:=fx f73 73 func73 [(zs3 fu).p,ph.p,zs6.p,(ztb fu).p,(zvb fu).p] false [] ao []
def zvh:=(zvf fu).fi (qug fu) [] call73
def zvi:IF:=⟨.fn 38,[.h wT],[],_,RS.mk (.own 0) [(0,.row .byte 5)]⟩
def zc4:Fx wG zvi:=fx f38 38 func38 [(nk fu).p,(zvh fu).p] false [] ao [(ai [(0,104),(0,105),(2,26),(1,13),(0,7)],⟨40,[(1,.ptr 32 0),(10,.h wL),(11,wH),(12,wH)],[(32,.dat wT 26)],64,[]⟩)]
def zvj:Nat->(zc4 fu).L 0:=Fx.lq (qu0 fu) (q4n fu) (fun r0=>[r0.s])
def zvk:=(zc4 fu).fi (q4m fu) [(zvj fu fu).s] call38
def zvm:IF:=⟨.fn 110,[wS,.h (.int .i32)],[],_,RS.mk (.agg [wS,.fn 155 [.ptr 0 0],.fn 156 [.ptr 0 0]]) [(0,.cells [.h (.int .i32)] 21)]⟩
def zvl:Fx wG zvm:=fx f110 110 func110 [] false [] ao []
def zvn:=zvl.fi qsa [] call110
def zvp:IF:=⟨.fn 74,[wS],[],_,.two (RS.mk (.tup [.agg [wS,.fn 155 [.ptr 0 0],.fn 156 [.ptr 0 0]],.h .bool]) [(0,.cells [.h (.int .i32)] 21)]) (.two (RS.mk (.tup [.agg [wS,.fn 111 [],.fn 112 []],.h .bool]) []) (.two (RS.mk (.tup [.agg [wS,.fn 114 [],.fn 115 []],.h .bool]) []) (RS.mk (.tup [.agg [wS,.c .nilFunc,.c .nilFunc],.h .bool]) [])))⟩
def zvo:Fx wG zvp:=fx f74 74 func74 [zvn.p,(nk fu).p] false [] ao []
def zvq:=(zvo fu).fi (q3a fu) [] call74
def zvr:IF:=⟨.fn 155,[.h wB,.ptr 0 0],[(0,.cells [.h (.int .i32)] 21)],_,RS.mk (.own 1) [(0,.cells [.h (.int .i32)] 21),(1,.row (.int .i32) 21)]⟩
def zc5(fu:Nat):Fx wG zvr:=fx f155 155 func155 [] false [] ao [(ai [(0,232),(0,233),(2,58),(1,29),(0,15)],⟨25,[(1,.ptr 0 0),(4,.own 32),(8,.h wB),(9,wH),(10,wH)],[(0,.cells [.h (.int .i32)] 21),(32,.row (.int .i32) 21)],64,[]⟩)]
def zvs:Nat->(zc5 fu).L 0:=Fx.lq (qsb fu) (q3d fu) (fun r0=>[r0.s])
def zvt:=(zc5 fu).fi (q3c fu) [(zvs fu fu).s] call155
def zvv:IF:=⟨.fn 111,[.h wB],[],_,RS.mk (.own 0) [(0,.row (.int .i32) 21)]⟩
def zvu:Fx wG zvv:=fx f111 111 func111 [] false [] ao []
def zvw:=zvu.fi q3b [] call111
def zvy:IF:=⟨.fn 158,[wH,.ptr 0 0],[(0,.cells [.h wB] 23)],_,RS.mk (.h (.int .i32)) [(0,.cells [.h wB] 23)]⟩
def zvx:Fx wG zvy:=fx f158 158 func158 [] false [] ao []
def zvz:=zvx.fi qsc [] call158
def zv0:IF:=⟨.fn 114,[.h wB],[],_,RS.mk (.own 0) [(0,.row (.int .i32) 21)]⟩
def vi(fu:Nat):Fx wG zv0:=fx f114 114 func114 [zvz.p] false [] ao [(ai [(0,62620),(0,62621),(0,31311),(1,978),(0,979),(2,122),(1,61),(0,31)],⟨69,[(1,.ptr 32 0),(3,.own 33),(4,.fn 158 [.ptr 32 0]),(5,wH),(6,.h (.int .i32))],[(32,.cells [.h wB] 23),(33,.row (.int .i32) 21)],64,[]⟩),(ai [(0,250475),(0,15655),(1,978),(0,979),(2,122),(1,61),(0,31)],⟨69,[(1,.ptr 32 0),(3,.own 33),(4,.fn 158 [.ptr 32 0]),(5,wH),(6,.h (.int .i32)),(7,.h (.int .i32)),(48,.h .bool)],[(32,.cells [.h wB] 23),(33,.row (.int .i32) 21)],64,[]⟩),(ai [(0,31309),(0,15655),(1,978),(0,979),(2,122),(1,61),(0,31)],⟨69,[(1,.ptr 32 0),(3,.own 33),(4,.fn 158 [.ptr 32 0]),(5,wH),(6,.h (.int .i32)),(38,.h .bool)],[(32,.cells [.h wB] 23),(33,.row (.int .i32) 21)],64,[]⟩),(ai [(0,976),(0,977),(0,489),(2,122),(1,61),(0,31)],⟨69,[(1,.ptr 32 0),(3,.own 33),(4,.fn 158 [.ptr 32 0]),(5,wH)],[(32,.cells [.h wB] 23),(33,.row (.int .i32) 21)],64,[]⟩)]
def zc6(r0:(vi fu).L 3):(vi fu).L 0:=Fx.jm (qj4 fu r0.f) [r0.s]
def zv3(r0:(vi fu).L 3):(vi fu).L 1:=Fx.jm (qse fu r0.f) [(zc6 fu r0).s]
def zv2(r0:(vi fu).L 3):(vi fu).L 2:=Fx.jm (qj3 fu r0.f) [(zv3 fu r0).s,(zc6 fu r0).s]
def zv1:Nat->(vi fu).L 3:=Fx.lq (qsd fu) (q3f fu) (fun r0=>[(zv2 fu r0).s])
def zv4:=(vi fu).fi (q3e fu) [(zv1 fu fu).s] call114
def zv9:IF:=⟨.fn 39,[wS,.h wB],[],_,RS.mk (.tup [wS,.h (.prod wI wI)]) []⟩
def zv8:Fx wG zv9:=fx f39 39 func39 [nj.p,(zvq fu).p,(zvt fu).p,zvw.p,li.p,(zv4 fu).p] false [] ao []
def zwa:=(zv8 fu).fi (qr9 fu) [] call39
def zwk:IF:=⟨.fn 17,[.h wT],[],_,RS.mk (wS) []⟩
def zwj:Fx wG zwk:=fx f17 17 func17 [(qz7 fu).p,(qpu fu).p,(zvk fu).p,(zwa fu).p,⟨q97.e qaw,zn9 (by decide)⟩] false [] ao []
def zwl:=(zwj fu).fi (qu3 fu) [] call17
def zwn:IF:=⟨.fn 7,[.h wT],[],_,RS.mk (.tup [wS,.h (.prod wI wI)]) []⟩
def zwm:Fx wG zwn:=fx f7 7 func7 [(zcn fu).p,ph.p,(zst fu).p,(zwl fu).p,li.p] false [] ao []
def zwo:=(zwm fu).fi (q4o fu) [] call7
def zwp:IF:=⟨.fn 22,[.h wT],[],_,RS.mk (.tup [wS,.h .bool]) []⟩
def qo5:Fx wG zwp:=fx f22 22 func22 [(nk fu).p,(zer fu).p,ph.p,(qpu fu).p,(qz7 fu).p] false [] ao [(ai [(0,423),(2,26),(1,13),(0,7)],⟨52,[(1,.ptr 32 0),(15,.h wL),(16,wH),(17,wH)],[(32,.dat wT 26)],64,[]⟩),(ai [(0,104),(0,105),(2,26),(1,13),(0,7)],⟨52,[(1,.ptr 32 0),(15,.h wL),(16,wH),(17,wH)],[(32,.dat wT 26)],64,[]⟩)]
def zwr(r0:(qo5 fu).L 1):(qo5 fu).L 0:=Fx.jm (ua fu r0.f) [r0.s]
def zwq:Nat->(qo5 fu).L 1:=Fx.lq (qay fu) (qu1 fu) (fun r0=>[(zwr fu r0).s])
def zws:=(qo5 fu).fi (qli fu) [(zwq fu fu).s] call22
def zc8:IF:=⟨.yld 0,[wH,.agg [.h wL,.h wB,.h (.list wT)]],[(0,.loop .ready none 9 37 [(5,.ptr 1 0)] [17,18] 5 2),(1,.cells [.own 3] 33),(2,.dfr),(3,.row .str 9)],_,RS.mk (.c (.bool true)) [(0,.loop .ready none 9 37 [(5,.ptr 1 0)] [17,18] 5 2),(1,.cells [.own 4] 33),(2,.dfr),(3,.dead),(4,.row .str 9)]⟩
def zwu:Fx wG zc8:=fx f9 9 func9 [(zws fu).p] false [([0,1,0,1,1,1],5)] (lg rfl ao) []
def zwv:EI wG zc8:=(zwu fu).fiy (qlh fu) [] 0 rfl [0,1,0,1,1,1] (by kernel_rfl) (by kernel_rfl) fun d d'=>by kernel_rfl
def zc9:IF:=⟨.yld 0,[wH,.agg [.h wL,.h wB,.h (.list wT),wH]],[(0,.loop .ready none 49 15 [(2,.ptr 1 0)] [7,8] 4 2),(1,.cells [.yld 3] 92),(2,.dfr),(3,.loop .ready none 9 37 [(5,.ptr 4 0)] [17,18] 5 5),(4,.cells [.own 6] 33),(5,.dfr),(6,.row .str 9)],_,RS.mk (.c (.bool true)) [(0,.loop .ready none 49 15 [(2,.ptr 1 0)] [7,8] 4 2),(1,.cells [.yld 3] 92),(2,.dfr),(3,.loop .ready none 9 37 [(5,.ptr 4 0)] [17,18] 5 5),(4,.cells [.own 7] 33),(5,.dfr),(6,.dead),(7,.row .str 9)]⟩
def zww:Fx wG zc9:=fx f49 49 func49 [(zwv fu).p] false [([0,1,1],4)] (lg rfl ao) []
def zwx:EI wG zc9:=(zww fu).fiy (qs5 fu) [] 0 rfl [0,1,1] (by kernel_rfl) (by kernel_rfl) fun d d'=>by kernel_rfl
def qc8:IF:=⟨.fn 65,[.h wT,wH,.ptr 0 0,.ptr 1 0,.ptr 2 0],[(0,.cells [.yld 3] 110),(1,.cells [wH] 3),(2,.cells [.fn 65 [.ptr 0 0,.ptr 1 0,.ptr 2 0]] 111),(3,.loop .ready none 49 15 [(2,.ptr 4 0)] [7,8] 4 5),(4,.cells [.yld 6] 92),(5,.dfr),(6,.loop .ready none 9 37 [(5,.ptr 7 0)] [17,18] 5 8),(7,.cells [.own 9] 33),(8,.dfr),(9,.row .str 9)],_,RS.mk (.c (.bool true)) [(0,.cells [.yld 3] 110),(1,.cells [wH] 3),(2,.cells [.fn 65 [.ptr 0 0,.ptr 1 0,.ptr 2 0]] 111),(3,.loop .ready none 49 15 [(2,.ptr 4 0)] [7,8] 4 5),(4,.cells [.yld 6] 92),(5,.dfr),(6,.loop .ready none 9 37 [(5,.ptr 7 0)] [17,18] 5 8),(7,.cells [.own 10] 33),(8,.dfr),(9,.dead),(10,.row .str 9)]⟩
def zda(s148:EI wG qc8)(fu:Nat):Fx wG qc8:=fx f65 65 func65 [(zwx fu).p,s148.p] false [] ao [(ai [(0,488),(0,489),(2,122),(1,61),(0,31)],⟨33,[(1,wH),(4,.ptr 2 0),(20,.h (.list wT)),(21,wH),(22,wH)],[(0,.cells [.yld 3] 110),(1,.cells [wH] 3),(2,.cells [.fn 65 [.ptr 0 0,.ptr 1 0,.ptr 2 0]] 111),(3,.loop .ready none 49 15 [(2,.ptr 4 0)] [7,8] 4 5),(4,.cells [.yld 6] 92),(5,.dfr),(6,.loop .ready none 9 37 [(5,.ptr 7 0)] [17,18] 5 8),(7,.cells [.own 32] 33),(8,.dfr),(9,.dead),(32,.row .str 9)],64,[]⟩)]
def zwz(s148:EI wG qc8)(fu:Nat):Nat->(zda s148 fu).L 0:=Fx.lq (qf0 s148.f fu) (qtf s148.f fu) (fun r0=>[r0.s])
def zwy(s148:EI wG qc8)(fu:Nat):EI wG qc8:=(zda s148 fu).fi (qkv s148.f fu) [(zwz s148 fu fu).s] call65
def zw0:EI wG qc8 := .rc (qav fu) (fun r=>qkv r fu) (fun _ _=>rfl) (fun _=>rfl) (fun s148=>zwy s148 fu) (fun _=>rfl) fu
def zw2:IF:=⟨.fn 64,[.yld 0,.ptr 1 0],[(0,.loop .ready none 49 15 [(2,.ptr 2 0)] [7,8] 4 3),(1,.dat wT 26),(2,.cells [.yld 4] 92),(3,.dfr),(4,.loop .ready none 9 37 [(5,.ptr 5 0)] [17,18] 5 6),(5,.cells [.own 7] 33),(6,.dfr),(7,.row .str 9)],_,RS.mk (.tup []) [(0,.loop .ready none 49 15 [(2,.ptr 2 0)] [7,8] 4 3),(1,.dat wT 26),(2,.cells [.yld 4] 92),(3,.dfr),(4,.loop .ready none 9 37 [(5,.ptr 5 0)] [17,18] 5 6),(5,.cells [.own 8] 33),(6,.dfr),(7,.dead),(8,.row .str 9)]⟩
def zw1:Fx wG zw2:=fx f64 64 func64 [(zw0 fu).p] false [] ao []
def zw3:=(zw1 fu).fi (qtg fu) [] call64
def zw5:IF:=⟨.fn 49,[.yld 0,.ptr 1 0],[(0,.loop .ready none 9 37 [(5,.ptr 2 0)] [17,18] 5 3),(1,.dat wT 26),(2,.cells [.own 4] 33),(3,.dfr),(4,.row .str 9)],_,RS.mk (.tup []) [(0,.loop .ready none 9 37 [(5,.ptr 2 0)] [17,18] 5 3),(1,.dat wT 26),(2,.cells [.own 5] 33),(3,.dfr),(4,.dead),(5,.row .str 9)]⟩
def zw4:Fx wG zw5:=fx f49 49 func49 [x0s.p,(zw3 fu).p] false [([0,1,1],4)] (lg rfl ao) []
def zw6:=(zw4 fu).fi (qs6 fu) [] call49
def zw8:IF:=⟨.fn 9,[.h wT],[],_,RS.mk (.tup [.own 0,.h (.prod wI wI)]) [(0,.row .str 9)]⟩
def zw7:Fx wG zw8:=fx f9 9 func9 [(zcn fu).p,ph.p,zco.p,(zw6 fu).p,li.p] false [([0,1,0,1,1,1],5)] (lg rfl ao) []
def zdb:=(zw7 fu).fi (qgb fu) [] call9
def zw9:IF:=⟨.fn 11,[.h (.list .str),.h (.list .str)],[],_,RS.mk (.h .bool) []⟩
def zdc(fu:Nat):Fx wG zw9:=fx f11 11 func11 [] false [] ao [(ai [(0,464),(0,465),(0,233),(2,58),(1,29),(0,15)],⟨26,[(0,.h (.list .str)),(1,.h (.list .str)),(5,wH)],[],64,[]⟩)]
def zxa:Nat->(zdc fu).L 0:=Fx.lq (qeb fu) (qqo fu) (fun r0=>[r0.s])
def zdd:=(zdc fu).fi (qea fu) [(zxa fu fu).s] call11
def zxd:IF:=⟨.fn 6,[],[],_,RS.mk (.h .bool) []⟩
def zxc:Fx wG zxd:=fx f6 6 func6 [(zwo fu).p,(zdb fu).p,(zdd fu).p] false [] ao []
def zxe:=(zxc fu).fi (qro fu) [] call6
def qc9:IF:=⟨.fn 23,[.h wT,wH],[],_,RS.mk (.tup [.h (.list wT),.h (.list wI)]) []⟩
def zde(s154:EI wG qc9)(fu:Nat):Fx wG qc9:=fx f23 23 func23 [s154.p] false [] ao [(ai [(0,976),(0,977),(0,489),(2,122),(1,61),(0,31)],⟨41,[(1,wH),(2,.ptr 32 0),(6,.own 33),(7,.own 34),(8,wH)],[(32,.dat wT 26),(33,.row wT 26),(34,.row wI 3)],64,[]⟩)]
def zxg(s154:EI wG qc9)(fu:Nat):Nat->(zde s154 fu).L 0:=Fx.lq (qey s154.f fu) (qrg s154.f fu) (fun r0=>[r0.s])
def zxf(s154:EI wG qc9)(fu:Nat):EI wG qc9:=(zde s154 fu).fi (qju s154.f fu) [(zxg s154 fu fu).s] call23
def zdf:EI wG qc9 := .rc (z7 fu) (fun r=>qju r fu) (fun _ _=>rfl) (fun _=>rfl) (fun s154=>zxf s154 fu) (fun _=>rfl) fu
def zxi:IF:=⟨.fn 24,[wH,wH],[],_,RS.mk (.h (.prod wI wI)) []⟩
def zxh:Fx wG zxi:=fx f24 24 func24 [] false [] ao []
def qih:=zxh.fi gp [] call24
def zxk:IF:=⟨.fn 91,[wH,wH,wH],[],_,RS.mk (.h .bool) []⟩
def zxj:Fx wG zxk:=fx f91 91 func91 [] false [] ao []
def tf:=zxj.fi fa [] call91
def zxl:IF:=⟨.fn 184,[wS],[],_,RS.mk (.h .bool) []⟩
def zdg(fu:Nat):Fx wG zxl:=fx f184 184 func184 [tf.p] false [] ao [(ai [(0,208),(0,209),(0,105),(2,26),(1,13),(0,7)],⟨25,[(0,wS),(3,wH)],[],64,[]⟩)]
def zxm:Nat->(zdg fu).L 0:=Fx.lq (qdn fu) (qp3 fu) (fun r0=>[r0.s])
def zxn:=(zdg fu).fi (qi2 fu) [(zxm fu fu).s] call184
def zxo:IF:=⟨.fn 95,[.h .byte,wS],[],_,RS.mk (.h .bool) []⟩
def zdh(fu:Nat):Fx wG zxo:=fx f95 95 func95 [] false [] ao [(ai [(0,208),(0,209),(0,105),(2,26),(1,13),(0,7)],⟨17,[(0,.h .byte),(1,wS),(5,wH)],[],64,[]⟩)]
def zxp:Nat->(zdh fu).L 0:=Fx.lq (zo fu) (qjg fu) (fun r0=>[r0.s])
def q0s:=(zdh fu).fi (tm fu) [(zxp fu fu).s] call95
def zxr:IF:=⟨.fn 93,[.h .byte],[],_,RS.mk (.h .bool) []⟩
def zxq:Fx wG zxr:=fx f93 93 func93 [] false [] ao []
def qo9:=zxq.fi rl [] call93
def zxs:IF:=⟨.fn 185,[wS],[],_,RS.mk (wS) []⟩
def yy(fu:Nat):Fx wG zxs:=fx f185 185 func185 [qo9.p] false [] ao [(ai [(0,98),(1,49),(2,12),(1,6),(0,7)],⟨30,[(0,wS)],[],64,[]⟩),(ai [(0,224),(0,225),(0,113),(2,28),(1,14),(0,15)],⟨30,[(0,wS)],[],64,[]⟩),(ai [(0,97),(0,49),(2,12),(1,6),(0,7)],⟨30,[(0,wS),(10,.h .bool)],[],64,[]⟩),(ai [(0,96),(0,97),(0,49),(2,12),(1,6),(0,7)],⟨30,[(0,wS)],[],64,[]⟩)]
def zxv(r0:(yy fu).L 3):(yy fu).L 0:=Fx.jm (qqt fu r0.f) [r0.s]
def zxw:Nat->(yy fu).L 1:=Fx.lq (qef fu) (qqs fu) (fun r3=>[r3.s])
def zxu(r0:(yy fu).L 3):(yy fu).L 2:=Fx.jm (qee fu r0.f) [(zxv fu r0).s,(zxw fu fu).s]
def zxt:Nat->(yy fu).L 3:=Fx.lq (qed fu) (qqr fu) (fun r0=>[(zxu fu r0).s])
def zxx:=(yy fu).fi (qqq fu) [(zxt fu fu).s] call185
def zx0:IF:=⟨.fn 138,[wS,wS],[],_,RS.mk (wH) []⟩
def zdi:Fx wG zx0:=fx f138 138 func138 [(zxn fu).p,(q0s fu).p,(zxx fu).p] false [] ao [(ai [(0,976),(0,977),(0,489),(2,122),(1,61),(0,31)],⟨26,[(1,wS),(5,wH)],[],64,[]⟩)]
def zx1:Nat->(zdi fu).L 0:=Fx.lq (zb fu) (qp2 fu) (fun r0=>[r0.s])
def zx2:=(zdi fu).fi (qdm fu) [(zx1 fu fu).s] call138
def zx3:IF:=⟨.fn 139,[wS,wS],[],_,RS.mk (.own 0) [(0,.row .str 9)]⟩
def js(fu:Nat):Fx wG zx3:=fx f139 139 func139 [qo9.p] false [] ao [(ai [(0,979),(2,122),(1,61),(0,31)],⟨87,[(5,wS),(6,.own 32),(7,wH)],[(32,.row wI 3)],64,[]⟩),(ai [(0,3913),(1,978),(0,979),(2,122),(1,61),(0,31)],⟨87,[(5,wS),(6,.own 32),(7,wH),(37,.h .bool)],[(32,.row wI 3)],64,[]⟩),(ai [(0,520531),(2,65066),(1,32533),(0,16267),(1,2033),(2,508),(1,254),(0,255)],⟨87,[(5,wS),(6,.own 32),(8,.own 33),(9,wH),(10,wH),(11,wH)],[(32,.row wI 3),(33,.row .str 9)],64,[]⟩),(ai [(0,4164243),(1,520530),(0,520531),(2,65066),(1,32533),(0,16267),(1,2033),(2,508),(1,254),(0,255)],⟨87,[(5,wS),(6,.own 32),(8,.own 33),(9,wH),(10,wH),(11,wH),(12,wH),(69,.h .bool)],[(32,.row wI 3),(33,.row .str 9)],64,[]⟩),(ai [(0,520528),(0,520529),(0,260265),(2,65066),(1,32533),(0,16267),(1,2033),(2,508),(1,254),(0,255)],⟨87,[(5,wS),(6,.own 32),(8,.own 33),(9,wH),(10,wH),(11,wH)],[(32,.row wI 3),(33,.row .str 9)],64,[]⟩),(ai [(0,4064),(0,4065),(0,2033),(2,508),(1,254),(0,255)],⟨87,[(5,wS),(6,.own 32),(8,.own 33),(9,wH)],[(32,.row wI 3),(33,.row .str 9)],64,[]⟩),(ai [(0,976),(0,977),(0,489),(2,122),(1,61),(0,31)],⟨87,[(5,wS),(6,.own 32),(7,wH)],[(32,.row wI 3)],64,[]⟩)]
def zx7(r0:(js fu).L 6):(js fu).L 0:=Fx.jm (qja fu r0.f) [r0.s]
def zx5(r0:(js fu).L 6):(js fu).L 1:=Fx.jm (qi9 fu r0.f) [(zx7 fu r0).s]
def zya(r2:(js fu).L 5)(r4:(js fu).L 4):(js fu).L 2:=Fx.jm (qjb fu r2.f r4.f) [r4.s]
def zx9(r2:(js fu).L 5)(r4:(js fu).L 4):(js fu).L 3:=Fx.jm (qdr fu r2.f r4.f) [(zya fu r2 r4).s]
def zx8(r2:(js fu).L 5):Nat->(js fu).L 4:=Fx.lq (vk fu r2.f) (qp7 fu r2.f) (fun r4=>[(zx9 fu r2 r4).s,r2.s])
def zx6:Nat->(js fu).L 5:=Fx.lq (rm fu) (qi8 fu) (fun r2=>[(zx8 fu r2 fu).s])
def zx4:Nat->(js fu).L 6:=Fx.lq (zd fu) (qi7 fu) (fun r0=>[(zx5 fu r0).s,(zx6 fu fu).s])
def zyb:=(js fu).fi (qi6 fu) [(zx4 fu fu).s] call139
def zyp:IF:=⟨.fn 88,[wS,wS],[],_,RS.mk (.h (.prod wI wI)) []⟩
def zdj:Fx wG zyp:=fx f88 88 func88 [(zx2 fu).p,qih.p,(zyb fu).p] false [] ao [(ai [(0,976),(0,977),(0,489),(2,122),(1,61),(0,31)],⟨33,[(4,.ptr 32 0),(5,.own 33),(6,wH)],[(32,.dat (.prod wI wI) 29),(33,.row .str 9)],64,[]⟩)]
def zyq:Nat->(zdj fu).L 0:=Fx.lq (qdq fu) (qp6 fu) (fun r0=>[r0.s])
def zyr:=(zdj fu).fi (qi5 fu) [(zyq fu fu).s] call88
def zys:IF:=⟨.fn 51,[.h wL],[],_,RS.mk (.h (.prod wI wI)) []⟩
def zdk:Fx wG zys:=fx f51 51 func51 [qih.p,(zyr fu).p] false [] ao [(ai [(0,464),(0,465),(0,233),(2,58),(1,29),(0,15)],⟨34,[(0,.h wL),(2,.ptr 32 0),(3,wH)],[(32,.dat (.prod wI wI) 29)],64,[]⟩)]
def zyt:Nat->(zdk fu).L 0:=Fx.lq (qdo fu) (qp4 fu) (fun r0=>[r0.s])
def zyu:=(zdk fu).fi (qi3 fu) [(zyt fu fu).s] call51
def zyv:IF:=⟨.fn 59,[wS],[],_,RS.mk (wS) []⟩
def zdl(fu:Nat):Fx wG zyv:=fx f59 59 func59 [tf.p] false [] ao [(ai [(0,464),(0,465),(0,233),(2,58),(1,29),(0,15)],⟨29,[(3,.own 32),(4,wH)],[(32,.row .byte 5)],64,[]⟩)]
def zyw:Nat->(zdl fu).L 0:=Fx.lq (zf fu) (qjd fu) (fun r0=>[r0.s])
def q00:=(zdl fu).fi (ti fu) [(zyw fu fu).s] call59
def zyy:IF:=⟨.fn 31,[wS,wS],[],_,RS.mk (.h .bool) []⟩
def zyx:Fx wG zyy:=fx f31 31 func31 [(q00 fu).p] false [] ao []
def qda:=(zyx fu).fi (jf fu) [] call31
def zyz:IF:=⟨.fn 26,[.h wL,wS],[],_,RS.mk (.own 0) [(0,.row .str 9)]⟩
def zdm:Fx wG zyz:=fx f26 26 func26 [(qda fu).p] false [] ao [(ai [(0,464),(0,465),(0,233),(2,58),(1,29),(0,15)],⟨29,[(0,.h wL),(1,wS),(5,.own 32),(6,wH)],[(32,.row .str 9)],64,[]⟩)]
def zy0:Nat->(zdm fu).L 0:=Fx.lq (zt fu) (qqy fu) (fun r0=>[r0.s])
def q02:=(zdm fu).fi (qej fu) [(zy0 fu fu).s] call26
def zy1:IF:=⟨.fn 56,[wS,wH],[],_,RS.mk (wH) []⟩
def zdn(fu:Nat):Fx wG zy1:=fx f56 56 func56 [qo9.p] false [] ao [(ai [(0,96),(0,97),(0,49),(2,12),(1,6),(0,7)],⟨18,[(0,wS),(1,wH)],[],64,[]⟩)]
def zy2:Nat->(zdn fu).L 0:=Fx.lq (qer fu) (qq4 fu) (fun r0=>[r0.s])
def zy3:=(zdn fu).fi (pm fu) [(zy2 fu fu).s] call56
def zy5:IF:=⟨.fn 94,[.h .byte],[],_,RS.mk (.h .bool) []⟩
def zy4:Fx wG zy5:=fx f94 94 func94 [tf.p,(q0s fu).p] false [] ao []
def q05:=(zy4 fu).fi (zq fu) [] call94
def zy6:IF:=⟨.fn 57,[wS,wH,wS],[],_,RS.mk (wH) []⟩
def zdo:Fx wG zy6:=fx f57 57 func57 [(q05 fu).p,(q0s fu).p] false [] ao [(ai [(0,96),(0,97),(0,49),(2,12),(1,6),(0,7)],⟨27,[(0,wS),(1,wH),(2,wS)],[],64,[]⟩)]
def zy7:Nat->(zdo fu).L 0:=Fx.lq (qeq fu) (qq3 fu) (fun r0=>[r0.s])
def zy8:=(zdo fu).fi (zw fu) [(zy7 fu fu).s] call57
def zy9:IF:=⟨.fn 85,[wS,wS,wH],[],_,RS.mk (wH) []⟩
def zdp(fu:Nat):Fx wG zy9:=fx f85 85 func85 [] false [] ao [(ai [(0,208),(0,209),(0,105),(2,26),(1,13),(0,7)],⟨28,[(0,wS),(1,wS),(7,wH)],[],64,[]⟩)]
def zza:Nat->(zdp fu).L 0:=Fx.lq (qdp fu) (qp5 fu) (fun r0=>[r0.s])
def zzb:=(zdp fu).fi (qi4 fu) [(zza fu fu).s] call85
def zzc:IF:=⟨.fn 96,[wS,wH,wH],[],_,RS.mk (wH) []⟩
def qdb(fu:Nat):Fx wG zzc:=fx f96 96 func96 [tf.p] false [] ao [(ai [(0,1865),(1,466),(0,467),(2,58),(1,29),(0,15)],⟨40,[(0,wS),(1,wH),(2,wH),(7,wH),(8,wH)],[],64,[]⟩),(ai [(0,3729),(0,1865),(1,466),(0,467),(2,58),(1,29),(0,15)],⟨40,[(0,wS),(1,wH),(2,wH),(7,wH),(8,wH),(24,.h .bool)],[],64,[]⟩),(ai [(0,464),(0,465),(0,233),(2,58),(1,29),(0,15)],⟨40,[(0,wS),(1,wH),(2,wH),(7,wH),(8,wH)],[],64,[]⟩)]
def zzf(r0:(qdb fu).L 2):(qdb fu).L 0:=Fx.jm (qq1 fu r0.f) [r0.s]
def zze(r0:(qdb fu).L 2):(qdb fu).L 1:=Fx.jm (qen fu r0.f) [(zzf fu r0).s]
def zzd:Nat->(qdb fu).L 2:=Fx.lq (qem fu) (qq0 fu) (fun r0=>[(zze fu r0).s])
def zzg:=(qdb fu).fi (qel fu) [(zzd fu fu).s] call96
def qim:IF:=⟨.fn 142,[.h (.int .u64)],[],_,RS.mk (wS) []⟩
def zzm(s178:EI wG qim)(fu:Nat):Fx wG qim:=fx f142 142 func142 [s178.p] false [] ao []
def zzn(s178:EI wG qim)(fu:Nat):EI wG qim:=(zzm s178 fu).fi (qjl s178.f fu) [] call142
def zzo:EI wG qim := .rc (qek fu) (fun r=>qjl r fu) (fun _ _=>rfl) (fun _=>rfl) (fun s178=>zzn s178 fu) (fun _=>rfl) fu
def zzq:IF:=⟨.fn 97,[wH],[],_,RS.mk (wS) []⟩
def zzp:Fx wG zzq:=fx f97 97 func97 [(zzo fu).p] false [] ao []
def zdr:=(zzp fu).fi (tl fu) [] call97
def zzr:IF:=⟨.fn 58,[wS,wS],[],_,RS.mk (.tup [.h (.prod .str (.prod .str (.prod wI .bool))),.h .bool]) []⟩
def q08:Fx wG zzr:=fx f58 58 func58 [(zzb fu).p,(zzg fu).p,(zdr fu).p] false [] ao [(ai [(0,254),(0,255)],⟨63,[(4,.ptr 32 0),(7,wS),(8,.ptr 33 0)],[(32,.dat (.prod .str (.prod .str (.prod wI .bool))) 105),(33,.dat (.prod .str (.prod .str (.prod wI .bool))) 105)],64,[]⟩),(ai [(0,253),(0,127)],⟨63,[(4,.ptr 32 0),(7,wS),(8,.ptr 33 0),(37,.h .bool)],[(32,.dat (.prod .str (.prod .str (.prod wI .bool))) 105),(33,.dat (.prod .str (.prod .str (.prod wI .bool))) 105)],64,[]⟩)]
def zzt:(q08 fu).L 0:=Fx.jm (zu fu) []
def zzs:(q08 fu).L 1:=Fx.jm (qeo fu) [(zzt fu).s]
def zzu:=(q08 fu).fi (qjm fu) [(zzs fu).s] call58
def zzx:IF:=⟨.fn 99,[wS,wH],[],_,RS.mk (.tup [wH,wH]) []⟩
def qin(fu:Nat):Fx wG zzx:=fx f99 99 func99 [tf.p] false [] ao [(ai [(0,32720),(0,32721),(0,16361),(2,4090),(1,2045),(0,1023)],⟨76,[(0,wS),(1,wH),(7,wH),(8,wH),(9,wH),(10,wH)],[],64,[]⟩),(ai [(0,2044),(0,2045),(0,1023)],⟨76,[(0,wS),(1,wH),(7,wH),(8,wH),(9,wH)],[],64,[]⟩),(ai [(0,1021),(0,511)],⟨76,[(0,wS),(1,wH),(7,wH),(8,wH),(9,wH),(43,.h .bool)],[],64,[]⟩),(ai [(0,1020),(0,1021),(0,511)],⟨76,[(0,wS),(1,wH),(7,wH),(8,wH),(9,wH)],[],64,[]⟩)]
def zz1:Nat->(qin fu).L 0:=Fx.lq (rq fu) (qjk fu) (fun r3=>[r3.s])
def zz0:(qin fu).L 1:=Fx.jm (q2p fu) [(zz1 fu fu).s]
def zzz:(qin fu).L 2:=Fx.jm (qd9 fu) [(zz0 fu).s]
def zzy:(qin fu).L 3:=Fx.jm (rp fu) [(zzz fu).s]
def zds:=(qin fu).fi (qd8 fu) [(zzy fu).s] call99
def zz5:IF:=⟨.fn 100,[wH],[],_,RS.mk (wS) []⟩
def q1a:Fx wG zz5:=fx f100 100 func100 [tf.p] false [] ao [(ai [(0,28),(0,29),(0,15)],⟨65,[(0,wH)],[],64,[]⟩),(ai [(0,13),(0,7)],⟨65,[(0,wH),(9,.h .bool)],[],64,[]⟩)]
def zz7:q1a.L 0:=Fx.jn qqw [] fun d=>by kernel_rfl
def zz6:q1a.L 1:=Fx.jn qqv [(zz7).s] fun d=>by kernel_rfl
def zz8:=q1a.fi qqu [(zz6).s] call100
def z0b:IF:=⟨.fn 61,[wS],[],_,RS.mk (wS) []⟩
def zdt:Fx wG z0b:=fx f61 61 func61 [(zds fu).p,zz8.p] false [] ao [(ai [(0,976),(0,977),(0,489),(2,122),(1,61),(0,31)],⟨39,[(0,wS),(3,wS),(4,.h .bool),(5,wH)],[],64,[]⟩)]
def z0c:Nat->(zdt fu).L 0:=Fx.lq (qep fu) (qq2 fu) (fun r0=>[r0.s])
def z0d:=(zdt fu).fi (qjn fu) [(z0c fu fu).s] call61
def z0e:IF:=⟨.fn 98,[.h .byte],[],_,RS.mk (wH) []⟩
def zdu:Fx wG z0e:=fx f98 98 func98 [(q00 fu).p] false [] ao [(ai [(0,208),(0,209),(0,105),(2,26),(1,13),(0,7)],⟨20,[(0,.h .byte),(3,wH)],[],64,[]⟩)]
def z0f:Nat->(zdu fu).L 0:=Fx.lq (ze fu) (qjc fu) (fun r0=>[r0.s])
def z0g:=(zdu fu).fi (vl fu) [(z0f fu fu).s] call98
def z0h:IF:=⟨.fn 60,[wS],[],_,RS.mk (wS) []⟩
def qpa:Fx wG z0h:=fx f60 60 func60 [(z0g fu).p] false [] ao [(ai [(0,1865),(1,466),(0,467),(2,58),(1,29),(0,15)],⟨65,[(0,wS),(3,wS),(4,wH),(37,.h .bool)],[],64,[]⟩),(ai [(0,464),(0,465),(0,233),(2,58),(1,29),(0,15)],⟨65,[(0,wS),(3,wS),(4,wH)],[],64,[]⟩)]
def z0j(r0:(qpa fu).L 1):(qpa fu).L 0:=Fx.jm (tn fu r0.f) [r0.s]
def z0i:Nat->(qpa fu).L 1:=Fx.lq (zx fu) (qq5 fu) (fun r0=>[(z0j fu r0).s])
def z0k:=(qpa fu).fi (qjo fu) [(z0i fu fu).s] call60
def z0m:IF:=⟨.fn 27,[wS],[],_,RS.mk (.tup [.h (.prod .str (.prod .str wL)),.h .bool]) []⟩
def bi:Fx wG z0m:=fx f27 27 func27 [(zy3 fu).p,(zy8 fu).p,(qda fu).p,(zzu fu).p,(z0d fu).p,(q00 fu).p,(z0k fu).p] false [] ao [(ai [(0,137423747722),(0,137423747723),(1,17177968465),(2,4294492116),(1,2147246058),(0,2147246059),(0,134202879),(1,131057),(2,32764),(1,16382),(0,16383)],⟨332,[(0,wS),(2,.ptr 32 0),(4,wH),(6,.ptr 33 0),(7,.own 34),(8,wS),(9,wS)],[(32,.cells [wS,wS,wN] 62),(33,.cells [wS,wS,wN] 62),(34,.row (.prod .str (.prod .str (.prod wI .bool))) 105)],64,[]⟩),(ai [(0,137423747721),(0,68711873861),(1,17177968465),(2,4294492116),(1,2147246058),(0,2147246059),(0,134202879),(1,131057),(2,32764),(1,16382),(0,16383)],⟨332,[(0,wS),(2,.ptr 32 0),(4,wH),(6,.ptr 33 0),(7,.own 34),(8,wS),(9,wS),(140,.h .bool)],[(32,.cells [wS,wS,wN] 62),(33,.cells [wS,wS,wN] 62),(34,.row (.prod .str (.prod .str (.prod wI .bool))) 105)],64,[]⟩),(ai [(0,137423747720),(0,137423747721),(0,68711873861),(1,17177968465),(2,4294492116),(1,2147246058),(0,2147246059),(0,134202879),(1,131057),(2,32764),(1,16382),(0,16383)],⟨332,[(0,wS),(2,.ptr 32 0),(4,wH),(6,.ptr 33 0),(7,.own 34),(8,wS),(9,wS)],[(32,.cells [wS,wS,wN] 62),(33,.cells [wS,wS,wN] 62),(34,.row (.prod .str (.prod .str (.prod wI .bool))) 105)],64,[]⟩),(ai [(0,268405758),(0,268405759),(1,131057),(2,32764),(1,16382),(0,16383)],⟨332,[(0,wS),(2,.ptr 32 0),(4,wH),(6,.ptr 33 0),(7,.own 34),(8,wS),(9,wS)],[(32,.cells [wS,wS,wN] 62),(33,.cells [wS,wS,wN] 62),(34,.row (.prod .str (.prod .str (.prod wI .bool))) 105)],64,[]⟩),(ai [(0,34355936929),(0,17177968465),(2,4294492116),(1,2147246058),(0,2147246059),(0,134202879),(1,131057),(2,32764),(1,16382),(0,16383)],⟨332,[(0,wS),(2,.ptr 32 0),(4,wH),(6,.ptr 33 0),(7,.own 34),(8,wS),(9,wS),(129,.h .bool)],[(32,.cells [wS,wS,wN] 62),(33,.cells [wS,wS,wN] 62),(34,.row (.prod .str (.prod .str (.prod wI .bool))) 105)],64,[]⟩),(ai [(0,34355936928),(0,34355936929),(0,17177968465),(2,4294492116),(1,2147246058),(0,2147246059),(0,134202879),(1,131057),(2,32764),(1,16382),(0,16383)],⟨332,[(0,wS),(2,.ptr 32 0),(4,wH),(6,.ptr 33 0),(7,.own 34),(8,wS),(9,wS)],[(32,.cells [wS,wS,wN] 62),(33,.cells [wS,wS,wN] 62),(34,.row (.prod .str (.prod .str (.prod wI .bool))) 105)],64,[]⟩),(ai [(0,268405757),(0,134202879),(1,131057),(2,32764),(1,16382),(0,16383)],⟨332,[(0,wS),(2,.ptr 32 0),(4,wH),(6,.ptr 33 0),(7,.own 34),(8,wS),(9,wS),(117,.h .bool)],[(32,.cells [wS,wS,wN] 62),(33,.cells [wS,wS,wN] 62),(34,.row (.prod .str (.prod .str (.prod wI .bool))) 105)],64,[]⟩),(ai [(0,33550718),(0,33550719),(1,131057),(2,32764),(1,16382),(0,16383)],⟨332,[(0,wS),(2,.ptr 32 0),(4,wH),(6,.ptr 33 0),(7,.own 34),(8,wS)],[(32,.cells [wS,wS,wN] 62),(33,.cells [wS,wS,wN] 62),(34,.row (.prod .str (.prod .str (.prod wI .bool))) 105)],64,[]⟩),(ai [(0,33550717),(0,16775359),(1,131057),(2,32764),(1,16382),(0,16383)],⟨332,[(0,wS),(2,.ptr 32 0),(4,wH),(6,.ptr 33 0),(7,.own 34),(8,wS),(102,.h .bool)],[(32,.cells [wS,wS,wN] 62),(33,.cells [wS,wS,wN] 62),(34,.row (.prod .str (.prod .str (.prod wI .bool))) 105)],64,[]⟩),(ai [(0,268423763),(2,33552970),(1,16776485),(0,8388243),(1,1048530),(0,1048531),(2,131066),(1,65533),(0,32767)],⟨332,[(2,.ptr 32 0),(6,.ptr 33 0),(7,.own 34),(12,wH),(13,.h .bool),(14,wH)],[(32,.cells [wS,wS,wN] 62),(33,.cells [wS,wS,.own 35] 62),(34,.row (.prod .str (.prod .str (.prod wI .bool))) 105),(35,.row wP 108)],64,[]⟩),(ai [(0,1073695187),(2,134211898),(1,67105949),(0,33552975),(1,1048530),(0,1048531),(2,131066),(1,65533),(0,32767)],⟨332,[(2,.ptr 32 0),(6,.ptr 33 0),(7,.own 34),(12,wH),(13,.h .bool),(15,wH),(16,wH)],[(32,.cells [wS,wS,wN] 62),(33,.cells [wS,wS,.own 35] 62),(34,.row (.prod .str (.prod .str (.prod wI .bool))) 105),(35,.row wP 108)],64,[]⟩),(ai [(0,4397855658579),(2,549731957322),(1,274865978661),(0,137432989331),(1,17179123666),(0,17179123667),(2,2147390458),(1,1073695229),(0,536847615),(1,1048530),(0,1048531),(2,131066),(1,65533),(0,32767)],⟨332,[(2,.ptr 32 0),(6,.ptr 33 0),(7,.own 34),(12,wH),(15,wH),(17,wS),(18,wH),(19,wH),(20,wH)],[(32,.cells [wS,wS,wN] 62),(33,.cells [wS,wS,.own 35] 62),(34,.row (.prod .str (.prod .str (.prod wI .bool))) 105),(35,.row wP 108)],64,[]⟩),(ai [(0,17591422634313),(1,4397855658578),(0,4397855658579),(2,549731957322),(1,274865978661),(0,137432989331),(1,17179123666),(0,17179123667),(2,2147390458),(1,1073695229),(0,536847615),(1,1048530),(0,1048531),(2,131066),(1,65533),(0,32767)],⟨332,[(2,.ptr 32 0),(6,.ptr 33 0),(7,.own 34),(12,wH),(15,wH),(17,wS),(18,wH),(19,wH),(20,wH),(283,.h .bool)],[(32,.cells [wS,wS,wN] 62),(33,.cells [wS,wS,.own 35] 62),(34,.row (.prod .str (.prod .str (.prod wI .bool))) 105),(35,.row wP 108)],64,[]⟩),(ai [(0,17179123667),(2,2147390458),(1,1073695229),(0,536847615),(1,1048530),(0,1048531),(2,131066),(1,65533),(0,32767)],⟨332,[(2,.ptr 32 0),(6,.ptr 33 0),(7,.own 34),(12,wH),(15,wH),(17,wS),(18,wH)],[(32,.cells [wS,wS,wN] 62),(33,.cells [wS,wS,.own 35] 62),(34,.row (.prod .str (.prod .str (.prod wI .bool))) 105),(35,.row wP 108)],64,[]⟩),(ai [(0,1099463914655),(1,17179123666),(0,17179123667),(2,2147390458),(1,1073695229),(0,536847615),(1,1048530),(0,1048531),(2,131066),(1,65533),(0,32767)],⟨332,[(2,.ptr 32 0),(6,.ptr 33 0),(7,.own 34),(12,wH),(15,wH),(17,wS),(18,wH),(21,wS)],[(32,.cells [wS,wS,wN] 62),(33,.cells [wS,wS,.own 35] 62),(34,.row (.prod .str (.prod .str (.prod wI .bool))) 105),(35,.row wP 108)],64,[]⟩),(ai [(0,8795711317237),(0,1099463914655),(1,17179123666),(0,17179123667),(2,2147390458),(1,1073695229),(0,536847615),(1,1048530),(0,1048531),(2,131066),(1,65533),(0,32767)],⟨332,[(2,.ptr 32 0),(6,.ptr 33 0),(7,.own 34),(12,wH),(15,wH),(17,wS),(18,wH),(21,wS)],[(32,.cells [wS,wS,wN] 62),(33,.cells [wS,wS,.own 35] 62),(34,.row (.prod .str (.prod .str (.prod wI .bool))) 105),(35,.row wP 108)],64,[]⟩),(ai [(0,17591422634473),(0,8795711317237),(0,1099463914655),(1,17179123666),(0,17179123667),(2,2147390458),(1,1073695229),(0,536847615),(1,1048530),(0,1048531),(2,131066),(1,65533),(0,32767)],⟨332,[(2,.ptr 32 0),(6,.ptr 33 0),(7,.own 34),(12,wH),(15,wH),(17,wS),(18,wH),(21,wS),(310,.h .bool)],[(32,.cells [wS,wS,wN] 62),(33,.cells [wS,wS,.own 35] 62),(34,.row (.prod .str (.prod .str (.prod wI .bool))) 105),(35,.row wP 108)],64,[]⟩),(ai [(0,4397855658576),(0,4397855658577),(0,2198927829289),(2,549731957322),(1,274865978661),(0,137432989331),(1,17179123666),(0,17179123667),(2,2147390458),(1,1073695229),(0,536847615),(1,1048530),(0,1048531),(2,131066),(1,65533),(0,32767)],⟨332,[(2,.ptr 32 0),(6,.ptr 33 0),(7,.own 34),(12,wH),(15,wH),(17,wS),(18,wH),(19,wH),(20,wH)],[(32,.cells [wS,wS,wN] 62),(33,.cells [wS,wS,.own 35] 62),(34,.row (.prod .str (.prod .str (.prod wI .bool))) 105),(35,.row wP 108)],64,[]⟩),(ai [(0,17179123664),(0,17179123665),(0,8589561833),(2,2147390458),(1,1073695229),(0,536847615),(1,1048530),(0,1048531),(2,131066),(1,65533),(0,32767)],⟨332,[(2,.ptr 32 0),(6,.ptr 33 0),(7,.own 34),(12,wH),(15,wH),(17,wS),(18,wH)],[(32,.cells [wS,wS,wN] 62),(33,.cells [wS,wS,.own 35] 62),(34,.row (.prod .str (.prod .str (.prod wI .bool))) 105),(35,.row wP 108)],64,[]⟩),(ai [(0,1073695184),(0,1073695185),(0,536847593),(2,134211898),(1,67105949),(0,33552975),(1,1048530),(0,1048531),(2,131066),(1,65533),(0,32767)],⟨332,[(2,.ptr 32 0),(6,.ptr 33 0),(7,.own 34),(12,wH),(13,.h .bool),(15,wH),(16,wH)],[(32,.cells [wS,wS,wN] 62),(33,.cells [wS,wS,.own 35] 62),(34,.row (.prod .str (.prod .str (.prod wI .bool))) 105),(35,.row wP 108)],64,[]⟩),(ai [(0,268423760),(0,268423761),(0,134211881),(2,33552970),(1,16776485),(0,8388243),(1,1048530),(0,1048531),(2,131066),(1,65533),(0,32767)],⟨332,[(2,.ptr 32 0),(6,.ptr 33 0),(7,.own 34),(12,wH),(13,.h .bool),(14,wH)],[(32,.cells [wS,wS,wN] 62),(33,.cells [wS,wS,.own 35] 62),(34,.row (.prod .str (.prod .str (.prod wI .bool))) 105),(35,.row wP 108)],64,[]⟩),(ai [(0,1048528),(0,1048529),(0,524265),(2,131066),(1,65533),(0,32767)],⟨332,[(2,.ptr 32 0),(6,.ptr 33 0),(7,.own 34),(12,wH)],[(32,.cells [wS,wS,wN] 62),(33,.cells [wS,wS,.own 35] 62),(34,.row (.prod .str (.prod .str (.prod wI .bool))) 105),(35,.row wP 108)],64,[]⟩),(ai [(0,262112),(0,262113),(0,131057),(2,32764),(1,16382),(0,16383)],⟨332,[(0,wS),(2,.ptr 32 0),(4,wH),(6,.ptr 33 0),(7,.own 34)],[(32,.cells [wS,wS,wN] 62),(33,.cells [wS,wS,wN] 62),(34,.row (.prod .str (.prod .str (.prod wI .bool))) 105)],64,[]⟩),(ai [(0,254),(0,255)],⟨332,[(0,wS),(2,.ptr 32 0),(4,wH),(6,.ptr 33 0)],[(32,.cells [wS,wS,wN] 62),(33,.cells [wS,wS,wN] 62)],64,[]⟩),(ai [(0,253),(0,127)],⟨332,[(0,wS),(2,.ptr 32 0),(4,wH),(6,.ptr 33 0),(49,.h .bool)],[(32,.cells [wS,wS,wN] 62),(33,.cells [wS,wS,wN] 62)],64,[]⟩)]
def z0w(r2:(bi fu).L 22)(r9:(bi fu).L 5):(bi fu).L 0:=Fx.jm (qdw fu r2.f r9.f) [r9.s]
def z0t(r2:(bi fu).L 22)(r9:(bi fu).L 5):(bi fu).L 1:=Fx.jm (zk fu r2.f r9.f) [(z0w fu r2 r9).s]
def z0s(r2:(bi fu).L 22)(r9:(bi fu).L 5):(bi fu).L 2:=Fx.jm (qqg fu r2.f r9.f) [(z0t fu r2 r9).s]
def zdv(r2:(bi fu).L 22):(bi fu).L 3:=Fx.jm (vt fu r2.f) [r2.s]
def z0p(r2:(bi fu).L 22)(r9:(bi fu).L 5):(bi fu).L 4:=Fx.jm (zj fu r2.f r9.f) [(z0s fu r2 r9).s,(zdv fu r2).s]
def z09(r2:(bi fu).L 22):Nat->(bi fu).L 5:=Fx.lq (tj fu r2.f) (qje fu r2.f) (fun r9=>[(z0p fu r2 r9).s])
def z07(r2:(bi fu).L 22):(bi fu).L 6:=Fx.jm (qd1 fu r2.f) [(z09 fu r2 fu).s,(zdv fu r2).s]
def z05(r2:(bi fu).L 22):(bi fu).L 7:=Fx.jm (qqi fu r2.f) [(z07 fu r2).s]
def z03(r2:(bi fu).L 22):(bi fu).L 8:=Fx.jm (qdz fu r2.f) [(z05 fu r2).s]
def z0u(r4:(bi fu).L 21)(r6:(bi fu).L 20):(bi fu).L 9:=Fx.jm (qdv fu r4.f r6.f) [r6.s]
def z0q(r4:(bi fu).L 21)(r8:(bi fu).L 19):(bi fu).L 10:=Fx.jm (qdu fu r4.f r8.f) [r8.s]
def z0z(r4:(bi fu).L 21)(r13:(bi fu).L 18)(r17:(bi fu).L 17):(bi fu).L 11:=Fx.jm (zm fu r4.f r13.f r17.f) [r17.s]
def z0x(r4:(bi fu).L 21)(r13:(bi fu).L 18)(r17:(bi fu).L 17):(bi fu).L 12:=Fx.jm (qdx fu r4.f r13.f r17.f) [(z0z fu r4 r13 r17).s]
def z02(r4:(bi fu).L 21)(r13:(bi fu).L 18):(bi fu).L 13:=Fx.jm (qqh fu r4.f r13.f) [r13.s]
def zdw(r4:(bi fu).L 21)(r13:(bi fu).L 18):(bi fu).L 14:=Fx.jm (zn fu r4.f r13.f) [(z02 fu r4 r13).s]
def z01(r4:(bi fu).L 21)(r13:(bi fu).L 18):(bi fu).L 15:=Fx.jm (qdy fu r4.f r13.f) [(zdw fu r4 r13).s]
def z00(r4:(bi fu).L 21)(r13:(bi fu).L 18):(bi fu).L 16:=Fx.jm (pi fu r4.f r13.f) [(z01 fu r4 r13).s]
def z0v(r4:(bi fu).L 21)(r13:(bi fu).L 18):Nat->(bi fu).L 17:=Fx.lq (ju fu r4.f r13.f) (vp fu r4.f r13.f) (fun r17=>[(z0x fu r4 r13 r17).s,(z00 fu r4 r13).s,(zdw fu r4 r13).s])
def z0r(r4:(bi fu).L 21):Nat->(bi fu).L 18:=Fx.lq (lj fu r4.f) (vo fu r4.f) (fun r13=>[(z0v fu r4 r13 fu).s,r4.s])
def z08(r4:(bi fu).L 21):Nat->(bi fu).L 19:=Fx.lq (pl fu r4.f) (zi fu r4.f) (fun r8=>[(z0q fu r4 r8).s,r4.s,(z0r fu r4 fu).s])
def z06(r4:(bi fu).L 21):Nat->(bi fu).L 20:=Fx.lq (qd0 fu r4.f) (qqe fu r4.f) (fun r6=>[(z0u fu r4 r6).s,(z08 fu r4 fu).s])
def z04:Nat->(bi fu).L 21:=Fx.lq (mi fu) (qqd fu) (fun r4=>[(z06 fu r4 fu).s])
def z0y:Nat->(bi fu).L 22:=Fx.lq (zl fu) (qqc fu) (fun r2=>[(z03 fu r2).s,(z04 fu fu).s])
def z0o:(bi fu).L 23:=Fx.jm (qqf fu) [(z0y fu fu).s]
def z0n:(bi fu).L 24:=Fx.jm (vq fu) [(z0o fu).s]
def zdx:=(bi fu).fi (zh fu) [(z0n fu).s] call27
end
end
noncomputable section
open Go.Proofs
set_option linter.unusedVariables false
set_option maxRecDepth 100000
set_option maxHeartbeats 2000000
section
variable(fu:Nat)
def z1s:IF:=⟨.fn 62,[wS],[],_,RS.mk (.h .bool) []⟩
def zdy:Fx wG z1s:=fx Tryz.f62 62 Tryz.func62 [(q05 fu).p,tf.p] false [] ao [(ai [(0,208),(0,209),(0,105),(2,26),(1,13),(0,7)],⟨18,[(0,wS),(3,wH)],[],64,[]⟩)]
def z1t:Nat->(zdy fu).L 0:=Fx.lq (qec fu) (qqp fu) (fun r0=>[r0.s])
def zdz:=(zdy fu).fi (vz fu) [(z1t fu fu).s] Tryz.call62
def z1x:IF:=⟨.fn 63,[wS],[],_,RS.mk (.h .bool) []⟩
def zd0:Fx wG z1x:=fx Tryz.f63 63 Tryz.func63 [(zds fu).p] false [] ao [(ai [(0,208),(0,209),(0,105),(2,26),(1,13),(0,7)],⟨21,[(0,wS),(3,wH)],[],64,[]⟩)]
def z1y:Nat->(zd0 fu).L 0:=Fx.lq (qei fu) (qqx fu) (fun r0=>[r0.s])
def z1z:=(zd0 fu).fi (qeh fu) [(z1y fu fu).s] Tryz.call63
def z10:IF:=⟨.fn 28,[.h (.prod .str (.prod .str wL))],[],_,RS.mk (.h (.prod wI wI)) []⟩
def q9:Fx wG z10:=fx Tryz.f28 28 Tryz.func28 [(zdz fu).p,qih.p,(qda fu).p,(z1z fu).p] false [] ao [(ai [(0,500944),(0,500945),(0,250473),(2,62618),(1,31309),(0,15655),(1,978),(0,979),(2,122),(1,61),(0,31)],⟨75,[(1,.ptr 32 0),(2,.ptr 33 0),(3,wH),(4,.ptr 34 0),(5,wH)],[(32,.dat (.prod .str (.prod .str wL)) 62),(33,.dat (.prod wI wI) 29),(34,.dat wP 108)],64,[]⟩),(ai [(0,31308),(0,31309),(0,15655),(1,978),(0,979),(2,122),(1,61),(0,31)],⟨75,[(1,.ptr 32 0),(2,.ptr 33 0),(3,wH),(4,.ptr 34 0)],[(32,.dat (.prod .str (.prod .str wL)) 62),(33,.dat (.prod wI wI) 29),(34,.dat wP 108)],64,[]⟩),(ai [(0,15653),(0,7827),(1,978),(0,979),(2,122),(1,61),(0,31)],⟨75,[(1,.ptr 32 0),(2,.ptr 33 0),(3,wH),(4,.ptr 34 0),(43,.h .bool)],[(32,.dat (.prod .str (.prod .str wL)) 62),(33,.dat (.prod wI wI) 29),(34,.dat wP 108)],64,[]⟩),(ai [(0,976),(0,977),(0,489),(2,122),(1,61),(0,31)],⟨75,[(1,.ptr 32 0),(2,.ptr 33 0),(3,wH)],[(32,.dat (.prod .str (.prod .str wL)) 62),(33,.dat (.prod wI wI) 29)],64,[]⟩),(ai [(0,28),(0,29),(0,15)],⟨75,[(1,.ptr 32 0),(2,.ptr 33 0)],[(32,.dat (.prod .str (.prod .str wL)) 62),(33,.dat (.prod wI wI) 29)],64,[]⟩),(ai [(0,13),(0,7)],⟨75,[(1,.ptr 32 0),(2,.ptr 33 0),(15,.h .bool)],[(32,.dat (.prod .str (.prod .str wL)) 62),(33,.dat (.prod wI wI) 29)],64,[]⟩)]
def z17(r2:(q9 fu).L 3):Nat->(q9 fu).L 0:=Fx.lq (qdt fu r2.f) (qp9 fu r2.f) (fun r5=>[r5.s,r2.s])
def z16(r2:(q9 fu).L 3):(q9 fu).L 1:=Fx.jm (qqb fu r2.f) [(z17 fu r2 fu).s]
def z15(r2:(q9 fu).L 3):(q9 fu).L 2:=Fx.jm (vn fu r2.f) [(z16 fu r2).s]
def z14:Nat->(q9 fu).L 3:=Fx.lq (vm fu) (qp8 fu) (fun r2=>[(z15 fu r2).s])
def z13:(q9 fu).L 4:=Fx.jm (qqa fu) [(z14 fu fu).s]
def z11:(q9 fu).L 5:=Fx.jm (zg fu) [(z13 fu).s]
def zd1:=(q9 fu).fi (qds fu) [(z11 fu).s] Tryz.call28
def z2c:IF:=⟨.fn 30,[.h wL],[],_,RS.mk (.tup [.h (.prod .str (.prod .str wL)),.h .bool]) []⟩
def q1g:Fx wG z2c:=fx Tryz.f30 30 Tryz.func30 [(q02 fu).p,(zdx fu).p,(zd1 fu).p] false [] ao [(ai [(0,30),(0,31)],⟨37,[(2,.ptr 32 0),(4,.own 33)],[(32,.cells [wS,wS,wN] 62),(33,.row .str 9)],64,[]⟩),(ai [(0,29),(0,15)],⟨37,[(2,.ptr 32 0),(4,.own 33),(18,.h .bool)],[(32,.cells [wS,wS,wN] 62),(33,.row .str 9)],64,[]⟩)]
def z2e:(q1g fu).L 0:=Fx.jm (qrn fu) []
def z2d:(q1g fu).L 1:=Fx.jm (qjx fu) [(z2e fu).s]
def q1h:=(q1g fu).fi (qab fu) [(z2d fu).s] Tryz.call30
def z2h:IF:=⟨.fn 29,[.h (.prod .str (.prod .str wL)),wS],[],_,RS.mk (.tup [wS,.h .bool]) []⟩
def zd2:Fx wG z2h:=fx Tryz.f29 29 Tryz.func29 [(qda fu).p] false [] ao [(ai [(0,208),(0,209),(0,105),(2,26),(1,13),(0,7)],⟨28,[(1,wS),(2,.ptr 32 0),(6,wH)],[(32,.dat (.prod .str (.prod .str wL)) 62)],64,[]⟩)]
def z2i:Nat->(zd2 fu).L 0:=Fx.lq (qd3 fu) (qqk fu) (fun r0=>[r0.s])
def q1i:=(zd2 fu).fi (vv fu) [(z2i fu fu).s] Tryz.call29
def z2k:IF:=⟨.fn 90,[.h wB,wH],[],_,RS.mk (.h .bool) []⟩
def z2j:Fx wG z2k:=fx Tryz.f90 90 Tryz.func90 [] false [] ao []
def zd3:=z2j.fi za [] Tryz.call90
def z2l:IF:=⟨.fn 53,[.h wB],[],_,RS.mk (.h (.prod wI wI)) []⟩
def qpe(fu:Nat):Fx wG z2l:=fx Tryz.f53 53 Tryz.func53 [zd3.p,qih.p] false [] ao [(ai [(0,7461),(0,3731),(1,466),(0,467),(2,58),(1,29),(0,15)],⟨37,[(0,.h wB),(2,.ptr 32 0),(3,wH),(4,wH),(29,.h .bool)],[(32,.dat (.prod wI wI) 29)],64,[]⟩),(ai [(0,464),(0,465),(0,233),(2,58),(1,29),(0,15)],⟨37,[(0,.h wB),(2,.ptr 32 0),(3,wH),(4,wH)],[(32,.dat (.prod wI wI) 29)],64,[]⟩)]
def z2n(r0:(qpe fu).L 1):(qpe fu).L 0:=Fx.jm (qjq fu r0.f) [r0.s]
def z2m:Nat->(qpe fu).L 1:=Fx.lq (qeu fu) (qq9 fu) (fun r0=>[r0.s,(z2n fu r0).s])
def z2o:=(qpe fu).fi (qq8 fu) [(z2m fu fu).s] Tryz.call53
def z2q:IF:=⟨.fn 54,[.h wL],[],_,RS.mk (.tup [wS,.h .bool]) []⟩
def qpg:Fx wG z2q:=fx Tryz.f54 54 Tryz.func54 [(q1h fu).p,(qda fu).p,(q1i fu).p,tf.p] false [] ao [(ai [(0,2000),(0,2001),(0,1001),(2,250),(1,125),(0,63)],⟨54,[(6,wS),(7,.h .bool),(8,wH)],[],64,[]⟩),(ai [(0,30),(0,31)],⟨54,[(4,.ptr 32 0)],[(32,.dat (.prod .str (.prod .str wL)) 62)],64,[]⟩),(ai [(0,29),(0,15)],⟨54,[(4,.ptr 32 0),(21,.h .bool)],[(32,.dat (.prod .str (.prod .str wL)) 62)],64,[]⟩)]
def z2t:Nat->(qpg fu).L 0:=Fx.lq (qet fu) (qq6 fu) (fun r2=>[r2.s])
def z2s:(qpg fu).L 1:=Fx.jm (qq7 fu) [(z2t fu fu).s]
def z2r:(qpg fu).L 2:=Fx.jm (qes fu) [(z2s fu).s]
def z2u:=(qpg fu).fi (qjp fu) [(z2r fu).s] Tryz.call54
def z2x:IF:=⟨.fn 92,[wS,wS],[],_,RS.mk (wH) []⟩
def qdc(fu:Nat):Fx wG z2x:=fx Tryz.f92 92 Tryz.func92 [qo9.p] false [] ao [(ai [(0,226),(1,113),(2,28),(1,14),(0,15)],⟨32,[(0,wS),(1,wS),(5,wH)],[],64,[]⟩),(ai [(0,225),(0,113),(2,28),(1,14),(0,15)],⟨32,[(0,wS),(1,wS),(5,wH),(16,.h .bool)],[],64,[]⟩),(ai [(0,224),(0,225),(0,113),(2,28),(1,14),(0,15)],⟨32,[(0,wS),(1,wS),(5,wH)],[],64,[]⟩)]
def z23(r0:(qdc fu).L 2):(qdc fu).L 0:=Fx.jm (qrj fu r0.f) [r0.s]
def z2z(r0:(qdc fu).L 2):(qdc fu).L 1:=Fx.jm (qaa fu r0.f) [(z23 fu r0).s]
def z2y:Nat->(qdc fu).L 2:=Fx.lq (z8 fu) (qri fu) (fun r0=>[(z2z fu r0).s])
def z24:=(qdc fu).fi (qrh fu) [(z2y fu fu).s] Tryz.call92
def z28:IF:=⟨.fn 55,[.h wB,wS],[],_,RS.mk (.own 0) [(0,.row wB 23)]⟩
def il:Fx wG z28:=fx Tryz.f55 55 Tryz.func55 [zd3.p,(z24 fu).p] false [] ao [(ai [(0,63650),(1,31825),(2,7956),(1,3978),(0,3979),(1,497),(2,124),(1,62),(0,63)],⟨74,[(0,.h wB),(1,wS),(5,.own 32),(6,wH),(7,wH),(8,wH)],[(32,.row wB 23)],64,[]⟩),(ai [(0,254716),(0,254717),(0,127359),(1,497),(2,124),(1,62),(0,63)],⟨74,[(0,.h wB),(1,wS),(5,.own 32),(6,wH),(9,wH),(10,wH)],[(32,.row wB 23)],64,[]⟩),(ai [(0,509429),(0,63679),(1,497),(2,124),(1,62),(0,63)],⟨74,[(0,.h wB),(1,wS),(5,.own 32),(9,wH),(10,wH)],[(32,.row wB 23)],64,[]⟩),(ai [(0,8150859),(0,509429),(0,63679),(1,497),(2,124),(1,62),(0,63)],⟨74,[(0,.h wB),(1,wS),(5,.own 32),(6,wH),(9,wH),(10,wH),(11,wH)],[(32,.row wB 23)],64,[]⟩),(ai [(0,31838),(0,31839),(1,497),(2,124),(1,62),(0,63)],⟨74,[(0,.h wB),(1,wS),(5,.own 32),(6,wH),(7,wH),(8,wH),(9,wH)],[(32,.row wB 23)],64,[]⟩),(ai [(0,63649),(0,31825),(2,7956),(1,3978),(0,3979),(1,497),(2,124),(1,62),(0,63)],⟨74,[(0,.h wB),(1,wS),(5,.own 32),(6,wH),(7,wH),(8,wH),(26,.h .bool)],[(32,.row wB 23)],64,[]⟩),(ai [(0,63648),(0,63649),(0,31825),(2,7956),(1,3978),(0,3979),(1,497),(2,124),(1,62),(0,63)],⟨74,[(0,.h wB),(1,wS),(5,.own 32),(6,wH),(7,wH),(8,wH)],[(32,.row wB 23)],64,[]⟩),(ai [(0,992),(0,993),(0,497),(2,124),(1,62),(0,63)],⟨74,[(0,.h wB),(1,wS),(5,.own 32),(6,wH),(7,wH)],[(32,.row wB 23)],64,[]⟩)]
def z3c(r0:(il fu).L 7)(r1:(il fu).L 6):(il fu).L 0:=Fx.jm (qrd fu r0.f r1.f) [r1.s]
def zd5(r0:(il fu).L 7):(il fu).L 1:=Fx.jm (zy fu r0.f) [r0.s]
def zd4(r0:(il fu).L 7):(il fu).L 2:=Fx.jm (v7 fu r0.f) [(zd5 fu r0).s]
def z3e(r0:(il fu).L 7):(il fu).L 3:=Fx.jm (v8 fu r0.f) [(zd4 fu r0).s]
def z3d(r0:(il fu).L 7):(il fu).L 4:=Fx.jm (qex fu r0.f) [(z3e fu r0).s,(zd4 fu r0).s,(zd5 fu r0).s]
def z3b(r0:(il fu).L 7)(r1:(il fu).L 6):(il fu).L 5:=Fx.jm (qew fu r0.f r1.f) [(z3c fu r0 r1).s,(z3d fu r0).s]
def z3a(r0:(il fu).L 7):Nat->(il fu).L 6:=Fx.lq (qev fu r0.f) (qrc fu r0.f) (fun r1=>[(z3b fu r0 r1).s])
def z29:Nat->(il fu).L 7:=Fx.lq (tp fu) (qrb fu) (fun r0=>[(z3a fu r0 fu).s])
def z3f:=(il fu).fi (qra fu) [(z29 fu fu).s] Tryz.call55
def z3m:IF:=⟨.fn 140,[wS],[],_,RS.mk (wS) []⟩
def qph(fu:Nat):Fx wG z3m:=fx Tryz.f140 140 Tryz.func140 [] false [] ao [(ai [(0,3729),(0,1865),(1,466),(0,467),(2,58),(1,29),(0,15)],⟨32,[(0,wS),(3,wS),(4,wH),(20,.h .bool)],[],64,[]⟩),(ai [(0,464),(0,465),(0,233),(2,58),(1,29),(0,15)],⟨32,[(0,wS),(3,wS),(4,wH)],[],64,[]⟩)]
def z3o(r0:(qph fu).L 1):(qph fu).L 0:=Fx.jm (vy fu r0.f) [r0.s]
def z3n:Nat->(qph fu).L 1:=Fx.lq (vx fu) (qqn fu) (fun r0=>[(z3o fu r0).s])
def z3p:=(qph fu).fi (qjj fu) [(z3n fu fu).s] Tryz.call140
def z3u:IF:=⟨.fn 141,[.h .byte],[],_,RS.mk (wS) []⟩
def z3t:Fx wG z3u:=fx Tryz.f141 141 Tryz.func141 [] false [] ao []
def z3v:=z3t.fi qeg [] Tryz.call141
def z3w:IF:=⟨.fn 89,[.h wP],[],_,RS.mk (wS) []⟩
def pg:Fx wG z3w:=fx Tryz.f89 89 Tryz.func89 [(zdz fu).p,tf.p,(z3p fu).p,z3v.p,(q05 fu).p,(zdr fu).p] false [] ao [(ai [(0,979),(2,122),(1,61),(0,31)],⟨108,[(1,.ptr 32 0),(3,.h .bool),(4,wH)],[(32,.dat wP 108)],64,[]⟩),(ai [(0,32723),(2,4090),(1,2045),(0,1023)],⟨108,[(1,.ptr 32 0),(5,wS),(6,wS),(7,wH),(8,wH)],[(32,.dat wP 108)],64,[]⟩),(ai [(0,523559),(1,32722),(0,32723),(2,4090),(1,2045),(0,1023)],⟨108,[(1,.ptr 32 0),(5,wS),(6,wS),(7,wH),(8,wH),(9,wS)],[(32,.dat wP 108)],64,[]⟩),(ai [(0,1047116),(0,1047117),(0,523559),(1,32722),(0,32723),(2,4090),(1,2045),(0,1023)],⟨108,[(1,.ptr 32 0),(5,wS),(6,wS),(7,wH),(8,wH),(9,wS)],[(32,.dat wP 108)],64,[]⟩),(ai [(0,32720),(0,32721),(0,16361),(2,4090),(1,2045),(0,1023)],⟨108,[(1,.ptr 32 0),(5,wS),(6,wS),(7,wH),(8,wH)],[(32,.dat wP 108)],64,[]⟩),(ai [(0,976),(0,977),(0,489),(2,122),(1,61),(0,31)],⟨108,[(1,.ptr 32 0),(3,.h .bool),(4,wH)],[(32,.dat wP 108)],64,[]⟩)]
def z3y(r0:(pg fu).L 5):(pg fu).L 0:=Fx.jm (qd5 fu r0.f) [r0.s]
def z32(r2:(pg fu).L 4):(pg fu).L 1:=Fx.jm (qji fu r2.f) [r2.s]
def z31(r2:(pg fu).L 4):(pg fu).L 2:=Fx.jm (qd7 fu r2.f) [(z32 fu r2).s]
def z30(r2:(pg fu).L 4):(pg fu).L 3:=Fx.jm (qd6 fu r2.f) [(z31 fu r2).s]
def z3z:Nat->(pg fu).L 4:=Fx.lq (zp fu) (qqm fu) (fun r2=>[(z30 fu r2).s])
def z3x:Nat->(pg fu).L 5:=Fx.lq (qd4 fu) (qql fu) (fun r0=>[(z3y fu r0).s,(z3z fu fu).s])
def z33:=(pg fu).fi (qjh fu) [(z3x fu fu).s] Tryz.call89
def z4a:IF:=⟨.fn 52,[.h (.prod .str (.prod .str wL))],[],_,RS.mk (wS) []⟩
def zd7:Fx wG z4a:=fx Tryz.f52 52 Tryz.func52 [(z33 fu).p] false [] ao [(ai [(0,464),(0,465),(0,233),(2,58),(1,29),(0,15)],⟨27,[(1,.ptr 32 0),(3,wS),(4,wH)],[(32,.dat (.prod .str (.prod .str wL)) 62)],64,[]⟩)]
def z4b:Nat->(zd7 fu).L 0:=Fx.lq (qd2 fu) (qqj fu) (fun r0=>[r0.s])
def z4c:=(zd7 fu).fi (qjf fu) [(z4b fu fu).s] Tryz.call52
def z4d:IF:=⟨.fn 25,[.h wT,wH],[],_,RS.mk (wH) []⟩
def qir:Fx wG z4d:=fx Tryz.f25 25 Tryz.func25 [(zyu fu).p,(q1h fu).p,(q1i fu).p,(qda fu).p,(z2o fu).p,(z2u fu).p,(z3f fu).p,(z4c fu).p,(q02 fu).p] false [] ao [(ai [(0,7870),(0,7871),(0,31)],⟨104,[],[],64,[]⟩),(ai [(0,7869),(0,3935),(0,31)],⟨104,[(72,.h .bool)],[],64,[]⟩),(ai [(0,1966),(0,1967),(0,31)],⟨104,[(2,.ptr 32 0),(6,.ptr 33 0)],[(32,.dat wT 26),(33,.dat (.prod .str (.prod .str wL)) 62)],64,[]⟩),(ai [(0,1965),(0,983),(0,31)],⟨104,[(2,.ptr 32 0),(6,.ptr 33 0),(58,.h .bool)],[(32,.dat wT 26),(33,.dat (.prod .str (.prod .str wL)) 62)],64,[]⟩)]
def z4h:(qir fu).L 0:=Fx.jm (q2q fu) []
def z4g:(qir fu).L 1:=Fx.jm (qez fu) [(z4h fu).s]
def z4f:(qir fu).L 2:=Fx.jm (qrk fu) [(z4g fu).s]
def z4e:(qir fu).L 3:=Fx.jm (np fu) [(z4f fu).s]
def z4i:=(qir fu).fi (qjv fu) [(z4e fu).s] Tryz.call25
def z4n:IF:=⟨.fn 10,[.h wT],[],_,RS.mk (.h (.prod wI wI)) []⟩
def q1m:Fx wG z4n:=fx Tryz.f10 10 Tryz.func10 [(zdf fu).p,qih.p,(z4i fu).p] false [] ao [(ai [(0,2000),(0,2001),(0,1001),(2,250),(1,125),(0,63)],⟨50,[(2,.ptr 32 0),(3,.h (.list wT)),(4,.h (.list wI)),(6,wH)],[(32,.dat (.prod wI wI) 29)],64,[]⟩),(ai [(0,976),(0,977),(0,489),(2,122),(1,61),(0,31)],⟨50,[(2,.ptr 32 0),(3,.h (.list wT)),(4,.h (.list wI)),(5,wH)],[(32,.dat (.prod wI wI) 29)],64,[]⟩)]
def z4p:Nat->(q1m fu).L 0:=Fx.lq (qe1 fu) (qrm fu) (fun r1=>[r1.s])
def z4o:Nat->(q1m fu).L 1:=Fx.lq (qe0 fu) (qrl fu) (fun r0=>[r0.s,(z4p fu fu).s])
def z4q:=(q1m fu).fi (qjw fu) [(z4o fu fu).s] Tryz.call10
def z4r:IF:=⟨.fn 12,[.h wT],[],_,RS.mk (.own 0) [(0,.row .str 9)]⟩
def je:Fx wG z4r:=fx Tryz.f12 12 Tryz.func12 [(zdf fu).p,(q02 fu).p,(q1h fu).p,(q1i fu).p,(zdx fu).p,(zd1 fu).p] false [] ao [(ai [(0,2003923),(2,250490),(1,125245),(0,62623),(1,978),(0,979),(2,122),(1,61),(0,31)],⟨100,[(3,.h (.list wT)),(5,.own 32),(6,wH),(7,.own 33),(8,wS),(9,.h .bool),(10,wH)],[(32,.row .str 9),(33,.row .str 9)],64,[]⟩),(ai [(0,16031379),(1,2003922),(0,2003923),(2,250490),(1,125245),(0,62623),(1,978),(0,979),(2,122),(1,61),(0,31)],⟨100,[(3,.h (.list wT)),(5,.own 32),(6,wH),(7,.own 33),(8,wS),(9,.h .bool),(10,wH),(11,.ptr 34 0),(72,.h .bool)],[(32,.row .str 9),(33,.row .str 9),(34,.dat (.prod .str (.prod .str wL)) 62)],64,[]⟩),(ai [(0,8015688),(0,8015689),(1,2003922),(0,2003923),(2,250490),(1,125245),(0,62623),(1,978),(0,979),(2,122),(1,61),(0,31)],⟨100,[(3,.h (.list wT)),(5,.own 33),(6,wH),(7,.own 32),(8,wS),(9,.h .bool),(10,wH)],[(32,.row .str 9),(33,.row .str 9)],64,[]⟩),(ai [(0,2003921),(0,1001961),(2,250490),(1,125245),(0,62623),(1,978),(0,979),(2,122),(1,61),(0,31)],⟨100,[(3,.h (.list wT)),(5,.own 33),(6,wH),(7,.own 32),(8,wS),(9,.h .bool),(10,wH),(46,.h .bool)],[(32,.row .str 9),(33,.row .str 9)],64,[]⟩),(ai [(0,2003920),(0,2003921),(0,1001961),(2,250490),(1,125245),(0,62623),(1,978),(0,979),(2,122),(1,61),(0,31)],⟨100,[(3,.h (.list wT)),(5,.own 33),(6,wH),(7,.own 32),(8,wS),(9,.h .bool),(10,wH)],[(32,.row .str 9),(33,.row .str 9)],64,[]⟩),(ai [(0,976),(0,977),(0,489),(2,122),(1,61),(0,31)],⟨100,[(3,.h (.list wT)),(5,.own 32),(6,wH)],[(32,.row .str 9)],64,[]⟩)]
def z4x(r0:(je fu).L 5)(r1:(je fu).L 4):(je fu).L 0:=Fx.jm (z6 fu r0.f r1.f) [r1.s]
def z4w(r0:(je fu).L 5)(r1:(je fu).L 4):(je fu).L 1:=Fx.jm (wd fu r0.f r1.f) [(z4x fu r0 r1).s]
def z4v(r0:(je fu).L 5)(r1:(je fu).L 4):(je fu).L 2:=Fx.jm (qrf fu r0.f r1.f) [(z4w fu r0 r1).s]
def z4u(r0:(je fu).L 5)(r1:(je fu).L 4):(je fu).L 3:=Fx.jm (tu fu r0.f r1.f) [(z4v fu r0 r1).s,r0.s]
def z4t(r0:(je fu).L 5):Nat->(je fu).L 4:=Fx.lq (tr fu r0.f) (qjs fu r0.f) (fun r1=>[(z4u fu r0 r1).s])
def z4s:Nat->(je fu).L 5:=Fx.lq (zz fu) (qre fu) (fun r0=>[r0.s,(z4t fu r0 fu).s])
def z4y:=(je fu).fi (qjr fu) [(z4s fu fu).s] Tryz.call12
def zd8:IF:=⟨.fn 4,[.h wT],[],_,RS.mk (.h .bool) []⟩
def z43:Fx wG zd8:=fx Tryz.f4 4 Tryz.func4 [(zxe fu).p,(zdb fu).p,(z4q fu).p,(z4y fu).p,(zdd fu).p] false [] ao []
def z44:=(z43 fu).fi (qac fu) [] Tryz.call4
def ze7:(zd8.e (qac fu)).Sound wG:=(z44 fu).h
end
end
end Go.Sym
