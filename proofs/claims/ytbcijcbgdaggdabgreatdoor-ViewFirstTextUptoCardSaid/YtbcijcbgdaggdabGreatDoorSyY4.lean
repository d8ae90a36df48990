/- What the claim rests on, part 4: gathered texts. -/
import Derived.Shelf.LaysC
import Derived.Shelf.LaysM
import Derived.Shelf.SlGeneric
import Derived.Shelf.SlLaysF0
import Derived.Ground.NamesProg
import Derived.Test.YtbcijcbgdaggdabGreatDoorProg
import Derived.Below
import Derived.Tactics
import Derived.Tactics2
import Derived.Laws.AppendOwn
import Derived.Shelf.Strconv.Itoa4
import Derived.Shelf.Bytes.SlIndexWhole
import Derived.Shelf.Strconv.AtoiAll
import Derived.Shelf.Strconv.ErrVarAll
import Derived.Shelf.SlicesE.Clone
import Derived.Shelf.SlSortCmp.NoneTotal
import Derived.Shelf.Strings.BuilderCap
import Derived.Shelf.Unicode.DecodeAny
import Derived.Laws.DeepStrings4
import Derived.Deep.LoopGhost
import Derived.Deep.DeepCutAuto
import Derived.Deep.DeepFit
import Derived.Deep.DeepMust
import Derived.Shelf.Unicode.ValidAny
import Derived.Shelf.Strings.Count
import Derived.Deep.OwnRows
import Derived.Laws.CopyRow
import Derived.Laws.IdiomStrings
import Derived.Laws.CopyOwn
import Derived.Lib.SlBytesConst
import Derived.Test.YtbcijcbgdaggdabGreatDoorRows
import Derived.Defers
import Derived.Laws.Pointers
import Derived.Laws.LoneSync
import Derived.RegionTactic
import Derived.RegionCalls
import Derived.ChangeAlike
import Derived.Laws.NewBlocks
import Derived.Laws.ByValue
import Derived.Shelf.Strings.Replace
import Derived.Shelf.Strings.BuilderK
import Derived.Shelf.Strings.OnBuilder
import Derived.Test.YtbcijcbgdaggdabGreatDoorSyY3
set_option maxRecDepth 100000
set_option linter.defProp false
set_option linter.unusedSimpArgs false
set_option linter.unusedVariables false
namespace Go.Proofs
open Go.Shelf
def Tryz.lfn{α:Type}{a:Option α}{b c:α}(h:a=some b)(e:b=c:=by kernel_rfl):a=some c:=h.trans (congrArg some e)
def Tryz.uniR:Go.Shelf.Ren:=⟨fun|115=>230|129=>272|138=>116|143=>118|154=>75|155=>40|165=>117|166=>42|167=>45|169=>46|171=>193|172=>81|185=>196|187=>229|195=>159|196=>108|197=>119|205=>210|217=>76|218=>160|219=>162|224=>204|225=>203|240=>77|241=>161|243=>228|244=>127|245=>128|246=>255|247=>168|253=>231|254=>232|255=>256|259=>153|260=>163|266=>120|267=>205|270=>250|276=>121|277=>202|279=>169|280=>170|281=>171|282=>172|283=>281|284=>282|285=>283|286=>284|287=>208|291=>257|314=>243|316=>209|317=>299|318=>300|319=>301|320=>302|321=>245|322=>246|337=>315|338=>316|n=>n,fun|0=>0|2=>2|3=>3|4=>4|5=>5|9=>9|12=>12|20=>20|21=>21|37=>23|46=>197|51=>200|53=>186|70=>81|72=>83|75=>86|76=>87|80=>91|85=>204|105=>158|119=>193|127=>129|138=>195|139=>196|143=>268|145=>270|146=>265|164=>160|167=>203|168=>206|171=>312|173=>314|175=>229|210=>232|212=>338|213=>339|232=>354|233=>355|n=>n,fun|1=>2|3=>0|4=>1|15=>3|16=>4|17=>5|18=>6|19=>7|n=>n⟩
abbrev Tryz.laysM171_ren:Go.Shelf.Ren:=Tryz.uniR
def Tryz.laysM171:Go.Proofs.LaysM.n171 Tryz.prog Tryz.laysM171_ren:={
 mixed:=by kernel_rfl
 f129:=Tryz.lfn Tryz.func272
 f171:=Tryz.lfn Tryz.func193
 f243:=Tryz.lfn Tryz.func228
 f246:=Tryz.lfn Tryz.func255
 f283:=Tryz.lfn Tryz.func281
 f284:=Tryz.lfn Tryz.func282
 f285:=Tryz.lfn Tryz.func283
 f286:=Tryz.lfn Tryz.func284
 f317:=Tryz.lfn Tryz.func299
 f318:=Tryz.lfn Tryz.func300
 f319:=Tryz.lfn Tryz.func301
 f320:=Tryz.lfn Tryz.func302
 f337:=Tryz.lfn Tryz.func315
 f338:=Tryz.lfn Tryz.func316
 t0:=Tryz.underlying0
 a0:=Tryz.isAgg0
 z0:=Tryz.sizeOf0
 v0:=Tryz.zeroValue0
 t2:=Tryz.underlying2
 a2:=Tryz.isAgg2
 z2:=Tryz.sizeOf2
 v2:=Tryz.zeroValue2
 t3:=Tryz.underlying3
 a3:=Tryz.isAgg3
 z3:=Tryz.sizeOf3
 v3:=Tryz.zeroValue3
 t4:=Tryz.underlying4
 a4:=Tryz.isAgg4
 z4:=Tryz.sizeOf4
 v4:=Tryz.zeroValue4
 t5:=Tryz.underlying5
 a5:=Tryz.isAgg5
 z5:=Tryz.sizeOf5
 v5:=Tryz.zeroValue5
 t9:=Tryz.underlying9
 a9:=Tryz.isAgg9
 z9:=Tryz.sizeOf9
 v9:=Tryz.zeroValue9
 t20:=Tryz.underlying20
 a20:=Tryz.isAgg20
 z20:=Tryz.sizeOf20
 v20:=Tryz.zeroValue20
 t37:=Tryz.underlying23
 a37:=Tryz.isAgg23
 z37:=Tryz.sizeOf23
 v37:=Tryz.zeroValue23
 t46:=Tryz.underlying197
 a46:=Tryz.isAgg197
 z46:=Tryz.sizeOf197
 v46:=Tryz.zeroValue197
 t51:=Tryz.underlying200
 a51:=Tryz.isAgg200
 z51:=Tryz.sizeOf200
 v51:=Tryz.zeroValue200
 t53:=Tryz.underlying186
 a53:=Tryz.isAgg186
 z53:=Tryz.sizeOf186
 v53:=Tryz.zeroValue186
 t171:=Tryz.underlying312
 a171:=Tryz.isAgg312
 z171:=Tryz.sizeOf312
 v171:=Tryz.zeroValue312
 t173:=Tryz.underlying314
 a173:=Tryz.isAgg314
 z173:=Tryz.sizeOf314
 v173:=Tryz.zeroValue314
 t212:=Tryz.underlying338
 a212:=Tryz.isAgg338
 z212:=Tryz.sizeOf338
 v212:=Tryz.zeroValue338
 t213:=Tryz.underlying339
 a213:=Tryz.isAgg339
 z213:=Tryz.sizeOf339
 t232:=Tryz.underlying354
 a232:=Tryz.isAgg354
 z232:=Tryz.sizeOf354
 v232:=Tryz.zeroValue354
 t233:=Tryz.underlying355
 a233:=Tryz.isAgg355
 z233:=Tryz.sizeOf355
 v233:=Tryz.zeroValue355
 g17:=by kernel_rfl
 g18:=by kernel_rfl
 g19:=by kernel_rfl
 i0:=by kernel_rfl
 i2:=by kernel_rfl
 i3:=by kernel_rfl
 i4:=by kernel_rfl
 i5:=by kernel_rfl
 i9:=by kernel_rfl
 i20:=by kernel_rfl
 i37:=by kernel_rfl
 i46:=by kernel_rfl
 i51:=by kernel_rfl
 i53:=by kernel_rfl
 i171:=by kernel_rfl
 i173:=by kernel_rfl
 i212:=by kernel_rfl
 i232:=by kernel_rfl
 i233:=by kernel_rfl
 m17:=by kernel_rfl
 m18:=by kernel_rfl
 m19:=by kernel_rfl }
abbrev Tryz.laysC172_ren:Go.Shelf.Ren:=Tryz.uniR
def Tryz.laysC172:Go.Proofs.LaysC.n172 Tryz.prog Tryz.laysC172_ren:={ Tryz.laysM171 with
 f172:=Tryz.lfn Tryz.func81
 f205:=Tryz.lfn Tryz.func210
 f244:=Tryz.lfn Tryz.func127
 f245:=Tryz.lfn Tryz.func128
 f247:=Tryz.lfn Tryz.func168
 f279:=Tryz.lfn Tryz.func169
 f280:=Tryz.lfn Tryz.func170
 f281:=Tryz.lfn Tryz.func171
 f282:=Tryz.lfn Tryz.func172
 f287:=Tryz.lfn Tryz.func208
 f316:=Tryz.lfn Tryz.func209
 f321:=Tryz.lfn Tryz.func245
 f322:=Tryz.lfn Tryz.func246
 t21:=Tryz.underlying21
 a21:=Tryz.isAgg21
 z21:=Tryz.sizeOf21
 v21:=Tryz.zeroValue21
 t75:=Tryz.underlying86
 a75:=Tryz.isAgg86
 z75:=Tryz.sizeOf86
 v75:=Tryz.zeroValue86
 t76:=Tryz.underlying87
 a76:=Tryz.isAgg87
 z76:=Tryz.sizeOf87
 v76:=Tryz.zeroValue87
 t85:=Tryz.underlying204
 a85:=Tryz.isAgg204
 z85:=Tryz.sizeOf204
 v85:=Tryz.zeroValue204
 t127:=Tryz.underlying129
 a127:=Tryz.isAgg129
 z127:=Tryz.sizeOf129
 v127:=Tryz.zeroValue129
 t143:=Tryz.underlying268
 a143:=Tryz.isAgg268
 z143:=Tryz.sizeOf268
 v143:=Tryz.zeroValue268
 t145:=Tryz.underlying270
 a145:=Tryz.isAgg270
 z145:=Tryz.sizeOf270
 v145:=Tryz.zeroValue270
 t167:=Tryz.underlying203
 a167:=Tryz.isAgg203
 z167:=Tryz.sizeOf203
 v167:=Tryz.zeroValue203
 t168:=Tryz.underlying206
 a168:=Tryz.isAgg206
 z168:=Tryz.sizeOf206
 v168:=Tryz.zeroValue206
 t175:=Tryz.underlying229
 a175:=Tryz.isAgg229
 z175:=Tryz.sizeOf229
 v175:=Tryz.zeroValue229
 t210:=Tryz.underlying232
 a210:=Tryz.isAgg232
 z210:=Tryz.sizeOf232
 v210:=Tryz.zeroValue232
 g15:=by kernel_rfl
 g16:=by kernel_rfl
 t80:=Tryz.underlying91
 a80:=Tryz.isAgg91
 z80:=Tryz.sizeOf91
 v80:=Tryz.zeroValue91
 i21:=by kernel_rfl
 i75:=by kernel_rfl
 i76:=by kernel_rfl
 i80:=by kernel_rfl
 i85:=by kernel_rfl
 i127:=by kernel_rfl
 i143:=by kernel_rfl
 i145:=by kernel_rfl
 i167:=by kernel_rfl
 i168:=by kernel_rfl
 i175:=by kernel_rfl
 i210:=by kernel_rfl
 m15:=by kernel_rfl
 m16:=by kernel_rfl
 c0:=by kernel_rfl
 c2:=by kernel_rfl
 c3:=by kernel_rfl
 c4:=by kernel_rfl
 c5:=by kernel_rfl
 c9:=by kernel_rfl
 c20:=by kernel_rfl
 c21:=by kernel_rfl
 c37:=by kernel_rfl
 c46:=by kernel_rfl
 c51:=by kernel_rfl
 c53:=by kernel_rfl
 c75:=by kernel_rfl
 c76:=by kernel_rfl
 c80:=by kernel_rfl
 c85:=by kernel_rfl
 c127:=by kernel_rfl
 c143:=by kernel_rfl
 c145:=by kernel_rfl
 c167:=by kernel_rfl
 c168:=by kernel_rfl
 c171:=by kernel_rfl
 c173:=by kernel_rfl
 c175:=by kernel_rfl
 c210:=by kernel_rfl
 c212:=by kernel_rfl
 c213:=by kernel_rfl
 c232:=by kernel_rfl
 c233:=by kernel_rfl }
abbrev Tryz.lays185_ren:Go.Shelf.Ren:=Tryz.uniR
def Tryz.lays185:Go.Proofs.Lays.n185 Tryz.prog Tryz.lays185_ren:={ Tryz.laysM171 with
 f115:=Tryz.lfn Tryz.func230
 f185:=Tryz.lfn Tryz.func196
 f187:=Tryz.lfn Tryz.func229
 f224:=Tryz.lfn Tryz.func204
 f253:=Tryz.lfn Tryz.func231
 f254:=Tryz.lfn Tryz.func232
 f255:=Tryz.lfn Tryz.func256
 f291:=Tryz.lfn Tryz.func257
 t146:=Tryz.underlying265
 a146:=Tryz.isAgg265
 z146:=Tryz.sizeOf265
 v146:=Tryz.zeroValue265
 g1:=by kernel_rfl }
abbrev Tryz.lays138_ren:Go.Shelf.Ren:=Tryz.uniR
def Tryz.lays138:Go.Proofs.Lays.n138 Tryz.prog Tryz.lays138_ren:={ Tryz.laysM171,Tryz.lays185 with
 f138:=Tryz.lfn Tryz.func116
 f143:=Tryz.lfn Tryz.func118
 f195:=Tryz.lfn Tryz.func159
 f217:=Tryz.lfn Tryz.func76
 f218:=Tryz.lfn Tryz.func160
 f219:=Tryz.lfn Tryz.func162
 f225:=Tryz.lfn Tryz.func203
 f266:=Tryz.lfn Tryz.func120
 f267:=Tryz.lfn Tryz.func205
 f314:=Tryz.lfn Tryz.func243 }
abbrev Tryz.lays165_ren:Go.Shelf.Ren:=Tryz.uniR
def Tryz.lays165:Go.Proofs.Lays.n165 Tryz.prog Tryz.lays165_ren:={ Tryz.laysM171 with
 f165:=Tryz.lfn Tryz.func117
 f240:=Tryz.lfn Tryz.func77
 f241:=Tryz.lfn Tryz.func161
 f276:=Tryz.lfn Tryz.func121
 f277:=Tryz.lfn Tryz.func202
 t70:=Tryz.underlying81
 a70:=Tryz.isAgg81
 z70:=Tryz.sizeOf81
 v70:=Tryz.zeroValue81
 t72:=Tryz.underlying83
 a72:=Tryz.isAgg83
 z72:=Tryz.sizeOf83
 v72:=Tryz.zeroValue83
 t164:=Tryz.underlying160
 a164:=Tryz.isAgg160
 z164:=Tryz.sizeOf160
 v164:=Tryz.zeroValue160 }
abbrev Tryz.lays169_ren:Go.Shelf.Ren:=Tryz.uniR
def Tryz.lays169:Go.Proofs.Lays.n169 Tryz.prog Tryz.lays169_ren:={ Tryz.laysM171,Tryz.lays165,Tryz.laysC172 with
 f169:=Tryz.lfn Tryz.func46 }
abbrev Tryz.lays196_ren:Go.Shelf.Ren:=Tryz.uniR
def Tryz.lays196:Go.Proofs.Lays.n196 Tryz.prog Tryz.lays196_ren:={ Tryz.laysM171 with
 f196:=Tryz.lfn Tryz.func108
 f259:=Tryz.lfn Tryz.func153
 t12:=Tryz.underlying12
 a12:=Tryz.isAgg12
 z12:=Tryz.sizeOf12
 v12:=Tryz.zeroValue12
 t119:=Tryz.underlying193
 a119:=Tryz.isAgg193
 z119:=Tryz.sizeOf193
 t138:=Tryz.underlying195
 a138:=Tryz.isAgg195
 z138:=Tryz.sizeOf195
 v138:=Tryz.zeroValue195
 t139:=Tryz.underlying196
 a139:=Tryz.isAgg196
 z139:=Tryz.sizeOf196
 v139:=Tryz.zeroValue196
 g3:=by kernel_rfl
 g4:=by kernel_rfl }
abbrev Tryz.lays197_ren:Go.Shelf.Ren:=Tryz.uniR
def Tryz.lays197:Go.Proofs.Lays.n197 Tryz.prog Tryz.lays197_ren:={ Tryz.laysM171,Tryz.laysC172,Tryz.lays196 with
 f197:=Tryz.lfn Tryz.func119
 f260:=Tryz.lfn Tryz.func163
 t105:=Tryz.underlying158
 a105:=Tryz.isAgg158
 z105:=Tryz.sizeOf158
 v105:=Tryz.zeroValue158 }
abbrev Tryz.lays155_ren:Go.Shelf.Ren:=Tryz.uniR
def Tryz.lays155:Go.Proofs.Lays.n155 Tryz.prog Tryz.lays155_ren:={ Tryz.laysM171,Tryz.lays138,Tryz.lays165,Tryz.lays169,Tryz.lays197,Tryz.lays185,Tryz.laysC172,Tryz.lays196 with
 f154:=Tryz.lfn Tryz.func75
 f155:=Tryz.lfn Tryz.func40
 f166:=Tryz.lfn Tryz.func42 }
def Tryz.sortP_ren:Go.Shelf.Ren:=⟨fun|6=>220|15=>248|14=>247|28=>271|29=>272|20=>263|21=>264|22=>265|23=>266|24=>267|25=>268|26=>269|27=>270|46=>288|47=>289|48=>290|49=>291|50=>292|57=>304|n=>n,fun|22=>176|24=>178|25=>237|3=>3|39=>197|0=>0|53=>200|55=>186|4=>4|46=>289|45=>288|50=>213|5=>5|9=>9|66=>317|70=>321|76=>340|77=>143|n=>n,fun|n=>n⟩
def Tryz.sortP:Go.Proofs.SlLaysF0.n6 Tryz.prog Tryz.sortP_ren:={
 mixed:=by kernel_rfl
 f6:=⟨Tryz.f220.name,by decide,Tryz.lfn Tryz.func220⟩
 f14:=⟨Tryz.f247.name,by decide,Tryz.lfn Tryz.func247⟩
 f15:=Tryz.lfn Tryz.func248
 f20:=⟨Tryz.f263.name,by decide,Tryz.lfn Tryz.func263⟩
 f21:=⟨Tryz.f264.name,by decide,Tryz.lfn Tryz.func264⟩
 f22:=⟨Tryz.f265.name,by decide,Tryz.lfn Tryz.func265⟩
 f23:=⟨Tryz.f266.name,by decide,Tryz.lfn Tryz.func266⟩
 f24:=⟨Tryz.f267.name,by decide,Tryz.lfn Tryz.func267⟩
 f25:=⟨Tryz.f268.name,by decide,Tryz.lfn Tryz.func268⟩
 f26:=⟨Tryz.f269.name,by decide,Tryz.lfn Tryz.func269⟩
 f27:=⟨Tryz.f270.name,by decide,Tryz.lfn Tryz.func270⟩
 f28:=Tryz.lfn Tryz.func271
 f29:=Tryz.lfn Tryz.func272
 f46:=⟨Tryz.f288.name,by decide,Tryz.lfn Tryz.func288⟩
 f47:=Tryz.lfn Tryz.func289
 f48:=Tryz.lfn Tryz.func290
 f49:=⟨Tryz.f291.name,by decide,Tryz.lfn Tryz.func291⟩
 f50:=⟨Tryz.f292.name,by decide,Tryz.lfn Tryz.func292⟩
 f57:=⟨Tryz.f304.name,by decide,Tryz.lfn Tryz.func304⟩
 t0:=Tryz.underlying0
 a0:=Tryz.isAgg0
 z0:=Tryz.sizeOf0
 v0:=Tryz.zeroValue0
 t3:=Tryz.underlying3
 a3:=Tryz.isAgg3
 z3:=Tryz.sizeOf3
 v3:=Tryz.zeroValue3
 t4:=Tryz.underlying4
 a4:=Tryz.isAgg4
 z4:=Tryz.sizeOf4
 v4:=Tryz.zeroValue4
 t5:=Tryz.underlying5
 a5:=Tryz.isAgg5
 z5:=Tryz.sizeOf5
 v5:=Tryz.zeroValue5
 t9:=Tryz.underlying9
 a9:=Tryz.isAgg9
 z9:=Tryz.sizeOf9
 v9:=Tryz.zeroValue9
 t22:=Tryz.underlying176
 a22:=Tryz.isAgg176
 z22:=Tryz.sizeOf176
 v22:=Tryz.zeroValue176
 t25:=Tryz.underlying237
 a25:=Tryz.isAgg237
 z25:=Tryz.sizeOf237
 v25:=Tryz.zeroValue237
 t39:=Tryz.underlying197
 a39:=Tryz.isAgg197
 z39:=Tryz.sizeOf197
 v39:=Tryz.zeroValue197
 t45:=Tryz.underlying288
 a45:=Tryz.isAgg288
 z45:=Tryz.sizeOf288
 v45:=Tryz.zeroValue288
 t46:=Tryz.underlying289
 a46:=Tryz.isAgg289
 z46:=Tryz.sizeOf289
 v46:=Tryz.zeroValue289
 t50:=Tryz.underlying213
 a50:=Tryz.isAgg213
 z50:=Tryz.sizeOf213
 v50:=Tryz.zeroValue213
 t53:=Tryz.underlying200
 a53:=Tryz.isAgg200
 z53:=Tryz.sizeOf200
 v53:=Tryz.zeroValue200
 t55:=Tryz.underlying186
 a55:=Tryz.isAgg186
 z55:=Tryz.sizeOf186
 v55:=Tryz.zeroValue186
 t66:=Tryz.underlying317
 a66:=Tryz.isAgg317
 z66:=Tryz.sizeOf317
 v66:=Tryz.zeroValue317
 t70:=Tryz.underlying321
 a70:=Tryz.isAgg321
 z70:=Tryz.sizeOf321
 v70:=Tryz.zeroValue321
 t76:=Tryz.underlying340
 a76:=Tryz.isAgg340
 z76:=Tryz.sizeOf340
 v76:=Tryz.zeroValue340
 t77:=Tryz.underlying143
 a77:=Tryz.isAgg143
 z77:=Tryz.sizeOf143
 v77:=Tryz.zeroValue143 }
end Go.Proofs
namespace Go.Sym
open Go.RowKit
variable[LC]
def db.data{P:Program}{f:FuncId}{xs:List AV}{r:AV}
  (h:∀(w:World)(G:Gh)(vs:List Value),b9 G [] w->aj xs G vs->Calls P f vs.toArray w fun e w'=>∃v,e = .returned v/\ah r G v/\bq w w'):db P f xs [] r []:=by
 intro w G vs hm hr;refine(h w G vs hm hr).mono ?_;rintro e w' ⟨v,rfl,hv,hs⟩
 refine⟨v,G,rfl,?_,hv⟩;exact(yc hm).extend (new:=[]) (Gh.le.refl G) hs (fun _ _ _ h => .inl h) (fun b o v hv=>by
  have hc:=hm.agree b o v hv;have hlt:=World.block_lt_of_cell? _ _ hc;rw[World.cell?_of_block (w:=w) (hs.block b hlt (fun h=>h))];exact hc) hm.one (fun n bx h=>by cases h) (fun n bx h=>by cases h) (fun n m bx bx' b h=>by cases h)
def bq.of_below{w w':World}(h:Below w.heap.size w w'):bq w w':=⟨h.os,h.tape,h.output,h.size,fun k hk _=>h.block k hk⟩
def bq.refl(w:World):bq w w:=⟨rfl,rfl,rfl,wF _,fun _ _ _=>rfl⟩
def db.fresh{P:Program}{f:FuncId}{xs:List AV}{τ:Ty}{l:List τ.den}{E:TypeId}
  (h:∀(w:World)(G:Gh)(vs:List Value),b9 G [] w->aj xs G vs->Calls P f vs.toArray w fun e w'=>∃ad c us,e = .returned (.slice ad l.length c)/\fq w' E τ.sz ad l.length c us/\aj (l.flatMap τ.enc) G.data us/\(∀b,cn ad=some b->w.heap.size<=b)/\bq w w') :
  db P f xs [] (.own 0) [(0,.row τ l E)]:=by
 intro w G vs hm hr;refine(h w G vs hm hr).mono ?_;rintro e w' ⟨ad,c,us,rfl,hrow,hus,hb,hs⟩
 let G':Gh:={ imm:=G.imm,box:=fun _=>none,own:=fun m=>bif Nat.beq m 0 then some (ad,l.length,c) else none }
 have hself:(G'.own 0)=some (ad,l.length,c):=rfl;have hag:∀b o v,G.imm b o=some v->w'.cell? ⟨b,o,none⟩=some v:=fun b o v hv=>by
  have hc:=hm.agree b o v hv;have hlt:=World.block_lt_of_cell? _ _ hc;rw[World.cell?_of_block (w:=w) (hs.block b hlt (fun h=>h))];exact hc
 have hlt:∀b o v,G.imm b o=some v->b<w.heap.size:=fun b o v hv=>World.block_lt_of_cell? _ _ (hm.agree b o v hv)
 have hlk:∀m b,ae [(0,ag.row τ l E)] m=some b->m=0/\b = .row τ l E:=fun m b hh=>by
  simp only[ae]at hh;cases hb:Nat.beq 0 m
  ·rw[hb]at hh;cases hh
  ·rw[hb]at hh;simp only[qT,qI]at hh;exact⟨(qN hb).symm,hh.symm⟩
 have hat:G'.at 0 (.row τ l E)=cn ad:=by
  simp only[Gh.at,hself];cases ad<;>rfl
 refine⟨.slice ad l.length c,G',rfl,⟨⟨hag,hm.one,fun m b hh => ?_,fun m m' b b' c' h1 h2 _ _ => ?_,LC.mono (fun _ _ _ h=>h) (fun b o v h=>hs.block b (hlt b o v h) fun h=>h) hm.tab⟩,⟨hs.os,hs.tape,hs.output,hs.size,fun k hk _=>hs.block k hk fun h=>h⟩,fun _ _ _ h=>h,fun _ _ _ h => .inl h,fun m b c' h1 h2 => ?_,fun _ _ _ h=>(by cases h),fun _ _ _ h=>(by cases h)⟩,ad,l.length,c,hself,rfl⟩
 ·obtain⟨rfl,rfl⟩:=hlk m b hh;refine cg.row hself hrow (aj.data_le (fun _ _ _ h=>h) hus) fun b hb' o => ?_
  cases hq:G.imm b o with|none=>rfl|some v=>have:=hlt b o v hq;have:=hb b hb';omega
 ·obtain⟨rfl,_⟩:=hlk m b h1;obtain⟨rfl,_⟩:=hlk m' b' h2;rfl
 ·obtain⟨rfl,rfl⟩:=hlk m b h1;rw[hat]at h2;exact .inl (hb c' h2)
end Go.Sym
namespace Go.Sym
open Go.Proofs Go.RowKit Go.Sort
open Go.Proofs.Tryz
variable[LC]
def bq.below{w w':World}(h:bq w w'):Below w.heap.size w w':=⟨h.os,h.tape,h.output,h.size,fun k hk=>h.block k hk (fun h=>h)⟩
def b9.still{G:Gh}{w w':World}(hm:b9 G [] w)(hs:bq w w'):b9 G [] w':=
 have hlt:∀b o v,G.imm b o=some v->w'.heap[b]? = w.heap[b]? := fun b o v hv=>hs.block b (World.block_lt_of_cell? _ _ (hm.agree b o v hv)) (fun h=>h)
 ⟨fun b o v hv=>by rw[World.cell?_of_block (w:=w) (hlt b o v hv)];exact hm.agree b o v hv,hm.one,fun n bx h=>(by cases h),fun n m bx bx' b h=>(by cases h),LC.mono (fun _ _ _ h=>h) hlt hm.tab⟩
def zhi{G:Gh}{w:World}(hm:b9 G [] w)(hg:LC.glob 5=some ⟨.int .u64,Lib.pow10Tab⟩)(hs:(5,20)∈LC.sizes):∃t fr,w.heap[5]? = some (.cells (Lib.pow10Tab.map fun z=>Value.int .u64 z).toArray t fr):=by
 obtain⟨_,cs,t,fr,hh,hz⟩:=hm.tab.2.2.2 _ hs;refine⟨t,fr,hh.trans ?_⟩;congr 2;apply Array.ext
 ·rw[hz];simp[Lib.pow10Tab]
 ·intro j h1 h2;have hj:j<Lib.pow10Tab.length:=by simpa using h2
  have h3:=hm.agree _ _ _ (hm.tab.1 _ _ _ hg j _ (List.getElem?_eq_getElem hj));rw[show j*(Ty.int .u64).sz=j from Nat.mul_one j]at h3
  simp only[World.cell?,hh]at h3;rw[Array.getElem?_eq_getElem h1]at h3;simp only[List.getElem_toArray,List.getElem_map];exact qJ h3
def q3a{G:Gh}{w:World}(hm:b9 G [] w)(hg:LC.glob 5=some ⟨.int .u64,Lib.pow10Tab⟩)(hs:(5,20)∈LC.sizes)(n:Int)(h0 : -9223372036854775808<=n)(h1:n<=9223372036854775807) :
  Calls Tryz.prog 193 #[.int .i64 n] w fun e w'=>e = .returned (.string ⟨(Lib.itoa n).toArray⟩)/\bq w w':=
 (Any.strconv_Itoa Tryz.laysM171 n h0 h1 w (by
  unfold Lib.TabIs World.var?;obtain⟨t,fr,hh⟩:=zhi hm hg hs;rw[show Tryz.prog.globalNamed _=some 5 by kernel_rfl,qB,hh])).mono fun e w'⟨he,k,os,hw⟩=>⟨he,by
   subst hw;refine⟨rfl,rfl,rfl,by simp[grow],fun j hj _ => ?_⟩
   show(w.heap++os)[j]? = _;rw[Array.getElem?_append_left hj]⟩
def q29:IF:=⟨.fn 193,[.h (.int .i64)],[],_,RS.mk (.h .str) []⟩
def zfj(hg:LC.glob 5=some ⟨.int .u64,Lib.pow10Tab⟩)(hs:(5,20)∈LC.sizes):(q29.e uc).Sound Tryz.prog:=fun d d' r h=>by
 have h:uc d.1=some r:=h;unfold uc at h;cases hd:decide (-9223372036854775808<=(show Int from d.1)/\(show Int from d.1)<=9223372036854775807)<;>rw[hd]at h<;>simp only[qT,qF,reduceCtorEq]at h
 have h:=qJ h;subst h;have hd:=of_decide_eq_true hd;refine⟨call193,db.data fun w G vs hm hr => ?_⟩
 match vs,hr with
 |[v],⟨h1,_⟩=>
  have h1:v = .int .i64 d.1:=h1;subst h1;exact(q3a hm hg hs _ hd.1 hd.2).mono fun e w'⟨he,hw⟩=>⟨_,he,rfl,hw⟩
def ze6{G:Gh}{w:World}(hm:b9 G [] w)(hi:2∈LC.ints){a b:Bs}{u v:Value}(hu:ah (.sl .byte a) G u)(hv:ah (.sl .byte b) G v)(h2:2<=b.length)(hb:b.length<=maxLen)(ha:a.length<4294967281) :
  Calls Tryz.prog 196 #[u,v] w fun e w'=>e = .returned (.int .i64 (Lib.index a b))/\bq w w':=by
 obtain⟨p,c,rfl,hc,hp⟩:il 1 (Ty.byte.At G.imm) a u:=hu;obtain⟨q,d,rfl,hd,hq⟩:il 1 (Ty.byte.At G.imm) b v:=hv;by_cases hlt:a.length<b.length
 ·have h:=Any.bytes_Index_longer Tryz.lays185 p q a.length c b.length d w h2 hlt (by unfold maxLen at hb;omega)
  rw[Lib.index_past (i:=0) (by intro e;subst e;simp at h2) (fun j hj=>absurd hj (Nat.not_lt_zero _)) (by simpa using hlt)]
  exact h.mono fun e w'⟨he,hw⟩=>⟨he,by subst hw;exact bq.refl _⟩
 ·rcases hp with rfl|⟨g,o,rfl,hcells⟩
  ·exact absurd (show([]:Bs).length<b.length from by show 0<_;omega) hlt
  rcases hq with rfl|⟨g',o',rfl,hcells'⟩
  ·exact absurd h2 (by show ¬2<=0;omega)
  obtain⟨k,hk⟩:=hm.tab.2.1 _ hi;have hk:=hm.agree _ _ _ hk;have bb:∀l:Bs,Lib.bytesOf (l.map fun x=>(x.toNat:Int))=l:=fun l=>by
   unfold Lib.bytesOf;rw[List.map_map];have:((fun n:Int=>UInt8.ofNat n.toNat) ∘ fun x:UInt8=>(x.toNat:Int))=id:=by funext x;simp
   rw[this,List.map_id]
  have cl:∀(l:Bs)(g o:Nat),(∀(j:Nat)(x:UInt8),l[j]? = some x->Ty.byte.At G.imm x g (o+j*1))->∀i,i<l.length->w.cell? ((⟨g,o,none⟩:Addr).add i)=some (.int .u8 ((l.map fun x=>(x.toNat:Int)).getD i 0)):=fun l g o h i hi=>by
   have h1:G.imm g (o+i*1)=some (.int .u8 l[i].toNat):=h i _ (List.getElem?_eq_getElem hi);have h1:=hm.agree _ _ _ h1;rw[Nat.mul_one]at h1;rw[Lib.add_plain',h1];simp[List.getD_eq_getElem?_getD,hi]
  have rg:∀l:Bs,∀x∈l.map (fun x=>(x.toNat:Int)),0<=x/\x<256:=fun l x hx=>by
   obtain⟨c,_,rfl⟩:=List.mem_map.1 hx;have:=c.toNat_lt;omega
  have h:=Any.bytes_Index_at Tryz.lays185 ⟨g,o,none⟩ ⟨g',o',none⟩ a.length c b.length d (a.map fun x=>(x.toNat:Int)) (b.map fun x=>(x.toNat:Int)) k w (by simp) (by simp) (rg a) (rg b) (cl a g o hcells) (cl b g' o' hcells') hc ha (by unfold maxLen at hb;omega) hk
  rw[bb,bb]at h;exact h.mono fun e w'⟨he,n,hw⟩=>⟨he,by subst hw;exact⟨rfl,rfl,rfl,wF _,fun _ _ _=>rfl⟩⟩
def q0q:IF:=⟨.fn 196,[.h (.list .byte),.h (.list .byte)],[],_,RS.mk (.h (.int .i64)) []⟩
def zck(hi:2∈LC.ints):(q0q.e tp).Sound Tryz.prog:=fun d d' r h=>by
 obtain⟨a,b,_⟩:=d;have h:tp a b=some r:=h;unfold tp at h;cases hd:decide (2<=List.length (α:=UInt8) b/\List.length (α:=UInt8) a<4294967281/\List.length (α:=UInt8) b<=maxLen)<;>rw[hd]at h<;>simp only[qT,qF,reduceCtorEq]at h
 have h:=qJ h;subst h;have hd:=of_decide_eq_true hd;refine⟨call196,db.data fun w G vs hm hr => ?_⟩
 match vs,hr with
 |[u,v],⟨h1,h2,_⟩=>
  exact(ze6 hm hi h1 h2 hd.1 hd.2.2 hd.2.1).mono fun e w'⟨he,hw⟩=>⟨_,he,rfl,hw⟩
end Go.Sym
namespace Go.Sym
open Go.Proofs Go.RowKit Go.Sort
variable[LC]
def bq.trans{w w1 w2:World}(h:bq w w1)(k:bq w1 w2):bq w w2:=
 ⟨k.os.trans h.os,k.tape.trans h.tape,k.output.trans h.output,Nat.le_trans h.size k.size,fun j hj _=>(k.block j (Nat.lt_of_lt_of_le hj h.size) (fun h=>h)).trans (h.block j hj (fun h=>h))⟩
def zb4{l:Bs}{v:Int}(h:Lib.atoiAll l = .ok v) : -9223372036854775808<=v/\v<=9223372036854775807:=by
 unfold Lib.atoiAll at h;split at h
 ·cases h
 ·simp only at h;split at h
  ·cases h
  ·cases h
  ·split at h
   ·cases h
   ·split at h
    ·cases h
    ·rename_i h1 h2;injection h with h
     split at h<;>rename_i h3
     ·simp only[h3,not_true_eq_false,false_and,true_and]at h1 h2;omega
     ·simp only[h3,not_false_eq_true,true_and,false_and]at h1 h2;omega
def zgo{G:Gh}{w:World}(hm:b9 G [] w)(hg:LC.glob 5=some ⟨.int .u64,Lib.pow10Tab⟩)(hs:(5,20)∈LC.sizes)(h1:3∈LC.ifs)(h2:4∈LC.ifs)(s:Bs)(most:Int)(hl:s.length<=281474976710656) :
  Calls Tryz.prog 179 #[.string ⟨s.toArray⟩,.int .i64 most] w fun e w'=>e = .returned (.tuple #[.int .i64 (kh s most).1,.bool (kh s most).2])/\bq w w':=by
 have hsz:(⟨s.toArray⟩:ByteArray).size=s.length:=gf s;have hd:(⟨s.toArray⟩:ByteArray).data.toList=s:=by simp
 have bw:∀t:ByteArray,bq w (Lib.bytesWorld w 5 t):=fun t=>by
  refine⟨rfl,rfl,rfl,?_,fun j hj _ => ?_⟩
  ·simp[Lib.bytesWorld,World.freeze]
  ·show((w.heap.push _).modify w.heap.size _)[j]? = _;rw[Array.getElem?_modify,qW (by omega),Array.getElem?_push_lt (by omega)]
   exact(Array.getElem?_eq_getElem hj).symm
 have bad:(Calls Tryz.prog 81 #[.string ⟨s.toArray⟩] w fun e w'=>(∃n t v,e = .returned (.tuple #[.int .i64 n,.iface t v]))/\bq w w') ->
   Calls Tryz.prog 179 #[.string ⟨s.toArray⟩,.int .i64 most] w fun e w'=>e = .returned (.tuple #[.int .i64 0,.bool false])/\bq w w':=fun cA=>by
  clear hg hs hm
  go_enter Tryz.func179,Tryz.ntmps179
  go_wp2_with (go_at_call 81;refine cA.mono ?_;rintro e wa ⟨⟨n,t,v,rfl⟩,sa⟩)
  all_goals (clear cA;go_ret2;exact⟨rfl,sa⟩)
 unfold kh
 cases hA:Lib.atoiAll s with
 |ok v=>
  obtain⟨b1,b2⟩:=zb4 hA;have cA:Calls Tryz.prog 81 #[.string ⟨s.toArray⟩] w fun e w'=>e = .returned (.tuple #[.int .i64 v,.nilIface])/\bq w w':=
   (Any.strconv_Atoi_ok Tryz.laysC172 ⟨s.toArray⟩ (by omega) v (by rw[hd];exact hA) w).mono fun e w'⟨he,hw⟩=>⟨he,by
    rcases hw with rfl|⟨t,rfl⟩
    ·exact bq.refl _
    ·exact bw t⟩
  have cI:∀w',bq w w'->Calls Tryz.prog 193 #[.int .i64 v] w' fun e w''=>e = .returned (.string ⟨(Lib.itoa v).toArray⟩)/\bq w' w'':=fun w' h=>q3a (hm.still h) hg hs v b1 b2
  have hse:(⟨(Lib.itoa v).toArray⟩:ByteArray)=⟨s.toArray⟩↔Lib.itoa v=s:=by
   constructor
   ·intro h;have:=congrArg (fun x:ByteArray=>x.data.toList) h;simpa using this
   ·intro h;rw[h]
  show Calls Tryz.prog 179 _ w fun e w'=>e = .returned (.tuple #[.int .i64 (if Lib.itoa v=s/\0<=v/\v<=most then(v,true) else(0,false)).1,.bool (if Lib.itoa v=s/\0<=v/\v<=most then(v,true) else(0,false)).2])/\bq w w'
  generalize Lib.itoa v=t at cI hse ⊢;obtain⟨r,hr⟩:∃r,r=(if t=s/\0<=v/\v<=most then(v,true) else(0,false)):=⟨_,rfl⟩
  rw[← hr];clear hA hg hs hm
  go_enter Tryz.func179,Tryz.ntmps179
  go_wp2_with (first|(go_at_call 81;refine cA.mono ?_;rintro e wa ⟨rfl,sa⟩)|(go_at_call 193;refine(cI _ (by assumption)).mono ?_;rintro e wb ⟨rfl,sb⟩))
  all_goals (clear cA cI;go_ret2)
  all_goals (by_cases q:t=s/\0<=v/\v<=most)
  all_goals first
   |(rw[qX q]at hr;subst hr;first|exact⟨rfl,sa.trans sb⟩|(exfalso;omega)|(exfalso;exact absurd q.1 (by assumption)))
   |(rw[qW q]at hr;subst hr;first|exact⟨rfl,sa.trans sb⟩|(exfalso;exact q ⟨by assumption,by omega,by omega⟩))
 |range=>
  obtain⟨te,pe,hv⟩:=hm.tab.2.2.1 _ h2;have cA:Calls Tryz.prog 81 #[.string ⟨s.toArray⟩] w fun e w'=>(∃n t v,e = .returned (.tuple #[.int .i64 n,.iface t v]))/\bq w w':=
   (Any.strconv_Atoi_range Tryz.laysC172 ⟨s.toArray⟩ (by omega) (by rw[hd];exact hA) _ w (hm.agree _ _ _ hv) (.inr ⟨_,_,rfl⟩)).mono fun e w'⟨N,he,_,_,hw⟩=>⟨⟨_,_,_,he⟩,bq.of_below hw⟩
  exact bad cA
 |_=>
  obtain⟨te,pe,hv⟩:=hm.tab.2.2.1 _ h1;have cA:Calls Tryz.prog 81 #[.string ⟨s.toArray⟩] w fun e w'=>(∃n t v,e = .returned (.tuple #[.int .i64 n,.iface t v]))/\bq w w':=
   (Any.strconv_Atoi_syntax Tryz.laysC172 ⟨s.toArray⟩ (by omega) (by rw[hd];exact hA) _ w (hm.agree _ _ _ hv) (.inr ⟨_,_,rfl⟩)).mono fun e w'⟨N,he,_,_,hw⟩=>⟨⟨_,_,_,he⟩,bq.of_below hw⟩
  exact bad cA
def q4b:IF:=⟨.fn 179,[.h .str,.h (.int .i64)],[],_,RS.mk (.tup [.h (.int .i64),.h .bool]) []⟩
def zgq(hg:LC.glob 5=some ⟨.int .u64,Lib.pow10Tab⟩)(hs:(5,20)∈LC.sizes)(h1:3∈LC.ifs)(h2:4∈LC.ifs):(q4b.e tn).Sound Tryz.prog:=fun d d' r h=>by
 obtain⟨s,most,_⟩:=d;have h:tn s most=some r:=h;unfold tn at h;cases hd:decide (List.length (α:=UInt8) s<=281474976710656)<;>rw[hd]at h<;>simp only[qT,qF,reduceCtorEq]at h
 have h:=qJ h;subst h;refine⟨Tryz.call179,db.data fun w G vs hm hr => ?_⟩
 match vs,hr with
 |[u,v],⟨e1,e2,_⟩=>
  have e1:u = .string ⟨List.toArray s⟩:=e1;have e2:v = .int .i64 most:=e2;subst e1 e2;exact(zgo hm hg hs h1 h2 s most (of_decide_eq_true hd)).mono fun e w'⟨he,hw⟩=>⟨_,he,⟨_,rfl,rfl,rfl,trivial⟩,hw⟩
end Go.Sym
namespace Go.Sym
open Go.Proofs Go.RowKit
variable[LC]
end Go.Sym
namespace Go.Sym
open Go.Proofs Go.RowKit Go.Sort
variable[LC]
def db.inPlaceA{ys:List AV}{P:Program}{f:FuncId}{τ:Ty}{l l':List τ.den}{E:TypeId}(ac:l'.length=l.length)(h:∀(w:World)(G:Gh)(ad:Option Addr)(c:Nat)(us vs:List Value),fq w E τ.sz ad l.length c us->aj (l.flatMap τ.enc) G.data us->aj ys G vs ->
  Calls P f (Value.slice ad l.length c::vs).toArray w fun e w'=>e = .returned (.tuple #[])/\∃us',fq w' E τ.sz ad l.length c us'/\aj (l'.flatMap τ.enc) G.data us'/\bn (fun b=>cn ad=some b) w w') :
  db P f (.own 0::ys) [(0,.row τ l E)] (.tup []) [(0,.row τ l' E)]:=by
 intro w G vs hm hreps;have hl:ae [(0,ag.row τ l E)] 0=some (.row τ l E):=rfl;obtain⟨ad,c,us,h1,h3,h4,h5⟩:=(hm.holds 0 _ hl).rowAt
 match vs,hreps with
 |v::vs,hreps=>
  obtain⟨⟨a',n',c',q1,rfl⟩,hys⟩:=hreps;rw[h1]at q1;simp only[qI,qP]at q1;obtain⟨rfl,rfl,rfl⟩:=q1;refine(h w G ad c us vs h3 h4 hys).mono ?_;rintro e w' ⟨rfl,us',r1,r2,r3⟩
  refine⟨_,G,rfl,?_,#[],rfl,trivial⟩;have hself:=yc hm;have hbox:cg G w' 0 (.row τ l' E):=cg.row (by rw[ac];exact h1) (by rw[ac];exact r1) r2 (fun b hb=>h5 b hb)
  cases had:cn ad with
  |none=>
   have hst:bq w w':=⟨r3.os,r3.tape,r3.output,r3.size,fun k hk _=>r3.block k hk (fun e=>by rw[had]at e;cases e)⟩
   have hf:=hself.extend (new:=[]) (Gh.le.refl G) hst (fun _ _ _ h => .inl h) (fun b o v hv=>by
    have hc:=hm.agree b o v hv;have hlt:=World.block_lt_of_cell? _ _ hc;rw[World.cell?_of_block (w:=w) (hst.block b hlt (fun h=>h))];exact hc) hm.one (fun n bx h=>by cases h) (fun n bx h=>by cases h) (fun n m bx bx' b h=>by cases h)
   have hlk:∀m b,ae [(0,ag.row τ l' E)] m=some b->m=0/\b = .row τ l' E:=fun m b hh=>by
    simp only[ae]at hh;cases hb:Nat.beq 0 m
    ·rw[hb]at hh;cases hh
    ·rw[hb]at hh;simp only[qT,qI]at hh;exact⟨(qN hb).symm,hh.symm⟩
   have hat:G.at 0 (.row τ l' E)=none:=by
    simp only[Gh.at,h1]
    cases ad with|none=>rfl|some a=>cases had
   refine⟨⟨hf.mem.agree,hf.mem.one,fun m b hh => ?_,fun m m' b b' c h1 h2 h3 _ => ?_,hf.mem.tab⟩,hf.bel,hf.imm_le,hf.imm_new,fun m b c h1 h2 => ?_,hf.keep,hf.keepOwn⟩
   ·obtain⟨rfl,rfl⟩:=hlk m b hh;exact hbox
   ·obtain⟨rfl,_⟩:=hlk m b h1;obtain⟨rfl,_⟩:=hlk m' b' h2;rfl
   ·obtain⟨rfl,rfl⟩:=hlk m b h1;rw[hat]at h2;cases h2
  |some B=>
   have hat:∀l:List τ.den,G.at 0 (.row τ l E)=some B:=fun l=>by
    simp only[Gh.at,h1]
    cases ad with
    |none=>cases had
    |some a=>exact had
   have hf:=hself.update (bx' := .row τ l' E) hl (hat l) (hat l') ⟨r3.os,r3.tape,r3.output,r3.size,fun k hk hne=>r3.block k hk (fun e=>by rw[had]at e;injection e with e;exact hne e.symm)⟩ hbox (h5 B had)
   have hlk:∀m b,ae [(0,ag.row τ l' E)] m=some b->ae (oy [(0,ag.row τ l E)] 0 (.row τ l' E)) m=some b:=fun m b hh=>by
    simp only[ae]at hh;simp only[oy,ae];cases hb:Nat.beq 0 m
    ·rw[hb]at hh;cases hh
    ·rw[hb]at hh;exact hh
   exact⟨⟨hf.mem.agree,hf.mem.one,fun m b hh=>hf.mem.holds m b (hlk m b hh),fun m m' b b' c h1 h2 h3 h4=>hf.mem.apart m m' b b' c (hlk _ _ h1) (hlk _ _ h2) h3 h4,hf.mem.tab⟩,hf.bel,hf.imm_le,hf.imm_new,fun m b c h1 h2=>hf.base m b c (hlk _ _ h1) h2,hf.keep,hf.keepOwn⟩
 |[],hreps=>exact hreps.elim
def zhq(w:World)(n g:Nat)(d:Array Value)(os:Array Obj)(k:Nat)(hk:k<w.heap.size)(hne:k≠g):(grow (putRow id (Sort.ahead w n) g 0 d) os).heap[k]? = w.heap[k]? := by
 show((w.heap.modify g (onCells (putCells id 0 d)))++os)[k]? = _;rw[Array.getElem?_append_left (by simpa using hk),Array.getElem?_modify,qW (by omega)]
def zhr(w:World)(n g:Nat)(d:Array Value)(os:Array Obj){cur:Array Value}{e:TypeId}{fr:Nat×Nat}(hh:w.heap[g]? = some (.cells cur e fr)) :
  (grow (putRow id (Sort.ahead w n) g 0 d) os).heap[g]? = some (.cells (putCells id 0 d cur) e fr):=by
 have hg:g<w.heap.size:=(Array.getElem?_eq_some_iff.1 hh).1;show((w.heap.modify g (onCells (putCells id 0 d)))++os)[g]? = _;rw[Array.getElem?_append_left (by simpa using hg),Array.getElem?_modify,qX rfl,hh]
 rfl
def zht(zs:List Value)(cur:Array Value)(h:zs.length<=cur.size):(putCells id 0 zs.toArray cur).toList.take zs.length=zs:=by
 apply List.ext_getElem?;intro j;rw[List.getElem?_take];by_cases hj:j<zs.length
 ·rw[qX hj,Array.getElem?_toList];unfold putCells;rw[Array.getElem?_mapIdx,Array.getElem?_eq_getElem (by omega)]
  simp[hj]
 ·rw[qW hj];exact(List.getElem?_eq_none (by omega)).symm
def zhs(w:World)(n g:Nat)(d:Array Value)(os:Array Obj):w.heap.size<=(grow (putRow id (Sort.ahead w n) g 0 d) os).heap.size:=by
 show w.heap.size<=((w.heap.modify g (onCells (putCells id 0 d)))++os).size;simp
def zhp(zs:List Value)(cur:Array Value)(v:Value)(hv:v∈(putCells id 0 zs.toArray cur).toList):v∈cur.toList\/v∈zs:=by
 unfold putCells at hv;rw[Array.mem_toList_iff,Array.mem_mapIdx]at hv;obtain⟨j,hj,rfl⟩:=hv;split
 ·rename_i hj2;have hj3:j<zs.length:=by simpa using hj2
  refine .inr ?_;simp[hj3]
 ·exact .inl (by simp)
end Go.Sym
namespace Go.Sym
open Go.Proofs Go.RowKit Go.Sort
variable[LC]
def q2g{α:Type}[Inhabited α](enc:α->List Value)(k:Nat)(hk:∀x,(enc x).length=k)(l:List α):flatK enc k l.toArray=(l.flatMap enc).toArray:=by
 have key:∀(l:List α)(t:Nat),t<l.length*k->(l.flatMap enc)[t]? = some ((enc l[t/k]!)[t%k]!):=by
  intro l
  induction l with
  |nil=>intro t ht;simp at ht|cons x l ih=>
   intro t ht;have k0:0<k:=by
    rcases Nat.eq_zero_or_pos k with h|h;· subst h;simp at ht
    ·exact h
   rw[List.flatMap_cons];by_cases h:t<k
   ·rw[List.getElem?_append_left (by rw[hk];exact h),Nat.div_eq_of_lt h,Nat.mod_eq_of_lt h,List.getElem?_eq_getElem (by rw[hk];exact h)]
    simp[hk,h]
   ·rw[List.getElem?_append_right (by rw[hk];omega),hk,ih (t-k) (by rw[qL,Nat.add_mul,Nat.one_mul]at ht;omega)]
    obtain⟨u,rfl⟩:∃u,t=u+k:=⟨t-k,by omega⟩
    rw[Nat.add_sub_cancel,Nat.add_mod_right,Nat.add_div_right _ k0];simp
 have ac:(l.flatMap enc).length=l.length*k:=by
  clear key
  induction l with|nil=>simp|cons x l ih=>rw[List.flatMap_cons,qM,hk,ih,qL,Nat.add_mul,Nat.one_mul,Nat.add_comm]
 refine ext_get! (by simp[ac]) fun t ht => ?_
 have ht':t<l.length*k:=by simpa using ht
 rw[get_flatK enc k l.toArray t (by simpa using ht')]
 have:=key l t ht';simp only[List.getElem!_toArray];rw[List.getElem!_eq_getElem?_getD (l:=l.flatMap enc),this];rfl
def dx(x:Pq):List Value:=[.string ⟨x.1.1.toArray⟩,.int .i64 x.1.2.1,.bool x.1.2.2.1,.string ⟨x.1.2.2.2.toArray⟩]
def q6k:SWO (ltOf gg):=by
 have e:∀x y:Pq,ltOf gg x y=decide (x.1.2.1<y.1.2.1):=fun x y=>by
  have:=x.2;have:=y.2;unfold ltOf gg;have h:af (x.1.2.1-y.1.2.1)=x.1.2.1-y.1.2.1:=by unfold af;simp[IntKind.wrap,IntKind.bits,IntKind.signed];omega
  rw[h];by_cases q:x.1.2.1<y.1.2.1<;>simp[q]<;>omega
 exact⟨fun x=>by rw[e];simp,fun x y z h1 h2=>by rw[e]at *;simp at *;omega,fun x y z h1 h2=>by rw[e]at *;simp at *;omega⟩
set_option maxHeartbeats 1000000 in
def zc9(x y:Pq)(W:World):Calls Tryz.prog 221 #[.agg (dx x).toArray,.agg (dx y).toArray] W fun e w'=>e = .returned (.int .i64 (gg x y))/\∃q os',w'=grow (W.drewN q) os':=by
 unfold dx gg;obtain⟨⟨a,n,s,v⟩,hx⟩:=x;obtain⟨⟨a',n',s',v'⟩,hy⟩:=y;simp only;have hw:af (n-n')=wrap64 (n-n'):=by show IntKind.i64.wrap (n-n')=_;rw[IntKind.wrap_i64];unfold Go.RowKit.wrap64;rfl
 rw[hw];clear hx hy hw
 go_enter Tryz.func221,Tryz.ntmps221
 go_wp2
 go_ret
 exact⟨rfl,0,_,by rw[alloc_eq_grow,alloc_eq_grow,grow_grow];rfl⟩
abbrev τQ:Ty := .prod .str (.prod (.int .i64) (.prod .bool .str))
def q5j{G:Gh}:∀{l:List Pq}{us:List Value},aj (List.flatMap (β:=AV) τQ.enc (l.map (·.1))) G us->us=l.flatMap dx
 |[],[],_=>rfl|[],_::_,h=>h.elim|x::l,us,h=>by
  match us,h with
  |a::b::c::d::us,h=>
   have h1:a = .string ⟨x.1.1.toArray⟩:=h.1;have h2:b = .int .i64 x.1.2.1:=h.2.1;have h3:c = .bool x.1.2.2.1:=h.2.2.1;have h4:d = .string ⟨x.1.2.2.2.toArray⟩:=h.2.2.2.1;have h5:=q5j (l:=l) h.2.2.2.2;rw[h1,h2,h3,h4,h5];rfl
  |[],h=>exact h.elim|[_],h=>exact h.2.elim|[_,_],h=>exact h.2.2.elim|[_,_,_],h=>exact h.2.2.2.elim
def q5k{G:Gh}:∀(l:List Pq),aj (List.flatMap (β:=AV) τQ.enc (l.map (·.1))) G (l.flatMap dx)
 |[]=>trivial|_::l=>⟨rfl,rfl,rfl,rfl,q5k l⟩
def q6t:∀(l:List Pc)(q:List Pq),nd l=some q->l=q.map (·.1)
 |[],_,h=>by cases h;rfl
 |x::l,q,h=>by
  unfold nd at h;split at h
  ·split at h
   ·rename_i r hr;cases h;rw[q6t l r hr];rfl
   ·cases h
  ·cases h
def qth(l:List Pq):(fj l).length=l.length:=by
 have h:=(pdq_sorts (ltOf gg) q6k l.toArray 0 l.length (Lib.bitLen l.length) true true (Nat.zero_le _) (by simp) (Or.inl rfl)).1.1
 unfold fj;rw[Array.length_toList,h];simp
def qh3(x:Pq):(dx x).length=4:=rfl
def q1y(l:List Pq):(l.flatMap dx).length=l.length*4:=by
 induction l with|nil=>rfl|cons x l ih=>rw[List.flatMap_cons,qM,qh3,ih,qL];omega
def zev{w:World}{g:Nat}{vs:Array Value}{fz:Nat×Nat}{E:TypeId}{l:List Pq}(h2:w.heap[g]? = some (.cells vs E fz))(h3:fz=(0,0)\/vs.size<=fz.1)(h4:l.length*4<=vs.size)(h7:vs.toList.take (l.length*4)=l.flatMap dx):HoldsK dx 4 w g 0 l.toArray:=by
 unfold HoldsK;rw[q2g dx 4 qh3];intro j hj;have hl:=q1y l;have hj':j<(l.flatMap dx).length:=by simpa using hj
 have hjv:j<vs.size:=by omega
 refine⟨?_,?_⟩
 ·have hc:(vs.toList.take (l.length*4))[j]? = some ((l.flatMap dx)[j]):=by
   rw[h7,List.getElem?_eq_getElem hj']
  rw[List.getElem?_take,qX (by omega)]at hc
  simp only[World.cell?,h2,wO];have hg:(l.flatMap dx).toArray[j]! = (l.flatMap dx)[j]:=by rw[getElem!_pos _ j hj];rfl
  rw[hg];simpa using hc
 ·simp only[World.frozen?,h2];rcases h3 with rfl|h3
  ·simp
  ·simp;omega
set_option maxHeartbeats 1000000 in
def zi4(q:List Pq)(ac:q.length<=bg):db Tryz.prog 220 [.own 0,.fn (.func 221) [] []] [(0,.row τQ (q.map (·.1)) 178)] (.tup []) [(0,.row τQ ((fj q).map (·.1)) 178)]:=by
 unfold bg at ac
 refine db.inPlaceA (by show((fj q).map (·.1)).length=(q.map (·.1)).length;rw[wC,wC,qth]) (fun w G ad c us fvs hrow hreps hfv => ?_)
 have hus:=q5j hreps;have hfv:fvs=[.func (.func 221) #[] #[]]:=by
  match fvs,hfv with
  |[v],⟨h,_⟩=>
   obtain⟨us1,us2,k1,k2,k3⟩:=h;have e1:us1=#[]:=Array.eq_empty_of_size_eq_zero k2.length.symm;have e2:us2=#[]:=Array.eq_empty_of_size_eq_zero k3.length.symm;subst e1;subst e2;rw[k1]
 subst hfv;have hml:(q.map (fun x=>x.1)).length=q.length:=wC ..
 obtain⟨hul,hrow⟩:=hrow
 have hnone:q=[]->Calls Tryz.prog 220 (Value.slice ad (q.map (fun x=>x.1)).length c::[.func (.func 221) #[] #[]]).toArray w fun e w'=>e = .returned (.tuple #[])/\∃us',fq w' 178 τQ.sz ad (q.map (fun x=>x.1)).length c us'/\aj (List.flatMap (β:=AV) τQ.enc ((fj q).map (·.1))) G.data us'/\bn (fun b=>cn ad=some b) w w':=fun hq=>by
  subst hq;refine(AnyF.slices_SortFunc_none Tryz.sortP ad c (.func (.func 221) #[] #[]) w).mono ?_;rintro e w' ⟨rfl,rfl⟩
  refine⟨rfl,us,⟨hul,hrow⟩,?_,⟨rfl,rfl,rfl,wF _,fun _ _ _=>rfl⟩⟩
  rw[hus];have e:fj []=[]:=List.eq_nil_of_length_eq_zero (qth []);rw[e];exact trivial
 by_cases hq:q=[]
 ·exact hnone hq
 rcases hrow with⟨rfl,h2,rfl⟩|⟨g,vs,fz,rfl,h2,h3,h4,h5,h6,h7,h8⟩
 ·exact absurd (List.eq_nil_of_length_eq_zero (by rw[← hml];exact h2)) hq
 ·have hlt:g<w.heap.size:=(Array.getElem?_eq_some_iff.1 h2).1;have hs4:τQ.sz=4:=rfl;rw[hs4]at h6 h7 hul;have h4':q.length<=c:=by rw[← hml];exact h4
  have hH:=zev (l:=q) h2 h3 (by omega) (by rw[← hus];have h7':=h7;rw[show(List.length (α:=τQ.den) (q.map fun x=>x.1))=q.length from hml]at h7';exact h7')
  have hcmp:CmpLays Tryz.prog 221 #[] dx 4 gg g 0 q.toArray.size w:=fun m os dk _ x y=>zc9 x y _
  have key:=AnyQ.slices_SortFunc_eq (P:=Tryz.prog) Tryz.sortP 4 Tryz.isAgg178 Tryz.sizeOf178 dx qh3 (by intro x v hv;simp only[dx,wE,List.not_mem_nil,or_false]at hv;rcases hv with rfl|rfl|rfl|rfl<;>rfl) gg q6k 221 #[] g 0 c q.toArray w Tryz.call221 hcmp hH hlt (by simp;omega)
  have hargs:#[Value.slice (some ⟨g,0,none⟩) (List.length (α:=τQ.den) (List.map (β:=τQ.den) (fun x:Pq=>x.1) q)) c,Value.func (.func 221) #[] #[]]=#[.slice (some ⟨g,0,none⟩) q.toArray.size c,.func (.func 221) #[] #[]]:=by
   rw[show List.length (α:=τQ.den) (List.map (β:=τQ.den) (fun x:Pq=>x.1) q)=q.toArray.size from hml.trans (by simp)]
  refine Eq.mpr (congrArg (fun a=>Calls _ _ a _ _) hargs) (key.mono ?_)
  rintro e w' ⟨rfl,n,os,rfl⟩
  have hsl:=qth q;have hw:sortWorldK dx 4 w g 0 n (pdq (ltOf gg) q.toArray 0 q.toArray.size (Lib.bitLen q.toArray.size) true true) os=grow (putRow id (Sort.ahead w n) g 0 ((fj q).flatMap dx).toArray) os:=by
   unfold sortWorldK putRowK;rw[show pdq (ltOf gg) q.toArray 0 q.toArray.size (Lib.bitLen q.toArray.size) true true=(fj q).toArray from by unfold fj;simp,q2g dx 4 qh3]
  rw[hw];have hzl:((fj q).flatMap dx).length=q.length*4:=by rw[q1y,hsl]
  refine⟨rfl,(fj q).flatMap dx,⟨?_,.inr ⟨g,putCells id 0 ((fj q).flatMap dx).toArray vs,fz,rfl,zhr w n g _ os h2,?_,h4,h5,?_,?_,?_⟩⟩,q5k _,⟨rfl,rfl,rfl,zhs w n g _ os,fun k hk hne=>zhq w n g _ os k hk (fun e=>hne (by subst e;rfl))⟩⟩
  ·rw[hzl];show q.length*4=(q.map (fun x=>x.1)).length*4;rw[hml]
  ·have:(putCells id 0 ((fj q).flatMap dx).toArray vs).size=vs.size:=by unfold putCells;rw[Array.size_mapIdx]
   rw[this];exact h3
  ·unfold putCells;rw[Array.size_mapIdx];exact h6
  ·rw[show List.length (α:=τQ.den) (q.map (fun x=>x.1))*τQ.sz=((fj q).flatMap dx).length from by rw[hzl];show(q.map (fun x=>x.1)).length*4=_;rw[hml]]
   exact zht _ vs (by rw[hzl];omega)
  ·intro v hv;rcases zhp _ _ _ hv with h|h
   ·exact h8 v h
   ·obtain⟨x,_,hx⟩:=List.mem_flatMap.1 h;simp only[dx,wE,List.not_mem_nil,or_false]at hx;rcases hx with rfl|rfl|rfl|rfl<;>rfl
def q6a:IF:=⟨.fn 220,[.own 0,.fn 221 []],[(0,.row τQ 178)],_,RS.mk (.tup []) [(0,.row τQ 178)]⟩
def zi6:(q6a.e ub).Sound Tryz.prog:=fun d d' r h=>by
 obtain⟨l,_⟩:=d';have h:ub l=some r:=h;unfold ub at h;cases hd:decide (List.length (α:=Pc) l<=bg)<;>rw[hd]at h<;>simp only[qT,qF,reduceCtorEq]at h
 cases hq:nd l with
 |none=>rw[hq]at h;cases h
 |some q=>
  rw[hq]at h;have h:=qJ h;subst h;have hl:=q6t l q hq;subst hl;refine⟨Tryz.call220,zi4 q ?_⟩;have:=of_decide_eq_true hd
  rwa [wC]at this
end Go.Sym
set_option linter.unusedVariables false
namespace Go.Proofs.ToValid
open Go.Shelf Go.RowKit Go.Lib Go.Sym
def bx:Builder.Extra Tryz.prog Tryz.uniR:={
 sizeBuilder:=by kernel_rfl
 liesBuilder:=by kernel_rfl
 t5:=Tryz.laysM171.t5
 a5:=Tryz.laysM171.a5
 z5:=Tryz.laysM171.z5
 v5:=Tryz.laysM171.v5
 infoByte:=by kernel_rfl
 cellsByte:=by kernel_rfl
 sizeByte:=by kernel_rfl
 neB5:=by decide }
def zfp:Lays.n166 Tryz.prog Tryz.uniR:={ Tryz.lays165,Tryz.lays169,Tryz.laysC172 with f166:=Tryz.func42.trans (congrArg some (by kernel_rfl)) }
def zfq:Lays.n167 Tryz.prog Tryz.uniR:={ Tryz.lays165,Tryz.lays169,Tryz.laysC172 with f167:=Tryz.func45.trans (congrArg some (by kernel_rfl)) }
def q07(b:Nat)(p:Option Addr)(n cap:Nat)(w:World)(c1:w.cell? ⟨b,1,none⟩=some (.slice p n cap)) :
  Calls Tryz.prog 250 #[.pointer (some ⟨b,0,none⟩)] w fun e w'=>e = .returned (.int .i64 cap)/\w'=w:=by
 go_enter Tryz.func250,Tryz.ntmps250
 go_wp2
 go_ret
 exact⟨rfl,rfl⟩
def zeq(b n:Nat)(w:World)(hbk:w.heap[b]? = some (.cells #[.pointer none,.slice none 0 0] 83 (0,0)))(hBw:b<=w.heap.size)(hn:n<=281474976710656) :
  Calls Tryz.prog 117 #[.pointer (some ⟨b,0,none⟩),.int .i64 n] w fun e w'=>e = .returned (.tuple #[])/\(Lib.BuilderAt 83 5 b b (.pointer (some ⟨b,0,none⟩)) [] w'/\Below b w w')/\∃p cap,w'.cell? ⟨b,1,none⟩=some (.slice p 0 cap)/\n<=cap:=
 Any.Builder_Grow_fresh_cap Tryz.lays165 bx b b n w (wF _) hbk hBw hn
def quc(b:Nat)(bs:List Value)(s:ByteArray)(w:World)(h:Lib.IsBuilderF 83 5 b b bs w)(ac:bs.length+s.size<=140737488355328)(hBw:b<=w.heap.size) :
  Calls Tryz.prog 42 #[.pointer (some ⟨b,0,none⟩),.string s] w fun e w'=>e = .returned (.tuple #[.int .i64 s.size,.nilIface])/\(Lib.BuilderAtF 83 5 b b (.pointer (some ⟨b,0,none⟩)) (bs++Lib.strCells s) w'/\Below b w w'/\Lib.OthersKept 5 (some b) w w')/\∀v0,w.cell? ⟨b,1,none⟩=some v0->∃v1,w'.cell? ⟨b,1,none⟩=some v1/\v0.capOf<=v1.capOf:=
 Any.Builder_WriteString_kc zfp bx b b bs s w h ac hBw
def zkw(b:Nat)(bs:List Value)(c:Int)(w:World)(h:Lib.IsBuilderF 83 5 b b bs w)(ac:bs.length+1<=140737488355328)(hBw:b<=w.heap.size) :
  Calls Tryz.prog 45 #[.pointer (some ⟨b,0,none⟩),.int .u8 c] w fun e w'=>e = .returned .nilIface/\(Lib.BuilderAtF 83 5 b b (.pointer (some ⟨b,0,none⟩)) (bs++[.int .u8 c]) w'/\Below b w w'/\Lib.OthersKept 5 (some b) w w'):=
 Any.Builder_WriteByte_k zfq bx b b bs c w h ac hBw
def zjj(b:Nat)(l:List UInt8)(w:World)(h:Lib.IsBuilderF 83 5 b b (Lib.byteCells l) w)(hBw:b<=w.heap.size) :
  Calls Tryz.prog 46 #[.pointer (some ⟨b,0,none⟩)] w fun e w'=>e = .returned (.string ⟨l.toArray⟩)/\(Lib.IsBuilderF 83 5 b b (Lib.byteCells l) w'/\Below b w w'):=
 Any.Builder_String_any_f Tryz.lays169 bx b b l w h hBw
def q1r(s:ByteArray)(w:World)(hT:Lib.Utf8Tabs 0 1 w) :
  Calls Tryz.prog 119 #[.string s] w fun e w'=>e = .returned (.tuple #[.int .i32 (Lib.decodeGo s).1,.int .i64 (Lib.decodeGo s).2])/\Below w.heap.size w w':=
 Any.utf8_DecodeRuneInString Tryz.lays197 s w hT
def q1u(s:ByteArray)(pos:Nat)(h:pos<s.size):decodeGo (s.extract pos s.size)=Utf8.decode s pos:=by
 have hx:(s.extract pos s.size).data.toList=s.data.toList.drop pos:=by
  rw[extract_data,List.take_of_length_le (by rw[List.length_drop,← size_eq];omega)]
 have hsz:(s.extract pos s.size).size≠0:=by rw[size_eq,hx,List.length_drop,← size_eq];omega
 unfold decodeGo;rw[qW hsz,← decodeL_drop s pos,← hx];rfl
def q7i(n:Int)(h0:0<=n)(h1:n<=4000000):wrap64 n=n:=by unfold wrap64;omega
def zkz(p n:Nat)(h:p+n<=4000000):wrap64 ((p:Int)+(n:Int))=(p:Int)+(n:Int):=q7i _ (by omega) (by omega)
def zk0(p:Nat)(h:p+1<=4000000):wrap64 ((p:Int)+1)=(p:Int)+1:=q7i _ (by omega) (by omega)
def vI(p k:Nat):Value.int .i64 ((p:Int)+(k:Int)) = .int .i64 ((p+k:Nat):Int):=by rw[Int.natCast_add]
def nf(p:Nat):Value.int .i64 ((p:Int)+1) = .int .i64 ((p+1:Nat):Int):=by rw[Int.natCast_add];rfl
def qt5(rep:Bs)(n:Nat)(inv:Bool)(l:Bs)(hne:l≠[])(h:(Lib.decodeL l).1=65533/\(Lib.decodeL l).2=1):vu rep (n+1) inv l=(if inv then[] else rep)++vu rep n true (l.drop 1):=by
 cases l with|nil=>exact absurd rfl hne|cons c l=>rw[vu,qX h];rfl
def qj4(rep:Bs)(n:Nat)(inv:Bool)(l:Bs)(hne:l≠[])(h:¬((Lib.decodeL l).1=65533/\(Lib.decodeL l).2=1)):vu rep (n+1) inv l=l.take (Lib.decodeL l).2++vu rep n false (l.drop (Lib.decodeL l).2):=by
 cases l with|nil=>exact absurd rfl hne|cons c l=>rw[vu,qW h]
def td(rep:Bs)(n:Nat)(inv:Bool):vu rep n inv []=[]:=by cases n<;>rfl
def qej(rep:Bs):∀(n m:Nat)(inv:Bool)(l:Bs),l.length<=n->l.length<=m->vu rep n inv l=vu rep m inv l
 |0,m,inv,l,h1,_=>by
  have:l=[]:=by cases l with|nil=>rfl|cons c l=>simp at h1
  subst this;rw[td,td]
 |n+1,0,inv,l,_,h2=>by
  have:l=[]:=by cases l with|nil=>rfl|cons c l=>simp at h2
  subst this;rw[td,td]
 |n+1,m+1,inv,l,h1,h2=>by
  cases l with
  |nil=>rw[td,td]|cons c l=>
   have hw:=Lib.decodeL_width (c::l);simp only[qL]at h1 h2;by_cases h:(Lib.decodeL (c::l)).1=65533/\(Lib.decodeL (c::l)).2=1
   ·rw[qt5 rep n inv _ (by simp) h,qt5 rep m inv _ (by simp) h,qej rep n m true _ (by simp;omega) (by simp;omega)]
   ·rw[qj4 rep n inv _ (by simp) h,qj4 rep m inv _ (by simp) h,qej rep n m false _ (by simp only[List.length_drop,qL];omega) (by simp only[List.length_drop,qL];omega)]
def zdt(s:ByteArray)(pos:Nat)(h:pos<s.size)(hc:(s.get! pos).toNat<128):Utf8.decode s pos=((s.get! pos).toNat,1):=by
 unfold Utf8.decode;simp only[Nat.add_zero,hc,if_true]
def zds(s:ByteArray)(pos:Nat)(h:pos<s.size)(hc:¬(s.get! pos).toNat<128)(h1:(Utf8.decode s pos).2=1):(Utf8.decode s pos).1=65533:=by
 revert h1;unfold Utf8.decode;simp only[Nat.add_zero,hc,if_false]
 repeat' split
 all_goals first|(intro _;rfl)|(intro h1;exact absurd h1 (by simp))
def qqu{T e:TypeId}{B b:Nat}{bs:List Value}{W W':World}(h:Lib.IsBuilderF T e B b bs W)(hb:Below W.heap.size W W'):Lib.IsBuilderF T e B b bs W':=by
 have k:∀p,Lib.BuilderAtF T e B b p bs W->Lib.BuilderAtF T e B b p bs W':=fun p h=>by
  have hlt:=h.lt;obtain⟨hB,v,hv,hown,hne⟩:=h;exact⟨hB,v,(hb.block b hlt).trans hv,hown.kept (row:=none) ⟨hb.os,hb.tape,hb.output,hb.size,fun k hk _=>hb.block k hk⟩ (Classical.em _),hne⟩
 exact h.elim (fun x => .inl (k _ x)) (fun x => .inr (k _ x))
set_option maxHeartbeats 4000000 in
set_option maxRecDepth 1000000 in
def tovalid(s rep:ByteArray)(w:World)(hs:s.size<=1000000)(hr:rep.size<=1000)(hT:Lib.Utf8Tabs 0 1 w) :
  Calls Tryz.prog 223 #[.string s,.string rep] w fun e w'=>e = .returned (.string ⟨(vu rep.data.toList s.size false s.data.toList).toArray⟩)/\Below w.heap.size w w':=by
 obtain⟨ANS,hANS⟩:∃ANS,vu rep.data.toList s.size false s.data.toList=ANS:=⟨_,rfl⟩;rw[hANS];have ac:s.data.toList.length=s.size:=(Lib.size_eq s).symm
 go_enter Tryz.func223,Tryz.ntmps223
 go_wp2
 go_loopg [0] s.size (fun gk s0 wx=>s0 = .string s/\∃pos:Nat,wx.heap[w.heap.size]? = some (.cells #[.pointer none,.slice none 0 0] 83 (0,0))/\wx.heap[w.heap.size+1]? = some (.stringIter s pos)/\Below w.heap.size w wx /\
  s.data.toList.take pos++vu rep.data.toList (s.size-pos) false (s.data.toList.drop pos)=ANS/\s.size<=pos+gk/\pos<=s.size)
 case atStart=>
  refine⟨rfl,0,?_,?_,((Below.refl _ w).alloc (wF _) _).alloc (by simp) _,by simpa using hANS,by omega,by omega⟩
  ·have h1:=heap_alloc_new w (.cells #[.pointer none,.slice none 0 0] 83);exact(Below.heap_alloc _ _ _ (by simp)).trans h1
  ·have:=World.iter_heap (w.alloc (.cells #[.pointer none,.slice none 0 0] 83)) s 0;simpa using this
 case round=>
  obtain⟨rfl,pos,hfr,hit,hbw,hsp,hfu,hps⟩:=hrel;by_cases hlt:pos<s.size
  ·obtain⟨g',rfl⟩:∃g',gk=g'+1:=⟨gk-1,by omega⟩
   have hnx:∀ty,(Instr.next (.pointer (some ⟨w.heap.size+1,0,none⟩)) true ty).run Tryz.prog wr=_:=fun ty=>Lib.run_next_any_at wr (w.heap.size+1) s pos ty hit hlt
   have hne:s.data.toList.drop pos≠[]:=by
    intro h0;have:=congrArg List.length h0;rw[List.length_drop,ac]at this;simp at this;omega
   have hwd:=Lib.width_pos s pos;have hwn:pos+(Utf8.decode s pos).2<=s.size:=by
    have:=Lib.decodeL_le _ hne;rw[Lib.decodeL_drop,List.length_drop,ac]at this;omega
   have hgood:=qj4 rep.data.toList (s.size-pos-1) false _ hne;have hdg:=q1u s pos hlt;rw[Lib.decodeL_drop]at hgood;obtain⟨R,hR⟩:∃R,(Utf8.decode s pos).1=R:=⟨_,rfl⟩;obtain⟨K,hK⟩:∃K,(Utf8.decode s pos).2=K:=⟨_,rfl⟩;rw[hR,hK]at hnx hgood;rw[hK]at hwd hwn;rw[List.drop_drop,show s.size-pos-1+1=s.size-pos by omega]at hgood
   have hit2:=Lib.iterAt_heap wr (w.heap.size+1) s pos (pos+K) hit;have hbw2:=Lib.below_iterAt hbw (k:=w.heap.size+1) (by omega) s (pos+K)
   have hfr2:(wr.iterAt (w.heap.size+1) s (pos+K)).heap[w.heap.size]? = _:=(Lib.iterAt_other wr (w.heap.size+1) w.heap.size s (pos+K) (by omega)).trans hfr
   obtain⟨W,hWd⟩:∃W,wr.iterAt (w.heap.size+1) s (pos+K)=W:=⟨_,rfl⟩;rw[hWd]at hnx hit2 hbw2 hfr2;clear hit hbw hfr hWd;have HS:Aside (¬(R=65533/\K=1)->s.data.toList.take (pos+K)++vu rep.data.toList (s.size-(pos+K)) false (s.data.toList.drop (pos+K))=ANS):=by
    intro h;rw[← hsp,hgood h,← qS,← List.take_add];congr 1;exact qej _ _ _ _ _ (by rw[List.length_drop,ac];omega) (by rw[List.length_drop,ac];omega)
   have HP:Aside (s.data.toList.take pos++vu rep.data.toList (s.size-pos) false (s.data.toList.drop pos)=ANS):=hsp;clear hgood hsp;have hszW:w.heap.size+1<W.heap.size:=(Array.getElem?_eq_some_iff.1 hit2).1;by_cases h5:R=65533
   ·have h5z:(R:Int)=65533:=by omega
    have cD:=q1r (s.extract pos s.size) W (Utf8Tabs_below hT hbw2);rw[hdg,hR,hK]at cD;by_cases hk:K=1
    ·
     have hkz:(K:Int)=1:=by omega
     have hkb:((K:Int)==1)=true:=by simp[hkz]
     go_wp2_with (go_at_call 119;go_must (refine cD.mono ?_;rintro e W3 ⟨rfl,b3⟩))
     have hfr3:=(b3.block _ (show w.heap.size<W.heap.size by omega)).trans hfr2
     have hbw3:=hbw2.trans (b3.mono (show w.heap.size<=W.heap.size by omega))
     have hs0:=HP.out;clear cD hnx hit2 hfr2 hbw2 hdg HS hszW HP;have cG:=zeq w.heap.size (s.size+rep.size) W3 hfr3 hbw3.size (by omega)
     go_fit cG
     rintro e W4 ⟨rfl,⟨h4,b4⟩,p4,cap4,hc4,hcap4⟩
     have hxs:(s.extract 0 pos).size=pos:=by rw[Lib.size_eq,Lib.extract_data,List.length_take,List.length_drop,ac];omega
     have hxd:(s.extract 0 pos).data.toList=s.data.toList.take pos:=by rw[Lib.extract_data];simp
     have cW:=quc w.heap.size [] (s.extract 0 pos) W4 (Lib.IsBuilderF.of (Or.inr h4)) (by rw[hxs];simp;omega) (Nat.le_trans hbw3.size b4.size)
     go_wp2_with (go_at_call 42;go_must (refine cW.mono ?_;rintro e W5 ⟨rfl,⟨h5w,b5,-⟩,hcp⟩))
     have hb5:Below w.heap.size w W5:=(hbw3.trans b4).trans b5;have hcells:[]++Lib.strCells (s.extract 0 pos)=Lib.byteCells (s.data.toList.take pos):=by
      rw[List.nil_append,Lib.strCells_eq,hxd]
     rw[hcells]at h5w;obtain⟨p5,n5,cap5,hc5,hcap5⟩:∃p5 n5 cap5,W5.cell? ⟨w.heap.size,1,none⟩=some (.slice p5 n5 cap5)/\1<=cap5:=by
      obtain⟨v1,hv1,hle⟩:=hcp _ hc4;obtain⟨_,v6,hv6,hown6,_⟩:=h5w;have hv:W5.cell? ⟨w.heap.size,1,none⟩=some v6:=by rw[Lib.cell_of_heap hv6];rfl
      rw[hv1]at hv;have:=qJ hv;subst this;have hle:cap4<=v1.capOf:=hle;rcases hown6.2 with⟨rfl,h0⟩|⟨g6,cap6,_,_,rfl,_⟩
      ·have:cap4<=0:=hle;omega
      ·have:cap4<=cap6:=hle;exact⟨_,_,cap6,hv1,by omega⟩
     clear hcp hc4;have hcapz:¬((cap5:Int)=0):=by omega
     have hcapb:((cap5:Int)==0)=false:=by simp;omega
     have cC:=q07 w.heap.size p5 n5 cap5 W5 hc5;obtain⟨s2,hs2⟩:∃s2,s.extract pos s.size=s2:=⟨_,rfl⟩;have hl2:s2.data.toList=s.data.toList.drop pos:=by
      rw[← hs2,Lib.extract_data,List.take_of_length_le (by rw[List.length_drop,ac];omega)]
     have hz2:s2.size=s.size-pos:=by rw[Lib.size_eq,hl2,List.length_drop,ac]
     go_wp2_with (go_at_call 250;go_must (refine cC.mono ?_;rintro e W6 ⟨rfl,rfl⟩))
     have hrl:rep.data.toList.length=rep.size:=(Lib.size_eq rep).symm
     go_loopg [10,11] s2.size (fun gk s10 s11 wx=>∃(p2:Nat)(acc:List UInt8)(inv:Bool),s10 = .bool inv/\s11 = .int .i64 p2/\Lib.IsBuilderF 83 5 w.heap.size w.heap.size (Lib.byteCells acc) wx/\Below w.heap.size w wx /\
      acc++vu rep.data.toList (s2.size-p2) inv (s2.data.toList.drop p2)=ANS/\s2.size<=p2+gk/\p2<=s2.size/\acc.length<=pos+1001*p2)
     case atStart=>
      refine⟨0,s.data.toList.take pos,false,rfl,rfl,Or.inr h5w,hb5,?_,by omega,by omega,?_⟩
      ·rw[List.drop_zero,hl2,hz2];exact hs0
      ·rw[List.length_take,ac];omega
     case round=>
      obtain⟨p2,acc,inv,rfl,rfl,hI,hbw,hacc,hfu2,hp2,hal⟩:=hrel;have hbs:w.heap.size<=wr.heap.size:=hbw.size;by_cases hlt2:p2<s2.size
      ·obtain⟨g2,rfl⟩:∃g2,gk=g2+1:=⟨gk-1,by omega⟩
       have hne2:s2.data.toList.drop p2≠[]:=by
        intro h0;have:=congrArg List.length h0;rw[List.length_drop,← Lib.size_eq,qZ]at this;omega
       have hwd2:=Lib.width_pos s2 p2;have hwn2:p2+(Utf8.decode s2 p2).2<=s2.size:=by
        have:=Lib.decodeL_le _ hne2;rw[Lib.decodeL_drop,List.length_drop,← Lib.size_eq]at this;omega
       have hgood:=qj4 rep.data.toList (s2.size-p2-1) inv _ hne2;have hbad:=qt5 rep.data.toList (s2.size-p2-1) inv _ hne2;have hdg:=q1u s2 p2 hlt2;have hlow:=zdt s2 p2 hlt2;have hhigh:=zds s2 p2 hlt2;rw[Lib.decodeL_drop,List.drop_drop,show s2.size-p2-1+1=s2.size-p2 by omega]at hgood hbad
       have hl3:s2.data.toList.length=s2.size:=(Lib.size_eq s2).symm;obtain⟨c,hc⟩:∃c,s2[p2]'hlt2=c:=⟨_,rfl⟩;have hd2:p2<s2.data.size:=hlt2;have hcd:s2.data[p2]'hd2=c:=hc;have hcg:s2.get! p2=c:=by
        show s2.data[p2]! = c;rw[getElem!_pos s2.data p2 hd2];exact hcd
       rw[hcg]at hlow hhigh;obtain⟨R2,hR2⟩:∃R2,(Utf8.decode s2 p2).1=R2:=⟨_,rfl⟩;obtain⟨K2,hK2⟩:∃K2,(Utf8.decode s2 p2).2=K2:=⟨_,rfl⟩;rw[hK2]at hwd2 hwn2;have HG:Aside (¬(R2=65533/\K2=1)->(acc++(s2.data.toList.drop p2).take K2)++vu rep.data.toList (s2.size-(p2+K2)) false (s2.data.toList.drop (p2+K2))=ANS):=by
        intro h;rw[← hacc,hgood (by rw[hR2,hK2];exact h),hK2,qS]
        congr 2;exact qej _ _ _ _ _ (by rw[List.length_drop,hl3];omega) (by rw[List.length_drop,hl3];omega)
       have HB:Aside (R2=65533/\K2=1->(acc++(if inv then[] else rep.data.toList))++vu rep.data.toList (s2.size-(p2+1)) true (s2.data.toList.drop (p2+1))=ANS):=by
        intro h;rw[← hacc,hbad (by rw[hR2,hK2];exact h),qS]
        congr 2
       have hxl:(s2.extract p2 (p2+K2)).data.toList=(s2.data.toList.drop p2).take K2:=by
        rw[Lib.extract_data,Nat.add_sub_cancel_left]
       have hxz:(s2.extract p2 (p2+K2)).size=K2:=by rw[Lib.size_eq,hxl,List.length_take,List.length_drop,hl3];omega
       have hcl:acc.length<=1001000000:=by omega
       have hbl:(Lib.byteCells acc).length=acc.length:=Lib.byteCells_length acc;clear hgood hbad hacc hs0;have H1:Aside (s2.data.toList.length=s2.size/\(s2.extract p2 (p2+K2)).data.toList=(s2.data.toList.drop p2).take K2/\(Lib.byteCells acc).length=acc.length/\rep.data.toList.length=rep.size):=⟨hl3,hxl,hbl,hrl⟩;have H2:Aside (c.toNat<128->R2=c.toNat/\K2=1):=fun h=>by
        have hd:=hlow h;rw[hd]at hR2 hK2;exact⟨hR2.symm,hK2.symm⟩
       have H3:Aside (¬c.toNat<128->K2=1->R2=65533):=fun h hk=>by
        have:=hhigh h (by rw[hK2];exact hk)
        rw[← hR2];exact this
       have H4:Aside ((List.drop p2 s2.data.toList).take 1=[c]):=by
        show _=_;have hlt':p2<s2.data.toList.length:=by rw[hl3];exact hlt2
        rw[List.drop_eq_getElem_cons hlt',List.take_succ_cons,List.take_zero,Array.getElem_toList,hcd]
       have cD:=q1r (s2.extract p2 s2.size) wr (Utf8Tabs_below hT hbw);rw[hdg,hR2,hK2]at cD;have hsz2:s2.size<=s.size:=by rw[hz2];exact Nat.sub_le _ _
       have HW1:Aside (wrap64 ((p2:Int)+1)=(p2:Int)+1):=zk0 _ (Nat.le_trans hlt2 (Nat.le_trans hsz2 (Nat.le_trans hs (by decide))))
       have HWK:Aside (wrap64 ((p2:Int)+(K2:Int))=(p2:Int)+(K2:Int)):=zkz _ _ (Nat.le_trans hwn2 (Nat.le_trans hsz2 (Nat.le_trans hs (by decide))))
       have HM:Aside (s2.size<=p2+1+g2/\s2.size<=p2+K2+g2/\acc.length+1<=pos+1001*(p2+1)/\acc.length+rep.size<=pos+1001*(p2+1)/\acc.length+K2<=pos+1001*(p2+K2)/\acc.length<=pos+1001*(p2+1)/\acc.length+1<=140737488355328/\acc.length+rep.size<=140737488355328/\acc.length+K2<=140737488355328):=by
        refine⟨?_,?_,?_,?_,?_,?_,?_,?_,?_⟩<;>omega
       clear hal hcl hfu2;clear hcd hcg hlow hhigh hdg hR2 hK2 hl3 hxl hbl hrl hs2 hl2 ac hne2 hz2 hxs hxd hcells hne hR hK;by_cases h128:c.toNat<128
       ·
        obtain⟨_,hk1⟩:=H2.out h128;subst hk1;have H5:Aside (acc++[c]++vu rep.data.toList (s2.size-(p2+1)) false (List.drop (p2+1) s2.data.toList)=ANS):=by
         have:=HG.out (by omega)
         rw[H4.out]at this;exact this
        have cB:=zkw w.heap.size (Lib.byteCells acc) c.toNat wr hI (by rw[H1.out.2.2.1];exact HM.out.2.2.2.2.2.2.1) hbs
        clear HG HB H2 H3 H4 cD;have h128z:(c.toNat:Int)<128:=by omega
        go_wp2_with (go_at_call 45;go_must (refine cB.mono ?_;rintro e W7 ⟨rfl,h7,b7,k7⟩))
        go_roundg g2
        case measure=>exact Nat.lt_succ_self _
        case rel=>
         refine⟨p2+1,acc++[c],false,rfl,by first|exact nf p2|exact(congrArg (Value.int .i64) HW1.out).trans (nf p2),Or.inr ?_,hbw.trans b7,H5.out,HM.out.1,hlt2,by rw[qM];exact HM.out.2.2.1⟩
         rw[Lib.byteCells_append];exact h7
       ·have h128z:¬((c.toNat:Int)<128):=by omega
        by_cases hk:K2=1
        ·have hr2:=H3.out h128 hk;have H5:Aside ((acc++(if inv then[] else rep.data.toList))++vu rep.data.toList (s2.size-(p2+1)) true (List.drop (p2+1) s2.data.toList)=ANS):=HB.out ⟨hr2,hk⟩
         have hkz:(K2:Int)=1:=by omega
         have hkb:((K2:Int)==1)=true:=by simp[hkz]
         clear HG HB H2 H3 H4
         cases inv with
         |true=>
          go_wp2_with (go_at_call 119;go_must (refine cD.mono ?_;rintro e W7 ⟨rfl,b7⟩))
          go_roundg g2
          case measure=>exact Nat.lt_succ_self _
          case rel=>
           refine⟨p2+1,acc,true,rfl,by first|exact nf p2|exact(congrArg (Value.int .i64) HW1.out).trans (nf p2),qqu hI b7,hbw.trans (b7.mono hbs),?_,HM.out.1,hlt2,HM.out.2.2.2.2.2.1⟩
           have h:(acc++[])++vu rep.data.toList (s2.size-(p2+1)) true (List.drop (p2+1) s2.data.toList)=ANS:=H5.out;rw[List.append_nil]at h;exact h
         |false=>
          go_wp2_with (go_at_call 119;go_must (refine cD.mono ?_;rintro e W7 ⟨rfl,b7⟩))
          have cW:=quc w.heap.size (Lib.byteCells acc) rep W7 (qqu hI b7) (by rw[H1.out.2.2.1];exact HM.out.2.2.2.2.2.2.2.1) (Nat.le_trans hbs b7.size)
          go_wp2_with (go_at_call 42;go_must (refine cW.mono ?_;rintro e W8 ⟨rfl,⟨h8,b8,-⟩,-⟩))
          go_roundg g2
          case measure=>exact Nat.lt_succ_self _
          case rel=>
           refine⟨p2+1,acc++rep.data.toList,true,rfl,by first|exact nf p2|exact(congrArg (Value.int .i64) HW1.out).trans (nf p2),Or.inr ?_,(hbw.trans (b7.mono hbs)).trans b8,?_,HM.out.1,hlt2,by rw[qM,H1.out.2.2.2];exact HM.out.2.2.2.1⟩
           ·rw[Lib.byteCells_append,← Lib.strCells_eq];exact h8
           ·have h:(acc++rep.data.toList)++vu rep.data.toList (s2.size-(p2+1)) true (List.drop (p2+1) s2.data.toList)=ANS:=H5.out;exact h
        ·have hkz:¬((K2:Int)=1):=by omega
         have hkb:((K2:Int)==1)=false:=by simp;omega
         have H5:=HG.out (fun h=>hk h.2)
         go_wp2_with (go_at_call 119;go_must (refine cD.mono ?_;rintro e W7 ⟨rfl,b7⟩))
         have cW:=quc w.heap.size (Lib.byteCells acc) (s2.extract p2 (p2+K2)) W7 (qqu hI b7) (by rw[H1.out.2.2.1,hxz];exact HM.out.2.2.2.2.2.2.2.2) (Nat.le_trans hbs b7.size)
         go_wp2_with (go_at_call 42;go_must (refine cW.mono ?_;rintro e W8 ⟨rfl,⟨h8,b8,-⟩,-⟩))
         go_roundg g2
         case measure=>exact Nat.lt_succ_self _
         case rel=>
          refine⟨p2+K2,acc++(s2.data.toList.drop p2).take K2,false,rfl,by first|exact vI p2 K2|exact(congrArg (Value.int .i64) HWK.out).trans (vI p2 K2),Or.inr ?_,(hbw.trans (b7.mono hbs)).trans b8,H5,HM.out.2.1,hwn2,?_⟩
          ·rw[Lib.byteCells_append,← H1.out.2.1,← Lib.strCells_eq];exact h8
          ·rw[qM,← H1.out.2.1,← Lib.size_eq,hxz];exact HM.out.2.2.2.2.1
      ·
       obtain rfl:p2=s2.size:=by omega
       have cS:=zjj w.heap.size acc wr hI hbs
       go_wp2_with (go_at_call 46;go_must (refine cS.mono ?_;rintro e W8 ⟨rfl,_,b8⟩))
       go_ret
       refine⟨?_,hbw.trans b8⟩;rw[Lib.size_eq,List.drop_length,td,List.append_nil]at hacc;subst hacc;rfl
    ·have hkz:¬((K:Int)=1):=by omega
     have hkb:((K:Int)==1)=false:=by simp;omega
     have hs3:=HS.out (fun h=>hk h.2)
     go_wp2_with (go_at_call 119;go_must (refine cD.mono ?_;rintro e W3 ⟨rfl,b3⟩))
     go_roundg g'
     case measure=>omega
     case rel=>exact⟨rfl,pos+K,(b3.block _ (by show _<W.heap.size;omega)).trans hfr2,(b3.block _ (by show _<W.heap.size;omega)).trans hit2,hbw2.trans (b3.mono (by show _<=W.heap.size;omega)),hs3,by omega,hwn⟩
   ·have h5':¬((R:Int)=65533):=by omega
    have hs3:=HS.out (fun h=>h5 h.1)
    go_wp2
    go_roundg g'
    case measure=>omega
    case rel=>exact⟨rfl,pos+K,hfr2,hit2,hbw2,hs3,by omega,hwn⟩
  ·
   obtain rfl:pos=s.size:=by omega
   have hnx:∀ty,(Instr.next (.pointer (some ⟨w.heap.size+1,0,none⟩)) true ty).run Tryz.prog wr=_:=fun ty=>Lib.run_next_end_at wr (w.heap.size+1) s s.size ty hit hlt
   have cC:=q07 w.heap.size none 0 0 wr (by rw[Lib.cell_of_heap hfr];rfl)
   go_wp2_with (go_at_call 250;go_must (refine cC.mono ?_;rintro e W' ⟨rfl,rfl⟩))
   go_ret
   refine⟨?_,hbw⟩;rw[← hsp,← ac,List.drop_length,List.take_length,td,List.append_nil];rfl
end Go.Proofs.ToValid
namespace Go.Sym
open Go.Proofs Go.RowKit
open Go.Proofs.Tryz
variable[LC]
def yh(t:List UInt8):Bool:=(List.range 256).all fun c=>match t[c]? with|some x=>Nat.beq x.toNat (Lib.firstT c)|none=>false
def yi(t:List (UInt8×UInt8)):Bool:=(List.range 16).all fun c=>match t[c]? with|some x=>Nat.beq x.1.toNat (Lib.accLo c)&&Nat.beq x.2.toNat (Lib.accHi c)|none=>false
def q69{G:Gh}{w:World}(hm:b9 G [] w){t0:List UInt8}{t1:List (UInt8×UInt8)}(h0:LC.glob 0=some ⟨.byte,t0⟩)(h1:LC.glob 1=some ⟨.prod .byte .byte,t1⟩)(e0:yh t0=true)(e1:yi t1=true):Lib.Utf8Tabs 0 1 w:=by
 refine⟨fun c hc => ?_,fun i hi => ?_⟩
 ·have h:=List.all_eq_true.1 e0 c (List.mem_range.2 hc)
  cases hx:t0[c]? with
  |none=>rw[hx]at h;cases h
  |some x=>
   rw[hx]at h;have ha:G.imm 0 (c*1)=some (.int .u8 x.toNat):=hm.tab.1 _ _ _ h0 c x hx;rw[Nat.mul_one]at ha;rw[hm.agree _ _ _ ha,qN h]
 ·have h:=List.all_eq_true.1 e1 i (List.mem_range.2 hi)
  cases hx:t1[i]? with
  |none=>rw[hx]at h;cases h
  |some x=>
   rw[hx]at h;simp only[qA]at h;have ha:G.imm 1 (i*2)=some (.int .u8 x.1.toNat)/\G.imm 1 (i*2+1)=some (.int .u8 x.2.toNat):=hm.tab.1 _ _ _ h1 i x hx;rw[Nat.mul_comm]at ha;exact⟨by rw[hm.agree _ _ _ ha.1,qN h.1],by rw[hm.agree _ _ _ ha.2,qN h.2]⟩
def zj6{G:Gh}{w:World}(hm:b9 G [] w){t0:List UInt8}{t1:List (UInt8×UInt8)}(h0:LC.glob 0=some ⟨.byte,t0⟩)(h1:LC.glob 1=some ⟨.prod .byte .byte,t1⟩)(e0:yh t0=true)(e1:yi t1=true)(s o:Bs)(d1:s.length<=1000000)(d2:o.length<=1000) :
  Calls Tryz.prog 223 #[.string ⟨s.toArray⟩,.string ⟨o.toArray⟩] w fun e w'=>e = .returned (.string ⟨(vu o s.length false s).toArray⟩)/\bq w w':=by
 refine(ToValid.tovalid ⟨s.toArray⟩ ⟨o.toArray⟩ w (by rw[gf];exact d1) (by rw[gf];exact d2) (q69 hm h0 h1 e0 e1)).mono ?_
 rintro e w' ⟨rfl,hw⟩
 exact⟨by rw[gf],bq.of_below hw⟩
def q6w:IF:=⟨.fn 223,[.h .str,.h .str],[],_,RS.mk (.h .str) []⟩
def zj7{t0:List UInt8}{t1:List (UInt8×UInt8)}(h0:LC.glob 0=some ⟨.byte,t0⟩)(h1:LC.glob 1=some ⟨.prod .byte .byte,t1⟩)(e0:yh t0=true)(e1:yi t1=true):(q6w.e ue).Sound Tryz.prog:=fun d d' r h=>by
 obtain⟨s,o,_⟩:=d;have h:ue s o=some r:=h;unfold ue at h;cases hd:decide (List.length (α:=UInt8) s<=1000000/\List.length (α:=UInt8) o<=1000)<;>rw[hd]at h<;>simp only[qT,qF,reduceCtorEq]at h
 have h:=qJ h;subst h;obtain⟨d1,d2⟩:=of_decide_eq_true hd;refine⟨call223,db.data fun w G vs hm hr => ?_⟩
 match vs,hr with
 |[u,v],⟨h1',h2',_⟩=>
  have h1':u = .string ⟨s.toArray⟩:=h1';have h2':v = .string ⟨o.toArray⟩:=h2';subst h1' h2';exact(zj6 hm h0 h1 e0 e1 s o d1 d2).mono fun e w'⟨he,hw⟩=>⟨_,he,rfl,hw⟩
def zkm{G:Gh}{w:World}(hm:b9 G [] w){t0:List UInt8}{t1:List (UInt8×UInt8)}(h0:LC.glob 0=some ⟨.byte,t0⟩)(h1:LC.glob 1=some ⟨.prod .byte .byte,t1⟩)(e0:yh t0=true)(e1:yi t1=true)(s:Bs)(d1:s.length<=9223372036854775807) :
  Calls Tryz.prog 108 #[.string ⟨s.toArray⟩] w fun e w'=>e = .returned (.bool (Lib.validD s))/\bq w w':=by
 refine(Any.utf8_ValidString Tryz.lays196 ⟨s.toArray⟩ w (by rw[gf];exact d1) (q69 hm h0 h1 e0 e1)).mono ?_
 rintro e w' ⟨rfl,hw⟩
 exact⟨rfl,bq.of_below hw⟩
def q7a:IF:=⟨.fn 108,[.h .str],[],_,RS.mk (.h .bool) []⟩
def zkn{t0:List UInt8}{t1:List (UInt8×UInt8)}(h0:LC.glob 0=some ⟨.byte,t0⟩)(h1:LC.glob 1=some ⟨.prod .byte .byte,t1⟩)(e0:yh t0=true)(e1:yi t1=true):(q7a.e uf).Sound Tryz.prog:=fun d d' r h=>by
 obtain⟨s,_⟩:=d;have h:uf s=some r:=h;unfold uf at h;cases hd:decide (List.length (α:=UInt8) s<=9223372036854775807)<;>rw[hd]at h<;>simp only[qT,qF,reduceCtorEq]at h
 have h:=qJ h;subst h;have d1:=of_decide_eq_true hd;refine⟨call108,db.data fun w G vs hm hr => ?_⟩
 match vs,hr with
 |[u],⟨h1',_⟩=>
  have h1':u = .string ⟨s.toArray⟩:=h1';subst h1';exact(zkm hm h0 h1 e0 e1 s d1).mono fun e w'⟨he,hw⟩=>⟨_,he,rfl,hw⟩
end Go.Sym
namespace Go.Sym
open Go.RowKit
variable[LC]
section
variable{P:Program}{z4v:World}{z4q:Gh}{z4s:List (Nat×ag)}{G:Gh}{s:St}{a:Act}{w:World}
end
end Go.Sym
set_option linter.unusedVariables false
namespace Go.Proofs.Repl
open Go.Shelf Go.RowKit Go.Lib Go.Sym
def rv(a b:UInt8)(ga gb ca cb:Nat)(c:UInt8):Value:=if c=a then .slice (some ⟨ga,0,none⟩) 2 ca else if c=b then .slice (some ⟨gb,0,none⟩) 2 cb else .slice none 0 0
structure ik(R:Nat)(a b a1 a2 b1 b2:UInt8)(w:World):Prop where
 ex:∃ga gb gt ca cb ct,(∀c:UInt8,w.cell? ⟨R,c.toNat,none⟩=some (rv a b ga gb ca cb c))/\w.cell? ⟨R,256,none⟩=some (.slice (some ⟨gt,0,none⟩) 2 ct) /\
  w.cell? ⟨gt,0,none⟩=some (.string ⟨#[b]⟩)/\w.cell? ⟨gt,1,none⟩=some (.string ⟨#[a]⟩) /\
  w.cell? ⟨ga,0,none⟩=some (.int .u8 a1.toNat)/\w.cell? ⟨ga,1,none⟩=some (.int .u8 a2.toNat)/\w.cell? ⟨gb,0,none⟩=some (.int .u8 b1.toNat)/\w.cell? ⟨gb,1,none⟩=some (.int .u8 b2.toNat)
def ik.below{R:Nat}{a b a1 a2 b1 b2:UInt8}{w w':World}(h:ik R a b a1 a2 b1 b2 w)(hb:Below w.heap.size w w'):ik R a b a1 a2 b1 b2 w':=by
 have k:∀{p:Addr}{v:Value},w.cell? p=some v->w'.cell? p=some v:=fun{p v} hc=>(hb.cell (World.block_lt_of_cell? _ _ hc)).trans hc
 obtain⟨ga,gb,gt,ca,cb,ct,h1,h2,h3,h4,h5,h6,h7,h8⟩:=h.ex;exact⟨ga,gb,gt,ca,cb,ct,fun c=>k (h1 c),k h2,k h3,k h4,k h5,k h6,k h7,k h8⟩
def q1h(s:ByteArray)(c:UInt8)(w:World) :
  Calls Tryz.prog 116 #[.string s,.string ⟨#[c]⟩] w fun e w'=>e = .returned (.int .i64 (Lib.countByte s.data.toList c))/\w'=w:=
 Any.strings_Count_one Tryz.lays138 s c w
def zif{w:World}{g:Nat}{t:TypeId}{N:Nat}{f:Nat->Value}{cur:Array Value}(hg:w.heap[g]? = some (.cells cur t (0,0)))(hz:cur.size=N)(hc:∀i,i<N->cur[i]? = some (f i)){j:Nat}(hj:j+2<=N)(v1 v2:Value) :
  (w.setRow g (cur.toList.take j++[v1,v2]++cur.toList.drop (j+2)).toArray).rowIs g t N (fun i=>if i=j then v1 else if i=j+1 then v2 else f i):=by
 have hl:cur.toList.length=N:=by simpa using hz
 refine⟨_,setRow_heap w g cur _ t _ hg,by simp;omega,fun i hi => ?_⟩
 simp only[List.getElem?_toArray];rw[qS];by_cases h1:i<j
 ·rw[List.getElem?_append_left (by simp;omega),List.getElem?_take,qX h1,qW (by omega),qW (by omega),← hc i hi];simp
 ·rw[List.getElem?_append_right (by simp;omega),show(cur.toList.take j).length=j by simp;omega]
  by_cases h2:i=j
  ·subst h2;simp
  ·by_cases h3:i=j+1
   ·subst h3;rw[qW h2,qX rfl,show j+1-j=1 by omega];rfl
   ·rw[qW h2,qW h3,List.getElem?_append_right (by simp;omega),List.getElem?_drop,← hc i hi]
    simp;congr 1;omega
def nr(b o n:Nat):(⟨b,o,none⟩:Addr).add n=⟨b,o+n,none⟩:=by unfold Addr.add;split<;>simp_all
def q1f{w:World}{G ga j M c:Nat}{f:Nat->Value}{x1 x2:UInt8}(hrow:w.rowIs G 5 M f)(hj:j+2<=M)(h0:w.cell? ⟨ga,0,none⟩=some (.int .u8 x1.toNat))(h1:w.cell? ⟨ga,1,none⟩=some (.int .u8 x2.toNat)) :
  ∃ROW,(Builtin.copy_ #[23,23] 3 #[.slice (some ⟨G,j,none⟩) (M-j) (M-j),.slice (some ⟨ga,0,none⟩) 2 c]).run Tryz.prog w = .ok (.int .i64 2) (w.setRow G ROW) /\
   (w.setRow G ROW).rowIs G 5 M (fun i=>if i=j then .int .u8 x1.toNat else if i=j+1 then .int .u8 x2.toNat else f i):=by
 obtain⟨cur,k1,k2,k3⟩:=hrow;refine⟨_,?_,zif k1 k2 k3 hj _ _⟩;exact run_copy_row (P:=Tryz.prog) w 23 23 3 5 G j (M-j) (M-j) ⟨ga,0,none⟩ 2 c cur 5 [.int .u8 x1.toNat,.int .u8 x2.toNat] Tryz.underlying23 (by kernel_rfl) k1
  (by show 2=Nat.min 2 (M-j);exact(Nat.min_eq_left (by omega)).symm)
  (fun i v hv=>by
   rw[nr]
   match i,hv with
   |0,hv=>cases hv;exact h0
   |1,hv=>cases hv;exact h1
   | i+2,hv=>cases hv)
  (by show j+2<=cur.size;omega) (fun v hv=>by
   rcases List.mem_cons.1 hv with rfl|hv
   ·rfl
   ·rcases List.mem_cons.1 hv with rfl|hv
    ·rfl
    ·cases hv)
def bv(l:Bs)(j:Nat):Value := .int .u8 (l.getD j 0).toNat
def q00(l m:Bs)(j:Nat)(h:j<l.length):bv (l++m) j=bv l j:=by unfold bv;rw[List.getD_eq_getElem?_getD,List.getD_eq_getElem?_getD,List.getElem?_append_left h]
def q0z(l m:Bs)(c:UInt8):bv (l++c::m) l.length = .int .u8 c.toNat:=by unfold bv;rw[List.getD_eq_getElem?_getD,List.getElem?_append_right (wF _),Nat.sub_self];rfl
def zcz(l m:Bs)(c d:UInt8):bv (l++c::d::m) (l.length+1) = .int .u8 d.toNat:=by unfold bv;rw[List.getD_eq_getElem?_getD,List.getElem?_append_right (by omega),show l.length+1-l.length=1 by omega];rfl
def qcp(l:Bs)(j:Nat)(h:l.length<=j):bv l j = .int .u8 0:=by unfold bv;rw[List.getD_eq_getElem?_getD,List.getElem?_eq_none h];rfl
def q01(l:Bs)(c d:UInt8)(i:Nat):(if i=l.length then Value.int .u8 c.toNat else if i=l.length+1 then .int .u8 d.toNat else bv l i)=bv (l++[c,d]) i:=by
 by_cases h:i<l.length
 ·rw[qW (by omega),qW (by omega),q00 _ _ _ h]
 ·by_cases h1:i=l.length
  ·subst h1;rw[qX rfl,q0z]
  ·by_cases h2:i=l.length+1
   ·subst h2;rw[qW h1,qX rfl,zcz]
   ·rw[qW h1,qW h2,qcp _ _ (by omega),qcp _ _ (by simp;omega)]
def zc0(l:Bs)(c:UInt8)(i:Nat):(if i=l.length then Value.int .u8 c.toNat else bv l i)=bv (l++[c]) i:=by
 by_cases h:i<l.length
 ·rw[qW (by omega),q00 _ _ _ h]
 ·by_cases h1:i=l.length
  ·subst h1;rw[qX rfl,q0z]
  ·rw[qW h1,qcp _ _ (by omega),qcp _ _ (by simp;omega)]
def vI2(p:Nat):Value.int .i64 ((p:Int)+2) = .int .i64 ((p+2:Nat):Int):=by rw[Int.natCast_add];rfl
def nf(p:Nat):Value.int .i64 ((p:Int)+1) = .int .i64 ((p+1:Nat):Int):=by rw[Int.natCast_add];rfl
def q7j(n:Nat)(h:n<=4000000):wrap64 (n:Int)=(n:Int):=by unfold wrap64;omega
def zgi(p:Addr)(n c:Nat)(w:World):(binOp .neq 23 (.slice (some p) n c) (.slice none 0 0)).run Tryz.prog w = .ok (.bool true) w:=by kernel_rfl
def zgh(w:World):(binOp .neq 23 (.slice none 0 0) (.slice none 0 0)).run Tryz.prog w = .ok (.bool false) w:=by kernel_rfl
def zea(p:Addr)(n c:Nat)(w:World):(binOp .eql 23 (.slice (some p) n c) (.slice none 0 0)).run Tryz.prog w = .ok (.bool false) w:=by kernel_rfl
def zd9(w:World):(binOp .eql 23 (.slice none 0 0) (.slice none 0 0)).run Tryz.prog w = .ok (.bool true) w:=by kernel_rfl
set_option maxHeartbeats 4000000 in
set_option maxRecDepth 1000000 in
def zct(R:Nat)(a b a1 a2 b1 b2:UInt8)(s:ByteArray)(w:World)(hab:a≠b)(hs:s.size<=1000000)(hB:ik R a b a1 a2 b1 b2 w) :
  Calls Tryz.prog 353 #[.pointer (some ⟨R,0,none⟩),.string s] w fun e w'=>e = .returned (.string ⟨(d5 a b [a1,a2] [b1,b2] s.data.toList).toArray⟩)/\Below w.heap.size w w':=by
 obtain⟨ga,gb,gt,ca,cb,ct,-,hT,ht0,ht1,-⟩:=hB.ex;obtain⟨L,hL⟩:∃L,s.data.toList=L:=⟨_,rfl⟩;have ac:L.length=s.size:=by rw[← hL];exact(Lib.size_eq s).symm
 rw[hL];have HB:Aside (ik R a b a1 a2 b1 b2 w):=hB;clear hB;have cBc:=fun w=>q1h s b w
 have cAc:=fun w=>q1h s a w
 rw[hL]at cBc cAc;obtain⟨Z,hZ⟩:∃Z,gh a b L=Z:=⟨_,rfl⟩;have HZ:Aside (gh a b L=Z):=hZ;have hZ2:Z<=2000000:=by
  rw[← hZ];unfold gh;have h1:=List.count_le_length (a:=a) (l:=L);have h2:=List.count_le_length (a:=b) (l:=L);omega
 clear hZ;obtain⟨M,hM⟩:∃M,s.size+Z=M:=⟨_,rfl⟩;have HM:Aside (s.size+Z=M):=hM;have hMb:M<=3000000:=by omega
 clear hM;have hn1:=zgi;have hn2:=zgh
 go_enter Tryz.func353,Tryz.ntmps353
 go_upto_if 26 with(fail)
 go_cut [5,6] (fun s5 s6 wx=>s5 = .int .i64 (M:Nat)/\s6 = .bool (decide (0<Z))/\Below w.heap.size w wx)
 case first=>
  obtain⟨X,hX⟩:∃X,L.count b=X:=⟨_,rfl⟩;obtain⟨Y,hY⟩:∃Y,L.count a=Y:=⟨_,rfl⟩;have HXY:Aside (Z=Y+X):=by show Z=Y+X;rw[← HZ.out];unfold gh;rw[hX,hY]
  have hXl:X<=s.size:=by rw[← hX,← ac];exact List.count_le_length
  have hYl:Y<=s.size:=by rw[← hY,← ac];exact List.count_le_length
  have cBc:∀w,Calls Tryz.prog 116 #[.string s,.string ⟨#[b]⟩] w fun e w'=>e = .returned (.int .i64 (X:Nat))/\w'=w:=fun w=>by rw[← hX];exact cBc w
  have cAc:∀w,Calls Tryz.prog 116 #[.string s,.string ⟨#[a]⟩] w fun e w'=>e = .returned (.int .i64 (Y:Nat))/\w'=w:=fun w=>by rw[← hY];exact cAc w
  clear hX hY
  go_wp2
  ·rename_i h16;clear h16
   go_loopg [5,6,32] 2 (fun gk s5 s6 s32 wx=>Below w.heap.size w wx/\((s32 = .int .i64 0/\s5 = .int .i64 (s.size:Nat)/\s6 = .bool false/\gk=2)\/(s32 = .int .i64 1/\s5 = .int .i64 ((s.size+X:Nat):Int)/\s6 = .bool (decide (0<X))/\gk=1)\/(s32 = .int .i64 2/\s5 = .int .i64 ((s.size+(Y+X):Nat):Int)/\s6 = .bool (decide (0<Y+X))/\gk=0)))
   case atStart=>exact⟨Below.refl _ _,Or.inl ⟨rfl,rfl,rfl,rfl⟩⟩
   case round=>
    obtain⟨hbw,h⟩:=hrel;have ht0':wr.cell? ⟨gt,0,none⟩=some (.string ⟨#[b]⟩):=(hbw.cell (World.block_lt_of_cell? _ _ ht0)).trans ht0;have ht1':wr.cell? ⟨gt,1,none⟩=some (.string ⟨#[a]⟩):=(hbw.cell (World.block_lt_of_cell? _ _ ht1)).trans ht1;clear ht0 ht1;rcases h with⟨rfl,rfl,rfl,rfl⟩|⟨rfl,rfl,rfl,rfl⟩|⟨rfl,rfl,rfl,rfl⟩
    ·have cX:=cBc wr;by_cases h0:X=0
     ·subst h0
      go_wp2_with (go_at_call 116;go_must (refine cX.mono ?_;rintro e W1 ⟨rfl,rfl⟩))
      go_roundg 1
      case measure=>omega
      case rel=>exact⟨hbw,Or.inr (Or.inl ⟨rfl,rfl,rfl,rfl⟩)⟩
     ·have hz:¬((X:Int)=0):=by omega
      obtain⟨ga',gb',gt',ca',cb',ct',hR,-⟩:=(HB.out.below hbw).ex;have hRb:wr.cell? ⟨R,b.toNat,none⟩=some (.slice (some ⟨gb',0,none⟩) 2 cb'):=by rw[hR b];unfold rv;rw[qW (fun h=>hab h.symm),qX rfl]
      clear hR;have g0:∀h,(⟨#[b]⟩:ByteArray)[0]'h=b:=fun _=>rfl
      have g1:(b.toNat:Int)<256:=by have:=b.toNat_lt;omega
      go_wp2_with (go_at_call 116;go_must (refine cX.mono ?_;rintro e W1 ⟨rfl,rfl⟩))
      go_region
      all_goals go_wp2
      go_roundg 1
      case measure=>omega
      case rel=>exact⟨hbw.drew,Or.inr (Or.inl ⟨rfl,congrArg _ (by omega),by rw[decide_eq_true (Nat.pos_of_ne_zero h0)],rfl⟩)⟩
    ·have cX:=cAc wr;by_cases h0:Y=0
     ·subst h0
      go_wp2_with (go_at_call 116;go_must (refine cX.mono ?_;rintro e W1 ⟨rfl,rfl⟩))
      go_roundg 0
      case measure=>omega
      case rel=>exact⟨hbw,Or.inr (Or.inr ⟨rfl,congrArg _ (by omega),by rw[wO],rfl⟩)⟩
     ·have hz:¬((Y:Int)=0):=by omega
      obtain⟨ga',gb',gt',ca',cb',ct',hR,-⟩:=(HB.out.below hbw).ex;have hRb:wr.cell? ⟨R,a.toNat,none⟩=some (.slice (some ⟨ga',0,none⟩) 2 ca'):=by rw[hR a];unfold rv;rw[qX rfl]
      clear hR;have g0:∀h,(⟨#[a]⟩:ByteArray)[0]'h=a:=fun _=>rfl
      have g1:(a.toNat:Int)<256:=by have:=a.toNat_lt;omega
      go_wp2_with (go_at_call 116;go_must (refine cX.mono ?_;rintro e W1 ⟨rfl,rfl⟩))
      go_region
      all_goals go_wp2
      go_roundg 0
      case measure=>omega
      case rel=>exact⟨hbw.drew,Or.inr (Or.inr ⟨rfl,congrArg _ (by omega),by rw[decide_eq_true (show 0<Y+X by omega)],rfl⟩)⟩
    ·go_wp2
     go_meet
     case rel=>exact⟨by rw[← HM.out,HXY.out],by rw[HXY.out],hbw⟩
  ·rename_i h16;clear h16
   go_loopg [5,6,10] s.size (fun gk s5 s6 s10 wx=>wx=w/\∃k C:Nat,s10 = .int .i64 k/\s5 = .int .i64 ((s.size+C:Nat):Int)/\s6 = .bool (decide (0<C))/\k<=s.size/\s.size<=k+gk/\Aside (gh a b (L.take k)=C)/\C<=2000000)
   case atStart=>exact⟨rfl,0,0,rfl,rfl,rfl,Nat.zero_le _,by omega,rfl,by omega⟩
   case round=>
    obtain⟨rfl,k,C,rfl,rfl,rfl,hk,hgk,HC,hC⟩:=hrel;by_cases hk2:k<s.size
    ·obtain⟨g,rfl⟩:∃g,gk=g+1:=⟨gk-1,by omega⟩
     obtain⟨c,hc⟩:∃c,s[k]'hk2=c:=⟨_,rfl⟩;have hstep:Aside (gh a b (L.take (k+1))=C+(if c=a then 1 else if c=b then 1 else 0)):=by
      have h1:k<L.length:=by rw[ac];exact hk2
      have h2:L[k]'h1=c:=by subst hL;exact hc
      show _=_;rw[q6r L k h1,qq2,HC.out,qq3 hab,h2]
     have hC3:Aside (gh a b (L.take (k+1))<=2000000):=by
      show _<=_;unfold gh;have h1:=List.count_le_length (a:=a) (l:=L.take (k+1));have h2:=List.count_le_length (a:=b) (l:=L.take (k+1));rw[List.length_take]at h1 h2;omega
     obtain⟨ga',gb',gt',ca',cb',ct',hR,-⟩:=HB.out.ex;have hRc:=hR c;unfold rv at hRc;clear hR;have g1:(c.toNat:Int)<256:=by have:=c.toNat_lt;omega
     by_cases h1:c=a
     ·rw[qX h1]at hRc;rw[qX h1]at hstep;clear h1
      go_wp2
      go_roundg g
      case measure=>omega
      case rel=>exact⟨rfl,k+1,C+1,congrArg _ (by omega),congrArg _ (by omega),by rw[decide_eq_true (Nat.succ_pos C)],by omega,by omega,hstep,by have:=hC3.out;rw[hstep.out]at this;exact this⟩
     ·rw[qW h1]at hRc;rw[qW h1]at hstep;by_cases h2:c=b
      ·rw[qX h2]at hRc;rw[qX h2]at hstep;clear h1 h2
       go_wp2
       go_roundg g
       case measure=>omega
       case rel=>exact⟨rfl,k+1,C+1,congrArg _ (by omega),congrArg _ (by omega),by rw[decide_eq_true (Nat.succ_pos C)],by omega,by omega,hstep,by have:=hC3.out;rw[hstep.out]at this;exact this⟩
      ·rw[qW h2]at hRc;rw[qW h2]at hstep;clear h1 h2
       go_wp2
       go_roundg g
       case measure=>omega
       case rel=>exact⟨rfl,k+1,C,congrArg _ (by omega),congrArg _ (by omega),rfl,by omega,by omega,hstep,hC⟩
    ·obtain rfl:k=s.size:=by omega
     have HC2:C=Z:=by rw[← HC.out,← ac,List.take_length,HZ.out]
     subst HC2
     go_wp2
     go_meet
     case rel=>exact⟨by rw[HM.out],rfl,Below.refl _ _⟩
 case rest=>
  obtain⟨rfl,hs6,hbw⟩:=hcut;cases h0:decide (0<Z)<;>rw[h0]at hs6<;>subst hs6
  ·have hz0:=of_decide_eq_false h0;have hid:=q12 hab [a1,a2] [b1,b2] L (by rw[HZ.out];omega)
   clear h0 hz0;have HI:Aside (d5 a b [a1,a2] [b1,b2] L=L):=hid;clear hid
   go_wp2
   go_ret
   exact⟨by rw[HI.out,← hL];rfl,hbw⟩
  ·clear h0;have hmk:∀w:World,(Instr.makeSlice 23 (.int .i64 (M:Int)) (.int .i64 (M:Int))).run Tryz.prog w = .ok (.slice (some ⟨w.heap.size,0,none⟩) M M) (w.alloc (.cells (madeCells #[.int .u8 0] M) 5)):=fun w=>
    run_make_row' (P:=Tryz.prog) 23 5 (.int .u8 0) 1 Tryz.underlying23 (by kernel_rfl) rfl .i64 .i64 M (by omega) (by omega) w
   go_wp2
   obtain⟨G,hG⟩:∃G,wc.heap.size=G:=⟨_,rfl⟩;have hrow0:=World.rowIs_made wc (.int .u8 0) M 5;have hGle:w.heap.size<=G:=by rw[← hG];exact hbw.size
   have hbw1:=hbw.alloc hbw.size (Obj.cells (madeCells #[.int .u8 0] M) 5);rw[hG]at hrow0 ⊢;have hLM:Aside (∀k,(d5 a b [a1,a2] [b1,b2] (L.take k)).length<=M):=fun k=>by
    have h1:d5 a b [a1,a2] [b1,b2] L=d5 a b [a1,a2] [b1,b2] (L.take k)++d5 a b [a1,a2] [b1,b2] (L.drop k):=by rw[← qh9,List.take_append_drop]
    have h2:=congrArg List.length h1;rw[qia hab,ac,HZ.out,HM.out,qM]at h2;omega
   go_loopg [13,14] s.size (fun gk s13 s14 wx=>∃k j:Nat,s13 = .int .i64 j/\s14 = .int .i64 k/\k<=s.size/\s.size<=k+gk/\j<=M/\Aside ((d5 a b [a1,a2] [b1,b2] (L.take k)).length=j)/\Aside (wx.rowIs G 5 M (bv (d5 a b [a1,a2] [b1,b2] (L.take k))))/\Below w.heap.size w wx)
   case atStart=>exact⟨0,0,rfl,rfl,Nat.zero_le _,by omega,Nat.zero_le _,rfl,hrow0.congr (fun i _=>(qcp [] i (Nat.zero_le _)).symm),hbw1⟩
   case round=>
    obtain⟨k,j,rfl,rfl,hk,hgk,hjM,HJ,hrow,hbx⟩:=hrel;clear hrow0 hbw1;by_cases hk2:k<s.size
    ·obtain⟨g,rfl⟩:∃g,gk=g+1:=⟨gk-1,by omega⟩
     have HG:Aside (s.size<=k+1+g):=by show _<=_;omega
     clear hgk hk;obtain⟨c,hc⟩:∃c,s[k]'hk2=c:=⟨_,rfl⟩;have hk1:k<L.length:=by rw[ac];exact hk2
     have hLk:L[k]'hk1=c:=by subst hL;exact hc
     have hstep:Aside (d5 a b [a1,a2] [b1,b2] (L.take (k+1))=d5 a b [a1,a2] [b1,b2] (L.take k)++p6 a b [a1,a2] [b1,b2] c):=by
      show _=_;rw[q6r L k hk1,qh9,hLk];show _++(p6 a b [a1,a2] [b1,b2] c++[])=_;rw[List.append_nil]
     have hfit:Aside (j+(p6 a b [a1,a2] [b1,b2] c).length<=M):=by
      have:=hLM.out (k+1);rw[hstep.out,qM,HJ.out]at this;exact this
     clear hLk hk1;obtain⟨ga',gb',gt',ca',cb',ct',hR,hT',ht0',ht1',ha0,ha1,hb0,hb1⟩:=(HB.out.below hbx).ex;have hRc:=hR c;unfold rv at hRc;clear hR hT' ht0' ht1';have g1:(c.toNat:Int)<256:=by have:=c.toNat_lt;omega
     unfold p6 at hstep hfit;by_cases h1:c=a
     ·rw[qX h1]at hRc hstep hfit;have hf2:j+2<=M:=hfit.out;clear h1;have hMj:¬M=j:=by omega
      obtain⟨ROW,hcp,hnew⟩:=q1f (w:=wr.drew) (c:=ca') hrow.out.drew hf2 (by rw[World.cell?_drew];exact ha0) (by rw[World.cell?_drew];exact ha1)
      have HN:Aside (_):=hnew;have HW:Aside (wrap64 ((j:Int)+2)=(j:Int)+2):=by have:=q7j (j+2) (by omega);rw[Int.natCast_add]at this;exact this
      clear hnew
      go_wp2
      go_region
      all_goals go_wp2
      go_roundg g
      case measure=>exact Nat.lt_succ_self _
      case rel=>exact⟨k+1,j+2,by first|exact vI2 j|exact(congrArg (Value.int .i64) HW.out).trans (vI2 j),nf k,hk2,HG.out,hf2,by show _=_;rw[hstep.out,qM,HJ.out];rfl,World.rowIs.congr HN.out (fun i _=>by rw[hstep.out,← q01,HJ.out]),below_setRow hbx.drew hGle _⟩
     ·rw[qW h1]at hRc hstep hfit;by_cases h2:c=b
      ·rw[qX h2]at hRc hstep hfit;have hf2:j+2<=M:=hfit.out;clear h1 h2;have hMj:¬M=j:=by omega
       obtain⟨ROW,hcp,hnew⟩:=q1f (w:=wr.drew) (c:=cb') hrow.out.drew hf2 (by rw[World.cell?_drew];exact hb0) (by rw[World.cell?_drew];exact hb1)
       have HN:Aside (_):=hnew;have HW:Aside (wrap64 ((j:Int)+2)=(j:Int)+2):=by have:=q7j (j+2) (by omega);rw[Int.natCast_add]at this;exact this
       clear hnew
       go_wp2
       go_region
       all_goals go_wp2
       go_roundg g
       case measure=>exact Nat.lt_succ_self _
       case rel=>exact⟨k+1,j+2,by first|exact vI2 j|exact(congrArg (Value.int .i64) HW.out).trans (vI2 j),nf k,hk2,HG.out,hf2,by show _=_;rw[hstep.out,qM,HJ.out];rfl,World.rowIs.congr HN.out (fun i _=>by rw[hstep.out,← q01,HJ.out]),below_setRow hbx.drew hGle _⟩
      ·rw[qW h2]at hRc hstep hfit;have hf1:j+1<=M:=hfit.out;clear h1 h2;have hcell:wr.cell? ⟨G,j,none⟩=some (bv (d5 a b [a1,a2] [b1,b2] (L.take k)) j):=hrow.out.cell (by omega)
       have hfroz:wr.frozen? ⟨G,j,none⟩=false:=hrow.out.frozen j
       go_wp2
       go_roundg g
       case measure=>exact Nat.lt_succ_self _
       case rel=>exact⟨k+1,j+1,nf j,nf k,hk2,HG.out,hf1,by show _=_;rw[hstep.out,qM,HJ.out];rfl,World.rowIs.congr (World.rowIs.set hrow.out j _) (fun i _=>by rw[hstep.out,← zc0,HJ.out]),hbx.setCell hGle _⟩
    ·obtain rfl:k=s.size:=by omega
     have HT:Aside (L.take s.size=L):=by show _=_;rw[← ac,List.take_length]
     have HE:Aside (∃l,l=d5 a b [a1,a2] [b1,b2] L/\l.length=M):=⟨_,rfl,by rw[qia hab,ac,HZ.out,HM.out]⟩
     obtain⟨E,hE,hEl⟩:=HE.out;have hcv:(convert 23 9 (.slice (some ⟨G,0,none⟩) M M)).run Tryz.prog wr = .ok (.string ⟨E.toArray⟩) wr:=by
      have h:=run_convert_bytes_back (P:=Tryz.prog) wr 23 9 5 ⟨G,0,none⟩ M E Tryz.underlying23 Tryz.underlying5 Tryz.underlying9 (fun i hi=>by
       rw[nr,wO,hrow.out.cell (by omega),HT.out,← hE]
       unfold bv;rw[List.getD_eq_getElem?_getD,List.getElem?_eq_getElem hi];rfl)
      rw[hEl]at h;exact h
     have HEq:Aside (E=d5 a b [a1,a2] [b1,b2] L):=hE;clear hE hEl
     go_wp2
     go_ret
     exact⟨by rw[← HEq.out];rfl,hbx⟩
end Go.Proofs.Repl
set_option linter.unusedVariables false
namespace Go.Proofs.Repl
open Go.Shelf Go.RowKit Go.Lib Go.Sym
def ze7:(Tryz.prog.info? 9).map (fun i=>(i.zero,i.size,i.bytes))=some (some (Value.string ⟨#[]⟩),1,16):=by kernel_rfl
def mk2(w:World):(Instr.makeSlice 33 (.int .i64 0) (.int .i64 2)).run Tryz.prog w = .ok (.slice (some ⟨w.heap.size,0,none⟩) 0 2) (w.alloc (.cells #[.string ⟨#[]⟩,.string ⟨#[]⟩] 9)):=by
 obtain⟨i,hi,hzz⟩:=Option.map_eq_some_iff.1 ze7;simp only[qP]at hzz;obtain⟨hz,hs,hb⟩:=hzz;have h:=run_make (P:=Tryz.prog) w 33 9 i (.string ⟨#[]⟩) Tryz.underlying33 hi hz .i64 .i64 0 2 (by decide) (by decide) (by rw[hb];decide) (by decide)
 rw[hs,show madeCells (Value.string ⟨#[]⟩).cells (Int.toNat 2*1)=#[.string ⟨#[]⟩,.string ⟨#[]⟩] from by kernel_rfl]at h
 exact h
def zr(V:Value)(j:Nat):Value:=if j=256 then V else .slice none 0 0
def z1(b:UInt8)(g c:Nat)(V:Value)(j:Nat):Value:=if j=b.toNat then .slice (some ⟨g,0,none⟩) 2 c else zr V j
def z4p:Tryz.zeroCells310.toList.length=257:=by kernel_rfl
def z4m:Tryz.zeroCells310.toList.all (fun v=>v.oneCell')=true:=by kernel_rfl
def iz:Option Value->Bool|some (.slice none n c)=>Nat.beq n 0&&Nat.beq c 0|_=>false
def zfe{v:Option Value}(h:iz v=true):v=some (.slice none 0 0):=by
 unfold iz at h;split at h
 ·simp only[qA]at h;rw[qN h.1,qN h.2]
 ·cases h
def z4n:(List.range 257).all (fun j=>iz Tryz.zeroCells310.toList[j]?)=true:=by kernel_rfl
def zi9(w:World)(T:Nat):∃ROW,(storeCells ⟨w.heap.size,0,none⟩ (Tryz.zeroCells310.toList.set 256 (.slice (some ⟨T,0,none⟩) 0 2))).run Tryz.prog (w.alloc (.cells Tryz.zeroCells310 310)) = .ok () ((w.alloc (.cells Tryz.zeroCells310 310)).setRow w.heap.size ROW) /\
  ((w.alloc (.cells Tryz.zeroCells310 310)).setRow w.heap.size ROW).rowIs w.heap.size 310 257 (zr (.slice (some ⟨T,0,none⟩) 0 2)):=by
 have hnew:(w.alloc (.cells Tryz.zeroCells310 310)).heap[w.heap.size]? = some (.cells Tryz.zeroCells310 310):=heap_alloc_new w _;have hz:=z4p;have h:=run_storeCells_at Tryz.prog w.heap.size 0 310 (Tryz.zeroCells310.toList.set 256 (.slice (some ⟨T,0,none⟩) 0 2)) 0 _ _ hnew (by rw[List.length_set,hz,← Array.length_toList,hz];decide) (fun v hv=>by
  rcases List.mem_or_eq_of_mem_set hv with hv|rfl
  ·exact List.all_eq_true.1 z4m v hv
  ·rfl)
 refine⟨_,h,?_⟩;refine⟨_,setRow_heap _ _ _ _ _ _ hnew,?_,fun i hi => ?_⟩
 ·simp only[List.size_toArray,qM,List.length_set,List.length_take,List.length_drop,hz];decide
 ·rw[List.getElem?_toArray,List.length_set,hz,List.drop_eq_nil_of_le (by rw[hz];decide),List.append_nil]
  show([]++_)[i]? = _;rw[List.nil_append,List.getElem?_set];unfold zr;by_cases h2:256=i
  ·subst h2;rw[qX rfl,qX rfl,hz];rfl
  ·rw[qW h2,qW (fun e=>h2 e.symm)]
   exact zfe (List.all_eq_true.1 z4n i (List.mem_range.2 hi))
def ye(w:World)(x y:UInt8):Obj := .cells (bytesRow ⟨#[x,y]⟩ (grownCap w 2 0 5)) 5 ((bytesRow ⟨#[x,y]⟩ (grownCap w 2 0 5)).size,(bytesRow ⟨#[x,y]⟩ (grownCap w 2 0 5)).size+1)
def xz(w:World):Nat:=grownCap w 2 0 5
def cv2(w:World)(x y:UInt8):(convert 9 23 (.string ⟨#[x,y]⟩)).run Tryz.prog w = .ok (.slice (some ⟨w.heap.size,0,none⟩) 2 (xz w)) (w.drew.alloc (ye w x y)):=
 run_bytes_of_string (P:=Tryz.prog) w 9 23 5 ⟨#[x,y]⟩ Tryz.underlying9 Tryz.underlying23 Tryz.underlying5
def zcu(w W:World)(x y:UInt8):(W.alloc (ye w x y)).cell? ⟨W.heap.size,0,none⟩=some (.int .u8 x.toNat)/\(W.alloc (ye w x y)).cell? ⟨W.heap.size,1,none⟩=some (.int .u8 y.toNat):=by
 unfold ye;rw[World.cell?_alloc_mark,World.cell?_alloc_mark];exact⟨bytesRow_at ⟨#[x,y]⟩ _ 0 (by show 0<2;decide),bytesRow_at ⟨#[x,y]⟩ _ 1 (by show 1<2;decide)⟩
def cv1(w:World)(x:UInt8):(convert 23 9 (.slice (some ⟨w.heap.size,0,none⟩) 1 1)).run Tryz.prog (w.alloc (.cells #[.int .u8 x.toNat] 5)) = .ok (.string ⟨#[x]⟩) (w.alloc (.cells #[.int .u8 x.toNat] 5)):=
 run_convert_bytes_back (P:=Tryz.prog) _ 23 9 5 ⟨w.heap.size,0,none⟩ 1 [x] Tryz.underlying23 Tryz.underlying5 Tryz.underlying9 (fun i hi=>by
  have:i=0:=by simpa using hi
  subst this;rw[nr];show World.cell? _ ⟨w.heap.size,0,none⟩=_;unfold World.cell?;rw[show(w.alloc (.cells #[.int .u8 (x.toNat:Int)] 5)).heap[w.heap.size]? = _ from heap_alloc_new w _]
  rfl)
def w4(wr:World)(T k n:Nat)(c:UInt8):World:=(((wr.alloc (.cells #[.int .u8 c.toNat] 5)).alloc (.cells #[.string ⟨#[c]⟩] 9)).setCell ⟨T,k,none⟩ (.string ⟨#[c]⟩)).setCell ⟨T+1,256,none⟩ (.slice (some ⟨T,0,none⟩) n 2)
def w5(wr:World)(T k n:Nat)(c x y:UInt8):World:=(((w4 wr T k n c).alloc (ye (w4 wr T k n c) x y)).setCell ⟨T+1,c.toNat,none⟩ (.slice (some ⟨wr.heap.size+1+1,0,none⟩) 2 (xz (w4 wr T k n c)))).drew
def q6g(wr:World)(T k n:Nat)(c x y:UInt8)(hT:T+2<=wr.heap.size){f h:Nat->Value}(hR:wr.rowIs (T+1) 310 257 f)(hTr:wr.rowIs T 9 2 h) :
  (w5 wr T k n c x y).rowIs (T+1) 310 257 (fun j=>if j=c.toNat then .slice (some ⟨wr.heap.size+1+1,0,none⟩) 2 (xz (w4 wr T k n c)) else if j=256 then .slice (some ⟨T,0,none⟩) n 2 else f j)/\(w5 wr T k n c x y).rowIs T 9 2 (fun i=>if i=k then .string ⟨#[c]⟩ else h i) /\
   (w5 wr T k n c x y).cell? ⟨wr.heap.size+1+1,0,none⟩=some (.int .u8 x.toNat)/\(w5 wr T k n c x y).cell? ⟨wr.heap.size+1+1,1,none⟩=some (.int .u8 y.toNat)/\(∀p:Addr,T+2<=p.block->p.block<wr.heap.size->(w5 wr T k n c x y).cell? p=wr.cell? p)/\Below T wr (w5 wr T k n c x y)/\T+2<=(w5 wr T k n c x y).heap.size:=by
 unfold w5;generalize hWb:ye (w4 wr T k n c) x y=B;generalize (Value.slice (some ⟨wr.heap.size+1+1,0,none⟩) 2 (xz (w4 wr T k n c)))=V3;have hbc0:=fun W=>zcu (w4 wr T k n c) W x y
 rw[hWb]at hbc0;unfold w4;clear hWb;generalize (Obj.cells #[.int .u8 c.toNat] 5)=o1;generalize (Obj.cells #[.string ⟨#[c]⟩] 9)=o2;generalize (Value.string ⟨#[c]⟩)=S;generalize (Value.slice (some ⟨T,0,none⟩) n 2)=V2;have hsz:((((wr.alloc o1).alloc o2).setCell ⟨T,k,none⟩ S).setCell ⟨T+1,256,none⟩ V2).heap.size=wr.heap.size+1+1:=by simp[World.setCell]
 have hbc:=hbc0 ((((wr.alloc o1).alloc o2).setCell ⟨T,k,none⟩ S).setCell ⟨T+1,256,none⟩ V2);rw[hsz]at hbc;refine⟨?_,?_,?_,?_,fun p h1 h2 => ?_,?_,?_⟩
 ·exact(((((hR.alloc o1).alloc o2).setOther (a:=⟨T,k,none⟩) (by simp) S).set 256 V2).alloc _).set _ V3
 ·exact(((((hTr.alloc o1).alloc o2).set k S).setOther (a:=⟨T+1,256,none⟩) (by simp) V2).alloc _).setOther (a:=⟨T+1,c.toNat,none⟩) (by simp) V3
 ·rw[World.cell?_drew,World.cell?_setCell_other _ _ _ _ (by intro h;have:=congrArg Addr.block h;simp at this;omega)];exact hbc.1
 ·rw[World.cell?_drew,World.cell?_setCell_other _ _ _ _ (by intro h;have:=congrArg Addr.block h;simp at this;omega)];exact hbc.2
 ·refine World.cell?_of_block (w:=wr) ?_;show(World.setCell _ _ _).heap[p.block]? = _;rw[Below.heap_setCell _ _ _ _ (by simp;omega),Below.heap_alloc _ _ _ (by rw[hsz];omega),Below.heap_setCell _ _ _ _ (by simp;omega),Below.heap_setCell _ _ _ _ (by simp;omega),Below.heap_alloc _ _ _ (by simp;omega),Below.heap_alloc _ _ _ h2]
 ·have hsz2:wr.heap.size+1+1=((((wr.alloc o1).alloc o2).setCell ⟨T,k,none⟩ S).setCell ⟨T+1,256,none⟩ V2).heap.size:=hsz.symm;exact(((((((Below.refl T wr).alloc (by omega) o1).alloc (by simp;omega) o2).setCell (p:=⟨T,k,none⟩) (wF _) S).setCell (p:=⟨T+1,256,none⟩) (Nat.le_succ _) V2).alloc (by omega) _).setCell (p:=⟨T+1,c.toNat,none⟩) (Nat.le_succ _) V3).drew
 ·show _<=(World.setCell _ _ _).heap.size;simp[World.setCell];omega
set_option maxHeartbeats 4000000 in
set_option maxRecDepth 1000000 in
def zcl(q ro cap:Nat)(a b a1 a2 b1 b2:UInt8)(w:World)(hab:a≠b)
  (hc:w.cell? ⟨q,4,none⟩=some (.slice (some ⟨ro,0,none⟩) 4 cap)) (h0:w.cell? ⟨ro,0,none⟩=some (.string ⟨#[a]⟩)) (h1:w.cell? ⟨ro,1,none⟩=some (.string ⟨#[a1,a2]⟩)) (h2:w.cell? ⟨ro,2,none⟩=some (.string ⟨#[b]⟩)) (h3:w.cell? ⟨ro,3,none⟩=some (.string ⟨#[b1,b2]⟩)) :
  Calls Tryz.prog 254 #[.pointer (some ⟨q,0,none⟩)] w fun e w'=>∃R,e = .returned (.iface 311 (.pointer (some ⟨R,0,none⟩)))/\ik R a b a1 a2 b1 b2 w'/\Below w.heap.size w w':=by
 go_enter Tryz.func254,Tryz.ntmps254
 go_wp2
 go_loopg [4,5] 2 (fun gk s4 s5 wx=>wx=w/\((s5 = .int .i64 0/\s4 = .bool true/\gk=2)\/(s5 = .int .i64 2/\s4 = .bool false/\gk=1)\/(s5 = .int .i64 4/\s4 = .bool false/\gk=0)))
 case atStart=>exact⟨rfl,Or.inl ⟨rfl,rfl,rfl⟩⟩
 case round=>
  obtain⟨rfl,⟨rfl,rfl,rfl⟩|⟨rfl,rfl,rfl⟩|⟨rfl,rfl,rfl⟩⟩:=hrel
  ·go_wp2
   go_roundg 1
   case measure=>exact Nat.lt_succ_self _
   case rel=>exact⟨rfl,Or.inr (Or.inl ⟨rfl,rfl,rfl⟩)⟩
  ·go_wp2
   go_roundg 0
   case measure=>exact Nat.lt_succ_self _
   case rel=>exact⟨rfl,Or.inr (Or.inr ⟨rfl,rfl,rfl⟩)⟩
  ·have hmk:=mk2;obtain⟨W1,hW1⟩:∃W1,wr.alloc (.cells #[.string ⟨#[]⟩,.string ⟨#[]⟩] 9)=W1:=⟨_,rfl⟩;have hz1:W1.heap.size=wr.heap.size+1:=by rw[← hW1];simp
   have hT1:W1.rowIs wr.heap.size 9 2 (fun _ => .string ⟨#[]⟩):=by rw[← hW1];exact World.rowIs_alloc wr _ _ _ (fun i hi=>by match i,hi with|0,_=>rfl|1,_=>rfl)
   have hb1:Below wr.heap.size wr W1:=by rw[← hW1];exact(Below.refl _ _).alloc (wF _) _
   obtain⟨ROW,hst,hrow⟩:=zi9 W1 wr.heap.size;rw[hz1]at hst hrow;have hT2:=(hT1.alloc (.cells Tryz.zeroCells310 310)).of_block (setRow_other (W1.alloc (.cells Tryz.zeroCells310 310)) (wr.heap.size+1) wr.heap.size ROW (by omega))
   have hb2:=below_setRow (hb1.alloc hb1.size (.cells Tryz.zeroCells310 310)) (Nat.le_succ wr.heap.size) ROW;obtain⟨W2,hW2⟩:∃W2,(W1.alloc (.cells Tryz.zeroCells310 310)).setRow (wr.heap.size+1) ROW=W2:=⟨_,rfl⟩;rw[hW2]at hst hrow hT2 hb2;have HB2:Aside (W2.rowIs (wr.heap.size+1) 310 257 (zr (.slice (some ⟨wr.heap.size,0,none⟩) 0 2))/\W2.rowIs wr.heap.size 9 2 (fun _ => .string ⟨#[]⟩)/\Below wr.heap.size wr W2):=⟨hrow,hT2,hb2⟩
   clear hrow hT2 hb2 hT1 hb1 hW2
   go_wp2
   obtain⟨T,hT⟩:∃T,wr.heap.size=T:=⟨_,rfl⟩;rw[hT]at HB2 ⊢;have hS:Aside (wr.heap.size=T):=hT;clear hst hmk hz1 hW1 hT
   go_loopg [12] 2 (fun gk s12 wx=>Below T wr wx/\T+2<=wx.heap.size/\(
    (s12 = .int .i64 2/\gk=2/\Aside (wx.rowIs (T+1) 310 257 (zr (.slice (some ⟨T,0,none⟩) 0 2))/\wx.rowIs T 9 2 (fun _ => .string ⟨#[]⟩))) \/
    (s12 = .int .i64 0/\gk=1/\∃gb cb,T+2<=gb/\gb<wx.heap.size/\Aside (wx.rowIs (T+1) 310 257 (fun j=>if j=b.toNat then .slice (some ⟨gb,0,none⟩) 2 cb else if j=256 then .slice (some ⟨T,0,none⟩) 1 2 else .slice none 0 0)/\wx.rowIs T 9 2 (fun i=>if i=0 then .string ⟨#[b]⟩ else .string ⟨#[]⟩)/\wx.cell? ⟨gb,0,none⟩=some (.int .u8 b1.toNat)/\wx.cell? ⟨gb,1,none⟩=some (.int .u8 b2.toNat))) \/
    (s12 = .int .i64 (-2)/\gk=0/\Aside (ik (T+1) a b a1 a2 b1 b2 wx))))
   case atStart=>exact⟨HB2.out.2.2,by have:=HB2.out.1.lt;omega,Or.inl ⟨rfl,rfl,HB2.out.1,HB2.out.2.1⟩⟩
   case round=>
    obtain⟨hbx,hsz,h⟩:=hrel;have k0:=(hbx.cell (p:=⟨ro,0,none⟩) (by rw[← hS.out];exact World.block_lt_of_cell? _ _ h0)).trans h0
    have k1:=(hbx.cell (p:=⟨ro,1,none⟩) (by rw[← hS.out];exact World.block_lt_of_cell? _ _ h1)).trans h1
    have k2:=(hbx.cell (p:=⟨ro,2,none⟩) (by rw[← hS.out];exact World.block_lt_of_cell? _ _ h2)).trans h2
    have k3:=(hbx.cell (p:=⟨ro,3,none⟩) (by rw[← hS.out];exact World.block_lt_of_cell? _ _ h3)).trans h3
    clear h0 h1 h2 h3 hc HB2;have e1:=zea;have e2:=zd9;have e3:=cv1;have e4:=cv2;rcases h with⟨rfl,rfl,hr⟩|⟨rfl,rfl,gb,cb,hgb,hgs,hr⟩|⟨rfl,rfl,hr⟩
    ·have g0:∀h,(⟨#[b]⟩:ByteArray)[0]'h=b:=fun _=>rfl
     have g1:(b.toNat:Int)<256:=by have:=b.toNat_lt;omega
     have g2:b.toNat<256:=b.toNat_lt;have hRb:wr.cell? ⟨T+1,b.toNat,none⟩=some (.slice none 0 0):=by
      rw[hr.out.1.cell (by omega)];unfold zr;rw[qW (by have:=b.toNat_lt;omega)]
     have hR2:wr.cell? ⟨T+1,256,none⟩=some (.slice (some ⟨T,0,none⟩) 0 2):=by rw[hr.out.1.cell (by decide)];rfl
     have hT0:∀o1 o2,((wr.alloc o1).alloc o2).cell? ⟨T,0,none⟩=some (.string ⟨#[]⟩):=fun o1 o2=>((hr.out.2.alloc o1).alloc o2).cell (by decide)
     have hTf:∀o1 o2,((wr.alloc o1).alloc o2).frozen? ⟨T,0,none⟩=false:=fun o1 o2=>((hr.out.2.alloc o1).alloc o2).frozen _
     have hR3:∀o1 o2,((wr.alloc o1).alloc o2).cell? ⟨T+1,256,none⟩=some (.slice (some ⟨T,0,none⟩) 0 2):=fun o1 o2=>by rw[((hr.out.1.alloc o1).alloc o2).cell (by decide)];rfl
     have hRf:∀o1 o2,((wr.alloc o1).alloc o2).frozen? ⟨T+1,256,none⟩=false:=fun o1 o2=>((hr.out.1.alloc o1).alloc o2).frozen _
     have hR4:∀o1 o2 v1 v2 o3,(((((wr.alloc o1).alloc o2).setCell ⟨T,0,none⟩ v1).setCell ⟨T+1,256,none⟩ v2).alloc o3).cell? ⟨T+1,b.toNat,none⟩=some (.slice none 0 0):=fun o1 o2 v1 v2 o3=>by
      rw[((((((hr.out.1.alloc o1).alloc o2).setOther (a:=⟨T,0,none⟩) (by simp) v1).set 256 v2)).alloc o3).cell (by omega)]
      rw[qW (by omega)];unfold zr;rw[qW (by have:=b.toNat_lt;omega)]
     have hRg:∀o1 o2 v1 v2 o3,(((((wr.alloc o1).alloc o2).setCell ⟨T,0,none⟩ v1).setCell ⟨T+1,256,none⟩ v2).alloc o3).frozen? ⟨T+1,b.toNat,none⟩=false:=fun o1 o2 v1 v2 o3=>
      ((((((hr.out.1.alloc o1).alloc o2).setOther (a:=⟨T,0,none⟩) (by simp) v1).set 256 v2)).alloc o3).frozen _
     clear g2
     go_wp2
     go_roundg 1
     case measure=>exact Nat.lt_succ_self _
     case rel=>
      have HS:=q6g wr T 0 1 b b1 b2 hsz hr.out.1 hr.out.2;obtain⟨q1,q2,q3,q4,q5,q6,q7⟩:=HS;have q8:=World.block_lt_of_cell? _ _ q3;refine⟨hbx.trans q6,q7,Or.inr (Or.inl ⟨rfl,rfl,wr.heap.size+1+1,xz (w4 wr T 0 1 b),by omega,q8,(?_:_/\_/\_/\_)⟩)⟩
      refine⟨q1.congr (fun j _ => ?_),q2,q3,q4⟩
      ·show(if _ then _ else if _ then _ else zr _ j)=_
       unfold zr;by_cases h1:j=b.toNat
       ·rw[qX h1,qX h1]
       ·by_cases h2:j=256
        ·rw[qW h1,qX h2,qW h1,qX h2]
        ·rw[qW h1,qW h2,qW h2,qW h1,qW h2]
    ·have g0:∀h,(⟨#[a]⟩:ByteArray)[0]'h=a:=fun _=>rfl
     have g1:(a.toNat:Int)<256:=by have:=a.toNat_lt;omega
     have g2:a.toNat<256:=a.toNat_lt;have hne:¬a.toNat=b.toNat:=fun h=>hab (UInt8.toNat_inj.1 h)
     have HNE:Aside (¬a.toNat=b.toNat):=hne;have hRb:wr.cell? ⟨T+1,a.toNat,none⟩=some (.slice none 0 0):=by
      rw[hr.out.1.cell (by omega)];rw[qW (by omega),qW (by omega)]
     have hR2:wr.cell? ⟨T+1,256,none⟩=some (.slice (some ⟨T,0,none⟩) 1 2):=by rw[hr.out.1.cell (by decide)];rw[qW (by have:=b.toNat_lt;omega),qX rfl]
     have hT0:∀o1 o2,((wr.alloc o1).alloc o2).cell? ⟨T,1,none⟩=some (.string ⟨#[]⟩):=fun o1 o2=>((hr.out.2.1.alloc o1).alloc o2).cell (by decide)
     have hTf:∀o1 o2,((wr.alloc o1).alloc o2).frozen? ⟨T,1,none⟩=false:=fun o1 o2=>((hr.out.2.1.alloc o1).alloc o2).frozen _
     have hR3:∀o1 o2,((wr.alloc o1).alloc o2).cell? ⟨T+1,256,none⟩=some (.slice (some ⟨T,0,none⟩) 1 2):=fun o1 o2=>by rw[((hr.out.1.alloc o1).alloc o2).cell (by decide)];rw[qW (by have:=b.toNat_lt;omega),qX rfl]
     have hRf:∀o1 o2,((wr.alloc o1).alloc o2).frozen? ⟨T+1,256,none⟩=false:=fun o1 o2=>((hr.out.1.alloc o1).alloc o2).frozen _
     have hR4:∀o1 o2 v1 v2 o3,(((((wr.alloc o1).alloc o2).setCell ⟨T,1,none⟩ v1).setCell ⟨T+1,256,none⟩ v2).alloc o3).cell? ⟨T+1,a.toNat,none⟩=some (.slice none 0 0):=fun o1 o2 v1 v2 o3=>by
      rw[((((((hr.out.1.alloc o1).alloc o2).setOther (a:=⟨T,1,none⟩) (by simp) v1).set 256 v2)).alloc o3).cell (by omega)]
      rw[qW (by omega)];rw[qW (by omega),qW (by omega)]
     have hRg:∀o1 o2 v1 v2 o3,(((((wr.alloc o1).alloc o2).setCell ⟨T,1,none⟩ v1).setCell ⟨T+1,256,none⟩ v2).alloc o3).frozen? ⟨T+1,a.toNat,none⟩=false:=fun o1 o2 v1 v2 o3=>
      ((((((hr.out.1.alloc o1).alloc o2).setOther (a:=⟨T,1,none⟩) (by simp) v1).set 256 v2)).alloc o3).frozen _
     clear g2 hne
     go_wp2
     go_roundg 0
     case measure=>exact Nat.lt_succ_self _
     case rel=>
      have HS:=q6g wr T 1 2 a a1 a2 hsz hr.out.1 hr.out.2.1;obtain⟨q1,q2,q3,q4,q5,q6,q7⟩:=HS;have hgbR:=(q5 ⟨gb,0,none⟩ hgb hgs).trans hr.out.2.2.1;have hgbS:=(q5 ⟨gb,1,none⟩ hgb hgs).trans hr.out.2.2.2;have hB:ik (T+1) a b a1 a2 b1 b2 (w5 wr T 1 2 a a1 a2):=by
       refine⟨wr.heap.size+1+1,gb,T,xz (w4 wr T 1 2 a),cb,2,fun d => ?_,?_,?_,?_,q3,q4,hgbR,hgbS⟩
       ·rw[q1.cell (by have:=d.toNat_lt;omega)]
        unfold rv;by_cases h1:d=a
        ·rw[qX (congrArg _ h1),qX h1]
        ·rw[qW (fun h=>h1 (UInt8.toNat_inj.1 h)),qW h1,qW (by have:=d.toNat_lt;omega)]
         by_cases h2:d=b
         ·rw[qX (congrArg _ h2),qX h2]
         ·rw[qW (fun h=>h2 (UInt8.toNat_inj.1 h)),qW h2,qW (by have:=d.toNat_lt;omega)]
       ·rw[q1.cell (by decide),qW (by have:=a.toNat_lt;omega),qX rfl]
       ·rw[q2.cell (by decide)];rfl
       ·rw[q2.cell (by decide)];rfl
      exact⟨hbx.trans q6,q7,Or.inr (Or.inr ⟨rfl,rfl,hB⟩)⟩
    ·go_wp2
     go_ret
     exact⟨T+1,rfl,hr.out,by rw[hS.out];exact hbx⟩
end Go.Proofs.Repl
namespace Go.Proofs.YtbcijcbgdaggdabGreatDoor.Once
def disable(w:World):(callFunc 305 #[]).run Tryz.prog w = .ok (.value (.tuple #[])) w:=run_call_mark0 Tryz.func305 (by kernel_rfl) (by kernel_rfl) (by kernel_rfl) .disable (by kernel_rfl) w
def enable(w:World):(callFunc 307 #[]).run Tryz.prog w = .ok (.value (.tuple #[])) w:=run_call_mark0 Tryz.func307 (by kernel_rfl) (by kernel_rfl) (by kernel_rfl) .enable (by kernel_rfl) w
def acquire(a:Addr)(w:World):(callFunc 308 #[.pointer (some a)]).run Tryz.prog w = .ok (.value (.tuple #[])) w:=run_call_marked Tryz.func308 (by kernel_rfl) (by kernel_rfl) (by kernel_rfl) .acquire (by kernel_rfl) a w
def releaseMerge(a:Addr)(w:World):(callFunc 310 #[.pointer (some a)]).run Tryz.prog w = .ok (.value (.tuple #[])) w:=run_call_marked Tryz.func310 (by kernel_rfl) (by kernel_rfl) (by kernel_rfl) .releaseMerge (by kernel_rfl) a w
set_option maxHeartbeats 1600000 in
def zje(a:Addr)(x:Value)(u:FrameMode)(w:World)(hc:w.cell? a=some x)(hz:w.frozen? a=false) :
  CallsD Tryz.prog 278 #[.pointer (some a),.bool true] u w fun e u' w'=>u'=u/\(e = .returned (.tuple #[])/\w'=w.drew.setCell a (.int .u32 1)):=by
 have hc':w.drew.cell? a=some x:=by go_simp
 have hz':w.drew.frozen? a=false:=by go_simp
 have hst:=run_call_store (P:=Tryz.prog) Tryz.func295 (by kernel_rfl) (by kernel_rfl) (by kernel_rfl) (by kernel_rfl) (k := .u32) (y:=1) hc' hz'
 go_enter_d Tryz.func278,Tryz.ntmps278
 go_wp2
 go_region_calls
 all_goals (go_end0;exact⟨rfl,rfl⟩)
set_option maxHeartbeats 1600000 in
def zkh(a:Addr)(u:FrameMode)(w:World)(hc:w.cell? a=some (.int .i32 1))(hz:w.frozen? a=false) :
  CallsD Tryz.prog 277 #[.pointer (some a)] u w fun e u' w'=>u'=u/\(e = .returned (.tuple #[])/\w'=w.setCell a (.int .i32 0)):=by
 have hd:=disable;have he:=enable;have hr:=releaseMerge;have hadd:=run_call_add (P:=Tryz.prog) Tryz.func311 (by kernel_rfl) (by kernel_rfl) (by kernel_rfl) .i32 (by kernel_rfl) (y := -1) (s:=0) hc hz (by simp[go_sem];rfl)
 have hcv:=run_convert_to_unsafe (P:=Tryz.prog) (src:=342) (dst:=160) Tryz.underlying342 Tryz.underlying160 (by kernel_rfl) hc
 go_enter_d Tryz.func277,Tryz.ntmps277
 go_wp2
 go_end0
 go_wp2
 go_end0
 exact⟨rfl,rfl⟩
set_option maxHeartbeats 1600000 in
def zf0(a:Addr)(w:World)(hc:w.cell? a=some (.int .i32 0))(hz:w.frozen? a=false) :
  Calls Tryz.prog 276 #[.pointer (some a)] w fun e w'=>e = .returned (.tuple #[])/\w'=w.setCell a (.int .i32 1):=by
 have hd:=disable;have he:=enable;have ha:=acquire;have hcas:=run_call_cas_hit (P:=Tryz.prog) Tryz.func306 (by kernel_rfl) (by kernel_rfl) (by kernel_rfl) .i32 (by kernel_rfl) (y:=1) hc hz
 have hc':(w.setCell a (.int .i32 1)).cell? a=some (.int .i32 1):=World.cell?_setCell_same w a _ hc;have hcv:=run_convert_to_unsafe (P:=Tryz.prog) (src:=342) (dst:=160) Tryz.underlying342 Tryz.underlying160 (by kernel_rfl) hc'
 go_enter Tryz.func276,Tryz.ntmps276
 go_wp2
 first|go_end0|(simp only[Exit.inBlock,Exit.then];refine bodyPost_ret (results_none rfl _ _ _) rfl ?_)|refine bodyPost_ret (results_none rfl _ _ _) rfl ?_
 go_wp2
 go_end0
 exact⟨rfl,rfl⟩
end Go.Proofs.YtbcijcbgdaggdabGreatDoor.Once
namespace Go.Proofs.YtbcijcbgdaggdabGreatDoor.Once
set_option maxHeartbeats 1600000 in
def zi3(b:Nat)(w:World)(R:World->Prop)
  (h0:w.cell? ⟨b,0,none⟩=some (.int .u32 0)) (h1:w.cell? ⟨b,0+1,none⟩=some (.int .i32 0)) (f0:w.frozen? ⟨b,0,none⟩=false) (f1:w.frozen? ⟨b,0+1,none⟩=false)
  (hf:Calls Tryz.prog 226 #[.pointer (some ⟨b,0,none⟩)] (w.setCell ⟨b,0+1,none⟩ (.int .i32 1)) fun e w'=>e = .returned (.tuple #[])/\R w')
  (hR:∀w',R w'->w'.cell? ⟨b,0,none⟩=some (.int .u32 0)/\w'.frozen? ⟨b,0,none⟩=false/\w'.cell? ⟨b,0+1,none⟩=some (.int .i32 1)/\w'.frozen? ⟨b,0+1,none⟩=false) :
  Calls Tryz.prog 253 #[.pointer (some ⟨b,0,none⟩),.func (.func 226) #[.pointer (some ⟨b,0,none⟩)] #[]] w fun e w'=>e = .returned (.tuple #[])/\∃w1,R w1/\w'=(w1.drew.setCell ⟨b,0,none⟩ (.int .u32 1)).setCell ⟨b,0+1,none⟩ (.int .i32 0):=by
 have hl:=run_call_load (P:=Tryz.prog) Tryz.func275 (by kernel_rfl) (by kernel_rfl) (by kernel_rfl) .u32 (by kernel_rfl) (w:=w.setCell ⟨b,0+1,none⟩ (.int .i32 1)) (a:=⟨b,0,none⟩) (x:=0) ((World.cell?_setCell_other _ ⟨b,0+1,none⟩ ⟨b,0,none⟩ _ (by simp)).trans h0)
 have hnot:∀(x:Bool)(w:World),(Op.unary .not (.bool x)).run Tryz.prog w = .ok (.bool (!x)) w:=fun _ _=>rfl
 go_enter_defers Tryz.func253,Tryz.ntmps253
 go_wp2_with (first|(go_at_call 276;refine(zf0 ⟨b,0+1,none⟩ _ (by go_simp) (by go_simp)).mono ?_;rintro e w' ⟨rfl,rfl⟩)|(go_at_call 252;go_in)|(go_at_call 226;refine hf.mono ?_;rintro e w' ⟨rfl,hw⟩))
 obtain⟨r0,rf0,r1,rf1⟩:=hR w' hw
 first|go_end0|skip
 first|go_wp2|skip
 refine leaves_cons (f:=278) (args:=#[.pointer (some ⟨b,0,none⟩),.bool true]) (by simp) (by simp[go_sem]) ?_
 refine(zje ⟨b,0,none⟩ (.int .u32 0) .returning _ r0 rf0).mono ?_;rintro e u' w'' ⟨rfl,rfl,rfl⟩
 refine leaves_cons (f:=277) (args:=#[.pointer (some ⟨b,0+1,none⟩)]) (by simp[settle]) (by simp[go_sem]) ?_
 have r1':(w'.drew.setCell ⟨b,0,none⟩ (.int .u32 1)).cell? ⟨b,0+1,none⟩=some (.int .i32 1):=by
  refine(World.cell?_setCell_other _ ⟨b,0,none⟩ ⟨b,0+1,none⟩ _ (by simp)).trans ?_
  rw[World.cell?_drew];exact r1
 refine(zkh ⟨b,0+1,none⟩ _ _ r1' (by simp[rf1])).mono ?_
 rintro e u' w'' ⟨rfl,rfl,rfl⟩
 simp[Leaves,settle,results,Tryz.results253];exact⟨w',hw,rfl⟩
set_option maxHeartbeats 1600000 in
def zdw(b:Nat)(w:World)(R:World->Prop)
  (h0:w.cell? ⟨b,0,none⟩=some (.int .u32 0)) (h1:w.cell? ⟨b,0+1,none⟩=some (.int .i32 0)) (f0:w.frozen? ⟨b,0,none⟩=false) (f1:w.frozen? ⟨b,0+1,none⟩=false)
  (hf:Calls Tryz.prog 226 #[.pointer (some ⟨b,0,none⟩)] (w.setCell ⟨b,0+1,none⟩ (.int .i32 1)) fun e w'=>e = .returned (.tuple #[])/\R w')
  (hR:∀w',R w'->w'.cell? ⟨b,0,none⟩=some (.int .u32 0)/\w'.frozen? ⟨b,0,none⟩=false/\w'.cell? ⟨b,0+1,none⟩=some (.int .i32 1)/\w'.frozen? ⟨b,0+1,none⟩=false) :
  Calls Tryz.prog 225 #[.pointer (some ⟨b,0,none⟩),.func (.func 226) #[.pointer (some ⟨b,0,none⟩)] #[]] w fun e w'=>e = .returned (.tuple #[])/\∃w1,R w1/\w'=(w1.drew.setCell ⟨b,0,none⟩ (.int .u32 1)).setCell ⟨b,0+1,none⟩ (.int .i32 0):=by
 have hl:=run_call_load (P:=Tryz.prog) Tryz.func275 (by kernel_rfl) (by kernel_rfl) (by kernel_rfl) .u32 (by kernel_rfl) h0
 have hnot:∀(x:Bool)(w:World),(Op.unary .not (.bool x)).run Tryz.prog w = .ok (.bool (!x)) w:=fun _ _=>rfl
 go_enter Tryz.func225,Tryz.ntmps225
 go_wp2_with (first|(go_at_call 252;go_in)|(go_at_call 253;refine(zi3 b w R h0 h1 f0 f1 hf hR).mono ?_;rintro e w' ⟨rfl,w1,hw1,rfl⟩))
 go_end0
 exact⟨rfl,w1,hw1,rfl⟩
end Go.Proofs.YtbcijcbgdaggdabGreatDoor.Once
namespace Go.Proofs.YtbcijcbgdaggdabGreatDoor.Once
set_option maxHeartbeats 1600000 in
def replaceS_first(b:Nat)(s:ByteArray)(w:World)(R:World->Prop)(Q:Value->World->Prop)
  (h0:w.cell? ⟨b,0,none⟩=some (.int .u32 0)) (h1:w.cell? ⟨b,0+1,none⟩=some (.int .i32 0)) (f0:w.frozen? ⟨b,0,none⟩=false) (f1:w.frozen? ⟨b,0+1,none⟩=false)
  (hf:Calls Tryz.prog 226 #[.pointer (some ⟨b,0,none⟩)] (w.setCell ⟨b,0+1,none⟩ (.int .i32 1)) fun e w'=>e = .returned (.tuple #[])/\R w')
  (hR:∀w',R w'->w'.cell? ⟨b,0,none⟩=some (.int .u32 0)/\w'.frozen? ⟨b,0,none⟩=false/\w'.cell? ⟨b,0+1,none⟩=some (.int .i32 1)/\w'.frozen? ⟨b,0+1,none⟩=false)
  (hg:∀w',R w'->∃g,w'.cell? ⟨b,3,none⟩=some (.iface 311 (.pointer (some ⟨g,0,none⟩))) /\
   Calls Tryz.prog 353 #[.pointer (some ⟨g,0,none⟩),.string s] ((w'.drew.setCell ⟨b,0,none⟩ (.int .u32 1)).setCell ⟨b,0+1,none⟩ (.int .i32 0)) fun e w''=>∃v,e = .returned v/\Q v w'') :
  Calls Tryz.prog 191 #[.pointer (some ⟨b,0,none⟩),.string s] w fun e w'=>∃v,e = .returned v/\Q v w':=by
 have hme : ∀ (g : Nat) (w : World), (method 482 311 (.pointer (some ⟨g, 0, none⟩)) "Replace").run Tryz.prog w = .ok (353, .pointer (some ⟨g, 0, none⟩)) w := fun _ _ => by kernel_rfl
 go_enter Tryz.func191,Tryz.ntmps191
 go_wp2_with (first|(go_at_call 225;refine(zdw b w R h0 h1 f0 f1 hf hR).mono ?_;rintro e w' ⟨rfl,w1,hw1,rfl⟩;obtain⟨g,hg1,hg2⟩:=hg w1 hw1;have hc3:((w1.drew.setCell ⟨b,0,none⟩ (.int .u32 1)).setCell ⟨b,0+1,none⟩ (.int .i32 0)).cell? ⟨b,3,none⟩=some (.iface 311 (.pointer (some ⟨g,0,none⟩))):=((World.cell?_setCell_other _ ⟨b,0+1,none⟩ ⟨b,3,none⟩ _ (by simp)).trans ((World.cell?_setCell_other _ ⟨b,0,none⟩ ⟨b,3,none⟩ _ (by simp)).trans (by rw[World.cell?_drew];exact hg1))))|(go_at_call 353;refine hg2.mono ?_;rintro e w' ⟨v,rfl,hq⟩))
 go_ret
 exact⟨_,rfl,hq⟩
end Go.Proofs.YtbcijcbgdaggdabGreatDoor.Once
namespace Go.Sym
open Go.RowKit
variable[LC]
def b9.blocks_none{G:Gh}{hp:List (Nat×ag)}{w:World}(hm:b9 G hp w){b:Nat}(h:mh G hp b)(o:Nat):G.imm b o=none:=by
 obtain⟨n,bx,hl,ha⟩:=h;have hb:=hm.holds n bx hl
 cases bx with
 |cells cs T=>obtain⟨B,vs,h1,_,_,_,h5⟩:=hb;simp only[Gh.at,h1,qI]at ha;subst ha;exact h5 o
 |row τ l E=>
  obtain⟨a,c,h1,h2⟩:=hb;rcases h2 with⟨rfl,_⟩|⟨g,vs,fz,rfl,_,_,_,_,_,_,_,h9⟩
  ·simp only[Gh.at,h1]at ha;cases ha
  ·simp only[Gh.at,h1,qI]at ha;subst ha;exact h9 o
 |loop st pe f m fr ps tag D=>obtain⟨B,tmps,DB,h1,_,_,_,_,h5⟩:=hb;simp only[Gh.at,h1,qI]at ha;subst ha;exact h5 o
 |dfr=>obtain⟨B,h1,_,h5⟩:=hb;simp only[Gh.at,h1,qI]at ha;subst ha;exact h5 o
 |it s p=>obtain⟨B,h1,_,h5⟩:=hb;simp only[Gh.at,h1,qI]at ha;subst ha;exact h5 o
 |dead=>cases ha
def db.gone{P:Program}{f:FuncId}{xs:List AV}{hp:List (Nat×ag)}{r:AV}
  (h:∀(w:World)(G:Gh)(vs:List Value),b9 G hp w->aj xs G vs->Calls P f vs.toArray w fun e w'=>∃v,e = .returned v/\ah r G v/\bn (mh G hp) w w'):db P f xs hp r []:=by
 intro w G vs hm hr;refine(h w G vs hm hr).mono ?_;rintro e w' ⟨v,rfl,hv,hs⟩
 have hblk:∀b o v,G.imm b o=some v->w'.heap[b]? = w.heap[b]? := fun b o v hv=>hs.block b (World.block_lt_of_cell? _ _ (hm.agree b o v hv)) fun hb=>by
  rw[hm.blocks_none hb o]at hv;cases hv
 refine⟨v,G,rfl,⟨⟨fun b o v hv=>by rw[World.cell?_of_block (w:=w) (hblk b o v hv)];exact hm.agree b o v hv,hm.one,fun n bx h=>(by cases h),fun n m bx bx' b h=>(by cases h),LC.mono (fun _ _ _ h=>h) hblk hm.tab⟩,hs,fun _ _ _ h=>h,fun _ _ _ h => .inl h,fun n bx b h=>(by cases h),fun _ _ _ _ h=>h,fun _ _ _ _ h=>h⟩,hv⟩
end Go.Sym
set_option linter.unusedVariables false
namespace Go.Proofs.Repl
open Go.Shelf Go.RowKit Go.Lib Go.Sym
def ik.setCell{R q n:Nat}{u:Int}{a b a1 a2 b1 b2:UInt8}{w:World}(h:ik R a b a1 a2 b1 b2 w)(hq:w.cell? ⟨q,0,none⟩=some (.int .u32 u))(v:Value):ik R a b a1 a2 b1 b2 (w.setCell ⟨q,n,none⟩ v):=by
 obtain⟨ga,gb,gt,ca,cb,ct,h1,h2,h3,h4,h5,h6,h7,h8⟩:=h.ex;have kR:¬R=q:=fun e=>by
  have:=h1 0;subst e;rw[show(0:UInt8).toNat=0 from rfl,hq]at this
  unfold rv at this;split at this
  ·cases this
  ·split at this<;>cases this
 have kt:¬gt=q:=fun e=>by subst e;rw[hq]at h3;cases h3
 have ka:¬ga=q:=fun e=>by subst e;rw[hq]at h5;cases h5
 have kb:¬gb=q:=fun e=>by subst e;rw[hq]at h7;cases h7
 have k:∀{p:Nat}{o:Nat}{x:Value},¬p=q->w.cell? ⟨p,o,none⟩=some x->(w.setCell ⟨q,n,none⟩ v).cell? ⟨p,o,none⟩=some x:=fun{p o x} hp hx=>by
  rw[World.cell?_of_block (w:=w) (Below.heap_setCell w ⟨q,n,none⟩ v p hp)];exact hx
 exact⟨ga,gb,gt,ca,cb,ct,fun c=>k kR (h1 c),k kR h2,k kt h3,k kt h4,k ka h5,k ka h6,k kb h7,k kb h8⟩
structure Once(q:Nat)(w w':World):Prop where
 bel:bn (fun k=>k=q) w w'
 c0:w'.cell? ⟨q,0,none⟩=some (.int .u32 0)
 c1:w'.cell? ⟨q,0+1,none⟩=some (.int .i32 1)
 f0:w'.frozen? ⟨q,0,none⟩=false
 f1:w'.frozen? ⟨q,0+1,none⟩=false
def zcc(S:Nat->Prop)(w:World):bn S w w.drew:=⟨rfl,rfl,rfl,wF _,fun _ _ _=>rfl⟩
def qqq{S:Nat->Prop}{w w':World}(h:Below w.heap.size w w'):bn S w w':=⟨h.os,h.tape,h.output,h.size,fun k hk _=>h.block k hk⟩
def qcn{q:Nat}{w w':World}(h:bn (fun k=>k=q) w w')(n:Nat)(v:Value):bn (fun k=>k=q) w (w'.setCell ⟨q,n,none⟩ v):=
 ⟨h.os,h.tape,h.output,by simp[World.setCell];exact h.size,fun k hk hn=>(Below.heap_setCell w' ⟨q,n,none⟩ v k hn).trans (h.block k hk hn)⟩
def qqr{S:Nat->Prop}{a b c:World}(h:bn S a b)(k:bn S b c):bn S a c:=
 ⟨k.os.trans h.os,k.tape.trans h.tape,k.output.trans h.output,Nat.le_trans h.size k.size,fun i hi hn=>(k.block i (Nat.lt_of_lt_of_le hi h.size) hn).trans (h.block i hi hn)⟩
set_option maxHeartbeats 1600000 in
def zcp(q ro cap:Nat)(v3:Value)(a b a1 a2 b1 b2:UInt8)(w:World)(hab:a≠b)
  (c0:w.cell? ⟨q,0,none⟩=some (.int .u32 0)) (c1:w.cell? ⟨q,0+1,none⟩=some (.int .i32 1)) (hf:∀j,w.frozen? ⟨q,j,none⟩=false) (c3:w.cell? ⟨q,3,none⟩=some v3)
  (hc:w.cell? ⟨q,4,none⟩=some (.slice (some ⟨ro,0,none⟩) 4 cap)) (h0:w.cell? ⟨ro,0,none⟩=some (.string ⟨#[a]⟩)) (h1:w.cell? ⟨ro,1,none⟩=some (.string ⟨#[a1,a2]⟩)) (h2:w.cell? ⟨ro,2,none⟩=some (.string ⟨#[b]⟩)) (h3:w.cell? ⟨ro,3,none⟩=some (.string ⟨#[b1,b2]⟩)) :
  Calls Tryz.prog 226 #[.pointer (some ⟨q,0,none⟩)] w fun e w'=>e = .returned (.tuple #[])/\Once q w w'/\∃R,w'.cell? ⟨q,3,none⟩=some (.iface 311 (.pointer (some ⟨R,0,none⟩)))/\ik R a b a1 a2 b1 b2 w':=by
 have hqlt:q<w.heap.size:=World.block_lt_of_cell? _ _ c0;have hB:=zcl q ro cap a b a1 a2 b1 b2 w hab hc h0 h1 h2 h3
 go_enter Tryz.func226,Tryz.ntmps226
 go_wp2_with (go_at_call 254;go_must (refine hB.mono ?_;rintro e W ⟨R,rfl,hBu,hbe⟩;have k0:∀{j:Nat}{v:Value},w.cell? ⟨q,j,none⟩=some v->W.cell? ⟨q,j,none⟩=some v:=(fun hj=>(hbe.cell (World.block_lt_of_cell? _ _ hj)).trans hj);have kf:∀j,W.frozen? ⟨q,j,none⟩=false:=(fun j=>(hbe.frozen (p:=⟨q,j,none⟩) hqlt).trans (hf j));have d0:=k0 c0;have d1:=k0 c1;have d3:=k0 c3;have d4:=k0 hc;clear hB hf k0))
 have d0':(W.setCell ⟨q,3,none⟩ (.iface 311 (.pointer (some ⟨R,0,none⟩)))).cell? ⟨q,0,none⟩=some (.int .u32 0):=by rw[World.cell?_setCell_other _ _ _ _ (by simp)];exact d0
 have d1':(W.setCell ⟨q,3,none⟩ (.iface 311 (.pointer (some ⟨R,0,none⟩)))).cell? ⟨q,0+1,none⟩=some (.int .i32 1):=by rw[World.cell?_setCell_other _ _ _ _ (by simp)];exact d1
 have d3':=World.cell?_setCell_same W ⟨q,3,none⟩ (.iface 311 (.pointer (some ⟨R,0,none⟩))) d3
 go_end0
 refine⟨rfl,⟨qcn (qcn (qqq hbe) 3 _) 4 _,?_,?_,?_,?_⟩,R,?_,(hBu.setCell d0 _).setCell d0' _⟩
 ·rw[World.cell?_setCell_other _ _ _ _ (by simp)];exact d0'
 ·rw[World.cell?_setCell_other _ _ _ _ (by simp)];exact d1'
 ·simp[kf]
 ·simp[kf]
 ·rw[World.cell?_setCell_other _ _ _ _ (by simp)];exact d3'
def replS(q ro cap:Nat)(v3:Value)(a b a1 a2 b1 b2:UInt8)(s:ByteArray)(w:World)(hab:a≠b)(hs:s.size<=1000000)
  (c0:w.cell? ⟨q,0,none⟩=some (.int .u32 0)) (c1:w.cell? ⟨q,0+1,none⟩=some (.int .i32 0)) (hf:∀j,w.frozen? ⟨q,j,none⟩=false) (c3:w.cell? ⟨q,3,none⟩=some v3)
  (hc:w.cell? ⟨q,4,none⟩=some (.slice (some ⟨ro,0,none⟩) 4 cap)) (h0:w.cell? ⟨ro,0,none⟩=some (.string ⟨#[a]⟩)) (h1:w.cell? ⟨ro,1,none⟩=some (.string ⟨#[a1,a2]⟩)) (h2:w.cell? ⟨ro,2,none⟩=some (.string ⟨#[b]⟩)) (h3:w.cell? ⟨ro,3,none⟩=some (.string ⟨#[b1,b2]⟩)) :
  Calls Tryz.prog 191 #[.pointer (some ⟨q,0,none⟩),.string s] w fun e w'=>∃v,e = .returned v/\v = .string ⟨(d5 a b [a1,a2] [b1,b2] s.data.toList).toArray⟩/\bn (fun k=>k=q) w w':=by
 have hne:¬ro=q:=fun e=>by subst e;rw[c0]at h0;cases h0
 have k:∀{p:Addr}{x:Value},p≠⟨q,0+1,none⟩->w.cell? p=some x->(w.setCell ⟨q,0+1,none⟩ (.int .i32 1)).cell? p=some x:=fun{p x} hp hx=>by
  rw[World.cell?_setCell_other _ _ _ _ (fun e=>hp e.symm)];exact hx
 have kb:bn (fun k=>k=q) w (w.setCell ⟨q,0+1,none⟩ (.int .i32 1)):=qcn (qqq (Below.refl _ _)) _ _
 refine Go.Proofs.YtbcijcbgdaggdabGreatDoor.Once.replaceS_first q s w (fun w'=>Once q (w.setCell ⟨q,0+1,none⟩ (.int .i32 1)) w'/\∃R,w'.cell? ⟨q,3,none⟩=some (.iface 311 (.pointer (some ⟨R,0,none⟩)))/\ik R a b a1 a2 b1 b2 w') (fun v w'=>v = .string ⟨(d5 a b [a1,a2] [b1,b2] s.data.toList).toArray⟩/\bn (fun k=>k=q) w w') c0 c1 (hf _) (hf _) ?_ ?_ ?_
 ·exact zcp q ro cap v3 a b a1 a2 b1 b2 _ hab (k (by simp) c0) (World.cell?_setCell_same w _ _ c1) (fun j=>by simp[hf]) (k (by simp) c3) (k (by simp) hc) (k (by intro h;exact hne (congrArg Addr.block h)) h0) (k (by intro h;exact hne (congrArg Addr.block h)) h1) (k (by intro h;exact hne (congrArg Addr.block h)) h2) (k (by intro h;exact hne (congrArg Addr.block h)) h3)
 ·rintro w' ⟨ho,_⟩
  exact⟨ho.c0,ho.f0,ho.c1,ho.f1⟩
 ·rintro w' ⟨ho,R,hR,hBu⟩
  refine⟨R,hR,?_⟩;have e0:w'.drew.cell? ⟨q,0,none⟩=some (.int .u32 0):=by rw[World.cell?_drew];exact ho.c0
  have e1:=World.cell?_setCell_same w'.drew ⟨q,0,none⟩ (.int .u32 1) e0;have hB2:ik R a b a1 a2 b1 b2 ((w'.drew.setCell ⟨q,0,none⟩ (.int .u32 1)).setCell ⟨q,0+1,none⟩ (.int .i32 0)):=
   ((hBu.below (Below.refl _ w').drew).setCell e0 _).setCell e1 _
  have hBel:bn (fun k=>k=q) w ((w'.drew.setCell ⟨q,0,none⟩ (.int .u32 1)).setCell ⟨q,0+1,none⟩ (.int .i32 0)):=
   qcn (qcn (qqr (qqr kb ho.bel) (zcc _ _)) 0 _) (0+1) _
  refine(zct R a b a1 a2 b1 b2 s _ hab hs hB2).mono ?_;rintro e w2 ⟨rfl,hb2⟩
  exact⟨_,rfl,rfl,qqr hBel (qqq hb2)⟩
end Go.Proofs.Repl
namespace Go.Sym
open Go.Proofs Go.RowKit
variable[LC]
def zh8(a b a1 a2 b1 b2:UInt8)(s:Bs)(p2:Int)(hab:a≠b)(hs:s.length<=1000000) :
  db Tryz.prog 191 [.ptr 0 0,.str s] [(0,.cells [.int .u32 0,.int .i32 0,.int .u32 p2,.val .nilIface,.own 1] 252),(1,.row .str [[a],[a1,a2],[b],[b1,b2]] 9)] (.str (d5 a b [a1,a2] [b1,b2] s)) []:=by
 refine db.gone fun w G vs hm hr => ?_
 match vs,hr with
 |[v1,v2],hr=>
 obtain⟨⟨q,hG,rfl⟩,r2,_⟩:=hr;have r2:v2 = .string ⟨s.toArray⟩:=r2;subst r2;obtain⟨B,cs,g1,g2,g3,g4,g5⟩:=hm.holds 0 _ rfl;rw[show G.box 0=some q from hG]at g1
 cases g1
 obtain⟨ad,c,us,o1,o2,o3,o4⟩:=(hm.holds 1 (.row .str [[a],[a1,a2],[b],[b1,b2]] 9) rfl).rowAt;obtain⟨u0,c0,x0⟩:=jd g3 (i:=0) rfl;obtain⟨u1,c1,x1⟩:=jd g3 (i:=1) rfl;obtain⟨u3,c3,x3⟩:=jd g3 (i:=3) rfl;obtain⟨u4,c4,x4⟩:=jd g3 (i:=4) rfl;have x0:u0 = .int .u32 0:=x0;have x1:u1 = .int .i32 0:=x1;obtain⟨ad',n',c',x5,x4⟩:=x4;rw[o1]at x5;cases x5
 subst x0 x1 x4;have k:∀{i:Nat}{v:Value},cs.toList[i]? = some v->w.cell? ⟨q,i,none⟩=some v:=fun{i v} h=>cell_of_heap g2 h
 obtain⟨ho1,ho2⟩:=o2;rcases ho2 with⟨_,h0,_⟩|⟨g,vr,fz,rfl,e1,_,e3,e4,e5,e6,_⟩
 ·cases h0
 ·have hus:us=[.string ⟨#[a]⟩,.string ⟨#[a1,a2]⟩,.string ⟨#[b]⟩,.string ⟨#[b1,b2]⟩]:=by
   match us,o3 with
   |[y0,y1,y2,y3],⟨z0,z1,z2,z3,_⟩=>
    have z0:y0 = .string ⟨#[a]⟩:=z0;have z1:y1 = .string ⟨#[a1,a2]⟩:=z1;have z2:y2 = .string ⟨#[b]⟩:=z2;have z3:y3 = .string ⟨#[b1,b2]⟩:=z3;rw[z0,z1,z2,z3]
  have kr:∀{i:Nat}{v:Value},us[i]? = some v->w.cell? ⟨g,i,none⟩=some v:=fun{i v} h=>by
   rw[← e6,List.getElem?_take]at h;split at h
   ·exact cell_of_heap e1 h
   ·cases h
  subst hus;refine(Go.Proofs.Repl.replS q g c u3 a b a1 a2 b1 b2 ⟨s.toArray⟩ w hab (by rw[gf];exact hs) (k c0) (k c1) (fun j=>by simp[World.frozen?,g2]) (k c3) (k c4) (kr (i:=0) rfl) (kr (i:=1) rfl) (kr (i:=2) rfl) (kr (i:=3) rfl)).mono ?_
  rintro e w' ⟨v,rfl,rfl,hb⟩
  refine⟨_,rfl,rfl,⟨hb.os,hb.tape,hb.output,hb.size,fun k hk hn=>hb.block k hk (fun e=>hn ?_)⟩⟩
  subst e;exact⟨0,_,rfl,hG⟩
def q5e:IF:=⟨.fn 191,[.ptr 0 0,.h .str],[(0,.cells [.h (.int .u32),.h (.int .i32),.h (.int .u32),.c .nilIface,.own 1] 252),(1,.row .str 9)],_,RS.mk (.h .str) []⟩
def zh9:(q5e.e qx).Sound Tryz.prog:=fun d d' r h=>by
 obtain⟨_,s,_⟩:=d;obtain⟨⟨p0,p1,p2,_,_,_⟩,on,_⟩:=d';have h:qx s p0 p1 p2 on=some r:=h;obtain⟨a,a1,a2,b,b1,b2,rfl,rfl,rfl,hab,hs,rfl⟩:=zia h;exact⟨Tryz.call191,zh8 a b a1 a2 b1 b2 s p2 hab hs⟩
end Go.Sym
namespace Go.Sym
open Go.Proofs Go.RowKit
open Go.Proofs.Tryz
variable[LC]
def zcg:Builder.Extra Tryz.prog Tryz.lays155_ren:={
 sizeBuilder:=by kernel_rfl
 liesBuilder:=by kernel_rfl
 t5:=Tryz.lays155.t5
 a5:=Tryz.lays155.a5
 z5:=Tryz.lays155.z5
 v5:=Tryz.lays155.v5
 infoByte:=by kernel_rfl
 cellsByte:=by kernel_rfl
 sizeByte:=by kernel_rfl
 neB5:=by decide }
def zh6{G:Gh}{w:World}(hm:b9 G [] w)(hi:2∈LC.ints)(s o n:Bs)(d1:1<=o.length)(d2:s.length<4294967281)(d3:s.length+s.length*n.length<=140737488355328) :
  Calls Tryz.prog 40 #[.string ⟨s.toArray⟩,.string ⟨o.toArray⟩,.string ⟨n.toArray⟩] w fun e w'=>e = .returned (.string ⟨(Lib.replaceAll s o n).toArray⟩)/\bq w w':=by
 obtain⟨k,hk⟩:=hm.tab.2.1 _ hi;have hk:=hm.agree _ _ _ hk;have hc:Lib.countB ⟨s.toArray⟩ ⟨o.toArray⟩<=s.length:=by
  have:=Lib.countB_mul_le (⟨o.toArray⟩:ByteArray) (by rw[gf];exact d1) _ (⟨s.toArray⟩:ByteArray) (wF _)
  rw[gf,gf]at this;exact Nat.le_trans (Nat.le_mul_of_pos_right _ d1) this
 exact(Any.strings_ReplaceAll Tryz.lays155 zcg ⟨s.toArray⟩ ⟨o.toArray⟩ ⟨n.toArray⟩ k w (by rw[gf];exact d2) hk (by rw[gf];exact d1) (by
  rw[gf,gf];exact Nat.le_trans (Nat.add_le_add_left (Nat.mul_le_mul_right _ hc) _) d3)).mono fun e w'⟨he,hw⟩=>⟨he,bq.of_below hw⟩
def q5d:IF:=⟨.fn 40,[.h .str,.h .str,.h .str],[],_,RS.mk (.h .str) []⟩
def zh7(hi:2∈LC.ints):(q5d.e xd).Sound Tryz.prog:=fun d d' r h=>by
 obtain⟨s,o,n,_⟩:=d;have h:xd s o n=some r:=h;unfold xd at h;cases hd:decide (1<=List.length (α:=UInt8) o/\List.length (α:=UInt8) s<4294967281/\List.length (α:=UInt8) s+List.length (α:=UInt8) s*List.length (α:=UInt8) n<=140737488355328)<;>rw[hd]at h<;>simp only[qT,qF,reduceCtorEq]at h
 have h:=qJ h;subst h;obtain⟨d1,d2,d3⟩:=of_decide_eq_true hd;refine⟨call40,db.data fun w G vs hm hr => ?_⟩
 match vs,hr with
 |[u,v,x],⟨h1,h2,h3,_⟩=>
  have h1:u = .string ⟨s.toArray⟩:=h1;have h2:v = .string ⟨o.toArray⟩:=h2;have h3:x = .string ⟨n.toArray⟩:=h3;subst h1 h2 h3;exact(zh6 hm hi s o n d1 d2 d3).mono fun e w'⟨he,hw⟩=>⟨_,he,rfl,hw⟩
end Go.Sym
namespace Go.Sym
open Go.Proofs Go.RowKit Go.Shelf
def bn.refl(S:Nat->Prop)(w:World):bn S w w:=⟨rfl,rfl,rfl,wF _,fun _ _ _=>rfl⟩
def bn.drew(S:Nat->Prop)(w:World):bn S w w.drew:=⟨rfl,rfl,rfl,wF _,fun _ _ _=>rfl⟩
def bn.freeze{S:Nat->Prop}(w:World)(p:Addr)(n:Nat)(h:S p.block):bn S w (w.drew.freeze p n):=by
 unfold World.freeze;split
 ·exact bn.drew S w
 ·exact⟨rfl,rfl,rfl,by simp,fun k hk hS=>by
   simp only[Array.getElem?_modify];rw[qW (fun e=>hS (by rw[← e];exact h))];rfl⟩
def bn.drew_alloc(S:Nat->Prop)(w:World)(o:Obj):bn S w (w.drew.alloc o):=⟨rfl,rfl,rfl,by simp,fun k hk _=>Below.heap_alloc w.drew _ k hk⟩
def q04{G:Gh}:∀{l:List UInt8}{us:List Value},aj (l.flatMap Ty.byte.enc) G us->us=Lib.byteCells l
 |[],[],_=>rfl|c::l,u::us,⟨h1,h2⟩=>by
  have h1:u = .int .u8 c.toNat:=h1;rw[h1,q04 (l:=l) h2];rfl
 |[],_::_,h=>h.elim|_::_,[],h=>h.elim
section
variable{P:Program}{ρ:Ren}
set_option maxHeartbeats 2000000 in
def zjf(L:Lays.n169 P ρ)(X:Builder.Extra P ρ)(b:Nat)(p:Value)(l:List UInt8)(g cap:Nat)(w:World)(hbk:w.heap[b]? = some (.cells #[p,.slice (some ⟨g,0,none⟩) l.length cap] (ρ.t 72) (0,0)))
  (cur:Array Value) (fz:Nat×Nat) (hg:w.heap[g]? = some (.cells cur (ρ.t 5) fz)) (hnc:l.length<=cap) (hcm:cap<=maxLen) (hcs:cur.size=cap*1) (htake:cur.toList.take (l.length*1)=Lib.byteCells l) (h0:l≠[]) :
  Calls P (ρ.f 169) #[.pointer (some ⟨b,0,none⟩)] w fun e w'=>e = .returned (.string ⟨l.toArray⟩)/\bn (fun k=>k=g) w w':=by
 have lj:l.length≠0:=by simpa using h0
 have c1:w.drew.cell? ⟨b,1,none⟩=some (.slice (some ⟨g,0,none⟩) l.length cap):=by
  have:w.drew.heap[b]? = some (.cells #[p,.slice (some ⟨g,0,none⟩) l.length cap] (ρ.t 72) (0,0)):=hbk;rw[Lib.cell_of_heap this];rfl
 have hSD:(Builtin.unsafeSliceData_ #[(ρ.t 37)] (ρ.t 127) #[.slice (some ⟨g,0,none⟩) l.length cap]).run P w.drew = .ok (.pointer (some ⟨g,0,none⟩)) w.drew:=
  Lib.run_unsafeSliceData_row _ _ _ _ _ _ (by omega)
 have hUS:(Builtin.unsafeString_ #[(ρ.t 127),(ρ.t 3)] (ρ.t 9) #[.pointer (some ⟨g,0,none⟩),.int .i64 l.length]).run P w.drew = .ok (.string ⟨l.toArray⟩) (w.drew.freeze ⟨g,0,none⟩ l.length):=by
  refine Lib.run_unsafeString_row w.drew (ρ.t 127) (ρ.t 3) (ρ.t 9) (ρ.t 5) L.t127 X.cellsByte g cur.size (by have hg':w.drew.heap[g]? = some (.cells cur (ρ.t 5) fz):=hg;simp[World.shape?,hg']) l h0 (by omega) (by unfold maxLen at hcm;omega) ?_
  intro j x hx;have hj:(cur.toList.take (l.length*1))[j]? = some (.int .u8 x.toNat):=by rw[htake];simp[Lib.byteCells,hx]
  have hj2:cur[j]? = some (.int .u8 x.toNat):=by
   rw[List.getElem?_take]at hj;split at hj
   ·simpa using hj
   ·cases hj
  have hg':w.drew.heap[g]? = some (.cells cur (ρ.t 5) fz):=hg;by_cases hj0:j=0
  ·subst hj0;simp[World.cell?,Addr.add,hg',hj2]
  ·simp[World.cell?,Addr.add,hj0,hg',hj2]
 have mixed:=L.mixed;have t72:=L.t72;have a72:=L.a72;have z72:=L.z72;have v72:=L.v72;have u72:=run_underlying L.t72;have t70:=L.t70;have a70:=L.a70;have z70:=L.z70;have v70:=L.v70;have u70:=run_underlying L.t70;have t37:=L.t37;have a37:=L.a37;have z37:=L.z37;have v37:=L.v37;have u37:=run_underlying L.t37;have t127:=L.t127;have a127:=L.a127;have z127:=L.z127;have v127:=L.v127;have u127:=run_underlying L.t127;have t3:=L.t3;have a3:=L.a3;have z3:=L.z3;have v3:=L.v3;have u3:=run_underlying L.t3;have t9:=L.t9;have a9:=L.a9;have z9:=L.z9;have v9:=L.v9;have u9:=run_underlying L.t9;have t5:=X.t5;have a5:=X.a5;have z5:=X.z5;have v5:=X.v5;have u5:=run_underlying X.t5;clear hcs htake hnc hcm hg
 go_enter L.f169,Body.n169_ntmps ρ
 go_wp2
 go_region_o
 all_goals (go_wp2;go_ret;exact⟨rfl,bn.freeze w ⟨g,0,none⟩ _ rfl⟩)
set_option maxHeartbeats 2000000 in
def zjg(L:Lays.n169 P ρ)(X:Builder.Extra P ρ)(b:Nat)(p:Value)(w:World)(hbk:w.heap[b]? = some (.cells #[p,.slice none 0 0] (ρ.t 72) (0,0))) :
  Calls P (ρ.f 169) #[.pointer (some ⟨b,0,none⟩)] w fun e w'=>e = .returned (.string ⟨#[]⟩)/\bn (fun _=>False) w w':=by
 have hUS:=Any.unsafeString_none L X;have c1:w.drew.cell? ⟨b,1,none⟩=some (.slice none 0 0):=by
  have:w.drew.heap[b]? = some (.cells #[p,.slice none 0 0] (ρ.t 72) (0,0)):=hbk;rw[Lib.cell_of_heap this];rfl
 have hSD:(Builtin.unsafeSliceData_ #[(ρ.t 37)] (ρ.t 127) #[.slice none 0 0]).run P w.drew = .ok (.pointer none) w.drew:=rfl;have mixed:=L.mixed;have t72:=L.t72;have a72:=L.a72;have z72:=L.z72;have v72:=L.v72;have u72:=run_underlying L.t72;have t70:=L.t70;have a70:=L.a70;have z70:=L.z70;have v70:=L.v70;have u70:=run_underlying L.t70;have t37:=L.t37;have a37:=L.a37;have z37:=L.z37;have v37:=L.v37;have u37:=run_underlying L.t37;have t127:=L.t127;have a127:=L.a127;have z127:=L.z127;have v127:=L.v127;have u127:=run_underlying L.t127;have t3:=L.t3;have a3:=L.a3;have z3:=L.z3;have v3:=L.v3;have u3:=run_underlying L.t3;have t9:=L.t9;have a9:=L.a9;have z9:=L.z9;have v9:=L.v9;have u9:=run_underlying L.t9;have t5:=X.t5;have a5:=X.a5;have z5:=X.z5;have v5:=X.v5;have u5:=run_underlying X.t5
 go_enter L.f169,Body.n169_ntmps ρ
 go_wp2
 go_region_o
 all_goals (go_wp2;go_ret;exact⟨rfl,bn.drew _ w⟩)
set_option maxHeartbeats 2000000 in
def zjh(L:Lays.n169 P ρ)(X:Builder.Extra P ρ)(b g:Nat)(p:Value)(cur:Array Value)(w:World)(hbk:w.heap[b]? = some (.cells #[p,.slice (some ⟨g,0,none⟩) 0 0] (ρ.t 72) (0,0)))(fz:Nat×Nat)(hg:w.heap[g]? = some (.cells cur (ρ.t 5) fz)) :
  Calls P (ρ.f 169) #[.pointer (some ⟨b,0,none⟩)] w fun e w'=>e = .returned (.string ⟨#[]⟩)/\bn (fun _=>False) w w':=by
 have hUS:=Any.unsafeString_none L X;have hlt:b<w.heap.size:=by
  rcases Nat.lt_or_ge b w.heap.size with h'|h'
  ·exact h'
  ·simp[Array.getElem?_eq_none h']at hbk
 have c1:w.drew.cell? ⟨b,1,none⟩=some (.slice (some ⟨g,0,none⟩) 0 0):=by
  have:w.drew.heap[b]? = some (.cells #[p,.slice (some ⟨g,0,none⟩) 0 0] (ρ.t 72) (0,0)):=hbk;rw[Lib.cell_of_heap this];rfl
 have hSD:(Builtin.unsafeSliceData_ #[(ρ.t 37)] (ρ.t 127) #[.slice (some ⟨g,0,none⟩) 0 0]).run P w.drew = .ok (.pointer (some ⟨w.drew.heap.size,0,none⟩)) (w.drew.alloc (.view ⟨g,0,none⟩ (ρ.t 5))):=
  Lib.run_unsafeSliceData_zero w.drew _ _ (ρ.t 5) L.t127 ⟨g,0,none⟩ 0 ((ρ.t 5),cur.size) (by have hg':w.drew.heap[g]? = some (.cells cur (ρ.t 5) fz):=hg;simp[World.shape?,hg'])
 have c2:(w.drew.alloc (.view ⟨g,0,none⟩ (ρ.t 5))).cell? ⟨b,1,none⟩=some (.slice (some ⟨g,0,none⟩) 0 0):=by
  have:(w.drew.alloc (.view ⟨g,0,none⟩ (ρ.t 5))).heap[b]? = _:=(Lib.alloc_old w.drew _ b hlt).trans hbk;rw[Lib.cell_of_heap this];rfl
 have c3:(w.alloc (.view ⟨g,0,none⟩ (ρ.t 5))).drew.cell? ⟨b,1,none⟩=some (.slice (some ⟨g,0,none⟩) 0 0):=c2;have c0:w.cell? ⟨b,1,none⟩=some (.slice (some ⟨g,0,none⟩) 0 0):=c1;have mixed:=L.mixed;have t72:=L.t72;have a72:=L.a72;have z72:=L.z72;have v72:=L.v72;have u72:=run_underlying L.t72;have t70:=L.t70;have a70:=L.a70;have z70:=L.z70;have v70:=L.v70;have u70:=run_underlying L.t70;have t37:=L.t37;have a37:=L.a37;have z37:=L.z37;have v37:=L.v37;have u37:=run_underlying L.t37;have t127:=L.t127;have a127:=L.a127;have z127:=L.z127;have v127:=L.v127;have u127:=run_underlying L.t127;have t3:=L.t3;have a3:=L.a3;have z3:=L.z3;have v3:=L.v3;have u3:=run_underlying L.t3;have t9:=L.t9;have a9:=L.a9;have z9:=L.z9;have v9:=L.v9;have u9:=run_underlying L.t9;have t5:=X.t5;have a5:=X.a5;have z5:=X.z5;have v5:=X.v5;have u5:=run_underlying X.t5
 go_enter L.f169,Body.n169_ntmps ρ
 go_wp2
 go_region_o
 all_goals (go_wp2;go_ret;exact⟨rfl,bn.drew_alloc _ w _⟩)
set_option maxHeartbeats 2000000 in
def zji(L:Lays.n169 P ρ)(X:Builder.Extra P ρ)(b g cap:Nat)(p:Value)(w:World)(hc0:cap≠0)(hbk:w.heap[b]? = some (.cells #[p,.slice (some ⟨g,0,none⟩) 0 cap] (ρ.t 72) (0,0))) :
  Calls P (ρ.f 169) #[.pointer (some ⟨b,0,none⟩)] w fun e w'=>e = .returned (.string ⟨#[]⟩)/\bn (fun _=>False) w w':=by
 have hUS:=Any.unsafeString_none L X;have c1:w.drew.cell? ⟨b,1,none⟩=some (.slice (some ⟨g,0,none⟩) 0 cap):=by
  have:w.drew.heap[b]? = some (.cells #[p,.slice (some ⟨g,0,none⟩) 0 cap] (ρ.t 72) (0,0)):=hbk;rw[Lib.cell_of_heap this];rfl
 have hSD:(Builtin.unsafeSliceData_ #[(ρ.t 37)] (ρ.t 127) #[.slice (some ⟨g,0,none⟩) 0 cap]).run P w.drew = .ok (.pointer (some ⟨g,0,none⟩)) w.drew:=
  Lib.run_unsafeSliceData_row _ _ _ _ _ _ hc0
 clear hc0;have mixed:=L.mixed;have t72:=L.t72;have a72:=L.a72;have z72:=L.z72;have v72:=L.v72;have u72:=run_underlying L.t72;have t70:=L.t70;have a70:=L.a70;have z70:=L.z70;have v70:=L.v70;have u70:=run_underlying L.t70;have t37:=L.t37;have a37:=L.a37;have z37:=L.z37;have v37:=L.v37;have u37:=run_underlying L.t37;have t127:=L.t127;have a127:=L.a127;have z127:=L.z127;have v127:=L.v127;have u127:=run_underlying L.t127;have t3:=L.t3;have a3:=L.a3;have z3:=L.z3;have v3:=L.v3;have u3:=run_underlying L.t3;have t9:=L.t9;have a9:=L.a9;have z9:=L.z9;have v9:=L.v9;have u9:=run_underlying L.t9;have t5:=X.t5;have a5:=X.a5;have z5:=X.z5;have v5:=X.v5;have u5:=run_underlying X.t5
 go_enter L.f169,Body.n169_ntmps ρ
 go_wp2
 go_region_o
 all_goals (go_wp2;go_ret;exact⟨rfl,bn.drew _ w⟩)
end
open Go.Proofs.Tryz
variable[LC]
def zcd{q:Nat}(w:World)(n:Nat)(v:Value):bn (fun k=>k=q) w (w.setCell ⟨q,n,none⟩ v):=
 ⟨rfl,rfl,rfl,by simp[World.setCell],fun k hk hS=>by simp only[World.setCell,Array.getElem?_modify];rw[qW (fun e=>hS e.symm)]⟩
def bn.mono{S S':Nat->Prop}{w w':World}(h:bn S w w')(hS:∀k,S k->S' k):bn S' w w':=⟨h.os,h.tape,h.output,h.size,fun k hk hn=>h.block k hk fun q=>hn (hS k q)⟩
def Fin.same{z4v w:World}{z4q G:Gh}{z4s hp hp':List (Nat×ag)}(hf:Fin z4v z4q z4s G hp' w)(h:∀n,ae hp n=ae hp' n):Fin z4v z4q z4s G hp w:=
 ⟨⟨hf.mem.agree,hf.mem.one,fun n bx hl=>hf.mem.holds n bx (by rw[← h];exact hl),fun n m bx bx' b h1 h2=>hf.mem.apart n m bx bx' b (by rw[← h];exact h1) (by rw[← h];exact h2),hf.mem.tab⟩,
  hf.bel,hf.imm_le,hf.imm_new,fun n bx b hl=>hf.base n bx b (by rw[← h];exact hl),hf.keep,hf.keepOwn⟩
abbrev bxB:List (Nat×ax):=[(0,.cells [.pn 0,.own 1] 83),(1,.row .byte 5)]
def qq6:IF:=⟨.fn 77,[.ptr 0 0],bxB,_,RS.mk (.tup []) bxB⟩
def q0x:IF:=⟨.fn 46,[.ptr 0 0],bxB,_,RS.mk (.h .str) []⟩
abbrev bxh(l:Bs):List (Nat×ag):=[(0,.cells [.pn 0,.own 1] 83),(1,.row .byte l 5)]
def q02{G:Gh}{w:World}{l:Bs}{vs:List Value}(hm:b9 G (bxh l) w)(hr:aj [AV.ptr 0 0] G vs) :
  ∃B p ad c,vs=[.pointer (some ⟨B,0,none⟩)]/\G.box 0=some B/\G.own 1=some (ad,l.length,c)/\(p = .pointer none\/p = .pointer (some ⟨B,0,none⟩)) /\
   w.heap[B]? = some (.cells #[p,.slice ad l.length c] 83 (0,0))/\(∀o,G.imm B o=none):=by
 match vs,hr with
 |[v],⟨⟨B,h1,h2⟩,_⟩=>
  obtain⟨B',arr,k1,k2,k3,_,k5⟩:=hm.holds 0 _ rfl;rw[h1]at k1;injection k1 with k1;subst k1
  match arr,k2,k3 with
  |⟨[]⟩,_,h=>exact h.elim|⟨[_]⟩,_,h=>exact h.2.elim|⟨_::_::_::_⟩,_,h=>exact h.2.2.elim|⟨[p,x]⟩,k2,⟨⟨B2,q1,q2⟩,⟨a,n,c,q3,q4⟩,_⟩=>
   rw[h1]at q1;injection q1 with q1;subst q1
   obtain⟨a',c',r1,_⟩:=hm.holds 1 _ rfl;rw[r1]at q3;simp only[qI,qP]at q3;obtain⟨rfl,rfl,rfl⟩:=q3;subst q4 h2;exact⟨B,p,a',c',rfl,h1,r1,q2,k2,k5⟩
def q1g:(qq6.e wq).Sound Tryz.prog:=fun d d' r h=>by
 obtain⟨d0,l,_⟩:=d';have h:wq l=some r:=h;have h:=qJ h;subst h;refine⟨call77,?_⟩;show db _ _ [.ptr 0 0] (bxh l) (.tup []) (bxh l);intro w G vs hm hr;obtain⟨B,p,ad,c,rfl,h1,h2,h3,h4,h5⟩:=q02 hm hr;rcases h3 with rfl|rfl
 ·refine(Any.Builder_copyCheck_fresh { Tryz.lays165 with } ToValid.bx.toX72 B w (by rw[Lib.cell_of_heap h4];rfl) (by have q:w.shape? B=some (83,2):=by{ simp[World.shape?,h4] };exact q) (Lib.frozen_of_heap h4 0)).mono ?_
  rintro e w' ⟨rfl,rfl⟩
  refine⟨_,G,rfl,?_,#[],rfl,trivial⟩;refine((yc hm).update (n:=0) (bx := .cells [.pn 0,.own 1] 83) (bx' := .cells [.pn 0,.own 1] 83) (B:=B) rfl h1 h1 (zcd w 0 _) ?_ h5).same (fun n => ?_)
  ·exact⟨B,#[.pointer (some ⟨B,0,none⟩),.slice ad l.length c],h1,by simp[World.setCell,Array.getElem?_modify,h4];rfl,⟨⟨B,h1,.inr rfl⟩,⟨ad,l.length,c,h2,rfl⟩,trivial⟩,by intro v hv;simp at hv;rcases hv with rfl|rfl<;>rfl,h5⟩
  ·cases n<;>rfl
 ·refine(Any.Builder_copyCheck_used { Tryz.lays165 with } ToValid.bx.toX72 B w (by rw[Lib.cell_of_heap h4];rfl)).mono ?_
  rintro e w' ⟨rfl,rfl⟩
  exact⟨_,G,rfl,yc hm,#[],rfl,trivial⟩
def zcy:(q0x.e qe7).Sound Tryz.prog:=fun d d' r h=>by
 obtain⟨d0,l,_⟩:=d';have h:qe7 l=some r:=h;have h:=qJ h;subst h;refine⟨call46,db.gone fun w G vs hm hr => ?_⟩
 have hm:b9 G (bxh l) w:=hm;obtain⟨B,p,ad,c,rfl,h1,h2,h3,h4,h5⟩:=q02 hm hr;obtain⟨a',c',k1,k2⟩:=hm.holds 1 _ rfl;rw[h2]at k1;simp only[qI,qP]at k1;obtain⟨rfl,-,rfl⟩:=k1;rcases k2 with⟨rfl,rfl,rfl⟩|⟨g,cs,fz,rfl,hg,_,hnc,hcm,hcs,hrep,_,_⟩
 ·refine(zjg Tryz.lays169 ToValid.bx B p w h4).mono ?_;rintro e w' ⟨rfl,hb⟩
  exact⟨_,rfl,rfl,hb.mono fun _ q=>q.elim⟩
 ·by_cases h0:l=[]
  ·subst h0;by_cases hc0:c=0
   ·subst hc0;refine(zjh Tryz.lays169 ToValid.bx B g p cs w h4 fz hg).mono ?_;rintro e w' ⟨rfl,hb⟩
    exact⟨_,rfl,rfl,hb.mono fun _ q=>q.elim⟩
   ·refine(zji Tryz.lays169 ToValid.bx B g c p w hc0 h4).mono ?_;rintro e w' ⟨rfl,hb⟩
    exact⟨_,rfl,rfl,hb.mono fun _ q=>q.elim⟩
  ·refine(zjf Tryz.lays169 ToValid.bx B p l g c w h4 cs fz hg hnc hcm hcs (q04 hrep) h0).mono ?_;rintro e w' ⟨rfl,hb⟩
   refine⟨_,rfl,rfl,hb.mono fun k q => ?_⟩
   subst q;exact⟨1,.row .byte l 5,rfl,by simp only[Gh.at,h2]⟩
end Go.Sym
namespace Go.Sym
open Go.Proofs Go.RowKit Go.Sort
open Go.Proofs.Tryz
variable[LC]
def q0j:IF:=⟨.fn 81,[.h .str],[],_,RS.mk (.tup [.h (.int .i64),.c .nilIface]) []⟩
def zb5:(q0j.e qbv).Sound Tryz.prog:=fun d d' r h=>by
 obtain⟨s,_⟩:=d;have h:qbv s=some r:=h;unfold qbv at h;cases hd:decide (List.length (α:=UInt8) s<=281474976710656)<;>rw[hd]at h<;>simp only[qT,qF,reduceCtorEq]at h
 have hl:List.length (α:=UInt8) s<=281474976710656:=of_decide_eq_true hd;split at h
 ·rename_i v hA;have h:=qJ h;subst h;refine⟨call81,db.data fun w G vs hm hr => ?_⟩
  match vs,hr with
  |[u],⟨e1,_⟩=>
   have e1:u = .string ⟨List.toArray s⟩:=e1;subst e1;have hsz:(⟨List.toArray (α:=UInt8) s⟩:ByteArray).size=List.length (α:=UInt8) s:=gf s;refine(Any.strconv_Atoi_ok Tryz.laysC172 ⟨List.toArray (α:=UInt8) s⟩ (by omega) v (by simpa using hA) w).mono fun e w'⟨he,hw⟩=>⟨_,he,⟨_,rfl,rfl,rfl,trivial⟩,?_⟩
   rcases hw with rfl|⟨t,rfl⟩
   ·exact bq.refl _
   ·refine⟨rfl,rfl,rfl,?_,fun j hj _ => ?_⟩
    ·simp[Lib.bytesWorld,World.freeze]
    ·show((w.heap.push _).modify w.heap.size _)[j]? = _;rw[Array.getElem?_modify,qW (by omega),Array.getElem?_push_lt (by omega)]
     exact(Array.getElem?_eq_getElem hj).symm
 ·cases h
end Go.Sym
namespace Go.Sym
noncomputable section
open Go.Proofs
set_option linter.unusedVariables false
set_option maxRecDepth 100000
set_option maxHeartbeats 2000000
open Tryz
abbrev wT : Ty := .tree (.prod (.list (.prod .str .str)) (.list .byte))
abbrev wL : Ty := .list (.prod .str .str)
abbrev wP : Ty := .prod .str .str
abbrev wH : Pt := .h (.int .i64)
abbrev wI : Ty := .int .i64
abbrev wB : Ty := .list .byte
abbrev wN : Pt := .c .nilS
abbrev wS : Pt := .h .str
abbrev wG : Program := Tryz.prog
section
variable(fu:Nat)
def qrw:Nat->Option ((τ:Ty)×List τ.den)|0=>some ⟨.byte,qed⟩|1=>some ⟨.prod .byte .byte,qee⟩|5=>some ⟨.int .u64,zjr⟩|_=>none
def zfs:Nat->Option (Code×Code)|0=>some (fv 0 (sub (ir f14) [0,1,0,1,1]),fv 1 (sub (ir f14) [0,1,0,1,1]))|1=>some (fv 0 (sub (ir f14) [0,1,0,1,1,1,1]),fv 1 (sub (ir f14) [0,1,0,1,1,1,1]))|2=>some (fv 0 (sub (ir f104) [0,1,0,1,1,1]),fv 1 (sub (ir f104) [0,1,0,1,1,1]))|3=>some (fv 0 (sub (ir f16) [0,1,0,1]),fv 1 (sub (ir f16) [0,1,0,1]))|4=>some (fv 0 (sub (ir f49) [0,1,1]),fv 1 (sub (ir f49) [0,1,1]))|5=>some (fv 0 (sub (ir f9) [0,1,0,1,1,1]),fv 1 (sub (ir f9) [0,1,0,1,1,1]))|_=>none
instance:LC:=⟨zfs,qrw,[2],[3,4],[(0,256),(1,32),(5,20)]⟩
def Fx.fi{P:Program}{i:IF}(x:Fx P i)(f:i.T)(l:List (SL x))(hp:pi P x.f)(hk:i.key = .fn x.f:=by exact rfl)(hb:x.fn.body=some x.body:=by exact rfl)(hfine:qik x.cx i.args i.hp=true:=by kernel_rfl)(h:∀d d',qtb x.cx x.body i.out (SL.qs l) i.args i.hp (Pts.put i.args d) (bu i.hp d')=app f (Pts.pk i.args d (ew i.hp d' lj)):=by intro d d';kernel_rfl):EI P i:=x.fin f l hp hk hb hfine h
def Fx.jm{P:Program}{i:IF}{x:Fx P i}{k:Nat}(f:(kl k x.ls).T i.R)(l:List (SL x))(h:∀d,run x.cx i.out (SL.qs l) 1000000 false (ke x.body (kl k x.ls).1) ((kl k x.ls).2.st d)=app f (jy (kl k x.ls).2.fr d.1 (ew (kl k x.ls).2.hp d.2 ())):=by intro d;kernel_rfl):PL x k:=Fx.jn f l h
def Fx.lq{P:Program}{i:IF}{x:Fx P i}{k:Nat}(g:Nat->(kl k x.ls).T i.R)(b:(kl k x.ls).T i.R->(kl k x.ls).T i.R)(l:PL x k->List (SL x))(h0:∀d:(kl k x.ls).2.den,app (g 0) (jy (kl k x.ls).2.fr d.1 (ew (kl k x.ls).2.hp d.2 ()))=none:=by intro _;exact rfl)(hg:∀n,g (n+1)=b (g n):=by intro _;exact rfl)(h:∀r d,run x.cx i.out (SL.qs (l r)) 1000000 false (ke x.body (kl k x.ls).1) ((kl k x.ls).2.st d)=app (b r.f) (jy (kl k x.ls).2.fr d.1 (ew (kl k x.ls).2.hp d.2 ())):=by intro _ d;kernel_rfl)(n:Nat):PL x k:=Fx.lp g b h0 hg l h n
def zap:wG.follows .mixedOrders=true:=by kernel_rfl
def etys:List (Nat×Ty):=[(3,.int .i64),(5,.byte),(9,.str),(21,.int .i32),(23,.list .byte),(26,.tree (.prod wL wB)),(40,.prod .str .str),(105,.prod .str (.prod .str (.prod wI .bool))),(108,.prod .str .str),(178,.prod .str (.prod wI (.prod .bool .str)))]
abbrev fx{i:IF}:=@Fx.mk inferInstance wG i etys zap
def q9z:(qmm 120 qp).Sound wG:=q9y func120 (by kernel_rfl) (by kernel_rfl) (by kernel_rfl) (by kernel_rfl)
def q91:(qmn 256 qp).Sound wG:=q90 func256 (by kernel_rfl) (by kernel_rfl) (by kernel_rfl) (by kernel_rfl)
def x0i:IF:=⟨.fn 32,[.h wT],[],_,RS.mk (.fn 64 [.ptr 0 0]) [(0,.dat wT 26)]⟩
def x0:Fx wG x0i:=fx f32 32 func32 [] false [] ao []
def x0s:=x0.fi w9 [] call32
def x1i:IF:=⟨.fn 33,[wH,wH],[],_,RS.mk (.h (.prod wI wI)) []⟩
def x1:Fx wG x1i:=fx f33 33 func33 [] false [] ao []
def lx:=x1.fi bt [] call33
def x2i:IF:=⟨.yld 0,[wH,.agg [.h wL,.h wB,.h (.list wT),wH]],[(0,.loop .ready none 14 36 [(2,.ptr 1 0),(3,.ptr 2 0)] [11,12] 0 3),(1,.dat (.prod wI wI) 29),(2,.cells [.h .bool] 4),(3,.dfr)],_,.two (RS.mk (.c (.bool false)) [(0,.loop .done (some .ret) 14 36 [(2,.ptr 1 0),(3,.ptr 2 0)] [11,12] 0 3),(1,.dat (.prod wI wI) 29),(2,.cells [.h .bool] 4),(3,.dfr)]) (RS.mk (.c (.bool true)) [(0,.loop .ready none 14 36 [(2,.ptr 1 0),(3,.ptr 2 0)] [11,12] 0 3),(1,.dat (.prod wI wI) 29),(2,.cells [.h .bool] 4),(3,.dfr)])⟩
def x2:Fx wG x2i:=fx f14 14 func14 [lx.p] false [([0,1,0,1,1],0)] (jg rfl ao) []
def x2s:EI wG x2i:=x2.fiy qnu [] 0 rfl [0,1,0,1,1] (by kernel_rfl) (by kernel_rfl) fun d d'=>by kernel_rfl
def x3i:IF:=⟨.fn 65,[.h wT,wH,.ptr 0 0,.ptr 1 0,.ptr 2 0],[(0,.cells [.yld 3] 110),(1,.cells [wH] 3),(2,.cells [.fn 65 [.ptr 0 0,.ptr 1 0,.ptr 2 0]] 111),(3,.loop .ready none 14 36 [(2,.ptr 4 0),(3,.ptr 5 0)] [11,12] 0 6),(4,.dat (.prod wI wI) 29),(5,.cells [.h .bool] 4),(6,.dfr)],_,.two (RS.mk (.c (.bool false)) [(0,.cells [.yld 3] 110),(1,.cells [wH] 3),(2,.cells [.fn 65 [.ptr 0 0,.ptr 1 0,.ptr 2 0]] 111),(3,.loop .done (some .ret) 14 36 [(2,.ptr 4 0),(3,.ptr 5 0)] [11,12] 0 6),(4,.dat (.prod wI wI) 29),(5,.cells [.h .bool] 4),(6,.dfr)]) (RS.mk (.c (.bool true)) [(0,.cells [.yld 3] 110),(1,.cells [wH] 3),(2,.cells [.fn 65 [.ptr 0 0,.ptr 1 0,.ptr 2 0]] 111),(3,.loop .ready none 14 36 [(2,.ptr 4 0),(3,.ptr 5 0)] [11,12] 0 6),(4,.dat (.prod wI wI) 29),(5,.cells [.h .bool] 4),(6,.dfr)])⟩
def x3(s7:EI wG x3i)(fu:Nat):Fx wG x3i:=fx f65 65 func65 [x2s.p,s7.p] false [] ao [(ak [(0,488),(0,489),(2,122),(1,61),(0,31)],⟨33,[(1,wH),(4,.ptr 2 0),(20,.h (.list wT)),(21,wH),(22,wH)],[(0,.cells [.yld 3] 110),(1,.cells [wH] 3),(2,.cells [.fn 65 [.ptr 0 0,.ptr 1 0,.ptr 2 0]] 111),(3,.loop .ready none 14 36 [(2,.ptr 4 0),(3,.ptr 5 0)] [11,12] 0 6),(4,.dat (.prod wI wI) 29),(5,.cells [.h .bool] 4),(6,.dfr)],64,[]⟩)]
def zx3(s7:EI wG x3i)(fu:Nat):Nat->(x3 s7 fu).L 0:=Fx.lq (qbo s7.f fu) (qnx s7.f fu) (fun r0=>[r0.s])
def x3k(s7:EI wG x3i)(fu:Nat):EI wG x3i:=(x3 s7 fu).fi (qf7 s7.f fu) [(zx3 s7 fu fu).s] call65
def x3s:EI wG x3i := .rc (xa fu) (fun r=>qf7 r fu) (fun _ _=>rfl) (fun _=>rfl) (fun s7=>x3k s7 fu) (fun _=>rfl) fu
def x4i:IF:=⟨.fn 64,[.yld 0,.ptr 1 0],[(0,.loop .ready none 14 36 [(2,.ptr 2 0),(3,.ptr 3 0)] [11,12] 0 4),(1,.dat wT 26),(2,.dat (.prod wI wI) 29),(3,.cells [.h .bool] 4),(4,.dfr)],_,.two (RS.mk (.tup []) [(0,.loop .done (some .ret) 14 36 [(2,.ptr 2 0),(3,.ptr 3 0)] [11,12] 0 4),(1,.dat wT 26),(2,.dat (.prod wI wI) 29),(3,.cells [.h .bool] 4),(4,.dfr)]) (RS.mk (.tup []) [(0,.loop .ready none 14 36 [(2,.ptr 2 0),(3,.ptr 3 0)] [11,12] 0 4),(1,.dat wT 26),(2,.dat (.prod wI wI) 29),(3,.cells [.h .bool] 4),(4,.dfr)])⟩
def x4:Fx wG x4i:=fx f64 64 func64 [(x3s fu).p] false [] ao []
def x4s:=(x4 fu).fi (qf6 fu) [] call64
def x5i:IF:=⟨.fn 186,[.h .byte],[],_,RS.mk (.h .bool) []⟩
def x5:Fx wG x5i:=fx f186 186 func186 [] false [] ao []
def x5s:=x5.fi qfm [] call186
def x6i:IF:=⟨.fn 147,[wS,.fn 186 []],[],_,RS.mk (.h .bool) []⟩
def x6(fu:Nat):Fx wG x6i:=fx f147 147 func147 [x5s.p] false [] ao [(ak [(0,104),(0,105),(2,26),(1,13),(0,7)],⟨18,[(0,wS),(1,.fn 186 []),(7,wH),(8,wH)],[],64,[]⟩)]
def z08:Nat->(x6 fu).L 0:=Fx.lq (qao fu) (qmg fu) (fun r0=>[r0.s])
def x6s:=(x6 fu).fi (qmf fu) [(z08 fu fu).s] call147
def x7i:IF:=⟨.fn 143,[wS],[],_,RS.mk (.h .bool) []⟩
def x7:Fx wG x7i:=fx f143 143 func143 [(x6s fu).p] false [] ao []
def x7s:=(x7 fu).fi (qfl fu) [] call143
def x8i:IF:=⟨.fn 274,[wH],[],_,RS.mk (.h .bool) []⟩
def x8:Fx wG x8i:=fx f274 274 func274 [] false [] ao []
def x8s:=x8.fi qot [] call274
def x9i:IF:=⟨.fn 123,[wS],[],_,RS.mk (.tup [.arr .bool,.h .bool]) []⟩
def x9(fu:Nat):Fx wG x9i:=fx f123 123 func123 [] false [] ao [(ak [(0,208),(0,209),(0,105),(2,26),(1,13),(0,7)],⟨21,[(0,wS),(2,.el 32 1),(4,wH)],[(32,.row .bool 164)],64,[]⟩)]
def z4i:Nat->(x9 fu).L 0:=Fx.lq (qos fu) (qys fu) (fun r0=>[r0.s])
def x9s:=(x9 fu).fi (qb2 fu) [(z4i fu fu).s] call123
def zls:IF:=⟨.fn 76,[wS,.h .byte],[],_,RS.mk (wH) []⟩
def x10:Fx wG zls:=fx f76 76 func76 [⟨qmm 120 qp,q9z⟩] false [] ao []
def q7q:=x10.fi qna [] call76
def zml:IF:=⟨.fn 41,[wS,.h .byte],[],_,RS.mk (wH) []⟩
def x11:Fx wG zml:=fx f41 41 func41 [q7q.p] false [] ao []
def quj:=x11.fi ud [] call41
def zn2:IF:=⟨.fn 244,[.h (.int .i32)],[],_,RS.mk (.h .bool) []⟩
def x12:Fx wG zn2:=fx f244 244 func244 [] false [] ao []
def zn3:=x12.fi qgx [] call244
def zo9:IF:=⟨.fn 207,[wS,.h (.int .i32)],[],_,RS.mk (wH) []⟩
def o7(fu:Nat):Fx wG zo9:=fx f207 207 func207 [quj.p,zn3.p] false [] ao [(ak [(0,3528),(0,3529),(2,882),(1,441),(0,221),(1,3)],⟨187,[(175,.ptr 32 0)],[(32,.it)],64,[]⟩),(ak [(0,117301840),(0,117301841),(0,58650921),(2,14662730),(1,7331365),(0,3665683),(3,458210),(1,229105),(2,57276),(1,28638),(0,28639),(3,447),(1,3)],⟨187,[(0,wS),(7,wS),(8,wH),(9,wH),(12,wH)],[],64,[]⟩),(ak [(0,7331364),(0,7331365),(0,3665683),(3,458210),(1,229105),(2,57276),(1,28638),(0,28639),(3,447),(1,3)],⟨187,[(0,wS),(7,wS),(8,wH),(9,wH)],[],64,[]⟩),(ak [(0,458208),(0,458209),(0,229105),(2,57276),(1,28638),(0,28639),(3,447),(1,3)],⟨187,[(0,wS),(7,wS),(8,wH),(9,wH)],[],64,[]⟩),(ak [(0,13),(1,3)],⟨187,[(0,wS),(1,.h (.int .i32)),(160,.h .bool)],[],64,[]⟩)]
def zpb:Nat->(o7 fu).L 0:=Fx.lq (qb0 fu) (qoj fu) (fun r1=>[r1.s])
def zpe(r2:(o7 fu).L 3):Nat->(o7 fu).L 1:=Fx.lq (qom fu r2.f) (qyr fu r2.f) (fun r4=>[r4.s])
def zpd(r2:(o7 fu).L 3):(o7 fu).L 2:=Fx.jm (qol fu r2.f) [(zpe fu r2 fu).s]
def zpc:Nat->(o7 fu).L 3:=Fx.lq (qgo fu) (qok fu) (fun r2=>[(zpd fu r2).s])
def zpa:(o7 fu).L 4:=Fx.jm (qbz fu) [(zpb fu fu).s,(zpc fu fu).s]
def q74:=(o7 fu).fi (qy fu) [(zpa fu).s] call207
def zqc:IF:=⟨.fn 164,[.el 0 1,.h .byte],[(0,.row .bool 164)],_,RS.mk (.h .bool) [(0,.row .bool 164)]⟩
def x14:Fx wG zqc:=fx f164 164 func164 [] false [] ao []
def quz:=x14.fi xe [] call164
def zq6:IF:=⟨.fn 251,[wS,wS],[],_,RS.mk (wH) []⟩
def x15:Fx wG zq6:=fx f251 251 func251 [x8s.p,(x9s fu).p,(q74 fu).p,quz.p] false [] ao [(ak [(0,470),(0,471),(0,15)],⟨55,[(0,wS),(5,.h (.int .i32))],[],64,[]⟩),(ak [(0,62864),(0,62865),(0,31433),(2,7858),(1,3929),(0,1965),(0,31)],⟨55,[(0,wS),(6,.el 32 1),(8,wH)],[(32,.row .bool 164)],64,[]⟩),(ak [(0,1000),(0,1001),(2,250),(1,125),(0,63)],⟨55,[(1,wS),(45,.ptr 32 0)],[(32,.it)],64,[]⟩),(ak [(0,124),(0,125),(0,63)],⟨55,[(0,wS),(1,wS)],[],64,[]⟩)]
def zq7:(x15 fu).L 0:=Fx.jm (qoi fu) []
def zq8:Nat->(x15 fu).L 1:=Fx.lq (qbx fu) (qog fu) (fun r1=>[r1.s])
def zra:Nat->(x15 fu).L 2:=Fx.lq (qby fu) (qoh fu) (fun r3=>[r3.s])
def zq9:(x15 fu).L 3:=Fx.jm (qgn fu) [(zra fu fu).s]
def zrb:=(x15 fu).fi (qgm fu) [(zq7 fu).s,(zq8 fu fu).s,(zq9 fu).s] call251
def zrp:IF:=⟨.fn 224,[wS,wS],[],_,RS.mk (.h .bool) []⟩
def x16:Fx wG zrp:=fx f224 224 func224 [(zrb fu).p] false [] ao []
def zrq:=(x16 fu).fi (qgh fu) [] call224
def zsk:IF:=⟨.fn 187,[wS],[],_,RS.mk (.h .bool) []⟩
def x17:Fx wG zsk:=fx f187 187 func187 [(zrq fu).p] false [] ao []
def zsl:=(x17 fu).fi (qm5 fu) [] call187
def zuy:IF:=⟨.fn 188,[.h .byte],[],_,RS.mk (.h .bool) []⟩
def x18:Fx wG zuy:=fx f188 188 func188 [] false [] ao []
def q8t:=x18.fi tm [] call188
def zvi:IF:=⟨.fn 144,[wS],[],_,RS.mk (.h .bool) []⟩
def x19:Fx wG zvi:=fx f144 144 func144 [(zsl fu).p,q8t.p] false [] ao []
def zvj:=(x19 fu).fi (qfp fu) [] call144
def zvp:IF:=⟨.fn 145,[wS,wH],[],_,RS.mk (wH) []⟩
def x20(fu:Nat):Fx wG zvp:=fx f145 145 func145 [q8t.p] false [] ao [(ak [(0,3729),(0,1865),(1,466),(0,467),(2,58),(1,29),(0,15)],⟨35,[(0,wS),(5,wH),(6,wH),(26,.h .bool)],[],64,[]⟩),(ak [(0,464),(0,465),(0,233),(2,58),(1,29),(0,15)],⟨35,[(0,wS),(5,wH),(6,wH)],[],64,[]⟩)]
def zvr(r0:(x20 fu).L 1):(x20 fu).L 0:=Fx.jm (qfo fu r0.f) [r0.s]
def zvq:Nat->(x20 fu).L 1:=Fx.lq (qa0 fu) (qm6 fu) (fun r0=>[(zvr fu r0).s])
def zvs:=(x20 fu).fi (qfn fu) [(zvq fu fu).s] call145
def zvv:IF:=⟨.fn 18,[],[],_,RS.mk (.h (.prod wI wI)) []⟩
def x21:Fx wG zvv:=fx f18 18 func18 [] false [] ao []
def jo:=x21.fi cq [] call18
def zvy:IF:=⟨.fn 101,[wS,wS],[],_,RS.mk (.tup [.own 0,.h (.prod wI wI)]) [(0,.row .str 9)]⟩
def x22:Fx wG zvy:=fx f101 101 func101 [(x7s fu).p,lx.p,(zvj fu).p,(zvs fu).p,jo.p] false [] ao [(ak [(0,4072),(0,4073),(2,1018),(1,509),(0,255)],⟨70,[(5,.ptr 32 0),(8,.own 33),(55,.own 33),(56,wH),(57,wH)],[(32,.dat (.prod wI wI) 29),(33,.row .str 9)],64,[]⟩),(ak [(0,126),(0,127)],⟨70,[(5,.ptr 32 0),(6,wS),(8,.own 33)],[(32,.dat (.prod wI wI) 29),(33,.row .str 9)],64,[]⟩),(ak [(0,992),(0,993),(0,497),(2,124),(1,62),(0,63)],⟨70,[(5,.ptr 32 0),(6,wS),(7,wH),(8,.own 33)],[(32,.dat (.prod wI wI) 29),(33,.row .str 9)],64,[]⟩)]
def zv1:Nat->(x22 fu).L 0:=Fx.lq (qaz fu) (qm4 fu) (fun r2=>[r2.s])
def zv0:(x22 fu).L 1:=Fx.jm (qay fu) [(zv1 fu fu).s]
def zvz:Nat->(x22 fu).L 2:=Fx.lq (qax fu) (qm3 fu) (fun r0=>[(zv0 fu).s,r0.s])
def zv2:=(x22 fu).fi (qfk fu) [(zvz fu fu).s] call101
def zv5:IF:=⟨.fn 15,[.h (.prod wI wI)],[],_,RS.mk (.h .bool) []⟩
def x23:Fx wG zv5:=fx f15 15 func15 [] false [] ao []
def ni:=x23.fi ef [] call15
def zv6:IF:=⟨.fn 66,[.h wL],[],_,RS.mk (.h (.prod wI wI)) []⟩
def x24:Fx wG zv6:=fx f66 66 func66 [lx.p,(zv2 fu).p,ni.p,jo.p] false [] ao [(ak [(0,232),(0,233),(2,58),(1,29),(0,15)],⟨34,[(2,.ptr 32 0),(11,.h wL),(12,wH),(13,wH)],[(32,.dat (.prod wI wI) 29)],64,[]⟩)]
def zv7:Nat->(x24 fu).L 0:=Fx.lq (qa1 fu) (qm7 fu) (fun r0=>[r0.s])
def zv8:=(x24 fu).fi (qfq fu) [(zv7 fu fu).s] call66
def zv9:IF:=⟨.fn 71,[wS],[],_,RS.mk (wS) []⟩
def x25(fu:Nat):Fx wG zv9:=fx f71 71 func71 [] false [] ao [(ak [(0,232),(0,233),(2,58),(1,29),(0,15)],⟨30,[(3,.own 32),(8,.own 32),(9,wH),(10,wH)],[(32,.row .byte 5)],64,[]⟩)]
def zwa:Nat->(x25 fu).L 0:=Fx.lq (pf fu) (wl fu) (fun r0=>[r0.s])
def q8y:=(x25 fu).fi (qo fu) [(zwa fu fu).s] call71
def zwc:IF:=⟨.fn 36,[wS,wS],[],_,RS.mk (.h .bool) []⟩
def x26:Fx wG zwc:=fx f36 36 func36 [(q8y fu).p] false [] ao []
def ly:=(x26 fu).fi (di fu) [] call36
def zwd:IF:=⟨.fn 216,[wS,.h .byte],[],_,RS.mk (wS) []⟩
def x27(fu:Nat):Fx wG zwd:=fx f216 216 func216 [] false [] ao [(ak [(0,96),(0,97),(0,49),(2,12),(1,6),(0,7)],⟨17,[(0,wS),(1,.h .byte)],[],64,[]⟩)]
def zwe:Nat->(x27 fu).L 0:=Fx.lq (qow fu) (qyu fu) (fun r0=>[r0.s])
def zwf:=(x27 fu).fi (qyt fu) [(zwe fu fu).s] call216
def zwg:IF:=⟨.fn 217,[wS,.el 0 1],[(0,.row .bool 164)],_,RS.mk (wS) [(0,.row .bool 164)]⟩
def x28(fu:Nat):Fx wG zwg:=fx f217 217 func217 [quz.p] false [] ao [(ak [(0,96),(0,97),(0,49),(2,12),(1,6),(0,7)],⟨16,[(0,wS),(1,.el 0 1)],[(0,.row .bool 164)],64,[]⟩)]
def zwh:Nat->(x28 fu).L 0:=Fx.lq (qb3 fu) (qov fu) (fun r0=>[r0.s])
def zwi:=(x28 fu).fi (qou fu) [(zwh fu fu).s] call217
def zwj:IF:=⟨.fn 163,[wS],[],_,RS.mk (.tup [.h (.int .i32),wH]) []⟩
def wh:Fx wG zwj:=fx f163 163 func163 [] false [] ao [(ak [(0,524286),(0,524287)],⟨117,[(5,.h .byte),(10,.h .byte),(11,.h .byte),(12,.h .byte)],[],64,[]⟩),(ak [(0,524285),(0,262143)],⟨117,[(5,.h .byte),(10,.h .byte),(11,.h .byte),(12,.h .byte),(98,.h .bool)],[],64,[]⟩),(ak [(0,131068),(0,131069),(0,65535)],⟨117,[(0,wS),(5,.h .byte),(8,wH),(10,.h .byte),(11,.h .byte)],[],64,[]⟩),(ak [(0,65533),(0,32767)],⟨117,[(0,wS),(5,.h .byte),(8,wH),(10,.h .byte),(11,.h .byte),(75,.h .bool)],[],64,[]⟩),(ak [(0,16380),(0,16381),(0,8191)],⟨117,[(0,wS),(5,.h .byte),(8,wH),(10,.h .byte)],[],64,[]⟩),(ak [(0,8189),(0,4095)],⟨117,[(0,wS),(5,.h .byte),(8,wH),(10,.h .byte),(57,.h .bool)],[],64,[]⟩)]
def zwp:wh.L 0:=Fx.jn qy9 [] fun d=>by kernel_rfl
def zwo:wh.L 1:=Fx.jn qpf [(zwp).s] fun d=>by kernel_rfl
def zwn:wh.L 2:=Fx.jn qy8 [(zwo).s] fun d=>by kernel_rfl
def zwm:wh.L 3:=Fx.jn qpe [(zwn).s] fun d=>by kernel_rfl
def zwl:wh.L 4:=Fx.jn qy7 [(zwm).s] fun d=>by kernel_rfl
def zwk:wh.L 5:=Fx.jn qpd [(zwl).s] fun d=>by kernel_rfl
def zwq:=wh.fi qpc [(zwk).s] call163
def zwz:IF:=⟨.fn 119,[wS],[],_,RS.mk (.tup [.h (.int .i32),wH]) []⟩
def x30:Fx wG zwz:=fx f119 119 func119 [zwq.p] false [] ao []
def q82:=x30.fi qo9 [] call119
def zw1:IF:=⟨.fn 166,[wS,.h (.int .i32)],[],_,RS.mk (.h .bool) []⟩
def x31:Fx wG zw1:=fx f166 166 func166 [(q74 fu).p] false [] ao []
def q83:=(x31 fu).fi (qgi fu) [] call166
def zw2:IF:=⟨.fn 218,[wS,wS],[],_,RS.mk (wS) []⟩
def x32:Fx wG zw2:=fx f218 218 func218 [q82.p,(q83 fu).p] false [] ao [(ak [(0,96),(0,97),(0,49),(2,12),(1,6),(0,7)],⟨23,[(0,wS),(1,wS)],[],64,[]⟩)]
def zw3:Nat->(x32 fu).L 0:=Fx.lq (qox fu) (qyw fu) (fun r0=>[r0.s])
def zw4:=(x32 fu).fi (qyv fu) [(zw3 fu fu).s] call218
def zw5:IF:=⟨.fn 180,[wS,wS],[],_,RS.mk (wS) []⟩
def x33:Fx wG zw5:=fx f180 180 func180 [(zwf fu).p,(x9s fu).p,(zwi fu).p,(zw4 fu).p] false [] ao [(ak [(0,60),(0,61),(0,31)],⟨37,[(0,wS),(1,wS)],[],64,[]⟩),(ak [(0,29),(0,15)],⟨37,[(0,wS),(1,wS),(21,.h .bool)],[],64,[]⟩),(ak [(0,28),(0,29),(0,15)],⟨37,[(0,wS),(1,wS)],[],64,[]⟩),(ak [(0,13),(0,7)],⟨37,[(0,wS),(1,wS),(12,.h .bool)],[],64,[]⟩)]
def zw9:(x33 fu).L 0:=Fx.jm (qop fu) []
def zw8:(x33 fu).L 1:=Fx.jm (qgr fu) [(zw9 fu).s]
def zw7:(x33 fu).L 2:=Fx.jm (qoo fu) [(zw8 fu).s]
def zw6:(x33 fu).L 3:=Fx.jm (qgq fu) [(zw7 fu).s]
def zxa:=(x33 fu).fi (qgp fu) [(zw6 fu).s] call180
def zxg:IF:=⟨.fn 136,[.ptr 0 0],[(0,.cells [wS] 174)],_,RS.mk (.tup []) [(0,.cells [wS] 174)]⟩
def x34:Fx wG zxg:=fx f136 136 func136 [(zxa fu).p] false [] ao []
def qet:=(x34 fu).fi (qu fu) [] call136
def zxi:IF:=⟨.fn 133,[.h .byte],[],_,RS.mk (.h .bool) []⟩
def x35:Fx wG zxi:=fx f133 133 func133 [quj.p] false [] ao []
def qeu:=x35.fi l5 [] call133
def zxj:IF:=⟨.fn 132,[.ptr 0 0,.fn 133 []],[(0,.cells [wS] 174)],_,RS.mk (wS) [(0,.cells [wS] 174)]⟩
def x36:Fx wG zxj:=fx f132 132 func132 [(qet fu).p,qeu.p] false [] ao [(ak [(0,482),(1,241),(2,60),(1,30),(0,31)],⟨44,[(0,.ptr 0 0),(1,.fn 133 []),(5,wH)],[(0,.cells [wS] 174)],64,[]⟩),(ak [(0,481),(0,241),(2,60),(1,30),(0,31)],⟨44,[(0,.ptr 0 0),(1,.fn 133 []),(5,wH),(25,.h .bool)],[(0,.cells [wS] 174)],64,[]⟩),(ak [(0,480),(0,481),(0,241),(2,60),(1,30),(0,31)],⟨44,[(0,.ptr 0 0),(1,.fn 133 []),(5,wH)],[(0,.cells [wS] 174)],64,[]⟩)]
def zxm(r0:(x36 fu).L 2):(x36 fu).L 0:=Fx.jm (qyb fu r0.f) [r0.s]
def zxl(r0:(x36 fu).L 2):(x36 fu).L 1:=Fx.jm (qnp fu r0.f) [(zxm fu r0).s]
def zxk:Nat->(x36 fu).L 2:=Fx.lq (qbh fu) (qya fu) (fun r0=>[(zxl fu r0).s])
def zxn:=(x36 fu).fi (qbg fu) [(zxk fu fu).s] call132
def zxr:IF:=⟨.fn 134,[.ptr 0 0,.h .byte],[(0,.cells [wS] 174)],_,RS.mk (.h .bool) [(0,.cells [wS] 174)]⟩
def x37:Fx wG zxr:=fx f134 134 func134 [(qet fu).p] false [] ao []
def qvr:=(x37 fu).fi (tx fu) [] call134
def zxt:IF:=⟨.fn 175,[.h .byte],[],_,RS.mk (.h .bool) []⟩
def x38:Fx wG zxt:=fx f175 175 func175 [qeu.p] false [] ao []
def zxu:=x38.fi qbf [] call175
def zxv:IF:=⟨.fn 132,[.ptr 0 0,.fn 175 []],[(0,.cells [wS] 174)],_,RS.mk (wS) [(0,.cells [wS] 174)]⟩
def x39:Fx wG zxv:=fx f132 132 func132 [(qet fu).p,zxu.p] false [] ao [(ak [(0,482),(1,241),(2,60),(1,30),(0,31)],⟨44,[(0,.ptr 0 0),(1,.fn 175 []),(5,wH)],[(0,.cells [wS] 174)],64,[]⟩),(ak [(0,481),(0,241),(2,60),(1,30),(0,31)],⟨44,[(0,.ptr 0 0),(1,.fn 175 []),(5,wH),(25,.h .bool)],[(0,.cells [wS] 174)],64,[]⟩),(ak [(0,480),(0,481),(0,241),(2,60),(1,30),(0,31)],⟨44,[(0,.ptr 0 0),(1,.fn 175 []),(5,wH)],[(0,.cells [wS] 174)],64,[]⟩)]
def zxy(r0:(x39 fu).L 2):(x39 fu).L 0:=Fx.jm (qyd fu r0.f) [r0.s]
def zxx(r0:(x39 fu).L 2):(x39 fu).L 1:=Fx.jm (qnq fu r0.f) [(zxy fu r0).s]
def zxw:Nat->(x39 fu).L 2:=Fx.lq (qbi fu) (qyc fu) (fun r0=>[(zxx fu r0).s])
def zxz:=(x39 fu).fi (qfz fu) [(zxw fu fu).s] call132
def zx6:IF:=⟨.fn 213,[.h .byte],[],_,RS.mk (.h .bool) []⟩
def x40:Fx wG zx6:=fx f213 213 func213 [qeu.p] false [] ao []
def zx7:=x40.fi qbk [] call213
def zx8:IF:=⟨.fn 132,[.ptr 0 0,.fn 213 []],[(0,.cells [wS] 174)],_,RS.mk (wS) [(0,.cells [wS] 174)]⟩
def x41:Fx wG zx8:=fx f132 132 func132 [(qet fu).p,zx7.p] false [] ao [(ak [(0,482),(1,241),(2,60),(1,30),(0,31)],⟨44,[(0,.ptr 0 0),(1,.fn 213 []),(5,wH)],[(0,.cells [wS] 174)],64,[]⟩),(ak [(0,481),(0,241),(2,60),(1,30),(0,31)],⟨44,[(0,.ptr 0 0),(1,.fn 213 []),(5,wH),(25,.h .bool)],[(0,.cells [wS] 174)],64,[]⟩),(ak [(0,480),(0,481),(0,241),(2,60),(1,30),(0,31)],⟨44,[(0,.ptr 0 0),(1,.fn 213 []),(5,wH)],[(0,.cells [wS] 174)],64,[]⟩)]
def zyb(r0:(x41 fu).L 2):(x41 fu).L 0:=Fx.jm (qyf fu r0.f) [r0.s]
def zya(r0:(x41 fu).L 2):(x41 fu).L 1:=Fx.jm (qnr fu r0.f) [(zyb fu r0).s]
def zx9:Nat->(x41 fu).L 2:=Fx.lq (qbj fu) (qye fu) (fun r0=>[(zya fu r0).s])
def zyc:=(x41 fu).fi (qf0 fu) [(zx9 fu fu).s] call132
def zyf:IF:=⟨.fn 176,[.ptr 0 0],[(0,.cells [wS] 174)],_,RS.mk (.tup [wS,.h .bool]) [(0,.cells [wS] 174)]⟩
def x42:Fx wG zyf:=fx f176 176 func176 [(qvr fu).p,(zyc fu).p] false [] ao [(ak [(0,976),(0,977),(0,489),(2,122),(1,61),(0,31)],⟨66,[(0,.ptr 0 0),(4,.own 32),(5,wH)],[(0,.cells [wS] 174),(32,.row .byte 5)],64,[]⟩)]
def zyg:Nat->(x42 fu).L 0:=Fx.lq (qbl fu) (qns fu) (fun r0=>[r0.s])
def zyh:=(x42 fu).fi (qf1 fu) [(zyg fu fu).s] call176
def zyi:IF:=⟨.fn 162,[wS,wS],[],_,RS.mk (wH) []⟩
def x43:Fx wG zyi:=fx f162 162 func162 [q7q.p] false [] ao [(ak [(0,57),(1,14),(0,15)],⟨143,[(0,wS),(1,wS),(5,wH),(16,.h .bool)],[],64,[]⟩)]
def zyj:x43.L 0:=Fx.jn qfs [] fun d=>by kernel_rfl
def zyk:=x43.fi qfr [(zyj).s] call162
def zyn:IF:=⟨.fn 214,[wS,wS],[],_,RS.mk (.tup [wS,wS,.h .bool]) []⟩
def x44:Fx wG zyn:=fx f214 214 func214 [zyk.p] false [] ao []
def zyo:=x44.fi qm8 [] call214
def zyq:IF:=⟨.fn 177,[wS,wS],[],_,RS.mk (.tup [wS,wS,.h .bool]) []⟩
def x45:Fx wG zyq:=fx f177 177 func177 [zyo.p] false [] ao []
def zyr:=x45.fi qgj [] call177
def zyt:IF:=⟨.fn 194,[wS,wS],[],_,RS.mk (.h .bool) []⟩
def x46:Fx wG zyt:=fx f194 194 func194 [] false [] ao []
def q87:=x46.fi qa2 [] call194
def zyv:IF:=⟨.fn 215,[wS,wS],[],_,RS.mk (.tup [wS,.h .bool]) []⟩
def x47:Fx wG zyv:=fx f215 215 func215 [q87.p] false [] ao []
def zyw:=x47.fi qm9 [] call215
def zyy:IF:=⟨.fn 178,[wS,wS],[],_,RS.mk (.tup [wS,.h .bool]) []⟩
def x48:Fx wG zyy:=fx f178 178 func178 [zyw.p] false [] ao []
def zyz:=x48.fi qgk [] call178
def q4v:LC.glob 5=some ⟨.int .u64,Lib.pow10Tab⟩:=rfl
def q4w:(5,20)∈LC.sizes:=by decide
def zy1:IF:=⟨.fn 135,[.ptr 0 0],[(0,.cells [wS] 174)],_,RS.mk (.tup [.h (.prod .str (.prod wI (.prod .bool .str))),.h .bool]) [(0,.cells [wS] 174)]⟩
def x49:Fx wG zy1:=fx f135 135 func135 [(zxz fu).p,(qvr fu).p,(zyh fu).p,zyr.p,zyz.p,⟨q4b.e tn,zgq q4v q4w (by decide) (by decide)⟩] false [] ao []
def zy2:=(x49 fu).fi (qfy fu) [] call135
def zy6:IF:=⟨.fn 181,[.h (.prod .str (.prod wI (.prod .bool .str))),.ptr 0 0],[(0,.dat (.prod .str (.prod wI (.prod .bool .str))) 178)],_,RS.mk (.h .bool) [(0,.dat (.prod .str (.prod wI (.prod .bool .str))) 178)]⟩
def x50:Fx wG zy6:=fx f181 181 func181 [(ly fu).p] false [] ao []
def q88:=(x50 fu).fi (qa9 fu) [] call181
def zy7:IF:=⟨.fn 219,[.h (.list (.prod .str (.prod wI (.prod .bool .str)))),.fn 181 [.ptr 0 0]],[(0,.dat (.prod .str (.prod wI (.prod .bool .str))) 178)],_,RS.mk (wH) [(0,.dat (.prod .str (.prod wI (.prod .bool .str))) 178)]⟩
def x51:Fx wG zy7:=fx f219 219 func219 [(q88 fu).p] false [] ao [(ak [(0,104),(0,105),(2,26),(1,13),(0,7)],⟨19,[(0,.h (.list (.prod .str (.prod wI (.prod .bool .str))))),(1,.fn 181 [.ptr 0 0]),(7,wH),(8,wH)],[(0,.dat (.prod .str (.prod wI (.prod .bool .str))) 178)],64,[]⟩)]
def zy8:Nat->(x51 fu).L 0:=Fx.lq (qbu fu) (qoe fu) (fun r0=>[r0.s])
def zy9:=(x51 fu).fi (qod fu) [(zy8 fu fu).s] call219
def zzb:IF:=⟨.fn 182,[.h (.list (.prod .str (.prod wI (.prod .bool .str)))),.fn 181 [.ptr 0 0]],[(0,.dat (.prod .str (.prod wI (.prod .bool .str))) 178)],_,RS.mk (.h .bool) [(0,.dat (.prod .str (.prod wI (.prod .bool .str))) 178)]⟩
def x52:Fx wG zzb:=fx f182 182 func182 [(zy9 fu).p] false [] ao []
def zzc:=(x52 fu).fi (qgg fu) [] call182
def zzd:IF:=⟨.fn 273,[.h .byte],[],_,RS.mk (.tup [.h .byte,.h .bool]) []⟩
def x54:Fx wG zzd:=fx f273 273 func273 [] false [] ao [(ak [(0,103),(1,6),(0,7)],⟨33,[(0,.h .byte),(13,.h .bool)],[],64,[]⟩),(ak [(0,25),(1,6),(0,7)],⟨33,[(0,.h .byte),(4,.h .bool)],[],64,[]⟩)]
def zzf:x54.L 0:=Fx.jn qml [] fun d=>by kernel_rfl
def zze:x54.L 1:=Fx.jn qmk [(zzf).s] fun d=>by kernel_rfl
def zzg:=x54.fi pd [(zze).s] call273
def zzk:IF:=⟨.fn 249,[wS],[],_,RS.mk (.tup [.h .byte,.h .bool]) []⟩
def x55:Fx wG zzk:=fx f249 249 func249 [zzg.p] false [] ao []
def q9a:=x55.fi pg [] call249
def zzl:IF:=⟨.fn 222,[.h (.prod .str (.prod wI (.prod .bool .str)))],[],_,RS.mk (wS) []⟩
def x56:Fx wG zzl:=fx f222 222 func222 [(ly fu).p,q9a.p] false [] ao [(ak [(0,4048),(0,4049),(0,2025),(2,506),(1,253),(0,127)],⟨62,[(3,wS),(4,.own 32),(5,wH)],[(32,.row .byte 5)],64,[]⟩),(ak [(0,62),(0,63)],⟨62,[(3,wS)],[],64,[]⟩),(ak [(0,61),(0,31)],⟨62,[(3,wS),(26,.h .bool)],[],64,[]⟩)]
def zzo:Nat->(x56 fu).L 0:=Fx.lq (qbd fu) (qnn fu) (fun r2=>[r2.s])
def zzn:(x56 fu).L 1:=Fx.jm (wz fu) [(zzo fu fu).s]
def zzm:(x56 fu).L 2:=Fx.jm (qt fu) [(zzn fu).s]
def zzp:=(x56 fu).fi (qfw fu) [(zzm fu).s] call222
def q2e:LC.glob 0=some ⟨.byte,qed⟩:=rfl
def qzv:LC.glob 1=some ⟨.prod .byte .byte,qee⟩:=rfl
def q2d:yh qed=true:=by kernel_rfl
def qzu:yi qee=true:=by kernel_rfl
def zzs:IF:=⟨.fn 183,[.own 0],[(0,.row (.prod .str (.prod wI (.prod .bool .str))) 178)],_,RS.mk (.tup [.h wP,.h .bool]) [(0,.dead)]⟩
def x57:Fx wG zzs:=fx f183 183 func183 [⟨q6a.e ub,zi6⟩,(zzp fu).p,⟨q6w.e ue,zj7 q2e qzv q2d qzu⟩] true [] ao [(ak [(0,2024),(0,2025),(2,506),(1,253),(0,127)],⟨52,[(2,.ptr 32 0),(4,.ptr 33 0),(28,.own 34),(29,wH),(30,wH)],[(0,.dead),(32,.dat wP 108),(33,.dat wP 108),(34,.row (.prod .str (.prod wI (.prod .bool .str))) 178)],64,[]⟩)]
def zzt:Nat->(x57 fu).L 0:=Fx.lq (qa6 fu) (qng fu) (fun r0=>[r0.s])
def zzu:=(x57 fu).fi (qa5 fu) [(zzt fu fu).s] call183
def zzv:IF:=⟨.fn 137,[.h (.list (.prod .str (.prod wI (.prod .bool .str))))],[],_,RS.mk (.tup [.own 0,.h .bool]) [(0,.row wP 108)]⟩
def wi:Fx wG zzv:=fx f137 137 func137 [(zzc fu).p,(q88 fu).p,(zzu fu).p] false [] ao [(ak [(0,3827623),(2,239226),(1,119613),(0,59807),(1,934),(0,935),(2,58),(1,29),(0,15)],⟨56,[(0,.h (.list (.prod .str (.prod wI (.prod .bool .str))))),(4,.own 34),(6,.ptr 32 0),(7,.fn 181 [.ptr 32 0]),(8,.own 33),(13,.h (.list (.prod .str (.prod wI (.prod .bool .str))))),(14,wH),(15,wH),(26,.h (.list (.prod .str (.prod wI (.prod .bool .str))))),(27,wH),(28,wH)],[(32,.dat (.prod .str (.prod wI (.prod .bool .str))) 178),(33,.row (.prod .str (.prod wI (.prod .bool .str))) 178),(34,.row wP 108)],64,[]⟩),(ak [(0,956904),(0,956905),(2,239226),(1,119613),(0,59807),(1,934),(0,935),(2,58),(1,29),(0,15)],⟨56,[(0,.h (.list (.prod .str (.prod wI (.prod .bool .str))))),(4,.own 33),(6,.ptr 32 0),(7,.fn 181 [.ptr 32 0]),(8,.own 34),(13,.h (.list (.prod .str (.prod wI (.prod .bool .str))))),(14,wH),(15,wH),(26,.h (.list (.prod .str (.prod wI (.prod .bool .str))))),(27,wH),(28,wH)],[(32,.dat (.prod .str (.prod wI (.prod .bool .str))) 178),(33,.row wP 108),(34,.row (.prod .str (.prod wI (.prod .bool .str))) 178)],64,[]⟩),(ak [(0,232),(0,233),(2,58),(1,29),(0,15)],⟨56,[(0,.h (.list (.prod .str (.prod wI (.prod .bool .str))))),(4,.own 32),(13,.h (.list (.prod .str (.prod wI (.prod .bool .str))))),(14,wH),(15,wH)],[(32,.row wP 108)],64,[]⟩)]
def zzy(r0:(wi fu).L 2)(r1:(wi fu).L 1):(wi fu).L 0:=Fx.jm (qbb fu r0.f r1.f) [r1.s]
def zzx(r0:(wi fu).L 2):Nat->(wi fu).L 1:=Fx.lq (qba fu r0.f) (qnk fu r0.f) (fun r1=>[(zzy fu r0 r1).s,r0.s])
def zzw:Nat->(wi fu).L 2:=Fx.lq (wy fu) (qnj fu) (fun r0=>[r0.s,(zzx fu r0 fu).s])
def zzz:=(wi fu).fi (ww fu) [(zzw fu fu).s] call137
def zz1:IF:=⟨.fn 87,[wS],[],_,.two (RS.mk (.tup [.agg [wS,wS,wN],.h .bool]) []) (RS.mk (.tup [.agg [wS,wS,.own 0],.h .bool]) [(0,.row wP 108)])⟩
def x59:Fx wG zz1:=fx f87 87 func87 [(zxn fu).p,(qvr fu).p,(zy2 fu).p,(qet fu).p,(zzz fu).p] false [] ao [(ak [(0,16352),(0,16353),(0,8177),(2,2044),(1,1022),(0,1023)],⟨66,[(2,.ptr 32 0),(4,.ptr 33 0),(5,.ptr 34 0),(7,.own 35)],[(32,.cells [wS,wS,wN] 62),(33,.cells [wS] 174),(34,.cells [wS,wS,wN] 62),(35,.row (.prod .str (.prod wI (.prod .bool .str))) 178)],64,[]⟩),(ak [(0,510),(0,511)],⟨66,[(2,.ptr 32 0),(4,.ptr 33 0),(5,.ptr 34 0)],[(32,.cells [wS,wS,wN] 62),(33,.cells [wS] 174),(34,.cells [wS,wS,wN] 62)],64,[]⟩),(ak [(0,509),(0,255)],⟨66,[(2,.ptr 32 0),(4,.ptr 33 0),(5,.ptr 34 0),(33,.h .bool)],[(32,.cells [wS,wS,wN] 62),(33,.cells [wS] 174),(34,.cells [wS,wS,wN] 62)],64,[]⟩)]
def zz4:Nat->(x59 fu).L 0:=Fx.lq (qbc fu) (qnl fu) (fun r2=>[r2.s])
def zz3:(x59 fu).L 1:=Fx.jm (qnm fu) [(zz4 fu fu).s]
def zz2:(x59 fu).L 2:=Fx.jm (qr fu) [(zz3 fu).s]
def zz5:=(x59 fu).fi (qfv fu) [(zz2 fu).s] call87
def z0a:IF:=⟨.fn 147,[wS,.fn 133 []],[],_,RS.mk (.h .bool) []⟩
def x60(fu:Nat):Fx wG z0a:=fx f147 147 func147 [qeu.p] false [] ao [(ak [(0,104),(0,105),(2,26),(1,13),(0,7)],⟨18,[(0,wS),(1,.fn 133 []),(7,wH),(8,wH)],[],64,[]⟩)]
def z0b:Nat->(x60 fu).L 0:=Fx.lq (qap fu) (qxx fu) (fun r0=>[r0.s])
def z0c:=(x60 fu).fi (qfa fu) [(z0b fu fu).s] call147
def z0e:IF:=⟨.fn 105,[wS],[],_,RS.mk (.h .bool) []⟩
def x61:Fx wG z0e:=fx f105 105 func105 [(z0c fu).p] false [] ao []
def q9d:=(x61 fu).fi (tz fu) [] call105
def z0g:IF:=⟨.fn 107,[.h wP,.ptr 0 0],[(0,.dat wP 108)],_,RS.mk (.h .bool) [(0,.dat wP 108)]⟩
def x62:Fx wG z0g:=fx f107 107 func107 [(ly fu).p] false [] ao []
def z0h:=(x62 fu).fi (qnd fu) [] call107
def z0i:IF:=⟨.fn 152,[.h wL,.fn 107 [.ptr 0 0]],[(0,.dat wP 108)],_,RS.mk (wH) [(0,.dat wP 108)]⟩
def x63:Fx wG z0i:=fx f152 152 func152 [(z0h fu).p] false [] ao [(ak [(0,104),(0,105),(2,26),(1,13),(0,7)],⟨19,[(0,.h wL),(1,.fn 107 [.ptr 0 0]),(7,wH),(8,wH)],[(0,.dat wP 108)],64,[]⟩)]
def z0j:Nat->(x63 fu).L 0:=Fx.lq (qbt fu) (qoc fu) (fun r0=>[r0.s])
def z0k:=(x63 fu).fi (qob fu) [(z0j fu fu).s] call152
def z0m:IF:=⟨.fn 106,[.h wL,.fn 107 [.ptr 0 0]],[(0,.dat wP 108)],_,RS.mk (.h .bool) [(0,.dat wP 108)]⟩
def x64:Fx wG z0m:=fx f106 106 func106 [(z0k fu).p] false [] ao []
def z0n:=(x64 fu).fi (qgf fu) [] call106
def z0o:IF:=⟨.fn 72,[.h (.prod .str (.prod .str wL))],[],_,RS.mk (.h (.prod wI wI)) []⟩
def x65:Fx wG z0o:=fx f72 72 func72 [(q9d fu).p,lx.p,jo.p,(z0n fu).p,⟨q7a.e uf,zkn q2e qzv q2d qzu⟩] false [] ao [(ak [(0,31333),(1,7833),(1,1958),(0,1959),(2,122),(1,61),(0,31)],⟨67,[(1,.ptr 32 0),(2,.ptr 33 0),(3,wH),(4,.ptr 34 0),(22,.h wL),(23,wH),(24,wH),(29,.h .bool)],[(32,.dat (.prod .str (.prod .str wL)) 62),(33,.dat (.prod wI wI) 29),(34,.dat wP 108)],64,[]⟩),(ak [(0,488),(0,489),(2,122),(1,61),(0,31)],⟨67,[(1,.ptr 32 0),(2,.ptr 33 0),(22,.h wL),(23,wH),(24,wH)],[(32,.dat (.prod .str (.prod .str wL)) 62),(33,.dat (.prod wI wI) 29)],64,[]⟩),(ak [(0,28),(0,29),(0,15)],⟨67,[(1,.ptr 32 0),(2,.ptr 33 0)],[(32,.dat (.prod .str (.prod .str wL)) 62),(33,.dat (.prod wI wI) 29)],64,[]⟩),(ak [(0,13),(0,7)],⟨67,[(1,.ptr 32 0),(2,.ptr 33 0),(14,.h .bool)],[(32,.dat (.prod .str (.prod .str wL)) 62),(33,.dat (.prod wI wI) 29)],64,[]⟩)]
def z0s(r2:(x65 fu).L 1):(x65 fu).L 0:=Fx.jm (tw fu r2.f) [r2.s]
def z0r:Nat->(x65 fu).L 1:=Fx.lq (wu fu) (qne fu) (fun r2=>[(z0s fu r2).s])
def z0q:(x65 fu).L 2:=Fx.jm (qnf fu) [(z0r fu fu).s]
def z0p:(x65 fu).L 3:=Fx.jm (wt fu) [(z0q fu).s]
def qv1:=(x65 fu).fi (ph fu) [(z0p fu).s] call72
def z0x:IF:=⟨.fn 50,[wS],[],_,.two (RS.mk (.tup [.agg [wS,wS,wN],.agg [wH,wH]]) []) (RS.mk (.tup [.agg [wS,wS,.own 0],.agg [wH,wH]]) [(0,.row wP 108)])⟩
def x66:Fx wG z0x:=fx f50 50 func50 [lx.p,(zz5 fu).p,(qv1 fu).p,ni.p,jo.p] false [] ao []
def q9f:=(x66 fu).fi (ws fu) [] call50
def z0y:IF:=⟨.fn 70,[.h wL],[],_,.two (RS.mk (.tup [.agg [wS,wS,wN],wH,.h .bool]) []) (RS.mk (.tup [.agg [wS,wS,.own 0],wH,.h .bool]) [(0,.row wP 108)])⟩
def x67:Fx wG z0y:=fx f70 70 func70 [(ly fu).p,(q9f fu).p,ni.p] false [] ao [(ak [(0,935),(2,58),(1,29),(0,15)],⟨42,[(0,.h wL),(2,.ptr 32 0),(5,wH),(10,.h wL),(11,wH),(12,wH)],[(32,.cells [wS,wS,wN] 62)],64,[]⟩),(ak [(0,232),(0,233),(2,58),(1,29),(0,15)],⟨42,[(0,.h wL),(2,.ptr 32 0),(5,wH),(10,.h wL),(11,wH),(12,wH)],[(32,.cells [wS,wS,wN] 62)],64,[]⟩)]
def z00(r0:(x67 fu).L 1):(x67 fu).L 0:=Fx.jm (w7 fu r0.f) [r0.s]
def z0z:Nat->(x67 fu).L 1:=Fx.lq (qw fu) (qf2 fu) (fun r0=>[(z00 fu r0).s])
def qv2:=(x67 fu).fi (w6 fu) [(z0z fu fu).s] call70
def z02:IF:=⟨.fn 37,[.h (.prod .str (.prod .str wL)),wS],[],_,RS.mk (.tup [wS,.h .bool,.h (.prod wI wI)]) []⟩
def x68:Fx wG z02:=fx f37 37 func37 [(qv1 fu).p,ni.p,(ly fu).p,jo.p] false [] ao [(ak [(0,232),(0,233),(2,58),(1,29),(0,15)],⟨31,[(1,wS),(6,.ptr 32 0),(16,.h wL),(17,wH),(18,wH)],[(32,.dat (.prod wI wI) 29)],64,[]⟩)]
def z03:Nat->(x68 fu).L 0:=Fx.lq (qa3 fu) (qnb fu) (fun r0=>[r0.s])
def qkt:=(x68 fu).fi (nj fu) [(z03 fu fu).s] call37
def z05:IF:=⟨.fn 189,[.h .byte],[],_,RS.mk (.h .bool) []⟩
def x69:Fx wG z05:=fx f189 189 func189 [] false [] ao []
def z06:=x69.fi qa7 [] call189
def z1a:IF:=⟨.fn 147,[wS,.fn 189 []],[],_,RS.mk (.h .bool) []⟩
def x70(fu:Nat):Fx wG z1a:=fx f147 147 func147 [z06.p] false [] ao [(ak [(0,104),(0,105),(2,26),(1,13),(0,7)],⟨18,[(0,wS),(1,.fn 189 []),(7,wH),(8,wH)],[],64,[]⟩)]
def z1b:Nat->(x70 fu).L 0:=Fx.lq (qaq fu) (qxy fu) (fun r0=>[r0.s])
def z1c:=(x70 fu).fi (qfb fu) [(z1b fu fu).s] call147
def z1e:IF:=⟨.fn 190,[.own 0],[(0,.row .str 9)],_,RS.mk (.ptr 1 0) [(0,.dead),(1,.cells [.h (.int .u32),.h (.int .i32),.h (.int .u32),.c .nilIface,.own 2] 252),(2,.row .str 9)]⟩
def x71:Fx wG z1e:=fx f190 190 func190 [] true [] ao []
def z1f:=x71.fi qon [] call190
end
end
noncomputable section
open Go.Proofs
set_option linter.unusedVariables false
set_option maxRecDepth 100000
set_option maxHeartbeats 2000000
open Tryz
section
variable(fu:Nat)
def z1h:IF:=⟨.fn 227,[.h .byte],[],_,RS.mk (.h .byte) []⟩
def x75:Fx wG z1h:=fx f227 227 func227 [] false [] ao []
def z1i:=x75.fi lz [] call227
def z1j:IF:=⟨.fn 192,[wS],[],_,RS.mk (.own 0) [(0,.row .str 9)]⟩
def x76(fu:Nat):Fx wG z1j:=fx f192 192 func192 [qeu.p,z1i.p] false [] ao [(ak [(0,29902),(0,29903),(1,934),(0,935),(2,58),(1,29),(0,15)],⟨59,[(0,wS),(3,.own 32),(5,wS),(9,wH),(10,wH)],[(32,.row .str 9)],64,[]⟩),(ak [(0,232),(0,233),(2,58),(1,29),(0,15)],⟨59,[(0,wS),(3,.own 32),(9,wH),(10,wH)],[(32,.row .str 9)],64,[]⟩)]
def z1l(r0:(x76 fu).L 1):(x76 fu).L 0:=Fx.jm (qbe fu r0.f) [r0.s]
def z1k:Nat->(x76 fu).L 1:=Fx.lq (w3 fu) (qno fu) (fun r0=>[(z1l fu r0).s])
def z1m:=(x76 fu).fi (qfx fu) [(z1k fu fu).s] call192
def z1o:IF:=⟨.fn 146,[.h wP],[],_,RS.mk (wS) []⟩
def x77:Fx wG z1o:=fx f146 146 func146 [(q9d fu).p,(z1c fu).p,z1f.p,⟨q5e.e qx,zh9⟩,(z1m fu).p,⟨q29.e uc,zfj q4v q4w⟩] false [] ao [(ak [(0,1000),(0,1001),(2,250),(1,125),(0,63)],⟨59,[(1,.ptr 32 0),(3,wS),(38,.own 33),(39,wH),(40,wH)],[(32,.dat wP 108),(33,.row .str 9)],64,[]⟩),(ak [(0,30),(0,31)],⟨59,[(1,.ptr 32 0)],[(32,.dat wP 108)],64,[]⟩),(ak [(0,29),(0,15)],⟨59,[(1,.ptr 32 0),(24,.h .bool)],[(32,.dat wP 108)],64,[]⟩)]
def z1r:Nat->(x77 fu).L 0:=Fx.lq (qa8 fu) (qnh fu) (fun r2=>[r2.s])
def z1q:(x77 fu).L 1:=Fx.jm (qni fu) [(z1r fu fu).s]
def z1p:(x77 fu).L 2:=Fx.jm (wv fu) [(z1q fu).s]
def z1s:=(x77 fu).fi (qfu fu) [(z1p fu).s] call146
def z1v:IF:=⟨.fn 102,[.h (.prod .str (.prod .str wL))],[],_,RS.mk (.tup [wS,.h (.prod wI wI)]) []⟩
def x78:Fx wG z1v:=fx f102 102 func102 [(qv1 fu).p,ni.p,(z1s fu).p,lx.p,jo.p] false [] ao [(ak [(0,488),(0,489),(2,122),(1,61),(0,31)],⟨37,[(3,.ptr 32 0),(5,wS),(20,.h wL),(21,wH),(22,wH)],[(32,.dat (.prod wI wI) 29)],64,[]⟩)]
def z1w:Nat->(x78 fu).L 0:=Fx.lq (qa4 fu) (qnc fu) (fun r0=>[r0.s])
def z1x:=(x78 fu).fi (qft fu) [(z1w fu fu).s] call102
def z1y:IF:=⟨.fn 67,[.h wT],[],_,RS.mk (wH) []⟩
def x79:Fx wG z1y:=fx f67 67 func67 [(qv2 fu).p,(ly fu).p,(qkt fu).p,(z1x fu).p,ni.p] false [] ao [(ak [(0,30),(0,31)],⟨69,[(1,.ptr 32 0),(3,.ptr 33 0),(4,wH)],[(32,.dat wT 26),(33,.cells [wS,wS,.own 34] 62),(34,.row wP 108)],64,[]⟩),(ak [(0,29),(0,15)],⟨69,[(1,.ptr 32 0),(3,.ptr 33 0),(4,wH),(31,.h .bool)],[(32,.dat wT 26),(33,.cells [wS,wS,.own 34] 62),(34,.row wP 108)],64,[]⟩)]
def z10:(x79 fu).L 0:=Fx.jm (qn8 fu) []
def z1z:(x79 fu).L 1:=Fx.jm (l7 fu) [(z10 fu).s]
def z11:=(x79 fu).fi (qgc fu) [(z1z fu).s] call67
def z17:IF:=⟨.fn 68,[.h wB],[],_,RS.mk (wH) []⟩
def x80(fu:Nat):Fx wG z17:=fx f68 68 func68 [] false [] ao [(ak [(0,14924),(0,14925),(0,7463),(1,466),(0,467),(2,58),(1,29),(0,15)],⟨45,[(0,.h wB),(3,wH),(4,wH),(5,.h .byte)],[],64,[]⟩),(ak [(0,7461),(0,3731),(1,466),(0,467),(2,58),(1,29),(0,15)],⟨45,[(0,.h wB),(3,wH),(4,wH),(5,.h .byte),(32,.h .bool)],[],64,[]⟩),(ak [(0,464),(0,465),(0,233),(2,58),(1,29),(0,15)],⟨45,[(0,.h wB),(3,wH),(4,wH)],[],64,[]⟩)]
def z2a(r0:(x80 fu).L 2):(x80 fu).L 0:=Fx.jm (qmi fu r0.f) [r0.s]
def z19(r0:(x80 fu).L 2):(x80 fu).L 1:=Fx.jm (wk fu r0.f) [r0.s,(z2a fu r0).s]
def z18:Nat->(x80 fu).L 2:=Fx.lq (wj fu) (qmh fu) (fun r0=>[(z19 fu r0).s])
def z2b:=(x80 fu).fi (qfd fu) [(z18 fu fu).s] call68
def z2f:IF:=⟨.fn 148,[.h .byte],[],_,RS.mk (.h .bool) []⟩
def x81:Fx wG z2f:=fx f148 148 func148 [] false [] ao []
def z2g:=x81.fi qbn [] call148
def z2h:IF:=⟨.fn 147,[wS,.fn 148 []],[],_,RS.mk (.h .bool) []⟩
def x82(fu:Nat):Fx wG z2h:=fx f147 147 func147 [z2g.p] false [] ao [(ak [(0,104),(0,105),(2,26),(1,13),(0,7)],⟨18,[(0,wS),(1,.fn 148 []),(7,wH),(8,wH)],[],64,[]⟩)]
def z2i:Nat->(x82 fu).L 0:=Fx.lq (qar fu) (qxz fu) (fun r0=>[r0.s])
def z2j:=(x82 fu).fi (qfc fu) [(z2i fu fu).s] call147
def z2l:IF:=⟨.fn 149,[wS,wS],[],_,RS.mk (.h .bool) []⟩
def x83:Fx wG z2l:=fx f149 149 func149 [q87.p] false [] ao []
def z2m:=x83.fi qgl [] call149
def z2n:IF:=⟨.fn 103,[.h wL],[],_,RS.mk (.tup [wS,.h .bool]) []⟩
def x84:Fx wG z2n:=fx f103 103 func103 [(qv2 fu).p,(ly fu).p,(qkt fu).p,(z2j fu).p,z2m.p] false [] ao [(ak [(0,30),(0,31)],⟨52,[(4,.ptr 32 0)],[(32,.cells [wS,wS,.own 33] 62),(33,.row wP 108)],64,[]⟩),(ak [(0,29),(0,15)],⟨52,[(4,.ptr 32 0),(24,.h .bool)],[(32,.cells [wS,wS,.own 33] 62),(33,.row wP 108)],64,[]⟩)]
def z2p:(x84 fu).L 0:=Fx.jm (qnw fu) []
def z2o:(x84 fu).L 1:=Fx.jm (t6 fu) [(z2p fu).s]
def z2q:=(x84 fu).fi (qf3 fu) [(z2o fu).s] call103
def z2u:IF:=⟨.fn 150,[.h wB],[],_,RS.mk (.fn 195 [.ptr 0 0]) [(0,.cells [.h wB] 23)]⟩
def x85:Fx wG z2u:=fx f150 150 func150 [] false [] ao []
def z2v:=x85.fi qn5 [] call150
def z2w:IF:=⟨.fn 122,[wS,.h .byte],[],_,RS.mk (wS) []⟩
def x86(fu:Nat):Fx wG z2w:=fx f122 122 func122 [] false [] ao [(ak [(0,96),(0,97),(0,49),(2,12),(1,6),(0,7)],⟨23,[(0,wS),(1,.h .byte)],[],64,[]⟩)]
def z2x:Nat->(x86 fu).L 0:=Fx.lq (qo0 fu) (qyy fu) (fun r0=>[r0.s])
def z2y:=(x86 fu).fi (qyx fu) [(z2x fu fu).s] call122
def z2z:IF:=⟨.fn 124,[wS,.el 0 1],[(0,.row .bool 164)],_,RS.mk (wS) [(0,.row .bool 164)]⟩
def x87(fu:Nat):Fx wG z2z:=fx f124 124 func124 [quz.p] false [] ao [(ak [(0,96),(0,97),(0,49),(2,12),(1,6),(0,7)],⟨22,[(0,wS),(1,.el 0 1)],[(0,.row .bool 164)],64,[]⟩)]
def z23:Nat->(x87 fu).L 0:=Fx.lq (qb4 fu) (qoz fu) (fun r0=>[r0.s])
def z24:=(x87 fu).fi (qoy fu) [(z23 fu fu).s] call124
def z27:IF:=⟨.fn 206,[.h .byte],[],_,RS.mk (.h .bool) []⟩
def x88:Fx wG z27:=fx f206 206 func206 [] false [] ao []
def q9m:=x88.fi qpb [] call206
def z28:IF:=⟨.fn 165,[wS],[],_,RS.mk (.tup [.h (.int .i32),wH]) []⟩
def x89(fu:Nat):Fx wG z28:=fx f165 165 func165 [q9m.p,q82.p] false [] ao [(ak [(0,2046),(0,2047)],⟨51,[(0,wS),(4,wH),(5,wH)],[],64,[]⟩),(ak [(0,2044),(0,2045),(0,1023)],⟨51,[(0,wS),(4,wH),(5,wH)],[],64,[]⟩),(ak [(0,16336),(0,16337),(0,8169),(2,2042),(1,1021),(0,511)],⟨51,[(0,wS),(4,wH),(5,wH),(6,wH)],[],64,[]⟩)]
def z3b:(x89 fu).L 0:=Fx.jm (qo5 fu) []
def z3a:(x89 fu).L 1:=Fx.jm (qo4 fu) [(z3b fu).s]
def z29:Nat->(x89 fu).L 2:=Fx.lq (qo3 fu) (qy3 fu) (fun r0=>[(z3a fu).s,r0.s])
def z3c:=(x89 fu).fi (qy2 fu) [(z29 fu fu).s] call165
def z3h:IF:=⟨.fn 125,[wS,wS],[],_,RS.mk (wS) []⟩
def x90:Fx wG z3h:=fx f125 125 func125 [(z3c fu).p,(q83 fu).p] false [] ao [(ak [(0,96),(0,97),(0,49),(2,12),(1,6),(0,7)],⟨34,[(0,wS),(1,wS)],[],64,[]⟩)]
def z3i:Nat->(x90 fu).L 0:=Fx.lq (qo1 fu) (qy0 fu) (fun r0=>[r0.s])
def z3j:=(x90 fu).fi (qyz fu) [(z3i fu fu).s] call125
def z3k:IF:=⟨.fn 78,[wS,wS],[],_,RS.mk (wS) []⟩
def x91:Fx wG z3k:=fx f78 78 func78 [(z2y fu).p,(x9s fu).p,(z24 fu).p,(z3j fu).p] false [] ao [(ak [(0,60),(0,61),(0,31)],⟨37,[(0,wS),(1,wS)],[],64,[]⟩),(ak [(0,29),(0,15)],⟨37,[(0,wS),(1,wS),(21,.h .bool)],[],64,[]⟩),(ak [(0,28),(0,29),(0,15)],⟨37,[(0,wS),(1,wS)],[],64,[]⟩),(ak [(0,13),(0,7)],⟨37,[(0,wS),(1,wS),(12,.h .bool)],[],64,[]⟩)]
def z3o:(x91 fu).L 0:=Fx.jm (qor fu) []
def z3n:(x91 fu).L 1:=Fx.jm (qgt fu) [(z3o fu).s]
def z3m:(x91 fu).L 2:=Fx.jm (qoq fu) [(z3n fu).s]
def z3l:(x91 fu).L 3:=Fx.jm (qgs fu) [(z3m fu).s]
def q9o:=(x91 fu).fi (qb1 fu) [(z3l fu).s] call78
def z3u:IF:=⟨.fn 151,[wS,wS],[],_,RS.mk (wH) []⟩
def x92:Fx wG z3u:=fx f151 151 func151 [(q9o fu).p] false [] ao []
def z3v:=(x92 fu).fi (qgb fu) [] call151
def q9p:IF:=⟨.yld 0,[wH,wS],[(0,.loop .ready none 104 51 [(2,.ptr 1 0),(3,.ptr 2 0),(4,.ptr 3 0),(5,.ptr 4 0),(6,.ptr 5 0)] [12,13] 2 6),(1,.cells [.h wB] 23),(2,.cells [wS] 9),(3,.cells [.own 7] 99),(4,.cells [.own 8] 99),(5,.cells [wH] 3),(6,.dfr),(7,.row wB 23),(8,.row wB 23)],_,.two (RS.mk (.c (.bool true)) [(0,.loop .ready none 104 51 [(2,.ptr 1 0),(3,.ptr 2 0),(4,.ptr 3 0),(5,.ptr 4 0),(6,.ptr 5 0)] [12,13] 2 6),(1,.cells [.h wB] 23),(2,.cells [wS] 9),(3,.cells [.own 9] 99),(4,.cells [.own 10] 99),(5,.cells [wH] 3),(6,.dfr),(7,.dead),(8,.dead),(9,.row wB 23),(10,.row wB 23)]) (RS.mk (.c (.bool false)) [(0,.loop .done (some .ret) 104 51 [(2,.ptr 1 0),(3,.ptr 2 0),(4,.ptr 3 0),(5,.ptr 4 0),(6,.ptr 5 0)] [12,13] 2 6),(1,.cells [.h wB] 23),(2,.cells [wS] 9),(3,.cells [.own 9] 99),(4,.cells [.own 9] 99),(5,.cells [wH] 3),(6,.dfr),(7,.dead),(8,.dead),(9,.row wB 23)])⟩
def x93:Fx wG q9p:=fx f104 104 func104 [(z3v fu).p] false [([0,1,0,1,1,1],2)] (jg rfl ao) []
def z3x:EI wG q9p:=(x93 fu).fiy (w8 fu) [] 0 rfl [0,1,0,1,1,1] (by kernel_rfl) (by kernel_rfl) fun d d'=>by kernel_rfl
def z3y:IF:=⟨.fn 195,[.yld 0,.ptr 1 0],[(0,.loop .ready none 104 51 [(2,.ptr 2 0),(3,.ptr 3 0),(4,.ptr 4 0),(5,.ptr 5 0),(6,.ptr 6 0)] [12,13] 2 7),(1,.cells [.h wB] 23),(2,.cells [.h wB] 23),(3,.cells [wS] 9),(4,.cells [.own 8] 99),(5,.cells [.own 9] 99),(6,.cells [wH] 3),(7,.dfr),(8,.row wB 23),(9,.row wB 23)],_,.two (RS.mk (.tup []) [(0,.loop .done (some .ret) 104 51 [(2,.ptr 2 0),(3,.ptr 3 0),(4,.ptr 4 0),(5,.ptr 5 0),(6,.ptr 6 0)] [12,13] 2 7),(1,.cells [.h wB] 23),(2,.cells [.h wB] 23),(3,.cells [wS] 9),(4,.cells [.own 10] 99),(5,.cells [.own 10] 99),(6,.cells [wH] 3),(7,.dfr),(8,.dead),(9,.dead),(10,.row wB 23)]) (RS.mk (.tup []) [(0,.loop .ready none 104 51 [(2,.ptr 2 0),(3,.ptr 3 0),(4,.ptr 4 0),(5,.ptr 5 0),(6,.ptr 6 0)] [12,13] 2 7),(1,.cells [.h wB] 23),(2,.cells [.h wB] 23),(3,.cells [wS] 9),(4,.cells [.own 10] 99),(5,.cells [.own 11] 99),(6,.cells [wH] 3),(7,.dfr),(8,.dead),(9,.dead),(10,.row wB 23),(11,.row wB 23)])⟩
def x94:Fx wG z3y:=fx f195 195 func195 [⟨q0q.e tp,zck (by decide)⟩,(z3x fu).p] false [] ao [(ak [(0,48),(0,49),(0,25),(2,6),(1,3)],⟨39,[(0,.yld 0),(1,.ptr 1 0),(3,wH)],[(0,.loop .ready none 104 51 [(2,.ptr 2 0),(3,.ptr 3 0),(4,.ptr 4 0),(5,.ptr 5 0),(6,.ptr 6 0)] [12,13] 2 7),(1,.cells [.h wB] 23),(2,.cells [.h wB] 23),(3,.cells [wS] 9),(4,.cells [.own 32] 99),(5,.cells [.own 33] 99),(6,.cells [wH] 3),(7,.dfr),(8,.dead),(9,.dead),(32,.row wB 23),(33,.row wB 23)],64,[]⟩)]
def z3z:Nat->(x94 fu).L 0:=Fx.lq (t7 fu) (qn7 fu) (fun r0=>[r0.s])
def z30:=(x94 fu).fi (qn6 fu) [(z3z fu fu).s] call195
def z32:IF:=⟨.fn 104,[.h wB,wS],[],_,RS.mk (.own 0) [(0,.row wB 23)]⟩
def x95:Fx wG z32:=fx f104 104 func104 [z2v.p,(z30 fu).p] false [([0,1,0,1,1,1],2)] (jg rfl ao) []
def z33:=(x95 fu).fi (qf5 fu) [] call104
def z35:IF:=⟨.fn 69,[.h wL,.h wB,wH],[],_,RS.mk (.own 0) [(0,.row wB 23)]⟩
def x96:Fx wG z35:=fx f69 69 func69 [(z2q fu).p,(z33 fu).p] false [] ao []
def z36:=(x96 fu).fi (qga fu) [] call69
def z4a:IF:=⟨.fn 34,[.h (.prod wT wI)],[],_,RS.mk (wH) []⟩
def x97:Fx wG z4a:=fx f34 34 func34 [(zv8 fu).p,ni.p,(z11 fu).p,(z2b fu).p,(z36 fu).p] false [] ao []
def z4b:=(x97 fu).fi (qf4 fu) [] call34
def q9r:IF:=⟨.yld 0,[wH,.agg [.h wL,.h wB,.h (.list wT),wH]],[(0,.loop .ready none 14 36 [(2,.ptr 1 0)] [26,27] 1 2),(1,.dat (.prod wI wI) 29),(2,.dfr)],_,.two (RS.mk (.c (.bool false)) [(0,.loop .done (some .ret) 14 36 [(2,.ptr 1 0)] [26,27] 1 2),(1,.dat (.prod wI wI) 29),(2,.dfr)]) (RS.mk (.c (.bool true)) [(0,.loop .ready none 14 36 [(2,.ptr 1 0)] [26,27] 1 2),(1,.dat (.prod wI wI) 29),(2,.dfr)])⟩
def x98:Fx wG q9r:=fx f14 14 func14 [(z4b fu).p,lx.p] false [([0,1,0,1,1,1,1],1)] (jg rfl ao) []
def z4d:EI wG q9r:=(x98 fu).fiy (qnv fu) [] 0 rfl [0,1,0,1,1,1,1] (by kernel_rfl) (by kernel_rfl) fun d d'=>by kernel_rfl
def qai:IF:=⟨.fn 65,[.h wT,wH,.ptr 0 0,.ptr 1 0,.ptr 2 0],[(0,.cells [.yld 3] 110),(1,.cells [wH] 3),(2,.cells [.fn 65 [.ptr 0 0,.ptr 1 0,.ptr 2 0]] 111),(3,.loop .ready none 14 36 [(2,.ptr 4 0)] [26,27] 1 5),(4,.dat (.prod wI wI) 29),(5,.dfr)],_,.two (RS.mk (.c (.bool false)) [(0,.cells [.yld 3] 110),(1,.cells [wH] 3),(2,.cells [.fn 65 [.ptr 0 0,.ptr 1 0,.ptr 2 0]] 111),(3,.loop .done (some .ret) 14 36 [(2,.ptr 4 0)] [26,27] 1 5),(4,.dat (.prod wI wI) 29),(5,.dfr)]) (RS.mk (.c (.bool true)) [(0,.cells [.yld 3] 110),(1,.cells [wH] 3),(2,.cells [.fn 65 [.ptr 0 0,.ptr 1 0,.ptr 2 0]] 111),(3,.loop .ready none 14 36 [(2,.ptr 4 0)] [26,27] 1 5),(4,.dat (.prod wI wI) 29),(5,.dfr)])⟩
def x99(s11:EI wG qai)(fu:Nat):Fx wG qai:=fx f65 65 func65 [(z4d fu).p,s11.p] false [] ao [(ak [(0,488),(0,489),(2,122),(1,61),(0,31)],⟨33,[(1,wH),(4,.ptr 2 0),(20,.h (.list wT)),(21,wH),(22,wH)],[(0,.cells [.yld 3] 110),(1,.cells [wH] 3),(2,.cells [.fn 65 [.ptr 0 0,.ptr 1 0,.ptr 2 0]] 111),(3,.loop .ready none 14 36 [(2,.ptr 4 0)] [26,27] 1 5),(4,.dat (.prod wI wI) 29),(5,.dfr)],64,[]⟩)]
def z4f(s11:EI wG qai)(fu:Nat):Nat->(x99 s11 fu).L 0:=Fx.lq (qbp s11.f fu) (qny s11.f fu) (fun r0=>[r0.s])
def z4e(s11:EI wG qai)(fu:Nat):EI wG qai:=(x99 s11 fu).fi (qf8 s11.f fu) [(z4f s11 fu fu).s] call65
def z4g:EI wG qai := .rc (xc fu) (fun r=>qf8 r fu) (fun _ _=>rfl) (fun _=>rfl) (fun s11=>z4e s11 fu) (fun _=>rfl) fu
def zk4:IF:=⟨.fn 64,[.yld 0,.ptr 1 0],[(0,.loop .ready none 14 36 [(2,.ptr 2 0)] [26,27] 1 3),(1,.dat wT 26),(2,.dat (.prod wI wI) 29),(3,.dfr)],_,.two (RS.mk (.tup []) [(0,.loop .done (some .ret) 14 36 [(2,.ptr 2 0)] [26,27] 1 3),(1,.dat wT 26),(2,.dat (.prod wI wI) 29),(3,.dfr)]) (RS.mk (.tup []) [(0,.loop .ready none 14 36 [(2,.ptr 2 0)] [26,27] 1 3),(1,.dat wT 26),(2,.dat (.prod wI wI) 29),(3,.dfr)])⟩
def zk3:Fx wG zk4:=fx f64 64 func64 [(z4g fu).p] false [] ao []
def zk5:=(zk3 fu).fi (qf9 fu) [] call64
def zk7:IF:=⟨.fn 14,[.h wT],[],_,RS.mk (.h (.prod wI wI)) []⟩
def zk6:Fx wG zk7:=fx f14 14 func14 [x0s.p,(x4s fu).p,lx.p,(zk5 fu).p,jo.p] false [([0,1,0,1,1],0),([0,1,0,1,1,1,1],1)] (jg rfl (jg rfl ao)) []
def q7l:=(zk6 fu).fi (qbm fu) [] call14
def zk9:IF:=⟨.fn 21,[.h wT],[],_,RS.mk (.fn 49 [.ptr 0 0]) [(0,.dat wT 26)]⟩
def zk8:Fx wG zk9:=fx f21 21 func21 [] false [] ao []
def q7m:=zk8.fi qnt [] call21
def zlb:IF:=⟨.fn 35,[.h wT],[],_,RS.mk (.h (.prod .str (.prod .str wL))) []⟩
def zla:Fx wG zlb:=fx f35 35 func35 [(qv2 fu).p] false [] ao []
def quf:=(zla fu).fi (xg fu) [] call35
def q7n:IF:=⟨.yld 0,[wH,.agg [.h wL,.h wB,.h (.list wT)]],[(0,.loop .ready none 16 35 [(4,.ptr 1 0),(5,.ptr 2 0),(6,.ptr 3 0),(7,.ptr 4 0)] [13,14] 3 5),(1,.cells [wS] 9),(2,.cells [wS] 9),(3,.dat wT 26),(4,.cells [.h .bool] 4),(5,.dfr)],_,.two (RS.mk (.c (.bool false)) [(0,.loop .done (some .ret) 16 35 [(4,.ptr 1 0),(5,.ptr 2 0),(6,.ptr 3 0),(7,.ptr 4 0)] [13,14] 3 5),(1,.cells [wS] 9),(2,.cells [wS] 9),(3,.dat wT 26),(4,.cells [.h .bool] 4),(5,.dfr)]) (RS.mk (.c (.bool true)) [(0,.loop .ready none 16 35 [(4,.ptr 1 0),(5,.ptr 2 0),(6,.ptr 3 0),(7,.ptr 4 0)] [13,14] 3 5),(1,.cells [wS] 9),(2,.cells [wS] 9),(3,.dat wT 26),(4,.cells [.h .bool] 4),(5,.dfr)])⟩
def zlc:Fx wG q7n:=fx f16 16 func16 [(quf fu).p,(ly fu).p] false [([0,1,0,1],3)] (jg rfl ao) []
def zld:EI wG q7n:=(zlc fu).fiy (qzg fu) [] 0 rfl [0,1,0,1] (by kernel_rfl) (by kernel_rfl) fun d d'=>by kernel_rfl
def q7o:IF:=⟨.yld 0,[wH,.agg [.h wL,.h wB,.h (.list wT),wH]],[(0,.loop .ready none 49 15 [(2,.ptr 1 0)] [7,8] 4 2),(1,.cells [.yld 3] 92),(2,.dfr),(3,.loop .ready none 16 35 [(4,.ptr 4 0),(5,.ptr 5 0),(6,.ptr 6 0),(7,.ptr 7 0)] [13,14] 3 8),(4,.cells [wS] 9),(5,.cells [wS] 9),(6,.dat wT 26),(7,.cells [.h .bool] 4),(8,.dfr)],_,.two (RS.mk (.c (.bool false)) [(0,.loop .done (some .ret) 49 15 [(2,.ptr 1 0)] [7,8] 4 2),(1,.cells [.yld 3] 92),(2,.dfr),(3,.loop .done (some .ret) 16 35 [(4,.ptr 4 0),(5,.ptr 5 0),(6,.ptr 6 0),(7,.ptr 7 0)] [13,14] 3 8),(4,.cells [wS] 9),(5,.cells [wS] 9),(6,.dat wT 26),(7,.cells [.h .bool] 4),(8,.dfr)]) (RS.mk (.c (.bool true)) [(0,.loop .ready none 49 15 [(2,.ptr 1 0)] [7,8] 4 2),(1,.cells [.yld 3] 92),(2,.dfr),(3,.loop .ready none 16 35 [(4,.ptr 4 0),(5,.ptr 5 0),(6,.ptr 6 0),(7,.ptr 7 0)] [13,14] 3 8),(4,.cells [wS] 9),(5,.cells [wS] 9),(6,.dat wT 26),(7,.cells [.h .bool] 4),(8,.dfr)])⟩
def zle:Fx wG q7o:=fx f49 49 func49 [(zld fu).p] false [([0,1,1],4)] (jg rfl ao) []
def zlf:EI wG q7o:=(zle fu).fiy (qyh fu) [] 0 rfl [0,1,1] (by kernel_rfl) (by kernel_rfl) fun d d'=>by kernel_rfl
def zx:IF:=⟨.fn 65,[.h wT,wH,.ptr 0 0,.ptr 1 0,.ptr 2 0],[(0,.cells [.yld 3] 110),(1,.cells [wH] 3),(2,.cells [.fn 65 [.ptr 0 0,.ptr 1 0,.ptr 2 0]] 111),(3,.loop .ready none 49 15 [(2,.ptr 4 0)] [7,8] 4 5),(4,.cells [.yld 6] 92),(5,.dfr),(6,.loop .ready none 16 35 [(4,.ptr 7 0),(5,.ptr 8 0),(6,.ptr 9 0),(7,.ptr 10 0)] [13,14] 3 11),(7,.cells [wS] 9),(8,.cells [wS] 9),(9,.dat wT 26),(10,.cells [.h .bool] 4),(11,.dfr)],_,.two (RS.mk (.c (.bool false)) [(0,.cells [.yld 3] 110),(1,.cells [wH] 3),(2,.cells [.fn 65 [.ptr 0 0,.ptr 1 0,.ptr 2 0]] 111),(3,.loop .done (some .ret) 49 15 [(2,.ptr 4 0)] [7,8] 4 5),(4,.cells [.yld 6] 92),(5,.dfr),(6,.loop .done (some .ret) 16 35 [(4,.ptr 7 0),(5,.ptr 8 0),(6,.ptr 9 0),(7,.ptr 10 0)] [13,14] 3 11),(7,.cells [wS] 9),(8,.cells [wS] 9),(9,.dat wT 26),(10,.cells [.h .bool] 4),(11,.dfr)]) (RS.mk (.c (.bool true)) [(0,.cells [.yld 3] 110),(1,.cells [wH] 3),(2,.cells [.fn 65 [.ptr 0 0,.ptr 1 0,.ptr 2 0]] 111),(3,.loop .ready none 49 15 [(2,.ptr 4 0)] [7,8] 4 5),(4,.cells [.yld 6] 92),(5,.dfr),(6,.loop .ready none 16 35 [(4,.ptr 7 0),(5,.ptr 8 0),(6,.ptr 9 0),(7,.ptr 10 0)] [13,14] 3 11),(7,.cells [wS] 9),(8,.cells [wS] 9),(9,.dat wT 26),(10,.cells [.h .bool] 4),(11,.dfr)])⟩
def q7p(s110:EI wG zx)(fu:Nat):Fx wG zx:=fx f65 65 func65 [(zlf fu).p,s110.p] false [] ao [(ak [(0,488),(0,489),(2,122),(1,61),(0,31)],⟨33,[(1,wH),(4,.ptr 2 0),(20,.h (.list wT)),(21,wH),(22,wH)],[(0,.cells [.yld 3] 110),(1,.cells [wH] 3),(2,.cells [.fn 65 [.ptr 0 0,.ptr 1 0,.ptr 2 0]] 111),(3,.loop .ready none 49 15 [(2,.ptr 4 0)] [7,8] 4 5),(4,.cells [.yld 6] 92),(5,.dfr),(6,.loop .ready none 16 35 [(4,.ptr 7 0),(5,.ptr 8 0),(6,.ptr 9 0),(7,.ptr 10 0)] [13,14] 3 11),(7,.cells [wS] 9),(8,.cells [wS] 9),(9,.dat wT 26),(10,.cells [.h .bool] 4),(11,.dfr)],64,[]⟩)]
def zlh(s110:EI wG zx)(fu:Nat):Nat->(q7p s110 fu).L 0:=Fx.lq (qn1 s110.f fu) (qym s110.f fu) (fun r0=>[r0.s])
def zlg(s110:EI wG zx)(fu:Nat):EI wG zx:=(q7p s110 fu).fi (qnz s110.f fu) [(zlh s110 fu fu).s] call65
def zli:EI wG zx := .rc (qn0 fu) (fun r=>qnz r fu) (fun _ _=>rfl) (fun _=>rfl) (fun s110=>zlg s110 fu) (fun _=>rfl) fu
def zlk:IF:=⟨.fn 64,[.yld 0,.ptr 1 0],[(0,.loop .ready none 49 15 [(2,.ptr 2 0)] [7,8] 4 3),(1,.dat wT 26),(2,.cells [.yld 4] 92),(3,.dfr),(4,.loop .ready none 16 35 [(4,.ptr 5 0),(5,.ptr 6 0),(6,.ptr 7 0),(7,.ptr 8 0)] [13,14] 3 9),(5,.cells [wS] 9),(6,.cells [wS] 9),(7,.dat wT 26),(8,.cells [.h .bool] 4),(9,.dfr)],_,.two (RS.mk (.tup []) [(0,.loop .done (some .ret) 49 15 [(2,.ptr 2 0)] [7,8] 4 3),(1,.dat wT 26),(2,.cells [.yld 4] 92),(3,.dfr),(4,.loop .done (some .ret) 16 35 [(4,.ptr 5 0),(5,.ptr 6 0),(6,.ptr 7 0),(7,.ptr 8 0)] [13,14] 3 9),(5,.cells [wS] 9),(6,.cells [wS] 9),(7,.dat wT 26),(8,.cells [.h .bool] 4),(9,.dfr)]) (RS.mk (.tup []) [(0,.loop .ready none 49 15 [(2,.ptr 2 0)] [7,8] 4 3),(1,.dat wT 26),(2,.cells [.yld 4] 92),(3,.dfr),(4,.loop .ready none 16 35 [(4,.ptr 5 0),(5,.ptr 6 0),(6,.ptr 7 0),(7,.ptr 8 0)] [13,14] 3 9),(5,.cells [wS] 9),(6,.cells [wS] 9),(7,.dat wT 26),(8,.cells [.h .bool] 4),(9,.dfr)])⟩
def zlj:Fx wG zlk:=fx f64 64 func64 [(zli fu).p] false [] ao []
def zll:=(zlj fu).fi (qyo fu) [] call64
def zln:IF:=⟨.fn 49,[.yld 0,.ptr 1 0],[(0,.loop .ready none 16 35 [(4,.ptr 2 0),(5,.ptr 3 0),(6,.ptr 4 0),(7,.ptr 5 0)] [13,14] 3 6),(1,.dat wT 26),(2,.cells [wS] 9),(3,.cells [wS] 9),(4,.dat wT 26),(5,.cells [.h .bool] 4),(6,.dfr)],_,.two (RS.mk (.tup []) [(0,.loop .done (some .ret) 16 35 [(4,.ptr 2 0),(5,.ptr 3 0),(6,.ptr 4 0),(7,.ptr 5 0)] [13,14] 3 6),(1,.dat wT 26),(2,.cells [wS] 9),(3,.cells [wS] 9),(4,.dat wT 26),(5,.cells [.h .bool] 4),(6,.dfr)]) (RS.mk (.tup []) [(0,.loop .ready none 16 35 [(4,.ptr 2 0),(5,.ptr 3 0),(6,.ptr 4 0),(7,.ptr 5 0)] [13,14] 3 6),(1,.dat wT 26),(2,.cells [wS] 9),(3,.cells [wS] 9),(4,.dat wT 26),(5,.cells [.h .bool] 4),(6,.dfr)])⟩
def zlm:Fx wG zln:=fx f49 49 func49 [x0s.p,(zll fu).p] false [([0,1,1],4)] (jg rfl ao) []
def zlo:=(zlm fu).fi (qyg fu) [] call49
def zlq:IF:=⟨.fn 16,[.h wT,wS,wS],[],_,RS.mk (.tup [.h wT,.h .bool]) []⟩
def zlp:Fx wG zlq:=fx f16 16 func16 [q7m.p,(zlo fu).p] false [([0,1,0,1],3)] (jg rfl ao) []
def zlr:=(zlp fu).fi (qpm fu) [] call16
def zlu:IF:=⟨.fn 197,[wS,.h .byte],[],_,RS.mk (.agg [wS,.fn 233 [.ptr 0 0],.fn 235 []]) [(0,.cells [.h .byte] 5)]⟩
def zlt:Fx wG zlu:=fx f197 197 func197 [] false [] ao []
def zlv:=zlt.fi qgw [] call197
def zlx:IF:=⟨.fn 154,[wS],[],_,.two (RS.mk (.tup [.agg [wS,.fn 233 [.ptr 0 0],.fn 235 []],.h .bool]) [(0,.cells [.h .byte] 5)]) (.two (RS.mk (.tup [.agg [wS,.fn 198 [],.fn 199 []],.h .bool]) []) (.two (RS.mk (.tup [.agg [wS,.fn 200 [],.fn 201 []],.h .bool]) []) (RS.mk (.tup [.agg [wS,.c .nilFunc,.c .nilFunc],.h .bool]) [])))⟩
def zlw:Fx wG zlx:=fx f154 154 func154 [zlv.p,(ly fu).p] false [] ao []
def zly:=(zlw fu).fi (qgv fu) [] call154
def zl0:IF:=⟨.fn 109,[.h wB,wS],[],_,.two (RS.mk (.tup [.agg [wS,.fn 233 [.ptr 0 0],.fn 235 []],.h (.prod wI wI)]) [(0,.cells [.h .byte] 5)]) (.two (RS.mk (.tup [.agg [wS,.fn 198 [],.fn 199 []],.h (.prod wI wI)]) []) (.two (RS.mk (.tup [.agg [wS,.fn 200 [],.fn 201 []],.h (.prod wI wI)]) []) (RS.mk (.tup [.agg [wS,.c .nilFunc,.c .nilFunc],.h (.prod wI wI)]) [])))⟩
def zlz:Fx wG zl0:=fx f109 109 func109 [(zly fu).p,lx.p,jo.p] false [] ao []
def zl1:=(zlz fu).fi (qo2 fu) [] call109
def zl3:IF:=⟨.fn 235,[.h wB],[],_,RS.mk (.tup [.own 0,.h (.prod wI wI)]) [(0,.row .byte 5)]⟩
def zl2:Fx wG zl3:=fx f235 235 func235 [jo.p] false [] ao []
def zl4:=zl2.fi qgu [] call235
def zl6:IF:=⟨.fn 229,[.h wB,.h .byte],[],_,RS.mk (wH) []⟩
def zl5:Fx wG zl6:=fx f229 229 func229 [⟨qmn 256 qp,q91⟩] false [] ao []
def q7r:=zl5.fi wn [] call229
def zl7:IF:=⟨.fn 199,[.h wB],[],_,RS.mk (.tup [.own 0,.h (.prod wI wI)]) [(0,.row .byte 5)]⟩
def q7s(fu:Nat):Fx wG zl7:=fx f199 199 func199 [lx.p,jo.p,q7r.p] false [] ao [(ak [(0,1000),(0,1001),(2,250),(1,125),(0,63)],⟨53,[(3,.ptr 32 0),(4,.own 33),(5,wH),(6,wH),(14,.h wB),(15,wH),(16,wH)],[(32,.dat (.prod wI wI) 29),(33,.row .byte 5)],64,[]⟩)]
def zl8:Nat->(q7s fu).L 0:=Fx.lq (tl fu) (qe9 fu) (fun r0=>[r0.s])
def zl9:=(q7s fu).fi (qe8 fu) [(zl8 fu fu).s] call199
def zmb:IF:=⟨.fn 230,[.h wB,.h wB],[],_,RS.mk (.h .bool) []⟩
def zma:Fx wG zmb:=fx f230 230 func230 [] false [] ao []
def zmc:=zma.fi qfe [] call230
def zme:IF:=⟨.fn 241,[.h wB,.h wB],[],_,RS.mk (.h .bool) []⟩
def zmd:Fx wG zme:=fx f241 241 func241 [zmc.p] false [] ao []
def q7t:=zmd.fi wm [] call241
def zmg:IF:=⟨.fn 239,[.h wB,.h wB],[],_,RS.mk (.h wB) []⟩
def zmf:Fx wG zmg:=fx f239 239 func239 [q7t.p] false [] ao []
def zmh:=zmf.fi tr [] call239
def zmi:IF:=⟨.fn 259,[.h wB,.h .byte],[],_,RS.mk (.h wB) []⟩
def q7u(fu:Nat):Fx wG zmi:=fx f259 259 func259 [] false [] ao [(ak [(0,96),(0,97),(0,49),(2,12),(1,6),(0,7)],⟨24,[(0,.h wB),(1,.h .byte)],[],64,[]⟩)]
def zmj:Nat->(q7u fu).L 0:=Fx.lq (qmw fu) (qx5 fu) (fun r0=>[r0.s])
def zmk:=(q7u fu).fi (qx4 fu) [(zmj fu fu).s] call259
def zmm:IF:=⟨.fn 260,[wS],[],_,RS.mk (.tup [.arr .bool,.h .bool]) []⟩
def q7v(fu:Nat):Fx wG zmm:=fx f260 260 func260 [] false [] ao [(ak [(0,208),(0,209),(0,105),(2,26),(1,13),(0,7)],⟨21,[(0,wS),(2,.el 32 1),(4,wH)],[(32,.row .bool 282)],64,[]⟩)]
def zmn:Nat->(q7v fu).L 0:=Fx.lq (qmt fu) (qx3 fu) (fun r0=>[r0.s])
def zmo:=(q7v fu).fi (qms fu) [(zmn fu fu).s] call260
def zmq:IF:=⟨.fn 285,[.el 0 1,.h .byte],[(0,.row .bool 282)],_,RS.mk (.h .bool) [(0,.row .bool 282)]⟩
def zmp:Fx wG zmq:=fx f285 285 func285 [] false [] ao []
def zmr:=zmp.fi qfi [] call285
def zms:IF:=⟨.fn 261,[.h wB,.el 0 1],[(0,.row .bool 282)],_,RS.mk (.h wB) [(0,.row .bool 282)]⟩
def q7w(fu:Nat):Fx wG zms:=fx f261 261 func261 [zmr.p] false [] ao [(ak [(0,96),(0,97),(0,49),(2,12),(1,6),(0,7)],⟨23,[(0,.h wB),(1,.el 0 1)],[(0,.row .bool 282)],64,[]⟩)]
def zmt:Nat->(q7w fu).L 0:=Fx.lq (qas fu) (qmv fu) (fun r0=>[r0.s])
def zmu:=(q7w fu).fi (qmu fu) [(zmt fu fu).s] call261
def zmv:IF:=⟨.fn 317,[.h wB],[],_,RS.mk (.tup [.h (.int .i32),wH]) []⟩
def wd:Fx wG zmv:=fx f317 317 func317 [] false [] ao [(ak [(0,524286),(0,524287)],⟨122,[(5,.h .byte),(10,.h .byte),(11,.h .byte),(12,.h .byte)],[],64,[]⟩),(ak [(0,524285),(0,262143)],⟨122,[(5,.h .byte),(10,.h .byte),(11,.h .byte),(12,.h .byte),(103,.h .bool)],[],64,[]⟩),(ak [(0,131068),(0,131069),(0,65535)],⟨122,[(0,.h wB),(5,.h .byte),(8,wH),(10,.h .byte),(11,.h .byte)],[],64,[]⟩),(ak [(0,65533),(0,32767)],⟨122,[(0,.h wB),(5,.h .byte),(8,wH),(10,.h .byte),(11,.h .byte),(79,.h .bool)],[],64,[]⟩),(ak [(0,16380),(0,16381),(0,8191)],⟨122,[(0,.h wB),(5,.h .byte),(8,wH),(10,.h .byte)],[],64,[]⟩),(ak [(0,8189),(0,4095)],⟨122,[(0,.h wB),(5,.h .byte),(8,wH),(10,.h .byte),(60,.h .bool)],[],64,[]⟩)]
def zm1:wd.L 0:=Fx.jn qzc [] fun d=>by kernel_rfl
def zm0:wd.L 1:=Fx.jn qpj [(zm1).s] fun d=>by kernel_rfl
def zmz:wd.L 2:=Fx.jn qzb [(zm0).s] fun d=>by kernel_rfl
def zmy:wd.L 3:=Fx.jn qpi [(zmz).s] fun d=>by kernel_rfl
def zmx:wd.L 4:=Fx.jn qza [(zmy).s] fun d=>by kernel_rfl
def zmw:wd.L 5:=Fx.jn qph [(zmx).s] fun d=>by kernel_rfl
def zm2:=wd.fi qpg [(zmw).s] call317
end
end
noncomputable section
open Go.Proofs
set_option linter.unusedVariables false
set_option maxRecDepth 100000
set_option maxHeartbeats 2000000
open Tryz
section
variable(fu:Nat)
def zm9:IF:=⟨.fn 303,[.h wB],[],_,RS.mk (.tup [.h (.int .i32),wH]) []⟩
def q7x(fu:Nat):Fx wG zm9:=fx f303 303 func303 [zm2.p] false [] ao [(ak [(0,104),(0,105),(2,26),(1,13),(0,7)],⟨22,[(0,.h wB),(6,.h wB),(7,wH),(8,.c (.int .i64 0))],[],64,[]⟩)]
def zna:Nat->(q7x fu).L 0:=Fx.lq (qpa fu) (qy6 fu) (fun r0=>[])
def znb:=(q7x fu).fi (qy5 fu) [(zna fu fu).s] call303
def znc:IF:=⟨.fn 286,[.h wB],[],_,RS.mk (.tup [.h (.int .i32),wH]) []⟩
def qj9:Fx wG znc:=fx f286 286 func286 [q9m.p,(znb fu).p] false [] ao [(ak [(0,2046),(0,2047)],⟨53,[(0,.h wB),(4,wH),(5,wH)],[],64,[]⟩),(ak [(0,2044),(0,2045),(0,1023)],⟨53,[(0,.h wB),(4,wH),(5,wH)],[],64,[]⟩),(ak [(0,16336),(0,16337),(0,8169),(2,2042),(1,1021),(0,511)],⟨53,[(0,.h wB),(4,wH),(5,wH),(6,wH)],[],64,[]⟩)]
def znf:(qj9 fu).L 0:=Fx.jm (qo8 fu) []
def zne:(qj9 fu).L 1:=Fx.jm (qo7 fu) [(znf fu).s]
def znd:Nat->(qj9 fu).L 2:=Fx.lq (qo6 fu) (qy4 fu) (fun r0=>[(zne fu).s,r0.s])
def zng:=(qj9 fu).fi (qy1 fu) [(znd fu fu).s] call286
def znj:IF:=⟨.fn 287,[wS,.h (.int .i32)],[],_,RS.mk (.h .bool) []⟩
def q7y(fu:Nat):Fx wG znj:=fx f287 287 func287 [] false [] ao [(ak [(0,104),(0,105),(2,26),(1,13),(0,7)],⟨15,[(1,.h (.int .i32)),(8,.ptr 32 0)],[(32,.it)],64,[]⟩)]
def znk:Nat->(q7y fu).L 0:=Fx.lq (qmr fu) (qx2 fu) (fun r0=>[r0.s])
def znl:=(q7y fu).fi (qmq fu) [(znk fu fu).s] call287
def znm:IF:=⟨.fn 262,[.h wB,wS],[],_,RS.mk (.h wB) []⟩
def q7z:Fx wG znm:=fx f262 262 func262 [(zng fu).p,(znl fu).p] false [] ao [(ak [(0,96),(0,97),(0,49),(2,12),(1,6),(0,7)],⟨35,[(0,.h wB),(1,wS)],[],64,[]⟩)]
def znn:Nat->(q7z fu).L 0:=Fx.lq (qmx fu) (qx7 fu) (fun r0=>[r0.s])
def zno:=(q7z fu).fi (qx6 fu) [(znn fu fu).s] call262
def znp:IF:=⟨.fn 240,[.h wB,wS],[],_,RS.mk (.h wB) []⟩
def qem:Fx wG znp:=fx f240 240 func240 [(zmk fu).p,(zmo fu).p,(zmu fu).p,(zno fu).p] false [] ao [(ak [(0,60),(0,61),(0,31)],⟨38,[(0,.h wB),(1,wS)],[],64,[]⟩),(ak [(0,29),(0,15)],⟨38,[(0,.h wB),(1,wS),(22,.h .bool)],[],64,[]⟩),(ak [(0,28),(0,29),(0,15)],⟨38,[(0,.h wB),(1,wS)],[],64,[]⟩),(ak [(0,13),(0,7)],⟨38,[(0,.h wB),(1,wS),(13,.h .bool)],[],64,[]⟩)]
def znt:(qem fu).L 0:=Fx.jm (qmp fu) []
def zns:(qem fu).L 1:=Fx.jm (qfh fu) [(znt fu).s]
def znr:(qem fu).L 2:=Fx.jm (qmo fu) [(zns fu).s]
def znq:(qem fu).L 3:=Fx.jm (qfg fu) [(znr fu).s]
def znu:=(qem fu).fi (qff fu) [(znq fu).s] call240
def znz:IF:=⟨.fn 242,[.h wB],[],_,RS.mk (.own 0) [(0,.row .byte 5)]⟩
def q70(fu:Nat):Fx wG znz:=fx f242 242 func242 [q9a.p] false [] ao [(ak [(0,464),(0,465),(0,233),(2,58),(1,29),(0,15)],⟨47,[(0,.h wB),(3,.own 32),(4,wH)],[(32,.row .byte 5)],64,[]⟩)]
def zn0:Nat->(q70 fu).L 0:=Fx.lq (ua fu) (qge fu) (fun r0=>[r0.s])
def zn1:=(q70 fu).fi (qoa fu) [(zn0 fu fu).s] call242
def zn4:IF:=⟨.fn 201,[.h wB],[],_,RS.mk (.tup [.own 0,.h (.prod wI wI)]) [(0,.row .byte 5)]⟩
def tg:Fx wG zn4:=fx f201 201 func201 [lx.p,q7r.p,jo.p,zmh.p,(znu fu).p,q7t.p,(zn1 fu).p] false [] ao [(ak [(0,123646),(0,123647),(1,241),(2,60),(1,30),(0,31)],⟨63,[(0,.h wB),(3,.ptr 32 0),(4,.own 33),(5,wH),(6,.h wB),(7,.h wB)],[(32,.dat (.prod wI wI) 29),(33,.row .byte 5)],64,[]⟩),(ak [(0,15454),(0,15455),(1,241),(2,60),(1,30),(0,31)],⟨63,[(0,.h wB),(3,.ptr 32 0),(4,.own 33),(5,wH),(6,.h wB)],[(32,.dat (.prod wI wI) 29),(33,.row .byte 5)],64,[]⟩),(ak [(0,3862),(0,3863),(1,241),(2,60),(1,30),(0,31)],⟨63,[(0,.h wB),(3,.ptr 32 0),(4,.own 33),(5,wH)],[(32,.dat (.prod wI wI) 29),(33,.row .byte 5)],64,[]⟩),(ak [(0,480),(0,481),(0,241),(2,60),(1,30),(0,31)],⟨63,[(0,.h wB),(3,.ptr 32 0),(4,.own 33)],[(32,.dat (.prod wI wI) 29),(33,.row .byte 5)],64,[]⟩)]
def zn8(r0:(tg fu).L 3):(tg fu).L 0:=Fx.jm (qbs fu r0.f) [r0.s]
def zn7(r0:(tg fu).L 3):(tg fu).L 1:=Fx.jm (qbr fu r0.f) [(zn8 fu r0).s]
def zn6(r0:(tg fu).L 3):(tg fu).L 2:=Fx.jm (t8 fu r0.f) [(zn7 fu r0).s]
def zn5:Nat->(tg fu).L 3:=Fx.lq (qbq fu) (qn9 fu) (fun r0=>[(zn6 fu r0).s])
def zn9:=(tg fu).fi (qgd fu) [(zn5 fu fu).s] call201
def zoe:IF:=⟨.fn 73,[.h wB,wS],[],_,RS.mk (.tup [.own 0,.h (.prod wI wI)]) [(0,.row .byte 5)]⟩
def zod:Fx wG zoe:=fx f73 73 func73 [(zl1 fu).p,ni.p,zl4.p,(zl9 fu).p,(zn9 fu).p] false [] ao []
def zof:=(zod fu).fi (qb5 fu) [] call73
def zog:IF:=⟨.fn 38,[.h wT],[],_,RS.mk (.own 0) [(0,.row .byte 5)]⟩
def q71:Fx wG zog:=fx f38 38 func38 [(ly fu).p,(zof fu).p] false [] ao [(ak [(0,104),(0,105),(2,26),(1,13),(0,7)],⟨40,[(1,.ptr 32 0),(10,.h wL),(11,wH),(12,wH)],[(32,.dat wT 26)],64,[]⟩)]
def zoh:Nat->(q71 fu).L 0:=Fx.lq (qb6 fu) (qpk fu) (fun r0=>[r0.s])
def zoi:=(q71 fu).fi (qgy fu) [(zoh fu fu).s] call38
def zok:IF:=⟨.fn 110,[wS,.h (.int .i32)],[],_,RS.mk (.agg [wS,.fn 155 [.ptr 0 0],.fn 156 [.ptr 0 0]]) [(0,.cells [.h (.int .i32)] 21)]⟩
def zoj:Fx wG zok:=fx f110 110 func110 [] false [] ao []
def zol:=zoj.fi qfj [] call110
def zon:IF:=⟨.fn 74,[wS],[],_,.two (RS.mk (.tup [.agg [wS,.fn 155 [.ptr 0 0],.fn 156 [.ptr 0 0]],.h .bool]) [(0,.cells [.h (.int .i32)] 21)]) (.two (RS.mk (.tup [.agg [wS,.fn 111 [],.fn 112 []],.h .bool]) []) (.two (RS.mk (.tup [.agg [wS,.fn 114 [],.fn 115 []],.h .bool]) []) (RS.mk (.tup [.agg [wS,.c .nilFunc,.c .nilFunc],.h .bool]) [])))⟩
def zom:Fx wG zon:=fx f74 74 func74 [zol.p,(ly fu).p] false [] ao []
def zoo:=(zom fu).fi (tu fu) [] call74
def zop:IF:=⟨.fn 155,[.h wB,.ptr 0 0],[(0,.cells [.h (.int .i32)] 21)],_,RS.mk (.own 1) [(0,.cells [.h (.int .i32)] 21),(1,.row (.int .i32) 21)]⟩
def q72(fu:Nat):Fx wG zop:=fx f155 155 func155 [] false [] ao [(ak [(0,232),(0,233),(2,58),(1,29),(0,15)],⟨25,[(1,.ptr 0 0),(4,.own 32),(8,.h wB),(9,wH),(10,wH)],[(0,.cells [.h (.int .i32)] 21),(32,.row (.int .i32) 21)],64,[]⟩)]
def zoq:Nat->(q72 fu).L 0:=Fx.lq (qau fu) (qm0 fu) (fun r0=>[r0.s])
def zor:=(q72 fu).fi (qmz fu) [(zoq fu fu).s] call155
def zot:IF:=⟨.fn 111,[.h wB],[],_,RS.mk (.own 0) [(0,.row (.int .i32) 21)]⟩
def zos:Fx wG zot:=fx f111 111 func111 [] false [] ao []
def zou:=zos.fi qmy [] call111
def zow:IF:=⟨.fn 158,[wH,.ptr 0 0],[(0,.cells [.h wB] 23)],_,RS.mk (.h (.int .i32)) [(0,.cells [.h wB] 23)]⟩
def zov:Fx wG zow:=fx f158 158 func158 [] false [] ao []
def zox:=zov.fi qav [] call158
def zoy:IF:=⟨.fn 114,[.h wB],[],_,RS.mk (.own 0) [(0,.row (.int .i32) 21)]⟩
def th(fu:Nat):Fx wG zoy:=fx f114 114 func114 [zox.p] false [] ao [(ak [(0,62620),(0,62621),(0,31311),(1,978),(0,979),(2,122),(1,61),(0,31)],⟨69,[(1,.ptr 32 0),(3,.own 33),(4,.fn 158 [.ptr 32 0]),(5,wH),(6,.h (.int .i32))],[(32,.cells [.h wB] 23),(33,.row (.int .i32) 21)],64,[]⟩),(ak [(0,250475),(0,15655),(1,978),(0,979),(2,122),(1,61),(0,31)],⟨69,[(1,.ptr 32 0),(3,.own 33),(4,.fn 158 [.ptr 32 0]),(5,wH),(6,.h (.int .i32)),(7,.h (.int .i32)),(48,.h .bool)],[(32,.cells [.h wB] 23),(33,.row (.int .i32) 21)],64,[]⟩),(ak [(0,31309),(0,15655),(1,978),(0,979),(2,122),(1,61),(0,31)],⟨69,[(1,.ptr 32 0),(3,.own 33),(4,.fn 158 [.ptr 32 0]),(5,wH),(6,.h (.int .i32)),(38,.h .bool)],[(32,.cells [.h wB] 23),(33,.row (.int .i32) 21)],64,[]⟩),(ak [(0,976),(0,977),(0,489),(2,122),(1,61),(0,31)],⟨69,[(1,.ptr 32 0),(3,.own 33),(4,.fn 158 [.ptr 32 0]),(5,wH)],[(32,.cells [.h wB] 23),(33,.row (.int .i32) 21)],64,[]⟩)]
def q73(r0:(th fu).L 3):(th fu).L 0:=Fx.jm (tv fu r0.f) [r0.s]
def zo1(r0:(th fu).L 3):(th fu).L 1:=Fx.jm (qaw fu r0.f) [(q73 fu r0).s]
def zo0(r0:(th fu).L 3):(th fu).L 2:=Fx.jm (wo fu r0.f) [(zo1 fu r0).s,(q73 fu r0).s]
def zoz:Nat->(th fu).L 3:=Fx.lq (qq fu) (qm2 fu) (fun r0=>[(zo0 fu r0).s])
def zo2:=(th fu).fi (qm1 fu) [(zoz fu fu).s] call114
def zo7:IF:=⟨.fn 39,[wS,.h wB],[],_,RS.mk (.tup [wS,.h (.prod wI wI)]) []⟩
def zo6:Fx wG zo7:=fx f39 39 func39 [lx.p,(zoo fu).p,(zor fu).p,jo.p,zou.p,(zo2 fu).p] false [] ao []
def zo8:=(zo6 fu).fi (qat fu) [] call39
def zpi:IF:=⟨.fn 17,[.h wT],[],_,RS.mk (wS) []⟩
def zph:Fx wG zpi:=fx f17 17 func17 [(quf fu).p,(qkt fu).p,(zoi fu).p,(zo8 fu).p,⟨q5d.e xd,zh7 (by decide)⟩] false [] ao []
def zpj:=(zph fu).fi (qpo fu) [] call17
def zpl:IF:=⟨.fn 43,[wS],[],_,RS.mk (wS) []⟩
def zpk:Fx wG zpl:=fx f43 43 func43 [(q9o fu).p,(q8y fu).p] false [] ao []
def zpm:=(zpk fu).fi (qzj fu) [] call43
def zpo:IF:=⟨.fn 42,[.ptr 0 0,wS],[(0,.cells [.pn 0,.own 1] 83),(1,.row .byte 5)],_,RS.mk (.tup [wH,.c .nilIface]) [(0,.cells [.pn 0,.own 2] 83),(1,.dead),(2,.row .byte 5)]⟩
def zpn:Fx wG zpo:=fx f42 42 func42 [⟨qq6.e wq,q1g⟩] false [] ao []
def zpp:=zpn.fi qof [] call42
def zpr:IF:=⟨.fn 45,[.ptr 0 0,.h .byte],[(0,.cells [.pn 0,.own 1] 83),(1,.row .byte 5)],_,RS.mk (.c .nilIface) [(0,.cells [.pn 0,.own 2] 83),(1,.dead),(2,.row .byte 5)]⟩
def zpq:Fx wG zpr:=fx f45 45 func45 [⟨qq6.e wq,q1g⟩] false [] ao []
def zps:=zpq.fi qbw [] call45
def zpu:IF:=⟨.fn 167,[wS,wS],[],_,RS.mk (.h .bool) []⟩
def zpt:Fx wG zpu:=fx f167 167 func167 [] false [] ao []
def zpv:=zpt.fi qx9 [] call167
def zpx:IF:=⟨.fn 126,[wS,wS],[],_,RS.mk (.tup [wS,.h .bool]) []⟩
def zpw:Fx wG zpx:=fx f126 126 func126 [zpv.p] false [] ao []
def zpy:=zpw.fi qx8 [] call126
def zp0:IF:=⟨.fn 79,[wS,wS],[],_,RS.mk (.tup [wS,.h .bool]) []⟩
def zpz:Fx wG zp0:=fx f79 79 func79 [zpy.p] false [] ao []
def zp1:=zpz.fi qyq [] call79
def zp2:IF:=⟨.fn 80,[wS],[],_,RS.mk (.h .bool) []⟩
def q75(fu:Nat):Fx wG zp2:=fx f80 80 func80 [] false [] ao [(ak [(0,104),(0,105),(2,26),(1,13),(0,7)],⟨22,[(0,wS),(5,wH),(6,wH)],[],64,[]⟩)]
def zp3:Nat->(q75 fu).L 0:=Fx.lq (qmj fu) (qx1 fu) (fun r0=>[r0.s])
def zp4:=(q75 fu).fi (qx0 fu) [(zp3 fu fu).s] call80
def zp5:IF:=⟨.fn 44,[wS],[],_,RS.mk (.tup [wS,.h .bool]) []⟩
def q76:Fx wG zp5:=fx f44 44 func44 [zp1.p,(zp4 fu).p,⟨q0j.e qbv,zb5⟩] false [] ao [(ak [(0,61),(0,31)],⟨46,[(4,wS),(35,.h .bool)],[],64,[]⟩)]
def zp6:(q76 fu).L 0:=Fx.jm (qg0 fu) []
def zp7:=(q76 fu).fi (qzf fu) [(zp6 fu).s] call44
def zp9:IF:=⟨.fn 19,[wS],[],_,RS.mk (wS) []⟩
def q77:Fx wG zp9:=fx f19 19 func19 [quj.p,(zpm fu).p,zpp.p,zps.p,(zp7 fu).p,⟨q0x.e qe7,zcy⟩] false [] ao [(ak [(0,464),(0,465),(0,233),(2,58),(1,29),(0,15)],⟨68,[(0,wS),(3,.ptr 32 0),(4,wH)],[(32,.cells [.pn 32,.own 33] 83),(33,.row .byte 5)],64,[]⟩)]
def zqa:Nat->(q77 fu).L 0:=Fx.lq (qpn fu) (qzi fu) (fun r0=>[r0.s])
def zqb:=(q77 fu).fi (qzh fu) [(zqa fu fu).s] call19
def zqe:IF:=⟨.fn 7,[.h wT],[],_,RS.mk (.tup [wS,.h (.prod wI wI)]) []⟩
def zqd:Fx wG zqe:=fx f7 7 func7 [(q7l fu).p,ni.p,(zlr fu).p,(zpj fu).p,jo.p,(zqb fu).p] false [] ao []
def q78:=(zqd fu).fi (qgz fu) [] call7
def zqf:IF:=⟨.fn 22,[.h wT],[],_,RS.mk (.tup [wS,.h .bool]) []⟩
def qkb:Fx wG zqf:=fx f22 22 func22 [(ly fu).p,(q9f fu).p,ni.p,(qkt fu).p,(quf fu).p] false [] ao [(ak [(0,423),(2,26),(1,13),(0,7)],⟨52,[(1,.ptr 32 0),(15,.h wL),(16,wH),(17,wH)],[(32,.dat wT 26)],64,[]⟩),(ak [(0,104),(0,105),(2,26),(1,13),(0,7)],⟨52,[(1,.ptr 32 0),(15,.h wL),(16,wH),(17,wH)],[(32,.dat wT 26)],64,[]⟩)]
def zqh(r0:(qkb fu).L 1):(qkb fu).L 0:=Fx.jm (qz fu r0.f) [r0.s]
def zqg:Nat->(qkb fu).L 1:=Fx.lq (xf fu) (qpl fu) (fun r0=>[(zqh fu r0).s])
def zqi:=(qkb fu).fi (qg1 fu) [(zqg fu fu).s] call22
def q79:IF:=⟨.yld 0,[wH,.agg [.h wL,.h wB,.h (.list wT)]],[(0,.loop .ready none 9 37 [(5,.ptr 1 0)] [17,18] 5 2),(1,.cells [.own 3] 33),(2,.dfr),(3,.row .str 9)],_,RS.mk (.c (.bool true)) [(0,.loop .ready none 9 37 [(5,.ptr 1 0)] [17,18] 5 2),(1,.cells [.own 4] 33),(2,.dfr),(3,.dead),(4,.row .str 9)]⟩
def zqk:Fx wG q79:=fx f9 9 func9 [(zqi fu).p] false [([0,1,0,1,1,1],5)] (jg rfl ao) []
def zql:EI wG q79:=(zqk fu).fiy (qze fu) [] 0 rfl [0,1,0,1,1,1] (by kernel_rfl) (by kernel_rfl) fun d d'=>by kernel_rfl
def q8a:IF:=⟨.yld 0,[wH,.agg [.h wL,.h wB,.h (.list wT),wH]],[(0,.loop .ready none 49 15 [(2,.ptr 1 0)] [7,8] 4 2),(1,.cells [.yld 3] 92),(2,.dfr),(3,.loop .ready none 9 37 [(5,.ptr 4 0)] [17,18] 5 5),(4,.cells [.own 6] 33),(5,.dfr),(6,.row .str 9)],_,RS.mk (.c (.bool true)) [(0,.loop .ready none 49 15 [(2,.ptr 1 0)] [7,8] 4 2),(1,.cells [.yld 3] 92),(2,.dfr),(3,.loop .ready none 9 37 [(5,.ptr 4 0)] [17,18] 5 5),(4,.cells [.own 7] 33),(5,.dfr),(6,.dead),(7,.row .str 9)]⟩
def zqm:Fx wG q8a:=fx f49 49 func49 [(zql fu).p] false [([0,1,1],4)] (jg rfl ao) []
def zqn:EI wG q8a:=(zqm fu).fiy (qyi fu) [] 0 rfl [0,1,1] (by kernel_rfl) (by kernel_rfl) fun d d'=>by kernel_rfl
def z7:IF:=⟨.fn 65,[.h wT,wH,.ptr 0 0,.ptr 1 0,.ptr 2 0],[(0,.cells [.yld 3] 110),(1,.cells [wH] 3),(2,.cells [.fn 65 [.ptr 0 0,.ptr 1 0,.ptr 2 0]] 111),(3,.loop .ready none 49 15 [(2,.ptr 4 0)] [7,8] 4 5),(4,.cells [.yld 6] 92),(5,.dfr),(6,.loop .ready none 9 37 [(5,.ptr 7 0)] [17,18] 5 8),(7,.cells [.own 9] 33),(8,.dfr),(9,.row .str 9)],_,RS.mk (.c (.bool true)) [(0,.cells [.yld 3] 110),(1,.cells [wH] 3),(2,.cells [.fn 65 [.ptr 0 0,.ptr 1 0,.ptr 2 0]] 111),(3,.loop .ready none 49 15 [(2,.ptr 4 0)] [7,8] 4 5),(4,.cells [.yld 6] 92),(5,.dfr),(6,.loop .ready none 9 37 [(5,.ptr 7 0)] [17,18] 5 8),(7,.cells [.own 10] 33),(8,.dfr),(9,.dead),(10,.row .str 9)]⟩
def q8b(s157:EI wG z7)(fu:Nat):Fx wG z7:=fx f65 65 func65 [(zqn fu).p,s157.p] false [] ao [(ak [(0,488),(0,489),(2,122),(1,61),(0,31)],⟨33,[(1,wH),(4,.ptr 2 0),(20,.h (.list wT)),(21,wH),(22,wH)],[(0,.cells [.yld 3] 110),(1,.cells [wH] 3),(2,.cells [.fn 65 [.ptr 0 0,.ptr 1 0,.ptr 2 0]] 111),(3,.loop .ready none 49 15 [(2,.ptr 4 0)] [7,8] 4 5),(4,.cells [.yld 6] 92),(5,.dfr),(6,.loop .ready none 9 37 [(5,.ptr 7 0)] [17,18] 5 8),(7,.cells [.own 32] 33),(8,.dfr),(9,.dead),(32,.row .str 9)],64,[]⟩)]
def zqp(s157:EI wG z7)(fu:Nat):Nat->(q8b s157 fu).L 0:=Fx.lq (qn4 s157.f fu) (qyn s157.f fu) (fun r0=>[r0.s])
def zqo(s157:EI wG z7)(fu:Nat):EI wG z7:=(q8b s157 fu).fi (qn2 s157.f fu) [(zqp s157 fu fu).s] call65
def zqq:EI wG z7 := .rc (qn3 fu) (fun r=>qn2 r fu) (fun _ _=>rfl) (fun _=>rfl) (fun s157=>zqo s157 fu) (fun _=>rfl) fu
def zqs:IF:=⟨.fn 64,[.yld 0,.ptr 1 0],[(0,.loop .ready none 49 15 [(2,.ptr 2 0)] [7,8] 4 3),(1,.dat wT 26),(2,.cells [.yld 4] 92),(3,.dfr),(4,.loop .ready none 9 37 [(5,.ptr 5 0)] [17,18] 5 6),(5,.cells [.own 7] 33),(6,.dfr),(7,.row .str 9)],_,RS.mk (.tup []) [(0,.loop .ready none 49 15 [(2,.ptr 2 0)] [7,8] 4 3),(1,.dat wT 26),(2,.cells [.yld 4] 92),(3,.dfr),(4,.loop .ready none 9 37 [(5,.ptr 5 0)] [17,18] 5 6),(5,.cells [.own 8] 33),(6,.dfr),(7,.dead),(8,.row .str 9)]⟩
def zqr:Fx wG zqs:=fx f64 64 func64 [(zqq fu).p] false [] ao []
def zqt:=(zqr fu).fi (qyp fu) [] call64
def zqv:IF:=⟨.fn 49,[.yld 0,.ptr 1 0],[(0,.loop .ready none 9 37 [(5,.ptr 2 0)] [17,18] 5 3),(1,.dat wT 26),(2,.cells [.own 4] 33),(3,.dfr),(4,.row .str 9)],_,RS.mk (.tup []) [(0,.loop .ready none 9 37 [(5,.ptr 2 0)] [17,18] 5 3),(1,.dat wT 26),(2,.cells [.own 5] 33),(3,.dfr),(4,.dead),(5,.row .str 9)]⟩
def zqu:Fx wG zqv:=fx f49 49 func49 [x0s.p,(zqt fu).p] false [([0,1,1],4)] (jg rfl ao) []
def zqw:=(zqu fu).fi (qyj fu) [] call49
def zqy:IF:=⟨.fn 9,[.h wT],[],_,RS.mk (.tup [.own 0,.h (.prod wI wI)]) [(0,.row .str 9)]⟩
def zqx:Fx wG zqy:=fx f9 9 func9 [(q7l fu).p,ni.p,q7m.p,(zqw fu).p,jo.p] false [([0,1,0,1,1,1],5)] (jg rfl ao) []
def zqz:=(zqx fu).fi (qzd fu) [] call9
def zq0:IF:=⟨.fn 11,[.h (.list .str),.h (.list .str)],[],_,RS.mk (.h .bool) []⟩
def q8c(fu:Nat):Fx wG zq0:=fx f11 11 func11 [] false [] ao [(ak [(0,464),(0,465),(0,233),(2,58),(1,29),(0,15)],⟨26,[(0,.h (.list .str)),(1,.h (.list .str)),(5,wH)],[],64,[]⟩)]
def zq1:Nat->(q8c fu).L 0:=Fx.lq (qlw fu) (qxb fu) (fun r0=>[r0.s])
def zq2:=(q8c fu).fi (qxa fu) [(zq1 fu fu).s] call11
def zq4:IF:=⟨.fn 6,[],[],_,RS.mk (.h .bool) []⟩
def zq3:Fx wG zq4:=fx f6 6 func6 [(q78 fu).p,(zqz fu).p,(zq2 fu).p] false [] ao []
def zq5:=(zq3 fu).fi (qxw fu) [] call6
def zrg:IF:=⟨.fn 24,[wH,wH],[],_,RS.mk (.h (.prod wI wI)) []⟩
def zrf:Fx wG zrg:=fx f24 24 func24 [] false [] ao []
def zrh:=zrf.fi tj [] call24
def zrj:IF:=⟨.fn 91,[wH,wH,wH],[],_,RS.mk (.h .bool) []⟩
def zri:Fx wG zrj:=fx f91 91 func91 [] false [] ao []
def z8:=zri.fi jp [] call91
def zrk:IF:=⟨.fn 95,[.h .byte,wS],[],_,RS.mk (.h .bool) []⟩
def q8d(fu:Nat):Fx wG zrk:=fx f95 95 func95 [] false [] ao [(ak [(0,208),(0,209),(0,105),(2,26),(1,13),(0,7)],⟨17,[(0,.h .byte),(1,wS),(5,wH)],[],64,[]⟩)]
def zrl:Nat->(q8d fu).L 0:=Fx.lq (qls fu) (qw7 fu) (fun r0=>[r0.s])
def q8e:=(q8d fu).fi (qlr fu) [(zrl fu fu).s] call95
def zrn:IF:=⟨.fn 93,[.h .byte],[],_,RS.mk (.h .bool) []⟩
def zrm:Fx wG zrn:=fx f93 93 func93 [] false [] ao []
def zro:=zrm.fi qwk [] call93
def zrs:IF:=⟨.fn 59,[wS],[],_,RS.mk (wS) []⟩
def q8f(fu:Nat):Fx wG zrs:=fx f59 59 func59 [z8.p] false [] ao [(ak [(0,464),(0,465),(0,233),(2,58),(1,29),(0,15)],⟨29,[(3,.own 32),(4,wH)],[(32,.row .byte 5)],64,[]⟩)]
def zrt:Nat->(q8f fu).L 0:=Fx.lq (qk3 fu) (qwo fu) (fun r0=>[r0.s])
def qu5:=(q8f fu).fi (qak fu) [(zrt fu fu).s] call59
def zrv:IF:=⟨.fn 31,[wS,wS],[],_,RS.mk (.h .bool) []⟩
def zru:Fx wG zrv:=fx f31 31 func31 [(qu5 fu).p] false [] ao []
def qke:=(zru fu).fi (qn fu) [] call31
def zrw:IF:=⟨.fn 26,[.h wL,wS],[],_,RS.mk (.own 0) [(0,.row .str 9)]⟩
def q8g:Fx wG zrw:=fx f26 26 func26 [(qke fu).p] false [] ao [(ak [(0,464),(0,465),(0,233),(2,58),(1,29),(0,15)],⟨29,[(0,.h wL),(1,wS),(5,.own 32),(6,wH)],[(32,.row .str 9)],64,[]⟩)]
def zrx:Nat->(q8g fu).L 0:=Fx.lq (ql2 fu) (qxh fu) (fun r0=>[r0.s])
def zry:=(q8g fu).fi (qxg fu) [(zrx fu fu).s] call26
def zrz:IF:=⟨.fn 56,[wS,wH],[],_,RS.mk (wH) []⟩
def q8h(fu:Nat):Fx wG zrz:=fx f56 56 func56 [zro.p] false [] ao [(ak [(0,96),(0,97),(0,49),(2,12),(1,6),(0,7)],⟨18,[(0,wS),(1,wH)],[],64,[]⟩)]
def zr0:Nat->(q8h fu).L 0:=Fx.lq (qmb fu) (qxq fu) (fun r0=>[r0.s])
def zr1:=(q8h fu).fi (pc fu) [(zr0 fu fu).s] call56
def zr3:IF:=⟨.fn 94,[.h .byte],[],_,RS.mk (.h .bool) []⟩
def zr2:Fx wG zr3:=fx f94 94 func94 [z8.p,(q8e fu).p] false [] ao []
def q8i:=(zr2 fu).fi (qlx fu) [] call94
def zr4:IF:=⟨.fn 57,[wS,wH,wS],[],_,RS.mk (wH) []⟩
def q8j:Fx wG zr4:=fx f57 57 func57 [(q8i fu).p,(q8e fu).p] false [] ao [(ak [(0,96),(0,97),(0,49),(2,12),(1,6),(0,7)],⟨27,[(0,wS),(1,wH),(2,wS)],[],64,[]⟩)]
def zr5:Nat->(q8j fu).L 0:=Fx.lq (qma fu) (qxp fu) (fun r0=>[r0.s])
def zr6:=(q8j fu).fi (qam fu) [(zr5 fu fu).s] call57
def zr7:IF:=⟨.fn 85,[wS,wS,wH],[],_,RS.mk (wH) []⟩
def q8k(fu:Nat):Fx wG zr7:=fx f85 85 func85 [] false [] ao [(ak [(0,208),(0,209),(0,105),(2,26),(1,13),(0,7)],⟨28,[(0,wS),(1,wS),(7,wH)],[],64,[]⟩)]
def zr8:Nat->(q8k fu).L 0:=Fx.lq (qk1 fu) (qwm fu) (fun r0=>[r0.s])
def zr9:=(q8k fu).fi (qwl fu) [(zr8 fu fu).s] call85
def zsa:IF:=⟨.fn 96,[wS,wH,wH],[],_,RS.mk (wH) []⟩
def qaa(fu:Nat):Fx wG zsa:=fx f96 96 func96 [z8.p] false [] ao [(ak [(0,1865),(1,466),(0,467),(2,58),(1,29),(0,15)],⟨40,[(0,wS),(1,wH),(2,wH),(7,wH),(8,wH)],[],64,[]⟩),(ak [(0,3729),(0,1865),(1,466),(0,467),(2,58),(1,29),(0,15)],⟨40,[(0,wS),(1,wH),(2,wH),(7,wH),(8,wH),(24,.h .bool)],[],64,[]⟩),(ak [(0,464),(0,465),(0,233),(2,58),(1,29),(0,15)],⟨40,[(0,wS),(1,wH),(2,wH),(7,wH),(8,wH)],[],64,[]⟩)]
def zsd(r0:(qaa fu).L 2):(qaa fu).L 0:=Fx.jm (qxl fu r0.f) [r0.s]
def zsc(r0:(qaa fu).L 2):(qaa fu).L 1:=Fx.jm (ql6 fu r0.f) [(zsd fu r0).s]
def zsb:Nat->(qaa fu).L 2:=Fx.lq (ql5 fu) (qxk fu) (fun r0=>[(zsc fu r0).s])
def zse:=(qaa fu).fi (qxj fu) [(zsb fu fu).s] call96
def qep:IF:=⟨.fn 142,[.h (.int .u64)],[],_,RS.mk (wS) []⟩
def zsh(s188:EI wG qep)(fu:Nat):Fx wG qep:=fx f142 142 func142 [s188.p] false [] ao []
def zsi(s188:EI wG qep)(fu:Nat):EI wG qep:=(zsh s188 fu).fi (ql3 s188.f fu) [] call142
def zsj:EI wG qep := .rc (ql4 fu) (fun r=>ql3 r fu) (fun _ _=>rfl) (fun _=>rfl) (fun s188=>zsi s188 fu) (fun _=>rfl) fu
def zso:IF:=⟨.fn 97,[wH],[],_,RS.mk (wS) []⟩
def zsn:Fx wG zso:=fx f97 97 func97 [(zsj fu).p] false [] ao []
def zsp:=(zsn fu).fi (qw6 fu) [] call97
def zsq:IF:=⟨.fn 58,[wS,wS],[],_,RS.mk (.tup [.h (.prod .str (.prod .str (.prod wI .bool))),.h .bool]) []⟩
def qvb:Fx wG zsq:=fx f58 58 func58 [(zr9 fu).p,(zse fu).p,(zsp fu).p] false [] ao [(ak [(0,254),(0,255)],⟨63,[(4,.ptr 32 0),(7,wS),(8,.ptr 33 0)],[(32,.dat (.prod .str (.prod .str (.prod wI .bool))) 105),(33,.dat (.prod .str (.prod .str (.prod wI .bool))) 105)],64,[]⟩),(ak [(0,253),(0,127)],⟨63,[(4,.ptr 32 0),(7,wS),(8,.ptr 33 0),(37,.h .bool)],[(32,.dat (.prod .str (.prod .str (.prod wI .bool))) 105),(33,.dat (.prod .str (.prod .str (.prod wI .bool))) 105)],64,[]⟩)]
def zss:(qvb fu).L 0:=Fx.jm (ql8 fu) []
def zsr:(qvb fu).L 1:=Fx.jm (ql7 fu) [(zss fu).s]
def zst:=(qvb fu).fi (qxm fu) [(zsr fu).s] call58
def zsw:IF:=⟨.fn 99,[wS,wH],[],_,RS.mk (.tup [wH,wH]) []⟩
def qeq(fu:Nat):Fx wG zsw:=fx f99 99 func99 [z8.p] false [] ao [(ak [(0,32720),(0,32721),(0,16361),(2,4090),(1,2045),(0,1023)],⟨76,[(0,wS),(1,wH),(7,wH),(8,wH),(9,wH),(10,wH)],[],64,[]⟩),(ak [(0,2044),(0,2045),(0,1023)],⟨76,[(0,wS),(1,wH),(7,wH),(8,wH),(9,wH)],[],64,[]⟩),(ak [(0,1021),(0,511)],⟨76,[(0,wS),(1,wH),(7,wH),(8,wH),(9,wH),(43,.h .bool)],[],64,[]⟩),(ak [(0,1020),(0,1021),(0,511)],⟨76,[(0,wS),(1,wH),(7,wH),(8,wH),(9,wH)],[],64,[]⟩)]
def zs0:Nat->(qeq fu).L 0:=Fx.lq (qlv fu) (qw8 fu) (fun r3=>[r3.s])
def zsz:(qeq fu).L 1:=Fx.jm (qw9 fu) [(zs0 fu fu).s]
def zsy:(qeq fu).L 2:=Fx.jm (qlu fu) [(zsz fu).s]
def zsx:(qeq fu).L 3:=Fx.jm (qal fu) [(zsy fu).s]
def q8m:=(qeq fu).fi (qlt fu) [(zsx fu).s] call99
def zs4:IF:=⟨.fn 100,[wH],[],_,RS.mk (wS) []⟩
def qvd:Fx wG zs4:=fx f100 100 func100 [z8.p] false [] ao [(ak [(0,28),(0,29),(0,15)],⟨65,[(0,wH)],[],64,[]⟩),(ak [(0,13),(0,7)],⟨65,[(0,wH),(9,.h .bool)],[],64,[]⟩)]
def zs6:qvd.L 0:=Fx.jn ql0 [] fun d=>by kernel_rfl
def zs5:qvd.L 1:=Fx.jn qlz [(zs6).s] fun d=>by kernel_rfl
def zs7:=qvd.fi qxd [(zs5).s] call100
def zta:IF:=⟨.fn 61,[wS],[],_,RS.mk (wS) []⟩
def q8n:Fx wG zta:=fx f61 61 func61 [(q8m fu).p,zs7.p] false [] ao [(ak [(0,976),(0,977),(0,489),(2,122),(1,61),(0,31)],⟨39,[(0,wS),(3,wS),(4,.h .bool),(5,wH)],[],64,[]⟩)]
def ztb:Nat->(q8n fu).L 0:=Fx.lq (ql9 fu) (qxo fu) (fun r0=>[r0.s])
def ztc:=(q8n fu).fi (qxn fu) [(ztb fu fu).s] call61
def ztd:IF:=⟨.fn 98,[.h .byte],[],_,RS.mk (wH) []⟩
def q8o:Fx wG ztd:=fx f98 98 func98 [(qu5 fu).p] false [] ao [(ak [(0,208),(0,209),(0,105),(2,26),(1,13),(0,7)],⟨20,[(0,.h .byte),(3,wH)],[],64,[]⟩)]
def zte:Nat->(q8o fu).L 0:=Fx.lq (qk2 fu) (qwn fu) (fun r0=>[r0.s])
def ztf:=(q8o fu).fi (qaj fu) [(zte fu fu).s] call98
def ztg:IF:=⟨.fn 60,[wS],[],_,RS.mk (wS) []⟩
def qkf:Fx wG ztg:=fx f60 60 func60 [(ztf fu).p] false [] ao [(ak [(0,1865),(1,466),(0,467),(2,58),(1,29),(0,15)],⟨65,[(0,wS),(3,wS),(4,wH),(37,.h .bool)],[],64,[]⟩),(ak [(0,464),(0,465),(0,233),(2,58),(1,29),(0,15)],⟨65,[(0,wS),(3,wS),(4,wH)],[],64,[]⟩)]
def zti(r0:(qkf fu).L 1):(qkf fu).L 0:=Fx.jm (qan fu r0.f) [r0.s]
def zth:Nat->(qkf fu).L 1:=Fx.lq (qmc fu) (qxs fu) (fun r0=>[(zti fu r0).s])
def ztj:=(qkf fu).fi (qxr fu) [(zth fu fu).s] call60
def ztl:IF:=⟨.fn 27,[wS],[],_,RS.mk (.tup [.h (.prod .str (.prod .str wL)),.h .bool]) []⟩
def be:Fx wG ztl:=fx f27 27 func27 [(zr1 fu).p,(zr6 fu).p,(qke fu).p,(zst fu).p,(ztc fu).p,(qu5 fu).p,(ztj fu).p] false [] ao [(ak [(0,137423747722),(0,137423747723),(1,17177968465),(2,4294492116),(1,2147246058),(0,2147246059),(0,134202879),(1,131057),(2,32764),(1,16382),(0,16383)],⟨332,[(0,wS),(2,.ptr 32 0),(4,wH),(6,.ptr 33 0),(7,.own 34),(8,wS),(9,wS)],[(32,.cells [wS,wS,wN] 62),(33,.cells [wS,wS,wN] 62),(34,.row (.prod .str (.prod .str (.prod wI .bool))) 105)],64,[]⟩),(ak [(0,137423747721),(0,68711873861),(1,17177968465),(2,4294492116),(1,2147246058),(0,2147246059),(0,134202879),(1,131057),(2,32764),(1,16382),(0,16383)],⟨332,[(0,wS),(2,.ptr 32 0),(4,wH),(6,.ptr 33 0),(7,.own 34),(8,wS),(9,wS),(140,.h .bool)],[(32,.cells [wS,wS,wN] 62),(33,.cells [wS,wS,wN] 62),(34,.row (.prod .str (.prod .str (.prod wI .bool))) 105)],64,[]⟩),(ak [(0,137423747720),(0,137423747721),(0,68711873861),(1,17177968465),(2,4294492116),(1,2147246058),(0,2147246059),(0,134202879),(1,131057),(2,32764),(1,16382),(0,16383)],⟨332,[(0,wS),(2,.ptr 32 0),(4,wH),(6,.ptr 33 0),(7,.own 34),(8,wS),(9,wS)],[(32,.cells [wS,wS,wN] 62),(33,.cells [wS,wS,wN] 62),(34,.row (.prod .str (.prod .str (.prod wI .bool))) 105)],64,[]⟩),(ak [(0,268405758),(0,268405759),(1,131057),(2,32764),(1,16382),(0,16383)],⟨332,[(0,wS),(2,.ptr 32 0),(4,wH),(6,.ptr 33 0),(7,.own 34),(8,wS),(9,wS)],[(32,.cells [wS,wS,wN] 62),(33,.cells [wS,wS,wN] 62),(34,.row (.prod .str (.prod .str (.prod wI .bool))) 105)],64,[]⟩),(ak [(0,34355936929),(0,17177968465),(2,4294492116),(1,2147246058),(0,2147246059),(0,134202879),(1,131057),(2,32764),(1,16382),(0,16383)],⟨332,[(0,wS),(2,.ptr 32 0),(4,wH),(6,.ptr 33 0),(7,.own 34),(8,wS),(9,wS),(129,.h .bool)],[(32,.cells [wS,wS,wN] 62),(33,.cells [wS,wS,wN] 62),(34,.row (.prod .str (.prod .str (.prod wI .bool))) 105)],64,[]⟩),(ak [(0,34355936928),(0,34355936929),(0,17177968465),(2,4294492116),(1,2147246058),(0,2147246059),(0,134202879),(1,131057),(2,32764),(1,16382),(0,16383)],⟨332,[(0,wS),(2,.ptr 32 0),(4,wH),(6,.ptr 33 0),(7,.own 34),(8,wS),(9,wS)],[(32,.cells [wS,wS,wN] 62),(33,.cells [wS,wS,wN] 62),(34,.row (.prod .str (.prod .str (.prod wI .bool))) 105)],64,[]⟩),(ak [(0,268405757),(0,134202879),(1,131057),(2,32764),(1,16382),(0,16383)],⟨332,[(0,wS),(2,.ptr 32 0),(4,wH),(6,.ptr 33 0),(7,.own 34),(8,wS),(9,wS),(117,.h .bool)],[(32,.cells [wS,wS,wN] 62),(33,.cells [wS,wS,wN] 62),(34,.row (.prod .str (.prod .str (.prod wI .bool))) 105)],64,[]⟩),(ak [(0,33550718),(0,33550719),(1,131057),(2,32764),(1,16382),(0,16383)],⟨332,[(0,wS),(2,.ptr 32 0),(4,wH),(6,.ptr 33 0),(7,.own 34),(8,wS)],[(32,.cells [wS,wS,wN] 62),(33,.cells [wS,wS,wN] 62),(34,.row (.prod .str (.prod .str (.prod wI .bool))) 105)],64,[]⟩),(ak [(0,33550717),(0,16775359),(1,131057),(2,32764),(1,16382),(0,16383)],⟨332,[(0,wS),(2,.ptr 32 0),(4,wH),(6,.ptr 33 0),(7,.own 34),(8,wS),(102,.h .bool)],[(32,.cells [wS,wS,wN] 62),(33,.cells [wS,wS,wN] 62),(34,.row (.prod .str (.prod .str (.prod wI .bool))) 105)],64,[]⟩),(ak [(0,268423763),(2,33552970),(1,16776485),(0,8388243),(1,1048530),(0,1048531),(2,131066),(1,65533),(0,32767)],⟨332,[(2,.ptr 32 0),(6,.ptr 33 0),(7,.own 34),(12,wH),(13,.h .bool),(14,wH)],[(32,.cells [wS,wS,wN] 62),(33,.cells [wS,wS,.own 35] 62),(34,.row (.prod .str (.prod .str (.prod wI .bool))) 105),(35,.row wP 108)],64,[]⟩),(ak [(0,1073695187),(2,134211898),(1,67105949),(0,33552975),(1,1048530),(0,1048531),(2,131066),(1,65533),(0,32767)],⟨332,[(2,.ptr 32 0),(6,.ptr 33 0),(7,.own 34),(12,wH),(13,.h .bool),(15,wH),(16,wH)],[(32,.cells [wS,wS,wN] 62),(33,.cells [wS,wS,.own 35] 62),(34,.row (.prod .str (.prod .str (.prod wI .bool))) 105),(35,.row wP 108)],64,[]⟩),(ak [(0,4397855658579),(2,549731957322),(1,274865978661),(0,137432989331),(1,17179123666),(0,17179123667),(2,2147390458),(1,1073695229),(0,536847615),(1,1048530),(0,1048531),(2,131066),(1,65533),(0,32767)],⟨332,[(2,.ptr 32 0),(6,.ptr 33 0),(7,.own 34),(12,wH),(15,wH),(17,wS),(18,wH),(19,wH),(20,wH)],[(32,.cells [wS,wS,wN] 62),(33,.cells [wS,wS,.own 35] 62),(34,.row (.prod .str (.prod .str (.prod wI .bool))) 105),(35,.row wP 108)],64,[]⟩),(ak [(0,17591422634313),(1,4397855658578),(0,4397855658579),(2,549731957322),(1,274865978661),(0,137432989331),(1,17179123666),(0,17179123667),(2,2147390458),(1,1073695229),(0,536847615),(1,1048530),(0,1048531),(2,131066),(1,65533),(0,32767)],⟨332,[(2,.ptr 32 0),(6,.ptr 33 0),(7,.own 34),(12,wH),(15,wH),(17,wS),(18,wH),(19,wH),(20,wH),(283,.h .bool)],[(32,.cells [wS,wS,wN] 62),(33,.cells [wS,wS,.own 35] 62),(34,.row (.prod .str (.prod .str (.prod wI .bool))) 105),(35,.row wP 108)],64,[]⟩),(ak [(0,17179123667),(2,2147390458),(1,1073695229),(0,536847615),(1,1048530),(0,1048531),(2,131066),(1,65533),(0,32767)],⟨332,[(2,.ptr 32 0),(6,.ptr 33 0),(7,.own 34),(12,wH),(15,wH),(17,wS),(18,wH)],[(32,.cells [wS,wS,wN] 62),(33,.cells [wS,wS,.own 35] 62),(34,.row (.prod .str (.prod .str (.prod wI .bool))) 105),(35,.row wP 108)],64,[]⟩),(ak [(0,1099463914655),(1,17179123666),(0,17179123667),(2,2147390458),(1,1073695229),(0,536847615),(1,1048530),(0,1048531),(2,131066),(1,65533),(0,32767)],⟨332,[(2,.ptr 32 0),(6,.ptr 33 0),(7,.own 34),(12,wH),(15,wH),(17,wS),(18,wH),(21,wS)],[(32,.cells [wS,wS,wN] 62),(33,.cells [wS,wS,.own 35] 62),(34,.row (.prod .str (.prod .str (.prod wI .bool))) 105),(35,.row wP 108)],64,[]⟩),(ak [(0,8795711317237),(0,1099463914655),(1,17179123666),(0,17179123667),(2,2147390458),(1,1073695229),(0,536847615),(1,1048530),(0,1048531),(2,131066),(1,65533),(0,32767)],⟨332,[(2,.ptr 32 0),(6,.ptr 33 0),(7,.own 34),(12,wH),(15,wH),(17,wS),(18,wH),(21,wS)],[(32,.cells [wS,wS,wN] 62),(33,.cells [wS,wS,.own 35] 62),(34,.row (.prod .str (.prod .str (.prod wI .bool))) 105),(35,.row wP 108)],64,[]⟩),(ak [(0,17591422634473),(0,8795711317237),(0,1099463914655),(1,17179123666),(0,17179123667),(2,2147390458),(1,1073695229),(0,536847615),(1,1048530),(0,1048531),(2,131066),(1,65533),(0,32767)],⟨332,[(2,.ptr 32 0),(6,.ptr 33 0),(7,.own 34),(12,wH),(15,wH),(17,wS),(18,wH),(21,wS),(310,.h .bool)],[(32,.cells [wS,wS,wN] 62),(33,.cells [wS,wS,.own 35] 62),(34,.row (.prod .str (.prod .str (.prod wI .bool))) 105),(35,.row wP 108)],64,[]⟩),(ak [(0,4397855658576),(0,4397855658577),(0,2198927829289),(2,549731957322),(1,274865978661),(0,137432989331),(1,17179123666),(0,17179123667),(2,2147390458),(1,1073695229),(0,536847615),(1,1048530),(0,1048531),(2,131066),(1,65533),(0,32767)],⟨332,[(2,.ptr 32 0),(6,.ptr 33 0),(7,.own 34),(12,wH),(15,wH),(17,wS),(18,wH),(19,wH),(20,wH)],[(32,.cells [wS,wS,wN] 62),(33,.cells [wS,wS,.own 35] 62),(34,.row (.prod .str (.prod .str (.prod wI .bool))) 105),(35,.row wP 108)],64,[]⟩),(ak [(0,17179123664),(0,17179123665),(0,8589561833),(2,2147390458),(1,1073695229),(0,536847615),(1,1048530),(0,1048531),(2,131066),(1,65533),(0,32767)],⟨332,[(2,.ptr 32 0),(6,.ptr 33 0),(7,.own 34),(12,wH),(15,wH),(17,wS),(18,wH)],[(32,.cells [wS,wS,wN] 62),(33,.cells [wS,wS,.own 35] 62),(34,.row (.prod .str (.prod .str (.prod wI .bool))) 105),(35,.row wP 108)],64,[]⟩),(ak [(0,1073695184),(0,1073695185),(0,536847593),(2,134211898),(1,67105949),(0,33552975),(1,1048530),(0,1048531),(2,131066),(1,65533),(0,32767)],⟨332,[(2,.ptr 32 0),(6,.ptr 33 0),(7,.own 34),(12,wH),(13,.h .bool),(15,wH),(16,wH)],[(32,.cells [wS,wS,wN] 62),(33,.cells [wS,wS,.own 35] 62),(34,.row (.prod .str (.prod .str (.prod wI .bool))) 105),(35,.row wP 108)],64,[]⟩),(ak [(0,268423760),(0,268423761),(0,134211881),(2,33552970),(1,16776485),(0,8388243),(1,1048530),(0,1048531),(2,131066),(1,65533),(0,32767)],⟨332,[(2,.ptr 32 0),(6,.ptr 33 0),(7,.own 34),(12,wH),(13,.h .bool),(14,wH)],[(32,.cells [wS,wS,wN] 62),(33,.cells [wS,wS,.own 35] 62),(34,.row (.prod .str (.prod .str (.prod wI .bool))) 105),(35,.row wP 108)],64,[]⟩),(ak [(0,1048528),(0,1048529),(0,524265),(2,131066),(1,65533),(0,32767)],⟨332,[(2,.ptr 32 0),(6,.ptr 33 0),(7,.own 34),(12,wH)],[(32,.cells [wS,wS,wN] 62),(33,.cells [wS,wS,.own 35] 62),(34,.row (.prod .str (.prod .str (.prod wI .bool))) 105),(35,.row wP 108)],64,[]⟩),(ak [(0,262112),(0,262113),(0,131057),(2,32764),(1,16382),(0,16383)],⟨332,[(0,wS),(2,.ptr 32 0),(4,wH),(6,.ptr 33 0),(7,.own 34)],[(32,.cells [wS,wS,wN] 62),(33,.cells [wS,wS,wN] 62),(34,.row (.prod .str (.prod .str (.prod wI .bool))) 105)],64,[]⟩),(ak [(0,254),(0,255)],⟨332,[(0,wS),(2,.ptr 32 0),(4,wH),(6,.ptr 33 0)],[(32,.cells [wS,wS,wN] 62),(33,.cells [wS,wS,wN] 62)],64,[]⟩),(ak [(0,253),(0,127)],⟨332,[(0,wS),(2,.ptr 32 0),(4,wH),(6,.ptr 33 0),(49,.h .bool)],[(32,.cells [wS,wS,wN] 62),(33,.cells [wS,wS,wN] 62)],64,[]⟩)]
def ztv(r2:(be fu).L 22)(r9:(be fu).L 5):(be fu).L 0:=Fx.jm (qlf fu r2.f r9.f) [r9.s]
def zts(r2:(be fu).L 22)(r9:(be fu).L 5):(be fu).L 1:=Fx.jm (qlc fu r2.f r9.f) [(ztv fu r2 r9).s]
def ztr(r2:(be fu).L 22)(r9:(be fu).L 5):(be fu).L 2:=Fx.jm (qw3 fu r2.f r9.f) [(zts fu r2 r9).s]
def q8p(r2:(be fu).L 22):(be fu).L 3:=Fx.jm (qk8 fu r2.f) [r2.s]
def zto(r2:(be fu).L 22)(r9:(be fu).L 5):(be fu).L 4:=Fx.jm (qk9 fu r2.f r9.f) [(ztr fu r2 r9).s,(q8p fu r2).s]
def zt8(r2:(be fu).L 22):Nat->(be fu).L 5:=Fx.lq (qlq fu r2.f) (qw1 fu r2.f) (fun r9=>[(zto fu r2 r9).s])
def zt6(r2:(be fu).L 22):(be fu).L 6:=Fx.jm (qlo fu r2.f) [(zt8 fu r2 fu).s,(q8p fu r2).s]
def zt4(r2:(be fu).L 22):(be fu).L 7:=Fx.jm (qw5 fu r2.f) [(zt6 fu r2).s]
def zt2(r2:(be fu).L 22):(be fu).L 8:=Fx.jm (qll fu r2.f) [(zt4 fu r2).s]
def ztt(r4:(be fu).L 21)(r6:(be fu).L 20):(be fu).L 9:=Fx.jm (qld fu r4.f r6.f) [r6.s]
def ztp(r4:(be fu).L 21)(r8:(be fu).L 19):(be fu).L 10:=Fx.jm (qla fu r4.f r8.f) [r8.s]
def zty(r4:(be fu).L 21)(r13:(be fu).L 18)(r17:(be fu).L 17):(be fu).L 11:=Fx.jm (qli fu r4.f r13.f r17.f) [r17.s]
def ztw(r4:(be fu).L 21)(r13:(be fu).L 18)(r17:(be fu).L 17):(be fu).L 12:=Fx.jm (qlg fu r4.f r13.f r17.f) [(zty fu r4 r13 r17).s]
def zt1(r4:(be fu).L 21)(r13:(be fu).L 18):(be fu).L 13:=Fx.jm (qw4 fu r4.f r13.f) [r13.s]
def q8q(r4:(be fu).L 21)(r13:(be fu).L 18):(be fu).L 14:=Fx.jm (qlj fu r4.f r13.f) [(zt1 fu r4 r13).s]
def zt0(r4:(be fu).L 21)(r13:(be fu).L 18):(be fu).L 15:=Fx.jm (qlk fu r4.f r13.f) [(q8q fu r4 r13).s]
def ztz(r4:(be fu).L 21)(r13:(be fu).L 18):(be fu).L 16:=Fx.jm (qe3 fu r4.f r13.f) [(zt0 fu r4 r13).s]
def ztu(r4:(be fu).L 21)(r13:(be fu).L 18):Nat->(be fu).L 17:=Fx.lq (qle fu r4.f r13.f) (qww fu r4.f r13.f) (fun r17=>[(ztw fu r4 r13 r17).s,(ztz fu r4 r13).s,(q8q fu r4 r13).s])
def ztq(r4:(be fu).L 21):Nat->(be fu).L 18:=Fx.lq (qlb fu r4.f) (qwv fu r4.f) (fun r13=>[(ztu fu r4 r13 fu).s,r4.s])
def zt7(r4:(be fu).L 21):Nat->(be fu).L 19:=Fx.lq (qlp fu r4.f) (qw0 fu r4.f) (fun r8=>[(ztp fu r4 r8).s,r4.s,(ztq fu r4 fu).s])
def zt5(r4:(be fu).L 21):Nat->(be fu).L 20:=Fx.lq (qln fu r4.f) (qwz fu r4.f) (fun r6=>[(ztt fu r4 r6).s,(zt7 fu r4 fu).s])
def zt3:Nat->(be fu).L 21:=Fx.lq (qlm fu) (qwy fu) (fun r4=>[(zt5 fu r4 fu).s])
def ztx:Nat->(be fu).L 22:=Fx.lq (qlh fu) (qwx fu) (fun r2=>[(zt2 fu r2).s,(zt3 fu fu).s])
def ztn:(be fu).L 23:=Fx.jm (qw2 fu) [(ztx fu fu).s]
def ztm:(be fu).L 24:=Fx.jm (qe2 fu) [(ztn fu).s]
def zt9:=(be fu).fi (qwu fu) [(ztm fu).s] call27
end
end
noncomputable section
open Go.Proofs
set_option linter.unusedVariables false
set_option maxRecDepth 100000
set_option maxHeartbeats 2000000
section
variable(fu:Nat)
def zus:IF:=⟨.fn 62,[wS],[],_,RS.mk (.h .bool) []⟩
def q8r:Fx wG zus:=fx Tryz.f62 62 Tryz.func62 [(q8i fu).p,z8.p] false [] ao [(ak [(0,208),(0,209),(0,105),(2,26),(1,13),(0,7)],⟨18,[(0,wS),(3,wH)],[],64,[]⟩)]
def zut:Nat->(q8r fu).L 0:=Fx.lq (qly fu) (qxc fu) (fun r0=>[r0.s])
def zuu:=(q8r fu).fi (qe4 fu) [(zut fu fu).s] Tryz.call62
def zuv:IF:=⟨.fn 63,[wS],[],_,RS.mk (.h .bool) []⟩
def q8s:Fx wG zuv:=fx Tryz.f63 63 Tryz.func63 [(q8m fu).p] false [] ao [(ak [(0,208),(0,209),(0,105),(2,26),(1,13),(0,7)],⟨21,[(0,wS),(3,wH)],[],64,[]⟩)]
def zuw:Nat->(q8s fu).L 0:=Fx.lq (ql1 fu) (qxf fu) (fun r0=>[r0.s])
def zux:=(q8s fu).fi (qxe fu) [(zuw fu fu).s] Tryz.call63
def zu0:IF:=⟨.fn 28,[.h (.prod .str (.prod .str wL))],[],_,RS.mk (.h (.prod wI wI)) []⟩
def o8:Fx wG zu0:=fx Tryz.f28 28 Tryz.func28 [(zuu fu).p,zrh.p,(qke fu).p,(zux fu).p] false [] ao [(ak [(0,500944),(0,500945),(0,250473),(2,62618),(1,31309),(0,15655),(1,978),(0,979),(2,122),(1,61),(0,31)],⟨75,[(1,.ptr 32 0),(2,.ptr 33 0),(3,wH),(4,.ptr 34 0),(5,wH)],[(32,.dat (.prod .str (.prod .str wL)) 62),(33,.dat (.prod wI wI) 29),(34,.dat wP 108)],64,[]⟩),(ak [(0,31308),(0,31309),(0,15655),(1,978),(0,979),(2,122),(1,61),(0,31)],⟨75,[(1,.ptr 32 0),(2,.ptr 33 0),(3,wH),(4,.ptr 34 0)],[(32,.dat (.prod .str (.prod .str wL)) 62),(33,.dat (.prod wI wI) 29),(34,.dat wP 108)],64,[]⟩),(ak [(0,15653),(0,7827),(1,978),(0,979),(2,122),(1,61),(0,31)],⟨75,[(1,.ptr 32 0),(2,.ptr 33 0),(3,wH),(4,.ptr 34 0),(43,.h .bool)],[(32,.dat (.prod .str (.prod .str wL)) 62),(33,.dat (.prod wI wI) 29),(34,.dat wP 108)],64,[]⟩),(ak [(0,976),(0,977),(0,489),(2,122),(1,61),(0,31)],⟨75,[(1,.ptr 32 0),(2,.ptr 33 0),(3,wH)],[(32,.dat (.prod .str (.prod .str wL)) 62),(33,.dat (.prod wI wI) 29)],64,[]⟩),(ak [(0,28),(0,29),(0,15)],⟨75,[(1,.ptr 32 0),(2,.ptr 33 0)],[(32,.dat (.prod .str (.prod .str wL)) 62),(33,.dat (.prod wI wI) 29)],64,[]⟩),(ak [(0,13),(0,7)],⟨75,[(1,.ptr 32 0),(2,.ptr 33 0),(15,.h .bool)],[(32,.dat (.prod .str (.prod .str wL)) 62),(33,.dat (.prod wI wI) 29)],64,[]⟩)]
def zu6(r2:(o8 fu).L 3):Nat->(o8 fu).L 0:=Fx.lq (qk7 fu r2.f) (qwr fu r2.f) (fun r5=>[r5.s,r2.s])
def zu5(r2:(o8 fu).L 3):(o8 fu).L 1:=Fx.jm (qwt fu r2.f) [(zu6 fu r2 fu).s]
def zu4(r2:(o8 fu).L 3):(o8 fu).L 2:=Fx.jm (qk6 fu r2.f) [(zu5 fu r2).s]
def zu3:Nat->(o8 fu).L 3:=Fx.lq (qk5 fu) (qwq fu) (fun r2=>[(zu4 fu r2).s])
def zu2:(o8 fu).L 4:=Fx.jm (qws fu) [(zu3 fu fu).s]
def zu1:(o8 fu).L 5:=Fx.jm (qk4 fu) [(zu2 fu).s]
def zu7:=(o8 fu).fi (qwp fu) [(zu1 fu).s] Tryz.call28
def zvc:IF:=⟨.fn 30,[.h wL],[],_,RS.mk (.tup [.h (.prod .str (.prod .str wL)),.h .bool]) []⟩
def qvj:Fx wG zvc:=fx Tryz.f30 30 Tryz.func30 [(zry fu).p,(zt9 fu).p,(zu7 fu).p] false [] ao [(ak [(0,30),(0,31)],⟨37,[(2,.ptr 32 0),(4,.own 33)],[(32,.cells [wS,wS,wN] 62),(33,.row .str 9)],64,[]⟩),(ak [(0,29),(0,15)],⟨37,[(2,.ptr 32 0),(4,.own 33),(18,.h .bool)],[(32,.cells [wS,wS,wN] 62),(33,.row .str 9)],64,[]⟩)]
def zve:(qvj fu).L 0:=Fx.jm (qxv fu) []
def zvd:(qvj fu).L 1:=Fx.jm (qme fu) [(zve fu).s]
def zvf:=(qvj fu).fi (qxu fu) [(zvd fu).s] Tryz.call30
def zvl:IF:=⟨.fn 13,[.h wT,wS],[],_,RS.mk (.h .bool) []⟩
def q8u:Fx wG zvl:=fx Tryz.f13 13 Tryz.func13 [(zvf fu).p,(qke fu).p] false [] ao [(ak [(0,30),(0,31)],⟨31,[(1,wS),(2,.ptr 32 0),(5,.ptr 33 0)],[(32,.dat wT 26),(33,.dat (.prod .str (.prod .str wL)) 62)],64,[]⟩)]
def zvm:(q8u fu).L 0:=Fx.jm (qmd fu) []
def zvn:=(q8u fu).fi (qxt fu) [(zvm fu).s] Tryz.call13
def q8v:IF:=⟨.fn 5,[.h wT,.h wT],[],_,RS.mk (.h .bool) []⟩
def zvw:Fx wG q8v:=fx Tryz.f5 5 Tryz.func5 [(zq5 fu).p,(q78 fu).p,(zvn fu).p] false [] ao []
def zvx:=(zvw fu).fi (qe6 fu) [] Tryz.call5
def q9x:(q8v.e (qe6 fu)).Sound wG:=(zvx fu).h
end
end
end Go.Sym
