/- What the claim rests on, part 4: gathered texts. -/
import Derived.Shelf.LaysC
import Derived.Shelf.LaysM
import Derived.Shelf.SlGeneric
import Derived.Shelf.SlLaysF0
import Derived.Ground.NamesProg
import Derived.Test.YtgpcmiimfgghdabGreatDoorProg
import Derived.Below
import Derived.Tactics
import Derived.Tactics2
import Derived.Laws.AppendOwn
import Derived.Shelf.Strconv.Itoa4
import Derived.Shelf.Bytes.SlIndexWhole
import Derived.Shelf.Strconv.AtoiAll
import Derived.Shelf.Strconv.ErrVarAll
import Derived.Shelf.SlicesE.Clone
import Derived.Shelf.SlSortCmp.NoneTotal
import Derived.Shelf.Strings.BuilderCap
import Derived.Shelf.Unicode.DecodeAny
import Derived.Laws.DeepStrings4
import Derived.Deep.LoopGhost
import Derived.Deep.DeepCutAuto
import Derived.Deep.DeepFit
import Derived.Deep.DeepMust
import Derived.Shelf.Unicode.ValidAny
import Derived.Shelf.Strings.Count
import Derived.Deep.OwnRows
import Derived.Laws.CopyRow
import Derived.Laws.IdiomStrings
import Derived.Laws.CopyOwn
import Derived.Lib.SlBytesConst
import Derived.Test.YtgpcmiimfgghdabGreatDoorRows
import Derived.Defers
import Derived.Laws.Pointers
import Derived.Laws.LoneSync
import Derived.RegionTactic
import Derived.RegionCalls
import Derived.ChangeAlike
import Derived.Laws.NewBlocks
import Derived.Laws.ByValue
import Derived.Shelf.Strings.Replace
import Derived.Shelf.Strings.BuilderK
import Derived.Shelf.Strings.OnBuilder
import Derived.Test.YtgpcmiimfgghdabGreatDoorSyM3
set_option maxRecDepth 100000
set_option linter.defProp false
set_option linter.unusedSimpArgs false
set_option linter.unusedVariables false
namespace Go.Proofs
open Go.Sym(oD oE)
open Go.Shelf
def Tryz.lfn{α:Type}{a:Option α}{b c:α}(h:a=some b)(e:b=c:=by kernel_rfl):a=some c:=h.trans (congrArg some e)
def Tryz.uniR:Go.Shelf.Ren:=⟨fun|115=>227|129=>269|138=>91|143=>93|154=>53|155=>27|165=>92|166=>29|167=>32|169=>33|171=>184|172=>59|185=>187|187=>226|195=>137|196=>83|197=>94|205=>201|217=>54|218=>138|219=>140|224=>195|225=>194|240=>55|241=>139|243=>225|244=>102|245=>103|246=>252|247=>146|253=>228|254=>229|255=>253|259=>131|260=>141|266=>95|267=>196|270=>247|276=>96|277=>193|279=>147|280=>148|281=>149|282=>150|283=>278|284=>279|285=>280|286=>281|287=>199|291=>254|314=>240|316=>200|317=>296|318=>297|319=>298|320=>299|321=>242|322=>243|337=>312|338=>313|n=>n,fun|0=>0|2=>2|3=>3|4=>4|5=>5|9=>9|12=>12|20=>20|21=>21|37=>23|46=>180|51=>183|53=>217|70=>68|72=>70|75=>73|76=>74|80=>78|85=>187|105=>138|119=>176|127=>111|138=>178|139=>179|143=>266|145=>268|146=>263|164=>140|167=>186|168=>189|171=>310|173=>312|175=>223|210=>226|212=>336|213=>337|232=>352|233=>353|n=>n,fun|1=>2|3=>0|4=>1|15=>3|16=>4|17=>5|18=>6|19=>7|n=>n⟩
abbrev Tryz.laysM171_ren:Go.Shelf.Ren:=Tryz.uniR
def Tryz.laysM171:Go.Proofs.LaysM.n171 Tryz.prog Tryz.laysM171_ren:={
 mixed:=oD
 f129:=Tryz.lfn Tryz.func269
 f171:=Tryz.lfn Tryz.func184
 f243:=Tryz.lfn Tryz.func225
 f246:=Tryz.lfn Tryz.func252
 f283:=Tryz.lfn Tryz.func278
 f284:=Tryz.lfn Tryz.func279
 f285:=Tryz.lfn Tryz.func280
 f286:=Tryz.lfn Tryz.func281
 f317:=Tryz.lfn Tryz.func296
 f318:=Tryz.lfn Tryz.func297
 f319:=Tryz.lfn Tryz.func298
 f320:=Tryz.lfn Tryz.func299
 f337:=Tryz.lfn Tryz.func312
 f338:=Tryz.lfn Tryz.func313
 t0:=Tryz.underlying0
 a0:=Tryz.isAgg0
 z0:=Tryz.sizeOf0
 v0:=Tryz.zeroValue0
 t2:=Tryz.underlying2
 a2:=Tryz.isAgg2
 z2:=Tryz.sizeOf2
 v2:=Tryz.zeroValue2
 t3:=Tryz.underlying3
 a3:=Tryz.isAgg3
 z3:=Tryz.sizeOf3
 v3:=Tryz.zeroValue3
 t4:=Tryz.underlying4
 a4:=Tryz.isAgg4
 z4:=Tryz.sizeOf4
 v4:=Tryz.zeroValue4
 t5:=Tryz.underlying5
 a5:=Tryz.isAgg5
 z5:=Tryz.sizeOf5
 v5:=Tryz.zeroValue5
 t9:=Tryz.underlying9
 a9:=Tryz.isAgg9
 z9:=Tryz.sizeOf9
 v9:=Tryz.zeroValue9
 t20:=Tryz.underlying20
 a20:=Tryz.isAgg20
 z20:=Tryz.sizeOf20
 v20:=Tryz.zeroValue20
 t37:=Tryz.underlying23
 a37:=Tryz.isAgg23
 z37:=Tryz.sizeOf23
 v37:=Tryz.zeroValue23
 t46:=Tryz.underlying180
 a46:=Tryz.isAgg180
 z46:=Tryz.sizeOf180
 v46:=Tryz.zeroValue180
 t51:=Tryz.underlying183
 a51:=Tryz.isAgg183
 z51:=Tryz.sizeOf183
 v51:=Tryz.zeroValue183
 t53:=Tryz.underlying217
 a53:=Tryz.isAgg217
 z53:=Tryz.sizeOf217
 v53:=Tryz.zeroValue217
 t171:=Tryz.underlying310
 a171:=Tryz.isAgg310
 z171:=Tryz.sizeOf310
 v171:=Tryz.zeroValue310
 t173:=Tryz.underlying312
 a173:=Tryz.isAgg312
 z173:=Tryz.sizeOf312
 v173:=Tryz.zeroValue312
 t212:=Tryz.underlying336
 a212:=Tryz.isAgg336
 z212:=Tryz.sizeOf336
 v212:=Tryz.zeroValue336
 t213:=Tryz.underlying337
 a213:=Tryz.isAgg337
 z213:=Tryz.sizeOf337
 t232:=Tryz.underlying352
 a232:=Tryz.isAgg352
 z232:=Tryz.sizeOf352
 v232:=Tryz.zeroValue352
 t233:=Tryz.underlying353
 a233:=Tryz.isAgg353
 z233:=Tryz.sizeOf353
 v233:=Tryz.zeroValue353
 g17:=oD
 g18:=oD
 g19:=oD
 i0:=oD
 i2:=oD
 i3:=oD
 i4:=oD
 i5:=oD
 i9:=oD
 i20:=oD
 i37:=oD
 i46:=oD
 i51:=oD
 i53:=oD
 i171:=oD
 i173:=oD
 i212:=oD
 i232:=oD
 i233:=oD
 m17:=oD
 m18:=oD
 m19:=by kernel_rfl }
abbrev Tryz.laysC172_ren:Go.Shelf.Ren:=Tryz.uniR
def Tryz.laysC172:Go.Proofs.LaysC.n172 Tryz.prog Tryz.laysC172_ren:={ Tryz.laysM171 with
 f172:=Tryz.lfn Tryz.func59
 f205:=Tryz.lfn Tryz.func201
 f244:=Tryz.lfn Tryz.func102
 f245:=Tryz.lfn Tryz.func103
 f247:=Tryz.lfn Tryz.func146
 f279:=Tryz.lfn Tryz.func147
 f280:=Tryz.lfn Tryz.func148
 f281:=Tryz.lfn Tryz.func149
 f282:=Tryz.lfn Tryz.func150
 f287:=Tryz.lfn Tryz.func199
 f316:=Tryz.lfn Tryz.func200
 f321:=Tryz.lfn Tryz.func242
 f322:=Tryz.lfn Tryz.func243
 t21:=Tryz.underlying21
 a21:=Tryz.isAgg21
 z21:=Tryz.sizeOf21
 v21:=Tryz.zeroValue21
 t75:=Tryz.underlying73
 a75:=Tryz.isAgg73
 z75:=Tryz.sizeOf73
 v75:=Tryz.zeroValue73
 t76:=Tryz.underlying74
 a76:=Tryz.isAgg74
 z76:=Tryz.sizeOf74
 v76:=Tryz.zeroValue74
 t85:=Tryz.underlying187
 a85:=Tryz.isAgg187
 z85:=Tryz.sizeOf187
 v85:=Tryz.zeroValue187
 t127:=Tryz.underlying111
 a127:=Tryz.isAgg111
 z127:=Tryz.sizeOf111
 v127:=Tryz.zeroValue111
 t143:=Tryz.underlying266
 a143:=Tryz.isAgg266
 z143:=Tryz.sizeOf266
 v143:=Tryz.zeroValue266
 t145:=Tryz.underlying268
 a145:=Tryz.isAgg268
 z145:=Tryz.sizeOf268
 v145:=Tryz.zeroValue268
 t167:=Tryz.underlying186
 a167:=Tryz.isAgg186
 z167:=Tryz.sizeOf186
 v167:=Tryz.zeroValue186
 t168:=Tryz.underlying189
 a168:=Tryz.isAgg189
 z168:=Tryz.sizeOf189
 v168:=Tryz.zeroValue189
 t175:=Tryz.underlying223
 a175:=Tryz.isAgg223
 z175:=Tryz.sizeOf223
 v175:=Tryz.zeroValue223
 t210:=Tryz.underlying226
 a210:=Tryz.isAgg226
 z210:=Tryz.sizeOf226
 v210:=Tryz.zeroValue226
 g15:=oD
 g16:=oD
 t80:=Tryz.underlying78
 a80:=Tryz.isAgg78
 z80:=Tryz.sizeOf78
 v80:=Tryz.zeroValue78
 i21:=oD
 i75:=oD
 i76:=oD
 i80:=oD
 i85:=oD
 i127:=oD
 i143:=oD
 i145:=oD
 i167:=oD
 i168:=oD
 i175:=oD
 i210:=oD
 m15:=oD
 m16:=oD
 c0:=oD
 c2:=oD
 c3:=oD
 c4:=oD
 c5:=oD
 c9:=oD
 c20:=oD
 c21:=oD
 c37:=oD
 c46:=oD
 c51:=oD
 c53:=oD
 c75:=oD
 c76:=oD
 c80:=oD
 c85:=oD
 c127:=oD
 c143:=oD
 c145:=oD
 c167:=oD
 c168:=oD
 c171:=oD
 c173:=oD
 c175:=oD
 c210:=oD
 c212:=oD
 c213:=oD
 c232:=oD
 c233:=by kernel_rfl }
abbrev Tryz.lays185_ren:Go.Shelf.Ren:=Tryz.uniR
def Tryz.lays185:Go.Proofs.Lays.n185 Tryz.prog Tryz.lays185_ren:={ Tryz.laysM171 with
 f115:=Tryz.lfn Tryz.func227
 f185:=Tryz.lfn Tryz.func187
 f187:=Tryz.lfn Tryz.func226
 f224:=Tryz.lfn Tryz.func195
 f253:=Tryz.lfn Tryz.func228
 f254:=Tryz.lfn Tryz.func229
 f255:=Tryz.lfn Tryz.func253
 f291:=Tryz.lfn Tryz.func254
 t146:=Tryz.underlying263
 a146:=Tryz.isAgg263
 z146:=Tryz.sizeOf263
 v146:=Tryz.zeroValue263
 g1:=by kernel_rfl }
abbrev Tryz.lays138_ren:Go.Shelf.Ren:=Tryz.uniR
def Tryz.lays138:Go.Proofs.Lays.n138 Tryz.prog Tryz.lays138_ren:={ Tryz.laysM171,Tryz.lays185 with
 f138:=Tryz.lfn Tryz.func91
 f143:=Tryz.lfn Tryz.func93
 f195:=Tryz.lfn Tryz.func137
 f217:=Tryz.lfn Tryz.func54
 f218:=Tryz.lfn Tryz.func138
 f219:=Tryz.lfn Tryz.func140
 f225:=Tryz.lfn Tryz.func194
 f266:=Tryz.lfn Tryz.func95
 f267:=Tryz.lfn Tryz.func196
 f314:=Tryz.lfn Tryz.func240 }
abbrev Tryz.lays165_ren:Go.Shelf.Ren:=Tryz.uniR
def Tryz.lays165:Go.Proofs.Lays.n165 Tryz.prog Tryz.lays165_ren:={ Tryz.laysM171 with
 f165:=Tryz.lfn Tryz.func92
 f240:=Tryz.lfn Tryz.func55
 f241:=Tryz.lfn Tryz.func139
 f276:=Tryz.lfn Tryz.func96
 f277:=Tryz.lfn Tryz.func193
 t70:=Tryz.underlying68
 a70:=Tryz.isAgg68
 z70:=Tryz.sizeOf68
 v70:=Tryz.zeroValue68
 t72:=Tryz.underlying70
 a72:=Tryz.isAgg70
 z72:=Tryz.sizeOf70
 v72:=Tryz.zeroValue70
 t164:=Tryz.underlying140
 a164:=Tryz.isAgg140
 z164:=Tryz.sizeOf140
 v164:=Tryz.zeroValue140 }
abbrev Tryz.lays169_ren:Go.Shelf.Ren:=Tryz.uniR
def Tryz.lays169:Go.Proofs.Lays.n169 Tryz.prog Tryz.lays169_ren:={ Tryz.laysM171,Tryz.lays165,Tryz.laysC172 with
 f169:=Tryz.lfn Tryz.func33 }
abbrev Tryz.lays196_ren:Go.Shelf.Ren:=Tryz.uniR
def Tryz.lays196:Go.Proofs.Lays.n196 Tryz.prog Tryz.lays196_ren:={ Tryz.laysM171 with
 f196:=Tryz.lfn Tryz.func83
 f259:=Tryz.lfn Tryz.func131
 t12:=Tryz.underlying12
 a12:=Tryz.isAgg12
 z12:=Tryz.sizeOf12
 v12:=Tryz.zeroValue12
 t119:=Tryz.underlying176
 a119:=Tryz.isAgg176
 z119:=Tryz.sizeOf176
 t138:=Tryz.underlying178
 a138:=Tryz.isAgg178
 z138:=Tryz.sizeOf178
 v138:=Tryz.zeroValue178
 t139:=Tryz.underlying179
 a139:=Tryz.isAgg179
 z139:=Tryz.sizeOf179
 v139:=Tryz.zeroValue179
 g3:=oD
 g4:=by kernel_rfl }
abbrev Tryz.lays197_ren:Go.Shelf.Ren:=Tryz.uniR
def Tryz.lays197:Go.Proofs.Lays.n197 Tryz.prog Tryz.lays197_ren:={ Tryz.laysM171,Tryz.laysC172,Tryz.lays196 with
 f197:=Tryz.lfn Tryz.func94
 f260:=Tryz.lfn Tryz.func141
 t105:=Tryz.underlying138
 a105:=Tryz.isAgg138
 z105:=Tryz.sizeOf138
 v105:=Tryz.zeroValue138 }
abbrev Tryz.lays155_ren:Go.Shelf.Ren:=Tryz.uniR
def Tryz.lays155:Go.Proofs.Lays.n155 Tryz.prog Tryz.lays155_ren:={ Tryz.laysM171,Tryz.lays138,Tryz.lays165,Tryz.lays169,Tryz.lays197,Tryz.lays185,Tryz.laysC172,Tryz.lays196 with
 f154:=Tryz.lfn Tryz.func53
 f155:=Tryz.lfn Tryz.func27
 f166:=Tryz.lfn Tryz.func29 }
def Tryz.sortP_ren:Go.Shelf.Ren:=⟨fun|6=>217|15=>245|14=>244|28=>268|29=>269|20=>260|21=>261|22=>262|23=>263|24=>264|25=>265|26=>266|27=>267|46=>285|47=>286|48=>287|49=>288|50=>289|57=>301|n=>n,fun|22=>162|24=>164|25=>235|3=>3|39=>180|0=>0|53=>183|55=>217|4=>4|46=>287|45=>286|50=>206|5=>5|9=>9|66=>315|70=>319|76=>338|77=>200|n=>n,fun|n=>n⟩
def Tryz.sortP:Go.Proofs.SlLaysF0.n6 Tryz.prog Tryz.sortP_ren:={
 mixed:=oD
 f6:=⟨Tryz.f217.name,oE,Tryz.lfn Tryz.func217⟩
 f14:=⟨Tryz.f244.name,oE,Tryz.lfn Tryz.func244⟩
 f15:=Tryz.lfn Tryz.func245
 f20:=⟨Tryz.f260.name,oE,Tryz.lfn Tryz.func260⟩
 f21:=⟨Tryz.f261.name,oE,Tryz.lfn Tryz.func261⟩
 f22:=⟨Tryz.f262.name,oE,Tryz.lfn Tryz.func262⟩
 f23:=⟨Tryz.f263.name,oE,Tryz.lfn Tryz.func263⟩
 f24:=⟨Tryz.f264.name,oE,Tryz.lfn Tryz.func264⟩
 f25:=⟨Tryz.f265.name,oE,Tryz.lfn Tryz.func265⟩
 f26:=⟨Tryz.f266.name,oE,Tryz.lfn Tryz.func266⟩
 f27:=⟨Tryz.f267.name,oE,Tryz.lfn Tryz.func267⟩
 f28:=Tryz.lfn Tryz.func268
 f29:=Tryz.lfn Tryz.func269
 f46:=⟨Tryz.f285.name,oE,Tryz.lfn Tryz.func285⟩
 f47:=Tryz.lfn Tryz.func286
 f48:=Tryz.lfn Tryz.func287
 f49:=⟨Tryz.f288.name,oE,Tryz.lfn Tryz.func288⟩
 f50:=⟨Tryz.f289.name,oE,Tryz.lfn Tryz.func289⟩
 f57:=⟨Tryz.f301.name,oE,Tryz.lfn Tryz.func301⟩
 t0:=Tryz.underlying0
 a0:=Tryz.isAgg0
 z0:=Tryz.sizeOf0
 v0:=Tryz.zeroValue0
 t3:=Tryz.underlying3
 a3:=Tryz.isAgg3
 z3:=Tryz.sizeOf3
 v3:=Tryz.zeroValue3
 t4:=Tryz.underlying4
 a4:=Tryz.isAgg4
 z4:=Tryz.sizeOf4
 v4:=Tryz.zeroValue4
 t5:=Tryz.underlying5
 a5:=Tryz.isAgg5
 z5:=Tryz.sizeOf5
 v5:=Tryz.zeroValue5
 t9:=Tryz.underlying9
 a9:=Tryz.isAgg9
 z9:=Tryz.sizeOf9
 v9:=Tryz.zeroValue9
 t22:=Tryz.underlying162
 a22:=Tryz.isAgg162
 z22:=Tryz.sizeOf162
 v22:=Tryz.zeroValue162
 t25:=Tryz.underlying235
 a25:=Tryz.isAgg235
 z25:=Tryz.sizeOf235
 v25:=Tryz.zeroValue235
 t39:=Tryz.underlying180
 a39:=Tryz.isAgg180
 z39:=Tryz.sizeOf180
 v39:=Tryz.zeroValue180
 t45:=Tryz.underlying286
 a45:=Tryz.isAgg286
 z45:=Tryz.sizeOf286
 v45:=Tryz.zeroValue286
 t46:=Tryz.underlying287
 a46:=Tryz.isAgg287
 z46:=Tryz.sizeOf287
 v46:=Tryz.zeroValue287
 t50:=Tryz.underlying206
 a50:=Tryz.isAgg206
 z50:=Tryz.sizeOf206
 v50:=Tryz.zeroValue206
 t53:=Tryz.underlying183
 a53:=Tryz.isAgg183
 z53:=Tryz.sizeOf183
 v53:=Tryz.zeroValue183
 t55:=Tryz.underlying217
 a55:=Tryz.isAgg217
 z55:=Tryz.sizeOf217
 v55:=Tryz.zeroValue217
 t66:=Tryz.underlying315
 a66:=Tryz.isAgg315
 z66:=Tryz.sizeOf315
 v66:=Tryz.zeroValue315
 t70:=Tryz.underlying319
 a70:=Tryz.isAgg319
 z70:=Tryz.sizeOf319
 v70:=Tryz.zeroValue319
 t76:=Tryz.underlying338
 a76:=Tryz.isAgg338
 z76:=Tryz.sizeOf338
 v76:=Tryz.zeroValue338
 t77:=Tryz.underlying200
 a77:=Tryz.isAgg200
 z77:=Tryz.sizeOf200
 v77:=Tryz.zeroValue200 }
end Go.Proofs
namespace Go.Sym
open Go.RowKit
variable[LC]
def d9.data{P:Program}{f:FuncId}{xs:List AV}{r:AV}
  (h:∀(w:World)(G:Gh)(vs:List Value),dd G [] w->am xs G vs->Calls P f vs.toArray w fun e w'=>∃v,e = .returned v/\aj r G v/\ch w w'):d9 P f xs [] r []:=by
 intro w G vs hm hr;refine(h w G vs hm hr).mono ?_;rintro e w' ⟨v,rfl,hv,hs⟩
 refine⟨v,G,rfl,?_,hv⟩;exact(qew hm).extend (new:=[]) (Gh.le.refl G) hs (fun _ _ _ h => .inl h) (fun b o v hv=>by
  have hc:=hm.agree b o v hv;have hlt:=World.block_lt_of_cell? _ _ hc;rw[World.cell?_of_block (w:=w) (hs.block b hlt (fun h=>h))];exact hc) hm.one (fun n bx h=>by cases h) (fun n bx h=>by cases h) (fun n m bx bx' b h=>by cases h)
def ch.of_below{w w':World}(h:Below w.heap.size w w'):ch w w':=⟨h.os,h.tape,h.output,h.size,fun k hk _=>h.block k hk⟩
def ch.refl(w:World):ch w w:=⟨rfl,rfl,rfl,wF _,fun _ _ _=>rfl⟩
def d9.fresh{P:Program}{f:FuncId}{xs:List AV}{τ:Ty}{l:List τ.den}{E:TypeId}
  (h:∀(w:World)(G:Gh)(vs:List Value),dd G [] w->am xs G vs->Calls P f vs.toArray w fun e w'=>∃ad c us,e = .returned (.slice ad l.length c)/\iy w' E τ.sz ad l.length c us/\am (l.flatMap τ.enc) G.data us/\(∀b,du ad=some b->w.heap.size<=b)/\ch w w') :
  d9 P f xs [] (.own 0) [(0,.row τ l E)]:=by
 intro w G vs hm hr;refine(h w G vs hm hr).mono ?_;rintro e w' ⟨ad,c,us,rfl,hrow,hus,hb,hs⟩
 let G':Gh:={ imm:=G.imm,box:=fun _=>none,own:=fun m=>bif Nat.beq m 0 then some (ad,l.length,c) else none }
 have hself:(G'.own 0)=some (ad,l.length,c):=rfl;have hag:∀b o v,G.imm b o=some v->w'.cell? ⟨b,o,none⟩=some v:=fun b o v hv=>by
  have hc:=hm.agree b o v hv;have hlt:=World.block_lt_of_cell? _ _ hc;rw[World.cell?_of_block (w:=w) (hs.block b hlt (fun h=>h))];exact hc
 have hlt:∀b o v,G.imm b o=some v->b<w.heap.size:=fun b o v hv=>World.block_lt_of_cell? _ _ (hm.agree b o v hv)
 have hlk:∀m b,af [(0,ah.row τ l E)] m=some b->m=0/\b = .row τ l E:=fun m b hh=>by
  simp[af]at hh;cases hb:Nat.beq 0 m
  ·rw[hb]at hh;cases hh
  ·rw[hb]at hh;simp at hh;exact⟨(qN hb).symm,hh.symm⟩
 have hat:G'.at 0 (.row τ l E)=du ad:=by
  simp[Gh.at,hself];cases ad<;>rfl
 refine⟨.slice ad l.length c,G',rfl,⟨⟨hag,hm.one,fun m b hh => ?_,fun m m' b b' c' h1 h2 _ _ => ?_,LC.mono (fun _ _ _ h=>h) (fun b o v h=>hs.block b (hlt b o v h) fun h=>h) hm.tab⟩,⟨hs.os,hs.tape,hs.output,hs.size,fun k hk _=>hs.block k hk fun h=>h⟩,fun _ _ _ h=>h,fun _ _ _ h => .inl h,fun m b c' h1 h2 => ?_,fun _ _ _ h=>(by cases h),fun _ _ _ h=>(by cases h)⟩,ad,l.length,c,hself,rfl⟩
 ·obtain⟨rfl,rfl⟩:=hlk m b hh;refine dj.row hself hrow (am.data_le (fun _ _ _ h=>h) hus) fun b hb' o => ?_
  cases hq:G.imm b o with|none=>rfl|some v=>have:=hlt b o v hq;have:=hb b hb';omega
 ·obtain⟨rfl,_⟩:=hlk m b h1;obtain⟨rfl,_⟩:=hlk m' b' h2;rfl
 ·obtain⟨rfl,rfl⟩:=hlk m b h1;rw[hat]at h2;exact .inl (hb c' h2)
end Go.Sym
namespace Go.Sym
open Go.Proofs Go.RowKit Go.Sort
open Go.Proofs.Tryz
variable[LC]
def ch.below{w w':World}(h:ch w w'):Below w.heap.size w w':=⟨h.os,h.tape,h.output,h.size,fun k hk=>h.block k hk (fun h=>h)⟩
def dd.still{G:Gh}{w w':World}(hm:dd G [] w)(hs:ch w w'):dd G [] w':=
 have hlt:∀b o v,G.imm b o=some v->w'.heap[b]? = w.heap[b]? := fun b o v hv=>hs.block b (World.block_lt_of_cell? _ _ (hm.agree b o v hv)) (fun h=>h)
 ⟨fun b o v hv=>by rw[World.cell?_of_block (w:=w) (hlt b o v hv)];exact hm.agree b o v hv,hm.one,fun n bx h=>(by cases h),fun n m bx bx' b h=>(by cases h),LC.mono (fun _ _ _ h=>h) hlt hm.tab⟩
def zt1{G:Gh}{w:World}(hm:dd G [] w)(hg:LC.glob 5=some ⟨.int .u64,Lib.pow10Tab⟩)(hs:(5,20)∈LC.sizes):∃t fr,w.heap[5]? = some (.cells (Lib.pow10Tab.map fun z=>Value.int .u64 z).toArray t fr):=by
 obtain⟨_,cs,t,fr,hh,hz⟩:=hm.tab.2.2.2 _ hs;refine⟨t,fr,hh.trans ?_⟩;congr 2;apply Array.ext
 ·rw[hz];simp[Lib.pow10Tab]
 ·intro j h1 h2;have hj:j<Lib.pow10Tab.length:=by simpa using h2
  have h3:=hm.agree _ _ _ (hm.tab.1 _ _ _ hg j _ (List.getElem?_eq_getElem hj));rw[show j*(Ty.int .u64).sz=j from Nat.mul_one j]at h3
  simp only[World.cell?,hh]at h3;rw[Array.getElem?_eq_getElem h1]at h3;simp only[List.getElem_toArray,List.getElem_map];exact qJ h3
def zc4{G:Gh}{w:World}(hm:dd G [] w)(hg:LC.glob 5=some ⟨.int .u64,Lib.pow10Tab⟩)(hs:(5,20)∈LC.sizes)(n:Int)(h0 : -9223372036854775808<=n)(h1:n<=9223372036854775807) :
  Calls Tryz.prog 184 #[.int .i64 n] w fun e w'=>e = .returned (.string ⟨(Lib.itoa n).toArray⟩)/\ch w w':=
 (Any.strconv_Itoa Tryz.laysM171 n h0 h1 w (by
  unfold Lib.TabIs World.var?;obtain⟨t,fr,hh⟩:=zt1 hm hg hs;rw[show Tryz.prog.globalNamed _=some 5 by kernel_rfl,qB,hh])).mono fun e w'⟨he,k,os,hw⟩=>⟨he,by
   subst hw;refine⟨rfl,rfl,rfl,by simp[grow],fun j hj _ => ?_⟩
   show(w.heap++os)[j]? = _;rw[Array.getElem?_append_left hj]⟩
def zc3:IF:=⟨.fn 184,[.h (.int .i64)],[],_,RS.mk (.h .str) []⟩
def zq5(hg:LC.glob 5=some ⟨.int .u64,Lib.pow10Tab⟩)(hs:(5,20)∈LC.sizes):(zc3.e qau).Sound Tryz.prog:=fun d d' r h=>by
 have h:qau d.1=some r:=h;unfold qau at h;cases hd:decide (-9223372036854775808<=(show Int from d.1)/\(show Int from d.1)<=9223372036854775807)<;>rw[hd]at h<;>simp only[qT,qF,reduceCtorEq]at h
 have h:=qJ h;subst h;have hd:=of_decide_eq_true hd;refine⟨call184,d9.data fun w G vs hm hr => ?_⟩
 match vs,hr with
 |[v],⟨h1,_⟩=>
  have h1:v = .int .i64 d.1:=h1;subst h1;exact(zc4 hm hg hs _ hd.1 hd.2).mono fun e w'⟨he,hw⟩=>⟨_,he,rfl,hw⟩
def zqr{G:Gh}{w:World}(hm:dd G [] w)(hi:2∈LC.ints){a b:Bs}{u v:Value}(hu:aj (.sl .byte a) G u)(hv:aj (.sl .byte b) G v)(h2:2<=b.length)(hb:b.length<=maxLen)(ha:a.length<4294967281) :
  Calls Tryz.prog 187 #[u,v] w fun e w'=>e = .returned (.int .i64 (Lib.index a b))/\ch w w':=by
 obtain⟨p,c,rfl,hc,hp⟩:l8 1 (Ty.byte.At G.imm) a u:=hu;obtain⟨q,d,rfl,hd,hq⟩:l8 1 (Ty.byte.At G.imm) b v:=hv;by_cases hlt:a.length<b.length
 ·have h:=Any.bytes_Index_longer Tryz.lays185 p q a.length c b.length d w h2 hlt (by unfold maxLen at hb;omega)
  rw[Lib.index_past (i:=0) (by intro e;subst e;simp at h2) (fun j hj=>absurd hj (Nat.not_lt_zero _)) (by simpa using hlt)]
  exact h.mono fun e w'⟨he,hw⟩=>⟨he,by subst hw;exact ch.refl _⟩
 ·rcases hp with rfl|⟨g,o,rfl,hcells⟩
  ·exact absurd (show([]:Bs).length<b.length from by show 0<_;omega) hlt
  rcases hq with rfl|⟨g',o',rfl,hcells'⟩
  ·exact absurd h2 (by show ¬2<=0;omega)
  obtain⟨k,hk⟩:=hm.tab.2.1 _ hi;have hk:=hm.agree _ _ _ hk;have bb:∀l:Bs,Lib.bytesOf (l.map fun x=>(x.toNat:Int))=l:=fun l=>by
   unfold Lib.bytesOf;rw[List.map_map];have:((fun n:Int=>UInt8.ofNat n.toNat) ∘ fun x:UInt8=>(x.toNat:Int))=id:=by funext x;simp
   rw[this,List.map_id]
  have cl:∀(l:Bs)(g o:Nat),(∀(j:Nat)(x:UInt8),l[j]? = some x->Ty.byte.At G.imm x g (o+j*1))->∀i,i<l.length->w.cell? ((⟨g,o,none⟩:Addr).add i)=some (.int .u8 ((l.map fun x=>(x.toNat:Int)).getD i 0)):=fun l g o h i hi=>by
   have h1:G.imm g (o+i*1)=some (.int .u8 l[i].toNat):=h i _ (List.getElem?_eq_getElem hi);have h1:=hm.agree _ _ _ h1;rw[Nat.mul_one]at h1;rw[Lib.add_plain',h1];simp[List.getD_eq_getElem?_getD,hi]
  have rg:∀l:Bs,∀x∈l.map (fun x=>(x.toNat:Int)),0<=x/\x<256:=fun l x hx=>by
   obtain⟨c,_,rfl⟩:=List.mem_map.1 hx;have:=c.toNat_lt;omega
  have h:=Any.bytes_Index_at Tryz.lays185 ⟨g,o,none⟩ ⟨g',o',none⟩ a.length c b.length d (a.map fun x=>(x.toNat:Int)) (b.map fun x=>(x.toNat:Int)) k w oC oC (rg a) (rg b) (cl a g o hcells) (cl b g' o' hcells') hc ha (by unfold maxLen at hb;omega) hk
  rw[bb,bb]at h;exact h.mono fun e w'⟨he,n,hw⟩=>⟨he,by subst hw;exact⟨rfl,rfl,rfl,wF _,fun _ _ _=>rfl⟩⟩
def zae:IF:=⟨.fn 187,[.h (.list .byte),.h (.list .byte)],[],_,RS.mk (.h (.int .i64)) []⟩
def zne(hi:2∈LC.ints):(zae.e qag).Sound Tryz.prog:=fun d d' r h=>by
 obtain⟨a,b,_⟩:=d;have h:qag a b=some r:=h;unfold qag at h;cases hd:decide (2<=List.length (α:=UInt8) b/\List.length (α:=UInt8) a<4294967281/\List.length (α:=UInt8) b<=maxLen)<;>rw[hd]at h<;>simp only[qT,qF,reduceCtorEq]at h
 have h:=qJ h;subst h;have hd:=of_decide_eq_true hd;refine⟨call187,d9.data fun w G vs hm hr => ?_⟩
 match vs,hr with
 |[u,v],⟨h1,h2,_⟩=>
  exact(zqr hm hi h1 h2 hd.1 hd.2.2 hd.2.1).mono fun e w'⟨he,hw⟩=>⟨_,he,rfl,hw⟩
end Go.Sym
namespace Go.Sym
open Go.Proofs Go.RowKit Go.Sort
variable[LC]
def ch.trans{w w1 w2:World}(h:ch w w1)(k:ch w1 w2):ch w w2:=
 ⟨k.os.trans h.os,k.tape.trans h.tape,k.output.trans h.output,Nat.le_trans h.size k.size,fun j hj _=>(k.block j (Nat.lt_of_lt_of_le hj h.size) (fun h=>h)).trans (h.block j hj (fun h=>h))⟩
def zmz{l:Bs}{v:Int}(h:Lib.atoiAll l = .ok v) : -9223372036854775808<=v/\v<=9223372036854775807:=by
 unfold Lib.atoiAll at h;split at h
 ·cases h
 ·simp only at h;split at h
  ·cases h
  ·cases h
  ·split at h
   ·cases h
   ·split at h
    ·cases h
    ·rename_i h1 h2;injection h with h
     split at h<;>rename_i h3
     ·simp only[h3,not_true_eq_false,false_and,true_and]at h1 h2;omega
     ·simp only[h3,not_false_eq_true,true_and,false_and]at h1 h2;omega
def zsy{G:Gh}{w:World}(hm:dd G [] w)(hg:LC.glob 5=some ⟨.int .u64,Lib.pow10Tab⟩)(hs:(5,20)∈LC.sizes)(h1:3∈LC.ifs)(h2:4∈LC.ifs)(s:Bs)(most:Int)(hl:s.length<=281474976710656) :
  Calls Tryz.prog 172 #[.string ⟨s.toArray⟩,.int .i64 most] w fun e w'=>e = .returned (.tuple #[.int .i64 (ie s most).1,.bool (ie s most).2])/\ch w w':=by
 have hsz:(⟨s.toArray⟩:ByteArray).size=s.length:=jl s;have hd:(⟨s.toArray⟩:ByteArray).data.toList=s:=oC
 have bw:∀t:ByteArray,ch w (Lib.bytesWorld w 5 t):=fun t=>by
  refine⟨rfl,rfl,rfl,?_,fun j hj _ => ?_⟩
  ·simp[Lib.bytesWorld,World.freeze]
  ·show((w.heap.push _).modify w.heap.size _)[j]? = _;rw[Array.getElem?_modify,qW oA,Array.getElem?_push_lt oA]
   exact(Array.getElem?_eq_getElem hj).symm
 have bad:(Calls Tryz.prog 59 #[.string ⟨s.toArray⟩] w fun e w'=>(∃n t v,e = .returned (.tuple #[.int .i64 n,.iface t v]))/\ch w w') ->
   Calls Tryz.prog 172 #[.string ⟨s.toArray⟩,.int .i64 most] w fun e w'=>e = .returned (.tuple #[.int .i64 0,.bool false])/\ch w w':=fun cA=>by
  clear hg hs hm
  go_enter Tryz.func172,Tryz.ntmps172
  go_wp2_with (go_at_call 59;refine cA.mono ?_;rintro e wa ⟨⟨n,t,v,rfl⟩,sa⟩)
  all_goals (clear cA;go_ret2;exact⟨rfl,sa⟩)
 unfold ie
 cases hA:Lib.atoiAll s with
 |ok v=>
  obtain⟨b1,b2⟩:=zmz hA;have cA:Calls Tryz.prog 59 #[.string ⟨s.toArray⟩] w fun e w'=>e = .returned (.tuple #[.int .i64 v,.nilIface])/\ch w w':=
   (Any.strconv_Atoi_ok Tryz.laysC172 ⟨s.toArray⟩ oA v (by rw[hd];exact hA) w).mono fun e w'⟨he,hw⟩=>⟨he,by
    rcases hw with rfl|⟨t,rfl⟩
    ·exact ch.refl _
    ·exact bw t⟩
  have cI:∀w',ch w w'->Calls Tryz.prog 184 #[.int .i64 v] w' fun e w''=>e = .returned (.string ⟨(Lib.itoa v).toArray⟩)/\ch w' w'':=fun w' h=>zc4 (hm.still h) hg hs v b1 b2
  have hse:(⟨(Lib.itoa v).toArray⟩:ByteArray)=⟨s.toArray⟩↔Lib.itoa v=s:=by
   constructor
   ·intro h;have:=congrArg (fun x:ByteArray=>x.data.toList) h;simpa using this
   ·intro h;rw[h]
  show Calls Tryz.prog 172 _ w fun e w'=>e = .returned (.tuple #[.int .i64 (if Lib.itoa v=s/\0<=v/\v<=most then(v,true) else(0,false)).1,.bool (if Lib.itoa v=s/\0<=v/\v<=most then(v,true) else(0,false)).2])/\ch w w'
  generalize Lib.itoa v=t at cI hse ⊢;obtain⟨r,hr⟩:∃r,r=(if t=s/\0<=v/\v<=most then(v,true) else(0,false)):=⟨_,rfl⟩
  rw[← hr];clear hA hg hs hm
  go_enter Tryz.func172,Tryz.ntmps172
  go_wp2_with (first|(go_at_call 59;refine cA.mono ?_;rintro e wa ⟨rfl,sa⟩)|(go_at_call 184;refine(cI _ (by assumption)).mono ?_;rintro e wb ⟨rfl,sb⟩))
  all_goals (clear cA cI;go_ret2)
  all_goals (by_cases q:t=s/\0<=v/\v<=most)
  all_goals first
   |(rw[qX q]at hr;subst hr;first|exact⟨rfl,sa.trans sb⟩|(exfalso;omega)|(exfalso;exact absurd q.1 (by assumption)))
   |(rw[qW q]at hr;subst hr;first|exact⟨rfl,sa.trans sb⟩|(exfalso;exact q ⟨by assumption,oA,oA⟩))
 |range=>
  obtain⟨te,pe,hv⟩:=hm.tab.2.2.1 _ h2;have cA:Calls Tryz.prog 59 #[.string ⟨s.toArray⟩] w fun e w'=>(∃n t v,e = .returned (.tuple #[.int .i64 n,.iface t v]))/\ch w w':=
   (Any.strconv_Atoi_range Tryz.laysC172 ⟨s.toArray⟩ oA (by rw[hd];exact hA) _ w (hm.agree _ _ _ hv) (.inr ⟨_,_,rfl⟩)).mono fun e w'⟨N,he,_,_,hw⟩=>⟨⟨_,_,_,he⟩,ch.of_below hw⟩
  exact bad cA
 |_=>
  obtain⟨te,pe,hv⟩:=hm.tab.2.2.1 _ h1;have cA:Calls Tryz.prog 59 #[.string ⟨s.toArray⟩] w fun e w'=>(∃n t v,e = .returned (.tuple #[.int .i64 n,.iface t v]))/\ch w w':=
   (Any.strconv_Atoi_syntax Tryz.laysC172 ⟨s.toArray⟩ oA (by rw[hd];exact hA) _ w (hm.agree _ _ _ hv) (.inr ⟨_,_,rfl⟩)).mono fun e w'⟨N,he,_,_,hw⟩=>⟨⟨_,_,_,he⟩,ch.of_below hw⟩
  exact bad cA
def zd4:IF:=⟨.fn 172,[.h .str,.h (.int .i64)],[],_,RS.mk (.tup [.h (.int .i64),.h .bool]) []⟩
def zs0(hg:LC.glob 5=some ⟨.int .u64,Lib.pow10Tab⟩)(hs:(5,20)∈LC.sizes)(h1:3∈LC.ifs)(h2:4∈LC.ifs):(zd4.e qaf).Sound Tryz.prog:=fun d d' r h=>by
 obtain⟨s,most,_⟩:=d;have h:qaf s most=some r:=h;unfold qaf at h;cases hd:decide (List.length (α:=UInt8) s<=281474976710656)<;>rw[hd]at h<;>simp only[qT,qF,reduceCtorEq]at h
 have h:=qJ h;subst h;refine⟨Tryz.call172,d9.data fun w G vs hm hr => ?_⟩
 match vs,hr with
 |[u,v],⟨e1,e2,_⟩=>
  have e1:u = .string ⟨List.toArray s⟩:=e1;have e2:v = .int .i64 most:=e2;subst e1 e2;exact(zsy hm hg hs h1 h2 s most (of_decide_eq_true hd)).mono fun e w'⟨he,hw⟩=>⟨_,he,⟨_,rfl,rfl,rfl,trivial⟩,hw⟩
end Go.Sym
namespace Go.Sym
open Go.Proofs Go.RowKit
variable[LC]
end Go.Sym
namespace Go.Sym
open Go.Proofs Go.RowKit Go.Sort
variable[LC]
def d9.inPlaceA{ys:List AV}{P:Program}{f:FuncId}{τ:Ty}{l l':List τ.den}{E:TypeId}(ac:l'.length=l.length)(h:∀(w:World)(G:Gh)(ad:Option Addr)(c:Nat)(us vs:List Value),iy w E τ.sz ad l.length c us->am (l.flatMap τ.enc) G.data us->am ys G vs ->
  Calls P f (Value.slice ad l.length c::vs).toArray w fun e w'=>e = .returned (.tuple #[])/\∃us',iy w' E τ.sz ad l.length c us'/\am (l'.flatMap τ.enc) G.data us'/\cd (fun b=>du ad=some b) w w') :
  d9 P f (.own 0::ys) [(0,.row τ l E)] (.tup []) [(0,.row τ l' E)]:=by
 intro w G vs hm hreps;have hl:af [(0,ah.row τ l E)] 0=some (.row τ l E):=rfl;obtain⟨ad,c,us,h1,h3,h4,h5⟩:=(hm.holds 0 _ hl).rowAt
 match vs,hreps with
 |v::vs,hreps=>
  obtain⟨⟨a',n',c',q1,rfl⟩,hys⟩:=hreps;rw[h1]at q1;simp at q1;obtain⟨rfl,rfl,rfl⟩:=q1;refine(h w G ad c us vs h3 h4 hys).mono ?_;rintro e w' ⟨rfl,us',r1,r2,r3⟩
  refine⟨_,G,rfl,?_,#[],rfl,trivial⟩;have hself:=qew hm;have hbox:dj G w' 0 (.row τ l' E):=dj.row (by rw[ac];exact h1) (by rw[ac];exact r1) r2 (fun b hb=>h5 b hb)
  cases had:du ad with
  |none=>
   have hst:ch w w':=⟨r3.os,r3.tape,r3.output,r3.size,fun k hk _=>r3.block k hk (fun e=>by rw[had]at e;cases e)⟩
   have hf:=hself.extend (new:=[]) (Gh.le.refl G) hst (fun _ _ _ h => .inl h) (fun b o v hv=>by
    have hc:=hm.agree b o v hv;have hlt:=World.block_lt_of_cell? _ _ hc;rw[World.cell?_of_block (w:=w) (hst.block b hlt (fun h=>h))];exact hc) hm.one (fun n bx h=>by cases h) (fun n bx h=>by cases h) (fun n m bx bx' b h=>by cases h)
   have hlk:∀m b,af [(0,ah.row τ l' E)] m=some b->m=0/\b = .row τ l' E:=fun m b hh=>by
    simp[af]at hh;cases hb:Nat.beq 0 m
    ·rw[hb]at hh;cases hh
    ·rw[hb]at hh;simp at hh;exact⟨(qN hb).symm,hh.symm⟩
   have hat:G.at 0 (.row τ l' E)=none:=by
    simp[Gh.at,h1]
    cases ad with|none=>rfl|some a=>cases had
   refine⟨⟨hf.mem.agree,hf.mem.one,fun m b hh => ?_,fun m m' b b' c h1 h2 h3 _ => ?_,hf.mem.tab⟩,hf.bel,hf.imm_le,hf.imm_new,fun m b c h1 h2 => ?_,hf.keep,hf.keepOwn⟩
   ·obtain⟨rfl,rfl⟩:=hlk m b hh;exact hbox
   ·obtain⟨rfl,_⟩:=hlk m b h1;obtain⟨rfl,_⟩:=hlk m' b' h2;rfl
   ·obtain⟨rfl,rfl⟩:=hlk m b h1;rw[hat]at h2;cases h2
  |some B=>
   have hat:∀l:List τ.den,G.at 0 (.row τ l E)=some B:=fun l=>by
    simp[Gh.at,h1]
    cases ad with
    |none=>cases had
    |some a=>exact had
   have hf:=hself.update (bx' := .row τ l' E) hl (hat l) (hat l') ⟨r3.os,r3.tape,r3.output,r3.size,fun k hk hne=>r3.block k hk (fun e=>by rw[had]at e;injection e with e;exact hne e.symm)⟩ hbox (h5 B had)
   have hlk:∀m b,af [(0,ah.row τ l' E)] m=some b->af (tv [(0,ah.row τ l E)] 0 (.row τ l' E)) m=some b:=fun m b hh=>by
    simp[af]at hh;simp[tv,af];cases hb:Nat.beq 0 m
    ·rw[hb]at hh;cases hh
    ·rw[hb]at hh;exact hh
   exact⟨⟨hf.mem.agree,hf.mem.one,fun m b hh=>hf.mem.holds m b (hlk m b hh),fun m m' b b' c h1 h2 h3 h4=>hf.mem.apart m m' b b' c (hlk _ _ h1) (hlk _ _ h2) h3 h4,hf.mem.tab⟩,hf.bel,hf.imm_le,hf.imm_new,fun m b c h1 h2=>hf.base m b c (hlk _ _ h1) h2,hf.keep,hf.keepOwn⟩
 |[],hreps=>exact hreps.elim
def zud(w:World)(n g:Nat)(d:Array Value)(os:Array Obj)(k:Nat)(hk:k<w.heap.size)(hne:k≠g):(grow (putRow id (Sort.ahead w n) g 0 d) os).heap[k]? = w.heap[k]? := by
 show((w.heap.modify g (onCells (putCells id 0 d)))++os)[k]? = _;rw[Array.getElem?_append_left (by simpa using hk),Array.getElem?_modify,qW oA]
def zue(w:World)(n g:Nat)(d:Array Value)(os:Array Obj){cur:Array Value}{e:TypeId}{fr:Nat×Nat}(hh:w.heap[g]? = some (.cells cur e fr)) :
  (grow (putRow id (Sort.ahead w n) g 0 d) os).heap[g]? = some (.cells (putCells id 0 d cur) e fr):=by
 have hg:g<w.heap.size:=(Array.getElem?_eq_some_iff.1 hh).1;show((w.heap.modify g (onCells (putCells id 0 d)))++os)[g]? = _;rw[Array.getElem?_append_left (by simpa using hg),Array.getElem?_modify,qX rfl,hh]
 rfl
def zug(zs:List Value)(cur:Array Value)(h:zs.length<=cur.size):(putCells id 0 zs.toArray cur).toList.take zs.length=zs:=by
 apply List.ext_getElem?;intro j;rw[List.getElem?_take];by_cases hj:j<zs.length
 ·rw[qX hj,Array.getElem?_toList];unfold putCells;rw[Array.getElem?_mapIdx,Array.getElem?_eq_getElem oA]
  simp[hj]
 ·rw[qW hj];exact(List.getElem?_eq_none oA).symm
def zuf(w:World)(n g:Nat)(d:Array Value)(os:Array Obj):w.heap.size<=(grow (putRow id (Sort.ahead w n) g 0 d) os).heap.size:=by
 show w.heap.size<=((w.heap.modify g (onCells (putCells id 0 d)))++os).size;simp
def zuc(zs:List Value)(cur:Array Value)(v:Value)(hv:v∈(putCells id 0 zs.toArray cur).toList):v∈cur.toList\/v∈zs:=by
 unfold putCells at hv;rw[Array.mem_toList_iff,Array.mem_mapIdx]at hv;obtain⟨j,hj,rfl⟩:=hv;split
 ·rename_i hj2;have hj3:j<zs.length:=by simpa using hj2
  refine .inr ?_;simp[hj3]
 ·exact .inl oC
end Go.Sym
namespace Go.Sym
open Go.Proofs Go.RowKit Go.Sort
variable[LC]
def zcc{α:Type}[Inhabited α](enc:α->List Value)(k:Nat)(hk:∀x,(enc x).length=k)(l:List α):flatK enc k l.toArray=(l.flatMap enc).toArray:=by
 have key:∀(l:List α)(t:Nat),t<l.length*k->(l.flatMap enc)[t]? = some ((enc l[t/k]!)[t%k]!):=by
  intro l
  induction l with
  |nil=>intro t ht;simp at ht|cons x l ih=>
   intro t ht;have k0:0<k:=by
    rcases Nat.eq_zero_or_pos k with h|h;· subst h;simp at ht
    ·exact h
   rw[List.flatMap_cons];by_cases h:t<k
   ·rw[List.getElem?_append_left (by rw[hk];exact h),Nat.div_eq_of_lt h,Nat.mod_eq_of_lt h,List.getElem?_eq_getElem (by rw[hk];exact h)]
    simp[hk,h]
   ·rw[List.getElem?_append_right (by rw[hk];omega),hk,ih (t-k) (by rw[qL,Nat.add_mul,Nat.one_mul]at ht;omega)]
    obtain⟨u,rfl⟩:∃u,t=u+k:=⟨t-k,oA⟩
    rw[Nat.add_sub_cancel,Nat.add_mod_right,Nat.add_div_right _ k0];simp
 have ac:(l.flatMap enc).length=l.length*k:=by
  clear key
  induction l with|nil=>simp|cons x l ih=>rw[List.flatMap_cons,qM,hk,ih,qL,Nat.add_mul,Nat.one_mul,Nat.add_comm]
 refine ext_get! (by simp[ac]) fun t ht => ?_
 have ht':t<l.length*k:=by simpa using ht
 rw[get_flatK enc k l.toArray t (by simpa using ht')]
 have:=key l t ht';simp only[List.getElem!_toArray];rw[List.getElem!_eq_getElem?_getD (l:=l.flatMap enc),this];rfl
def fe(x:Pq):List Value:=[.string ⟨x.1.1.toArray⟩,.int .i64 x.1.2.1,.bool x.1.2.2.1,.string ⟨x.1.2.2.2.toArray⟩]
def zgw:SWO (ltOf jr):=by
 have e:∀x y:Pq,ltOf jr x y=decide (x.1.2.1<y.1.2.1):=fun x y=>by
  have:=x.2;have:=y.2;unfold ltOf jr;have h:ae (x.1.2.1-y.1.2.1)=x.1.2.1-y.1.2.1:=by unfold ae;simp[IntKind.wrap,IntKind.bits,IntKind.signed];omega
  rw[h];by_cases q:x.1.2.1<y.1.2.1<;>simp[q]<;>omega
 exact⟨fun x=>by rw[e];simp,fun x y z h1 h2=>by rw[e]at *;simp at *;omega,fun x y z h1 h2=>by rw[e]at *;simp at *;omega⟩
set_option maxHeartbeats 1000000 in
def zn3(x y:Pq)(W:World):Calls Tryz.prog 218 #[.agg (fe x).toArray,.agg (fe y).toArray] W fun e w'=>e = .returned (.int .i64 (jr x y))/\∃q os',w'=grow (W.drewN q) os':=by
 unfold fe jr;obtain⟨⟨a,n,s,v⟩,hx⟩:=x;obtain⟨⟨a',n',s',v'⟩,hy⟩:=y;simp only;have hw:ae (n-n')=wrap64 (n-n'):=by show IntKind.i64.wrap (n-n')=_;rw[IntKind.wrap_i64];unfold Go.RowKit.wrap64;rfl
 rw[hw];clear hx hy hw
 go_enter Tryz.func218,Tryz.ntmps218
 go_wp2
 go_ret
 exact⟨rfl,0,_,by rw[alloc_eq_grow,alloc_eq_grow,grow_grow];rfl⟩
abbrev τQ:Ty := .prod .str (.prod (.int .i64) (.prod .bool .str))
def zfj{G:Gh}:∀{l:List Pq}{us:List Value},am (List.flatMap (β:=AV) τQ.enc (l.map (·.1))) G us->us=l.flatMap fe
 |[],[],_=>rfl|[],_::_,h=>h.elim|x::l,us,h=>by
  match us,h with
  |a::b::c::d::us,h=>
   have h1:a = .string ⟨x.1.1.toArray⟩:=h.1;have h2:b = .int .i64 x.1.2.1:=h.2.1;have h3:c = .bool x.1.2.2.1:=h.2.2.1;have h4:d = .string ⟨x.1.2.2.2.toArray⟩:=h.2.2.2.1;have h5:=zfj (l:=l) h.2.2.2.2;rw[h1,h2,h3,h4,h5];rfl
  |[],h=>exact h.elim|[_],h=>exact h.2.elim|[_,_],h=>exact h.2.2.elim|[_,_,_],h=>exact h.2.2.2.elim
def zfk{G:Gh}:∀(l:List Pq),am (List.flatMap (β:=AV) τQ.enc (l.map (·.1))) G (l.flatMap fe)
 |[]=>trivial|_::l=>⟨rfl,rfl,rfl,rfl,zfk l⟩
def zg5:∀(l:List Pc)(q:List Pq),rl l=some q->l=q.map (·.1)
 |[],_,h=>by cases h;rfl
 |x::l,q,h=>by
  unfold rl at h;split at h
  ·split at h
   ·rename_i r hr;cases h;rw[zg5 l r hr];rfl
   ·cases h
  ·cases h
def q47(l:List Pq):(iu l).length=l.length:=by
 have h:=(pdq_sorts (ltOf jr) zgw l.toArray 0 l.length (Lib.bitLen l.length) true true (Nat.zero_le _) oC (Or.inl rfl)).1.1
 unfold iu;rw[Array.length_toList,h];simp
def qr7(x:Pq):(fe x).length=4:=rfl
def zbt(l:List Pq):(l.flatMap fe).length=l.length*4:=by
 induction l with|nil=>rfl|cons x l ih=>rw[List.flatMap_cons,qM,qr7,ih,qL];omega
def zqb{w:World}{g:Nat}{vs:Array Value}{fz:Nat×Nat}{E:TypeId}{l:List Pq}(h2:w.heap[g]? = some (.cells vs E fz))(h3:fz=(0,0)\/vs.size<=fz.1)(h4:l.length*4<=vs.size)(h7:vs.toList.take (l.length*4)=l.flatMap fe):HoldsK fe 4 w g 0 l.toArray:=by
 unfold HoldsK;rw[zcc fe 4 qr7];intro j hj;have hl:=zbt l;have hj':j<(l.flatMap fe).length:=by simpa using hj
 have hjv:j<vs.size:=oA
 refine⟨?_,?_⟩
 ·have hc:(vs.toList.take (l.length*4))[j]? = some ((l.flatMap fe)[j]):=by
   rw[h7,List.getElem?_eq_getElem hj']
  rw[List.getElem?_take,qX oA]at hc
  simp only[World.cell?,h2,wO];have hg:(l.flatMap fe).toArray[j]! = (l.flatMap fe)[j]:=by rw[getElem!_pos _ j hj];rfl
  rw[hg];simpa using hc
 ·simp only[World.frozen?,h2];rcases h3 with rfl|h3
  ·simp
  ·simp;omega
set_option maxHeartbeats 1000000 in
def zxc(q:List Pq)(ac:q.length<=a6):d9 Tryz.prog 217 [.own 0,.fn (.func 218) [] []] [(0,.row τQ (q.map (·.1)) 164)] (.tup []) [(0,.row τQ ((iu q).map (·.1)) 164)]:=by
 unfold a6 at ac
 refine d9.inPlaceA (by show((iu q).map (·.1)).length=(q.map (·.1)).length;rw[wC,wC,q47]) (fun w G ad c us fvs hrow hreps hfv => ?_)
 have hus:=zfj hreps;have hfv:fvs=[.func (.func 218) #[] #[]]:=by
  match fvs,hfv with
  |[v],⟨h,_⟩=>
   obtain⟨us1,us2,k1,k2,k3⟩:=h;have e1:us1=#[]:=Array.eq_empty_of_size_eq_zero k2.length.symm;have e2:us2=#[]:=Array.eq_empty_of_size_eq_zero k3.length.symm;subst e1;subst e2;rw[k1]
 subst hfv;have hml:(q.map (fun x=>x.1)).length=q.length:=wC ..
 obtain⟨hul,hrow⟩:=hrow
 have hnone:q=[]->Calls Tryz.prog 217 (Value.slice ad (q.map (fun x=>x.1)).length c::[.func (.func 218) #[] #[]]).toArray w fun e w'=>e = .returned (.tuple #[])/\∃us',iy w' 164 τQ.sz ad (q.map (fun x=>x.1)).length c us'/\am (List.flatMap (β:=AV) τQ.enc ((iu q).map (·.1))) G.data us'/\cd (fun b=>du ad=some b) w w':=fun hq=>by
  subst hq;refine(AnyF.slices_SortFunc_none Tryz.sortP ad c (.func (.func 218) #[] #[]) w).mono ?_;rintro e w' ⟨rfl,rfl⟩
  refine⟨rfl,us,⟨hul,hrow⟩,?_,⟨rfl,rfl,rfl,wF _,fun _ _ _=>rfl⟩⟩
  rw[hus];have e:iu []=[]:=List.eq_nil_of_length_eq_zero (q47 []);rw[e];exact trivial
 by_cases hq:q=[]
 ·exact hnone hq
 rcases hrow with⟨rfl,h2,rfl⟩|⟨g,vs,fz,rfl,h2,h3,h4,h5,h6,h7,h8⟩
 ·exact absurd (List.eq_nil_of_length_eq_zero (by rw[← hml];exact h2)) hq
 ·have hlt:g<w.heap.size:=(Array.getElem?_eq_some_iff.1 h2).1;have hs4:τQ.sz=4:=rfl;rw[hs4]at h6 h7 hul;have h4':q.length<=c:=by rw[← hml];exact h4
  have hH:=zqb (l:=q) h2 h3 oA (by rw[← hus];have h7':=h7;rw[show(List.length (α:=τQ.den) (q.map fun x=>x.1))=q.length from hml]at h7';exact h7')
  have hcmp:CmpLays Tryz.prog 218 #[] fe 4 jr g 0 q.toArray.size w:=fun m os dk _ x y=>zn3 x y _
  have key:=AnyQ.slices_SortFunc_eq (P:=Tryz.prog) Tryz.sortP 4 Tryz.isAgg164 Tryz.sizeOf164 fe qr7 (by intro x v hv;simp only[fe,wE,List.not_mem_nil,or_false]at hv;rcases hv with rfl|rfl|rfl|rfl<;>rfl) jr zgw 218 #[] g 0 c q.toArray w Tryz.call218 hcmp hH hlt oB
  have hargs:#[Value.slice (some ⟨g,0,none⟩) (List.length (α:=τQ.den) (List.map (β:=τQ.den) (fun x:Pq=>x.1) q)) c,Value.func (.func 218) #[] #[]]=#[.slice (some ⟨g,0,none⟩) q.toArray.size c,.func (.func 218) #[] #[]]:=by
   rw[show List.length (α:=τQ.den) (List.map (β:=τQ.den) (fun x:Pq=>x.1) q)=q.toArray.size from hml.trans oC]
  refine Eq.mpr (congrArg (fun a=>Calls _ _ a _ _) hargs) (key.mono ?_)
  rintro e w' ⟨rfl,n,os,rfl⟩
  have hsl:=q47 q;have hw:sortWorldK fe 4 w g 0 n (pdq (ltOf jr) q.toArray 0 q.toArray.size (Lib.bitLen q.toArray.size) true true) os=grow (putRow id (Sort.ahead w n) g 0 ((iu q).flatMap fe).toArray) os:=by
   unfold sortWorldK putRowK;rw[show pdq (ltOf jr) q.toArray 0 q.toArray.size (Lib.bitLen q.toArray.size) true true=(iu q).toArray from by unfold iu;simp,zcc fe 4 qr7]
  rw[hw];have hzl:((iu q).flatMap fe).length=q.length*4:=by rw[zbt,hsl]
  refine⟨rfl,(iu q).flatMap fe,⟨?_,.inr ⟨g,putCells id 0 ((iu q).flatMap fe).toArray vs,fz,rfl,zue w n g _ os h2,?_,h4,h5,?_,?_,?_⟩⟩,zfk _,⟨rfl,rfl,rfl,zuf w n g _ os,fun k hk hne=>zud w n g _ os k hk (fun e=>hne (by subst e;rfl))⟩⟩
  ·rw[hzl];show q.length*4=(q.map (fun x=>x.1)).length*4;rw[hml]
  ·have:(putCells id 0 ((iu q).flatMap fe).toArray vs).size=vs.size:=by unfold putCells;rw[Array.size_mapIdx]
   rw[this];exact h3
  ·unfold putCells;rw[Array.size_mapIdx];exact h6
  ·rw[show List.length (α:=τQ.den) (q.map (fun x=>x.1))*τQ.sz=((iu q).flatMap fe).length from by rw[hzl];show(q.map (fun x=>x.1)).length*4=_;rw[hml]]
   exact zug _ vs (by rw[hzl];omega)
  ·intro v hv;rcases zuc _ _ _ hv with h|h
   ·exact h8 v h
   ·obtain⟨x,_,hx⟩:=List.mem_flatMap.1 h;simp only[fe,wE,List.not_mem_nil,or_false]at hx;rcases hx with rfl|rfl|rfl|rfl<;>rfl
def zgl:IF:=⟨.fn 217,[.own 0,.fn 218 []],[(0,.row τQ 164)],_,RS.mk (.tup []) [(0,.row τQ 164)]⟩
def zxd:(zgl.e qas).Sound Tryz.prog:=fun d d' r h=>by
 obtain⟨l,_⟩:=d';have h:qas l=some r:=h;unfold qas at h;cases hd:decide (List.length (α:=Pc) l<=a6)<;>rw[hd]at h<;>simp only[qT,qF,reduceCtorEq]at h
 cases hq:rl l with
 |none=>rw[hq]at h;cases h
 |some q=>
  rw[hq]at h;have h:=qJ h;subst h;have hl:=zg5 l q hq;subst hl;refine⟨Tryz.call217,zxc q ?_⟩;have:=of_decide_eq_true hd
  rwa [wC]at this
end Go.Sym
set_option linter.unusedVariables false
namespace Go.Proofs.ToValid
open Go.Shelf Go.RowKit Go.Lib Go.Sym
def bx:Builder.Extra Tryz.prog Tryz.uniR:={
 sizeBuilder:=oD
 liesBuilder:=oD
 t5:=Tryz.laysM171.t5
 a5:=Tryz.laysM171.a5
 z5:=Tryz.laysM171.z5
 v5:=Tryz.laysM171.v5
 infoByte:=oD
 cellsByte:=oD
 sizeByte:=oD
 neB5:=by decide }
def zrg:Lays.n166 Tryz.prog Tryz.uniR:={ Tryz.lays165,Tryz.lays169,Tryz.laysC172 with f166:=Tryz.func29.trans (congrArg some oD) }
def zrh:Lays.n167 Tryz.prog Tryz.uniR:={ Tryz.lays165,Tryz.lays169,Tryz.laysC172 with f167:=Tryz.func32.trans (congrArg some oD) }
def zaw(b:Nat)(p:Option Addr)(n cap:Nat)(w:World)(c1:w.cell? ⟨b,1,none⟩=some (.slice p n cap)) :
  Calls Tryz.prog 247 #[.pointer (some ⟨b,0,none⟩)] w fun e w'=>e = .returned (.int .i64 cap)/\w'=w:=by
 go_enter Tryz.func247,Tryz.ntmps247
 go_wp2
 go_ret
 exact⟨rfl,rfl⟩
def zp6(b n:Nat)(w:World)(hbk:w.heap[b]? = some (.cells #[.pointer none,.slice none 0 0] 70 (0,0)))(hBw:b<=w.heap.size)(hn:n<=281474976710656) :
  Calls Tryz.prog 92 #[.pointer (some ⟨b,0,none⟩),.int .i64 n] w fun e w'=>e = .returned (.tuple #[])/\(Lib.BuilderAt 70 5 b b (.pointer (some ⟨b,0,none⟩)) [] w'/\Below b w w')/\∃p cap,w'.cell? ⟨b,1,none⟩=some (.slice p 0 cap)/\n<=cap:=
 Any.Builder_Grow_fresh_cap Tryz.lays165 bx b b n w (wF _) hbk hBw hn
def q55(b:Nat)(bs:List Value)(s:ByteArray)(w:World)(h:Lib.IsBuilderF 70 5 b b bs w)(ac:bs.length+s.size<=140737488355328)(hBw:b<=w.heap.size) :
  Calls Tryz.prog 29 #[.pointer (some ⟨b,0,none⟩),.string s] w fun e w'=>e = .returned (.tuple #[.int .i64 s.size,.nilIface])/\(Lib.BuilderAtF 70 5 b b (.pointer (some ⟨b,0,none⟩)) (bs++Lib.strCells s) w'/\Below b w w'/\Lib.OthersKept 5 (some b) w w')/\∀v0,w.cell? ⟨b,1,none⟩=some v0->∃v1,w'.cell? ⟨b,1,none⟩=some v1/\v0.capOf<=v1.capOf:=
 Any.Builder_WriteString_kc zrg bx b b bs s w h ac hBw
def zzn(b:Nat)(bs:List Value)(c:Int)(w:World)(h:Lib.IsBuilderF 70 5 b b bs w)(ac:bs.length+1<=140737488355328)(hBw:b<=w.heap.size) :
  Calls Tryz.prog 32 #[.pointer (some ⟨b,0,none⟩),.int .u8 c] w fun e w'=>e = .returned .nilIface/\(Lib.BuilderAtF 70 5 b b (.pointer (some ⟨b,0,none⟩)) (bs++[.int .u8 c]) w'/\Below b w w'/\Lib.OthersKept 5 (some b) w w'):=
 Any.Builder_WriteByte_k zrh bx b b bs c w h ac hBw
def zxq(b:Nat)(l:List UInt8)(w:World)(h:Lib.IsBuilderF 70 5 b b (Lib.byteCells l) w)(hBw:b<=w.heap.size) :
  Calls Tryz.prog 33 #[.pointer (some ⟨b,0,none⟩)] w fun e w'=>e = .returned (.string ⟨l.toArray⟩)/\(Lib.IsBuilderF 70 5 b b (Lib.byteCells l) w'/\Below b w w'):=
 Any.Builder_String_any_f Tryz.lays169 bx b b l w h hBw
def zbk(s:ByteArray)(w:World)(hT:Lib.Utf8Tabs 0 1 w) :
  Calls Tryz.prog 94 #[.string s] w fun e w'=>e = .returned (.tuple #[.int .i32 (Lib.decodeGo s).1,.int .i64 (Lib.decodeGo s).2])/\Below w.heap.size w w':=
 Any.utf8_DecodeRuneInString Tryz.lays197 s w hT
def zbp(s:ByteArray)(pos:Nat)(h:pos<s.size):decodeGo (s.extract pos s.size)=Utf8.decode s pos:=by
 have hx:(s.extract pos s.size).data.toList=s.data.toList.drop pos:=by
  rw[extract_data,List.take_of_length_le (by rw[List.length_drop,← size_eq];omega)]
 have hsz:(s.extract pos s.size).size≠0:=by rw[size_eq,hx,List.length_drop,← size_eq];omega
 unfold decodeGo;rw[qW hsz,← decodeL_drop s pos,← hx];rfl
def zh0(n:Int)(h0:0<=n:=by omega)(h1:n<=4000000:=by omega):wrap64 n=n:=by unfold wrap64;omega
def zzq(p n:Nat)(h:p+n<=4000000):wrap64 ((p:Int)+(n:Int))=(p:Int)+(n:Int):=zh0 _
def zzr(p:Nat)(h:p+1<=4000000):wrap64 ((p:Int)+1)=(p:Int)+1:=zh0 _
def vI(p k:Nat):Value.int .i64 ((p:Int)+(k:Int)) = .int .i64 ((p+k:Nat):Int):=by rw[Int.natCast_add]
def rm(p:Nat):Value.int .i64 ((p:Int)+1) = .int .i64 ((p+1:Nat):Int):=by rw[Int.natCast_add];rfl
def q50(rep:Bs)(n:Nat)(inv:Bool)(l:Bs)(hne:l≠[])(h:(Lib.decodeL l).1=65533/\(Lib.decodeL l).2=1):vu rep (n+1) inv l=(if inv then[] else rep)++vu rep n true (l.drop 1):=by
 cases l with|nil=>exact absurd rfl hne|cons c l=>rw[vu,qX h];rfl
def qul(rep:Bs)(n:Nat)(inv:Bool)(l:Bs)(hne:l≠[])(h:¬((Lib.decodeL l).1=65533/\(Lib.decodeL l).2=1)):vu rep (n+1) inv l=l.take (Lib.decodeL l).2++vu rep n false (l.drop (Lib.decodeL l).2):=by
 cases l with|nil=>exact absurd rfl hne|cons c l=>rw[vu,qW h]
def za(rep:Bs)(n:Nat)(inv:Bool):vu rep n inv []=[]:=by cases n<;>rfl
def qgi(rep:Bs):∀(n m:Nat)(inv:Bool)(l:Bs),l.length<=n->l.length<=m->vu rep n inv l=vu rep m inv l
 |0,m,inv,l,h1,_=>by
  have:l=[]:=by cases l with|nil=>rfl|cons c l=>simp at h1
  subst this;rw[za,za]
 |n+1,0,inv,l,_,h2=>by
  have:l=[]:=by cases l with|nil=>rfl|cons c l=>simp at h2
  subst this;rw[za,za]
 |n+1,m+1,inv,l,h1,h2=>by
  cases l with
  |nil=>rw[za,za]|cons c l=>
   have hw:=Lib.decodeL_width (c::l);simp only[qL]at h1 h2;by_cases h:(Lib.decodeL (c::l)).1=65533/\(Lib.decodeL (c::l)).2=1
   ·rw[q50 rep n inv _ oC h,q50 rep m inv _ oC h,qgi rep n m true _ oB oB]
   ·rw[qul rep n inv _ oC h,qul rep m inv _ oC h,qgi rep n m false _ (by simp only[List.length_drop,qL];omega) (by simp only[List.length_drop,qL];omega)]
def zon(s:ByteArray)(pos:Nat)(h:pos<s.size)(hc:(s.get! pos).toNat<128):Utf8.decode s pos=((s.get! pos).toNat,1):=by
 unfold Utf8.decode;simp only[Nat.add_zero,hc,if_true]
def zom(s:ByteArray)(pos:Nat)(h:pos<s.size)(hc:¬(s.get! pos).toNat<128)(h1:(Utf8.decode s pos).2=1):(Utf8.decode s pos).1=65533:=by
 revert h1;unfold Utf8.decode;simp only[Nat.add_zero,hc,if_false]
 repeat' split
 all_goals first|(intro _;rfl)|(intro h1;exact absurd h1 oC)
def q1f{T e:TypeId}{B b:Nat}{bs:List Value}{W W':World}(h:Lib.IsBuilderF T e B b bs W)(hb:Below W.heap.size W W'):Lib.IsBuilderF T e B b bs W':=by
 have k:∀p,Lib.BuilderAtF T e B b p bs W->Lib.BuilderAtF T e B b p bs W':=fun p h=>by
  have hlt:=h.lt;obtain⟨hB,v,hv,hown,hne⟩:=h;exact⟨hB,v,(hb.block b hlt).trans hv,hown.kept (row:=none) ⟨hb.os,hb.tape,hb.output,hb.size,fun k hk _=>hb.block k hk⟩ (Classical.em _),hne⟩
 exact h.elim (fun x => .inl (k _ x)) (fun x => .inr (k _ x))
set_option maxHeartbeats 4000000 in
set_option maxRecDepth 1000000 in
def tovalid(s rep:ByteArray)(w:World)(hs:s.size<=1000000)(hr:rep.size<=1000)(hT:Lib.Utf8Tabs 0 1 w) :
  Calls Tryz.prog 220 #[.string s,.string rep] w fun e w'=>e = .returned (.string ⟨(vu rep.data.toList s.size false s.data.toList).toArray⟩)/\Below w.heap.size w w':=by
 obtain⟨ANS,hANS⟩:∃ANS,vu rep.data.toList s.size false s.data.toList=ANS:=⟨_,rfl⟩;rw[hANS];have ac:s.data.toList.length=s.size:=(Lib.size_eq s).symm
 go_enter Tryz.func220,Tryz.ntmps220
 go_wp2
 go_loopg [0] s.size (fun gk s0 wx=>s0 = .string s/\∃pos:Nat,wx.heap[w.heap.size]? = some (.cells #[.pointer none,.slice none 0 0] 70 (0,0))/\wx.heap[w.heap.size+1]? = some (.stringIter s pos)/\Below w.heap.size w wx /\
  s.data.toList.take pos++vu rep.data.toList (s.size-pos) false (s.data.toList.drop pos)=ANS/\s.size<=pos+gk/\pos<=s.size)
 case atStart=>
  refine⟨rfl,0,?_,?_,((Below.refl _ w).alloc (wF _) _).alloc oC _,by simpa using hANS,oA,oA⟩
  ·have h1:=heap_alloc_new w (.cells #[.pointer none,.slice none 0 0] 70);exact(Below.heap_alloc _ _ _ oC).trans h1
  ·have:=World.iter_heap (w.alloc (.cells #[.pointer none,.slice none 0 0] 70)) s 0;simpa using this
 case round=>
  obtain⟨rfl,pos,hfr,hit,hbw,hsp,hfu,hps⟩:=hrel;by_cases hlt:pos<s.size
  ·obtain⟨g',rfl⟩:∃g',gk=g'+1:=⟨gk-1,oA⟩
   have hnx:∀ty,(Instr.next (.pointer (some ⟨w.heap.size+1,0,none⟩)) true ty).run Tryz.prog wr=_:=fun ty=>Lib.run_next_any_at wr (w.heap.size+1) s pos ty hit hlt
   have hne:s.data.toList.drop pos≠[]:=by
    intro h0;have:=congrArg List.length h0;rw[List.length_drop,ac]at this;simp at this;omega
   have hwd:=Lib.width_pos s pos;have hwn:pos+(Utf8.decode s pos).2<=s.size:=by
    have:=Lib.decodeL_le _ hne;rw[Lib.decodeL_drop,List.length_drop,ac]at this;omega
   have hgood:=qul rep.data.toList (s.size-pos-1) false _ hne;have hdg:=zbp s pos hlt;rw[Lib.decodeL_drop]at hgood;obtain⟨R,hR⟩:∃R,(Utf8.decode s pos).1=R:=⟨_,rfl⟩;obtain⟨K,hK⟩:∃K,(Utf8.decode s pos).2=K:=⟨_,rfl⟩;rw[hR,hK]at hnx hgood;rw[hK]at hwd hwn;rw[List.drop_drop,show s.size-pos-1+1=s.size-pos by omega]at hgood
   have hit2:=Lib.iterAt_heap wr (w.heap.size+1) s pos (pos+K) hit;have hbw2:=Lib.below_iterAt hbw (k:=w.heap.size+1) oA s (pos+K)
   have hfr2:(wr.iterAt (w.heap.size+1) s (pos+K)).heap[w.heap.size]? = _:=(Lib.iterAt_other wr (w.heap.size+1) w.heap.size s (pos+K) oA).trans hfr
   obtain⟨W,hWd⟩:∃W,wr.iterAt (w.heap.size+1) s (pos+K)=W:=⟨_,rfl⟩;rw[hWd]at hnx hit2 hbw2 hfr2;clear hit hbw hfr hWd;have HS:Aside (¬(R=65533/\K=1)->s.data.toList.take (pos+K)++vu rep.data.toList (s.size-(pos+K)) false (s.data.toList.drop (pos+K))=ANS):=by
    intro h;rw[← hsp,hgood h,← qS,← List.take_add];congr 1;exact qgi _ _ _ _ _ (by rw[List.length_drop,ac];omega) (by rw[List.length_drop,ac];omega)
   have HP:Aside (s.data.toList.take pos++vu rep.data.toList (s.size-pos) false (s.data.toList.drop pos)=ANS):=hsp;clear hgood hsp;have hszW:w.heap.size+1<W.heap.size:=(Array.getElem?_eq_some_iff.1 hit2).1;by_cases h5:R=65533
   ·have h5z:(R:Int)=65533:=oA
    have cD:=zbk (s.extract pos s.size) W (Utf8Tabs_below hT hbw2);rw[hdg,hR,hK]at cD;by_cases hk:K=1
    ·
     have hkz:(K:Int)=1:=oA
     have hkb:((K:Int)==1)=true:=by simp[hkz]
     go_wp2_with (go_at_call 94;go_must (refine cD.mono ?_;rintro e W3 ⟨rfl,b3⟩))
     have hfr3:=(b3.block _ (show w.heap.size<W.heap.size by omega)).trans hfr2
     have hbw3:=hbw2.trans (b3.mono (show w.heap.size<=W.heap.size by omega))
     have hs0:=HP.out;clear cD hnx hit2 hfr2 hbw2 hdg HS hszW HP;have cG:=zp6 w.heap.size (s.size+rep.size) W3 hfr3 hbw3.size oA
     go_fit cG
     rintro e W4 ⟨rfl,⟨h4,b4⟩,p4,cap4,hc4,hcap4⟩
     have hxs:(s.extract 0 pos).size=pos:=by rw[Lib.size_eq,Lib.extract_data,List.length_take,List.length_drop,ac];omega
     have hxd:(s.extract 0 pos).data.toList=s.data.toList.take pos:=by rw[Lib.extract_data];simp
     have cW:=q55 w.heap.size [] (s.extract 0 pos) W4 (Lib.IsBuilderF.of (Or.inr h4)) (by rw[hxs];simp;omega) (Nat.le_trans hbw3.size b4.size)
     go_wp2_with (go_at_call 29;go_must (refine cW.mono ?_;rintro e W5 ⟨rfl,⟨h5w,b5,-⟩,hcp⟩))
     have hb5:Below w.heap.size w W5:=(hbw3.trans b4).trans b5;have hcells:[]++Lib.strCells (s.extract 0 pos)=Lib.byteCells (s.data.toList.take pos):=by
      rw[List.nil_append,Lib.strCells_eq,hxd]
     rw[hcells]at h5w;obtain⟨p5,n5,cap5,hc5,hcap5⟩:∃p5 n5 cap5,W5.cell? ⟨w.heap.size,1,none⟩=some (.slice p5 n5 cap5)/\1<=cap5:=by
      obtain⟨v1,hv1,hle⟩:=hcp _ hc4;obtain⟨_,v6,hv6,hown6,_⟩:=h5w;have hv:W5.cell? ⟨w.heap.size,1,none⟩=some v6:=by rw[Lib.cell_of_heap hv6];rfl
      rw[hv1]at hv;have:=qJ hv;subst this;have hle:cap4<=v1.capOf:=hle;rcases hown6.2 with⟨rfl,h0⟩|⟨g6,cap6,_,_,rfl,_⟩
      ·have:cap4<=0:=hle;omega
      ·have:cap4<=cap6:=hle;exact⟨_,_,cap6,hv1,oA⟩
     clear hcp hc4;have hcapz:¬((cap5:Int)=0):=oA
     have hcapb:((cap5:Int)==0)=false:=by simp;omega
     have cC:=zaw w.heap.size p5 n5 cap5 W5 hc5;obtain⟨s2,hs2⟩:∃s2,s.extract pos s.size=s2:=⟨_,rfl⟩;have hl2:s2.data.toList=s.data.toList.drop pos:=by
      rw[← hs2,Lib.extract_data,List.take_of_length_le (by rw[List.length_drop,ac];omega)]
     have hz2:s2.size=s.size-pos:=by rw[Lib.size_eq,hl2,List.length_drop,ac]
     go_wp2_with (go_at_call 247;go_must (refine cC.mono ?_;rintro e W6 ⟨rfl,rfl⟩))
     have hrl:rep.data.toList.length=rep.size:=(Lib.size_eq rep).symm
     go_loopg [10,11] s2.size (fun gk s10 s11 wx=>∃(p2:Nat)(acc:List UInt8)(inv:Bool),s10 = .bool inv/\s11 = .int .i64 p2/\Lib.IsBuilderF 70 5 w.heap.size w.heap.size (Lib.byteCells acc) wx/\Below w.heap.size w wx /\
      acc++vu rep.data.toList (s2.size-p2) inv (s2.data.toList.drop p2)=ANS/\s2.size<=p2+gk/\p2<=s2.size/\acc.length<=pos+1001*p2)
     case atStart=>
      refine⟨0,s.data.toList.take pos,false,rfl,rfl,Or.inr h5w,hb5,?_,oA,oA,?_⟩
      ·rw[List.drop_zero,hl2,hz2];exact hs0
      ·rw[List.length_take,ac];omega
     case round=>
      obtain⟨p2,acc,inv,rfl,rfl,hI,hbw,hacc,hfu2,hp2,hal⟩:=hrel;have hbs:w.heap.size<=wr.heap.size:=hbw.size;by_cases hlt2:p2<s2.size
      ·obtain⟨g2,rfl⟩:∃g2,gk=g2+1:=⟨gk-1,oA⟩
       have hne2:s2.data.toList.drop p2≠[]:=by
        intro h0;have:=congrArg List.length h0;rw[List.length_drop,← Lib.size_eq,qZ]at this;omega
       have hwd2:=Lib.width_pos s2 p2;have hwn2:p2+(Utf8.decode s2 p2).2<=s2.size:=by
        have:=Lib.decodeL_le _ hne2;rw[Lib.decodeL_drop,List.length_drop,← Lib.size_eq]at this;omega
       have hgood:=qul rep.data.toList (s2.size-p2-1) inv _ hne2;have hbad:=q50 rep.data.toList (s2.size-p2-1) inv _ hne2;have hdg:=zbp s2 p2 hlt2;have hlow:=zon s2 p2 hlt2;have hhigh:=zom s2 p2 hlt2;rw[Lib.decodeL_drop,List.drop_drop,show s2.size-p2-1+1=s2.size-p2 by omega]at hgood hbad
       have hl3:s2.data.toList.length=s2.size:=(Lib.size_eq s2).symm;obtain⟨c,hc⟩:∃c,s2[p2]'hlt2=c:=⟨_,rfl⟩;have hd2:p2<s2.data.size:=hlt2;have hcd:s2.data[p2]'hd2=c:=hc;have hcg:s2.get! p2=c:=by
        show s2.data[p2]! = c;rw[getElem!_pos s2.data p2 hd2];exact hcd
       rw[hcg]at hlow hhigh;obtain⟨R2,hR2⟩:∃R2,(Utf8.decode s2 p2).1=R2:=⟨_,rfl⟩;obtain⟨K2,hK2⟩:∃K2,(Utf8.decode s2 p2).2=K2:=⟨_,rfl⟩;rw[hK2]at hwd2 hwn2;have HG:Aside (¬(R2=65533/\K2=1)->(acc++(s2.data.toList.drop p2).take K2)++vu rep.data.toList (s2.size-(p2+K2)) false (s2.data.toList.drop (p2+K2))=ANS):=by
        intro h;rw[← hacc,hgood (by rw[hR2,hK2];exact h),hK2,qS]
        congr 2;exact qgi _ _ _ _ _ (by rw[List.length_drop,hl3];omega) (by rw[List.length_drop,hl3];omega)
       have HB:Aside (R2=65533/\K2=1->(acc++(if inv then[] else rep.data.toList))++vu rep.data.toList (s2.size-(p2+1)) true (s2.data.toList.drop (p2+1))=ANS):=by
        intro h;rw[← hacc,hbad (by rw[hR2,hK2];exact h),qS]
        congr 2
       have hxl:(s2.extract p2 (p2+K2)).data.toList=(s2.data.toList.drop p2).take K2:=by
        rw[Lib.extract_data,Nat.add_sub_cancel_left]
       have hxz:(s2.extract p2 (p2+K2)).size=K2:=by rw[Lib.size_eq,hxl,List.length_take,List.length_drop,hl3];omega
       have hcl:acc.length<=1001000000:=oA
       have hbl:(Lib.byteCells acc).length=acc.length:=Lib.byteCells_length acc;clear hgood hbad hacc hs0;have H1:Aside (s2.data.toList.length=s2.size/\(s2.extract p2 (p2+K2)).data.toList=(s2.data.toList.drop p2).take K2/\(Lib.byteCells acc).length=acc.length/\rep.data.toList.length=rep.size):=⟨hl3,hxl,hbl,hrl⟩;have H2:Aside (c.toNat<128->R2=c.toNat/\K2=1):=fun h=>by
        have hd:=hlow h;rw[hd]at hR2 hK2;exact⟨hR2.symm,hK2.symm⟩
       have H3:Aside (¬c.toNat<128->K2=1->R2=65533):=fun h hk=>by
        have:=hhigh h (by rw[hK2];exact hk)
        rw[← hR2];exact this
       have H4:Aside ((List.drop p2 s2.data.toList).take 1=[c]):=by
        show _=_;have hlt':p2<s2.data.toList.length:=by rw[hl3];exact hlt2
        rw[List.drop_eq_getElem_cons hlt',List.take_succ_cons,List.take_zero,Array.getElem_toList,hcd]
       have cD:=zbk (s2.extract p2 s2.size) wr (Utf8Tabs_below hT hbw);rw[hdg,hR2,hK2]at cD;have hsz2:s2.size<=s.size:=by rw[hz2];exact Nat.sub_le _ _
       have HW1:Aside (wrap64 ((p2:Int)+1)=(p2:Int)+1):=zzr _ (Nat.le_trans hlt2 (Nat.le_trans hsz2 (Nat.le_trans hs oE)))
       have HWK:Aside (wrap64 ((p2:Int)+(K2:Int))=(p2:Int)+(K2:Int)):=zzq _ _ (Nat.le_trans hwn2 (Nat.le_trans hsz2 (Nat.le_trans hs oE)))
       have HM:Aside (s2.size<=p2+1+g2/\s2.size<=p2+K2+g2/\acc.length+1<=pos+1001*(p2+1)/\acc.length+rep.size<=pos+1001*(p2+1)/\acc.length+K2<=pos+1001*(p2+K2)/\acc.length<=pos+1001*(p2+1)/\acc.length+1<=140737488355328/\acc.length+rep.size<=140737488355328/\acc.length+K2<=140737488355328):=by
        refine⟨?_,?_,?_,?_,?_,?_,?_,?_,?_⟩<;>omega
       clear hal hcl hfu2;clear hcd hcg hlow hhigh hdg hR2 hK2 hl3 hxl hbl hrl hs2 hl2 ac hne2 hz2 hxs hxd hcells hne hR hK;by_cases h128:c.toNat<128
       ·
        obtain⟨_,hk1⟩:=H2.out h128;subst hk1;have H5:Aside (acc++[c]++vu rep.data.toList (s2.size-(p2+1)) false (List.drop (p2+1) s2.data.toList)=ANS):=by
         have:=HG.out oA
         rw[H4.out]at this;exact this
        have cB:=zzn w.heap.size (Lib.byteCells acc) c.toNat wr hI (by rw[H1.out.2.2.1];exact HM.out.2.2.2.2.2.2.1) hbs
        clear HG HB H2 H3 H4 cD;have h128z:(c.toNat:Int)<128:=oA
        go_wp2_with (go_at_call 32;go_must (refine cB.mono ?_;rintro e W7 ⟨rfl,h7,b7,k7⟩))
        go_roundg g2
        case measure=>exact Nat.lt_succ_self _
        case rel=>
         refine⟨p2+1,acc++[c],false,rfl,by first|exact rm p2|exact(congrArg (Value.int .i64) HW1.out).trans (rm p2),Or.inr ?_,hbw.trans b7,H5.out,HM.out.1,hlt2,by rw[qM];exact HM.out.2.2.1⟩
         rw[Lib.byteCells_append];exact h7
       ·have h128z:¬((c.toNat:Int)<128):=oA
        by_cases hk:K2=1
        ·have hr2:=H3.out h128 hk;have H5:Aside ((acc++(if inv then[] else rep.data.toList))++vu rep.data.toList (s2.size-(p2+1)) true (List.drop (p2+1) s2.data.toList)=ANS):=HB.out ⟨hr2,hk⟩
         have hkz:(K2:Int)=1:=oA
         have hkb:((K2:Int)==1)=true:=by simp[hkz]
         clear HG HB H2 H3 H4
         cases inv with
         |true=>
          go_wp2_with (go_at_call 94;go_must (refine cD.mono ?_;rintro e W7 ⟨rfl,b7⟩))
          go_roundg g2
          case measure=>exact Nat.lt_succ_self _
          case rel=>
           refine⟨p2+1,acc,true,rfl,by first|exact rm p2|exact(congrArg (Value.int .i64) HW1.out).trans (rm p2),q1f hI b7,hbw.trans (b7.mono hbs),?_,HM.out.1,hlt2,HM.out.2.2.2.2.2.1⟩
           have h:(acc++[])++vu rep.data.toList (s2.size-(p2+1)) true (List.drop (p2+1) s2.data.toList)=ANS:=H5.out;rw[List.append_nil]at h;exact h
         |false=>
          go_wp2_with (go_at_call 94;go_must (refine cD.mono ?_;rintro e W7 ⟨rfl,b7⟩))
          have cW:=q55 w.heap.size (Lib.byteCells acc) rep W7 (q1f hI b7) (by rw[H1.out.2.2.1];exact HM.out.2.2.2.2.2.2.2.1) (Nat.le_trans hbs b7.size)
          go_wp2_with (go_at_call 29;go_must (refine cW.mono ?_;rintro e W8 ⟨rfl,⟨h8,b8,-⟩,-⟩))
          go_roundg g2
          case measure=>exact Nat.lt_succ_self _
          case rel=>
           refine⟨p2+1,acc++rep.data.toList,true,rfl,by first|exact rm p2|exact(congrArg (Value.int .i64) HW1.out).trans (rm p2),Or.inr ?_,(hbw.trans (b7.mono hbs)).trans b8,?_,HM.out.1,hlt2,by rw[qM,H1.out.2.2.2];exact HM.out.2.2.2.1⟩
           ·rw[Lib.byteCells_append,← Lib.strCells_eq];exact h8
           ·have h:(acc++rep.data.toList)++vu rep.data.toList (s2.size-(p2+1)) true (List.drop (p2+1) s2.data.toList)=ANS:=H5.out;exact h
        ·have hkz:¬((K2:Int)=1):=oA
         have hkb:((K2:Int)==1)=false:=by simp;omega
         have H5:=HG.out (fun h=>hk h.2)
         go_wp2_with (go_at_call 94;go_must (refine cD.mono ?_;rintro e W7 ⟨rfl,b7⟩))
         have cW:=q55 w.heap.size (Lib.byteCells acc) (s2.extract p2 (p2+K2)) W7 (q1f hI b7) (by rw[H1.out.2.2.1,hxz];exact HM.out.2.2.2.2.2.2.2.2) (Nat.le_trans hbs b7.size)
         go_wp2_with (go_at_call 29;go_must (refine cW.mono ?_;rintro e W8 ⟨rfl,⟨h8,b8,-⟩,-⟩))
         go_roundg g2
         case measure=>exact Nat.lt_succ_self _
         case rel=>
          refine⟨p2+K2,acc++(s2.data.toList.drop p2).take K2,false,rfl,by first|exact vI p2 K2|exact(congrArg (Value.int .i64) HWK.out).trans (vI p2 K2),Or.inr ?_,(hbw.trans (b7.mono hbs)).trans b8,H5,HM.out.2.1,hwn2,?_⟩
          ·rw[Lib.byteCells_append,← H1.out.2.1,← Lib.strCells_eq];exact h8
          ·rw[qM,← H1.out.2.1,← Lib.size_eq,hxz];exact HM.out.2.2.2.2.1
      ·
       obtain rfl:p2=s2.size:=oA
       have cS:=zxq w.heap.size acc wr hI hbs
       go_wp2_with (go_at_call 33;go_must (refine cS.mono ?_;rintro e W8 ⟨rfl,_,b8⟩))
       go_ret
       refine⟨?_,hbw.trans b8⟩;rw[Lib.size_eq,List.drop_length,za,List.append_nil]at hacc;subst hacc;rfl
    ·have hkz:¬((K:Int)=1):=oA
     have hkb:((K:Int)==1)=false:=by simp;omega
     have hs3:=HS.out (fun h=>hk h.2)
     go_wp2_with (go_at_call 94;go_must (refine cD.mono ?_;rintro e W3 ⟨rfl,b3⟩))
     go_roundg g'
     case measure=>omega
     case rel=>exact⟨rfl,pos+K,(b3.block _ (by show _<W.heap.size;omega)).trans hfr2,(b3.block _ (by show _<W.heap.size;omega)).trans hit2,hbw2.trans (b3.mono (by show _<=W.heap.size;omega)),hs3,oA,hwn⟩
   ·have h5':¬((R:Int)=65533):=oA
    have hs3:=HS.out (fun h=>h5 h.1)
    go_wp2
    go_roundg g'
    case measure=>omega
    case rel=>exact⟨rfl,pos+K,hfr2,hit2,hbw2,hs3,oA,hwn⟩
  ·
   obtain rfl:pos=s.size:=oA
   have hnx:∀ty,(Instr.next (.pointer (some ⟨w.heap.size+1,0,none⟩)) true ty).run Tryz.prog wr=_:=fun ty=>Lib.run_next_end_at wr (w.heap.size+1) s s.size ty hit hlt
   have cC:=zaw w.heap.size none 0 0 wr (by rw[Lib.cell_of_heap hfr];rfl)
   go_wp2_with (go_at_call 247;go_must (refine cC.mono ?_;rintro e W' ⟨rfl,rfl⟩))
   go_ret
   refine⟨?_,hbw⟩;rw[← hsp,← ac,List.drop_length,List.take_length,za,List.append_nil];rfl
end Go.Proofs.ToValid
namespace Go.Sym
open Go.Proofs Go.RowKit
open Go.Proofs.Tryz
variable[LC]
def qe0(t:List UInt8):Bool:=(List.range 256).all fun c=>match t[c]? with|some x=>Nat.beq x.toNat (Lib.firstT c)|none=>false
def qe1(t:List (UInt8×UInt8)):Bool:=(List.range 16).all fun c=>match t[c]? with|some x=>Nat.beq x.1.toNat (Lib.accLo c)&&Nat.beq x.2.toNat (Lib.accHi c)|none=>false
def zhn{G:Gh}{w:World}(hm:dd G [] w){t0:List UInt8}{t1:List (UInt8×UInt8)}(h0:LC.glob 0=some ⟨.byte,t0⟩)(h1:LC.glob 1=some ⟨.prod .byte .byte,t1⟩)(e0:qe0 t0=true)(e1:qe1 t1=true):Lib.Utf8Tabs 0 1 w:=by
 refine⟨fun c hc => ?_,fun i hi => ?_⟩
 ·have h:=List.all_eq_true.1 e0 c (List.mem_range.2 hc)
  cases hx:t0[c]? with
  |none=>rw[hx]at h;cases h
  |some x=>
   rw[hx]at h;have ha:G.imm 0 (c*1)=some (.int .u8 x.toNat):=hm.tab.1 _ _ _ h0 c x hx;rw[Nat.mul_one]at ha;rw[hm.agree _ _ _ ha,qN h]
 ·have h:=List.all_eq_true.1 e1 i (List.mem_range.2 hi)
  cases hx:t1[i]? with
  |none=>rw[hx]at h;cases h
  |some x=>
   rw[hx]at h;simp only[qA]at h;have ha:G.imm 1 (i*2)=some (.int .u8 x.1.toNat)/\G.imm 1 (i*2+1)=some (.int .u8 x.2.toNat):=hm.tab.1 _ _ _ h1 i x hx;rw[Nat.mul_comm]at ha;exact⟨by rw[hm.agree _ _ _ ha.1,qN h.1],by rw[hm.agree _ _ _ ha.2,qN h.2]⟩
def zyk{G:Gh}{w:World}(hm:dd G [] w){t0:List UInt8}{t1:List (UInt8×UInt8)}(h0:LC.glob 0=some ⟨.byte,t0⟩)(h1:LC.glob 1=some ⟨.prod .byte .byte,t1⟩)(e0:qe0 t0=true)(e1:qe1 t1=true)(s o:Bs)(d1:s.length<=1000000)(d2:o.length<=1000) :
  Calls Tryz.prog 220 #[.string ⟨s.toArray⟩,.string ⟨o.toArray⟩] w fun e w'=>e = .returned (.string ⟨(vu o s.length false s).toArray⟩)/\ch w w':=by
 refine(ToValid.tovalid ⟨s.toArray⟩ ⟨o.toArray⟩ w (by rw[jl];exact d1) (by rw[jl];exact d2) (zhn hm h0 h1 e0 e1)).mono ?_
 rintro e w' ⟨rfl,hw⟩
 exact⟨by rw[jl],ch.of_below hw⟩
def zg9:IF:=⟨.fn 220,[.h .str,.h .str],[],_,RS.mk (.h .str) []⟩
def zyl{t0:List UInt8}{t1:List (UInt8×UInt8)}(h0:LC.glob 0=some ⟨.byte,t0⟩)(h1:LC.glob 1=some ⟨.prod .byte .byte,t1⟩)(e0:qe0 t0=true)(e1:qe1 t1=true):(zg9.e qaw).Sound Tryz.prog:=fun d d' r h=>by
 obtain⟨s,o,_⟩:=d;have h:qaw s o=some r:=h;unfold qaw at h;cases hd:decide (List.length (α:=UInt8) s<=1000000/\List.length (α:=UInt8) o<=1000)<;>rw[hd]at h<;>simp only[qT,qF,reduceCtorEq]at h
 have h:=qJ h;subst h;obtain⟨d1,d2⟩:=of_decide_eq_true hd;refine⟨call220,d9.data fun w G vs hm hr => ?_⟩
 match vs,hr with
 |[u,v],⟨h1',h2',_⟩=>
  have h1':u = .string ⟨s.toArray⟩:=h1';have h2':v = .string ⟨o.toArray⟩:=h2';subst h1' h2';exact(zyk hm h0 h1 e0 e1 s o d1 d2).mono fun e w'⟨he,hw⟩=>⟨_,he,rfl,hw⟩
def zy7{G:Gh}{w:World}(hm:dd G [] w){t0:List UInt8}{t1:List (UInt8×UInt8)}(h0:LC.glob 0=some ⟨.byte,t0⟩)(h1:LC.glob 1=some ⟨.prod .byte .byte,t1⟩)(e0:qe0 t0=true)(e1:qe1 t1=true)(s:Bs)(d1:s.length<=9223372036854775807) :
  Calls Tryz.prog 83 #[.string ⟨s.toArray⟩] w fun e w'=>e = .returned (.bool (Lib.validD s))/\ch w w':=by
 refine(Any.utf8_ValidString Tryz.lays196 ⟨s.toArray⟩ w (by rw[jl];exact d1) (zhn hm h0 h1 e0 e1)).mono ?_
 rintro e w' ⟨rfl,hw⟩
 exact⟨rfl,ch.of_below hw⟩
def zhq:IF:=⟨.fn 83,[.h .str],[],_,RS.mk (.h .bool) []⟩
def zy9{t0:List UInt8}{t1:List (UInt8×UInt8)}(h0:LC.glob 0=some ⟨.byte,t0⟩)(h1:LC.glob 1=some ⟨.prod .byte .byte,t1⟩)(e0:qe0 t0=true)(e1:qe1 t1=true):(zhq.e qaz).Sound Tryz.prog:=fun d d' r h=>by
 obtain⟨s,_⟩:=d;have h:qaz s=some r:=h;unfold qaz at h;cases hd:decide (List.length (α:=UInt8) s<=9223372036854775807)<;>rw[hd]at h<;>simp only[qT,qF,reduceCtorEq]at h
 have h:=qJ h;subst h;have d1:=of_decide_eq_true hd;refine⟨call83,d9.data fun w G vs hm hr => ?_⟩
 match vs,hr with
 |[u],⟨h1',_⟩=>
  have h1':u = .string ⟨s.toArray⟩:=h1';subst h1';exact(zy7 hm h0 h1 e0 e1 s d1).mono fun e w'⟨he,hw⟩=>⟨_,he,rfl,hw⟩
end Go.Sym
namespace Go.Sym
open Go.RowKit
variable[LC]
section
variable{P:Program}{vcg:World}{vcb:Gh}{vcd:List (Nat×ah)}{G:Gh}{s:St}{a:Act}{w:World}
end
end Go.Sym
set_option linter.unusedVariables false
namespace Go.Proofs.Repl
open Go.Shelf Go.RowKit Go.Lib Go.Sym
def rv(a b:UInt8)(ga gb ca cb:Nat)(c:UInt8):Value:=if c=a then .slice (some ⟨ga,0,none⟩) 2 ca else if c=b then .slice (some ⟨gb,0,none⟩) 2 cb else .slice none 0 0
structure ly(R:Nat)(a b a1 a2 b1 b2:UInt8)(w:World):Prop where
 ex:∃ga gb gt ca cb ct,(∀c:UInt8,w.cell? ⟨R,c.toNat,none⟩=some (rv a b ga gb ca cb c))/\w.cell? ⟨R,256,none⟩=some (.slice (some ⟨gt,0,none⟩) 2 ct) /\
  w.cell? ⟨gt,0,none⟩=some (.string ⟨#[b]⟩)/\w.cell? ⟨gt,1,none⟩=some (.string ⟨#[a]⟩) /\
  w.cell? ⟨ga,0,none⟩=some (.int .u8 a1.toNat)/\w.cell? ⟨ga,1,none⟩=some (.int .u8 a2.toNat)/\w.cell? ⟨gb,0,none⟩=some (.int .u8 b1.toNat)/\w.cell? ⟨gb,1,none⟩=some (.int .u8 b2.toNat)
def ly.below{R:Nat}{a b a1 a2 b1 b2:UInt8}{w w':World}(h:ly R a b a1 a2 b1 b2 w)(hb:Below w.heap.size w w'):ly R a b a1 a2 b1 b2 w':=by
 have k:∀{p:Addr}{v:Value},w.cell? p=some v->w'.cell? p=some v:=fun{p v} hc=>(hb.cell (World.block_lt_of_cell? _ _ hc)).trans hc
 obtain⟨ga,gb,gt,ca,cb,ct,h1,h2,h3,h4,h5,h6,h7,h8⟩:=h.ex;exact⟨ga,gb,gt,ca,cb,ct,fun c=>k (h1 c),k h2,k h3,k h4,k h5,k h6,k h7,k h8⟩
def za9(s:ByteArray)(c:UInt8)(w:World) :
  Calls Tryz.prog 91 #[.string s,.string ⟨#[c]⟩] w fun e w'=>e = .returned (.int .i64 (Lib.countByte s.data.toList c))/\w'=w:=
 Any.strings_Count_one Tryz.lays138 s c w
def zvw{w:World}{g:Nat}{t:TypeId}{N:Nat}{f:Nat->Value}{cur:Array Value}(hg:w.heap[g]? = some (.cells cur t (0,0)))(hz:cur.size=N)(hc:∀i,i<N->cur[i]? = some (f i)){j:Nat}(hj:j+2<=N)(v1 v2:Value) :
  (w.setRow g (cur.toList.take j++[v1,v2]++cur.toList.drop (j+2)).toArray).rowIs g t N (fun i=>if i=j then v1 else if i=j+1 then v2 else f i):=by
 have hl:cur.toList.length=N:=by simpa using hz
 refine⟨_,setRow_heap w g cur _ t _ hg,oB,fun i hi => ?_⟩
 simp only[List.getElem?_toArray];rw[qS];by_cases h1:i<j
 ·rw[List.getElem?_append_left oB,List.getElem?_take,qX h1,qW oA,qW oA,← hc i hi];simp
 ·rw[List.getElem?_append_right oB,show(cur.toList.take j).length=j by simp;omega]
  by_cases h2:i=j
  ·subst h2;simp
  ·by_cases h3:i=j+1
   ·subst h3;rw[qW h2,qX rfl,show j+1-j=1 by omega];rfl
   ·rw[qW h2,qW h3,List.getElem?_append_right oB,List.getElem?_drop,← hc i hi]
    simp;congr 1;omega
def mb(b o n:Nat):(⟨b,o,none⟩:Addr).add n=⟨b,o+n,none⟩:=by unfold Addr.add;split<;>simp_all
def za7{w:World}{G ga j M c:Nat}{f:Nat->Value}{x1 x2:UInt8}(hrow:w.rowIs G 5 M f)(hj:j+2<=M)(h0:w.cell? ⟨ga,0,none⟩=some (.int .u8 x1.toNat))(h1:w.cell? ⟨ga,1,none⟩=some (.int .u8 x2.toNat)) :
  ∃ROW,(Builtin.copy_ #[23,23] 3 #[.slice (some ⟨G,j,none⟩) (M-j) (M-j),.slice (some ⟨ga,0,none⟩) 2 c]).run Tryz.prog w = .ok (.int .i64 2) (w.setRow G ROW) /\
   (w.setRow G ROW).rowIs G 5 M (fun i=>if i=j then .int .u8 x1.toNat else if i=j+1 then .int .u8 x2.toNat else f i):=by
 obtain⟨cur,k1,k2,k3⟩:=hrow;refine⟨_,?_,zvw k1 k2 k3 hj _ _⟩;exact run_copy_row (P:=Tryz.prog) w 23 23 3 5 G j (M-j) (M-j) ⟨ga,0,none⟩ 2 c cur 5 [.int .u8 x1.toNat,.int .u8 x2.toNat] Tryz.underlying23 oD k1
  (by show 2=Nat.min 2 (M-j);exact(Nat.min_eq_left oA).symm)
  (fun i v hv=>by
   rw[mb]
   match i,hv with
   |0,hv=>cases hv;exact h0
   |1,hv=>cases hv;exact h1
   | i+2,hv=>cases hv)
  (by show j+2<=cur.size;omega) (fun v hv=>by
   rcases List.mem_cons.1 hv with rfl|hv
   ·rfl
   ·rcases List.mem_cons.1 hv with rfl|hv
    ·rfl
    ·cases hv)
def bv(l:Bs)(j:Nat):Value := .int .u8 (l.getD j 0).toNat
def zap(l m:Bs)(j:Nat)(h:j<l.length):bv (l++m) j=bv l j:=by unfold bv;rw[List.getD_eq_getElem?_getD,List.getD_eq_getElem?_getD,List.getElem?_append_left h]
def zao(l m:Bs)(c:UInt8):bv (l++c::m) l.length = .int .u8 c.toNat:=by unfold bv;rw[List.getD_eq_getElem?_getD,List.getElem?_append_right (wF _),Nat.sub_self];rfl
def znu(l m:Bs)(c d:UInt8):bv (l++c::d::m) (l.length+1) = .int .u8 d.toNat:=by unfold bv;rw[List.getD_eq_getElem?_getD,List.getElem?_append_right oA,show l.length+1-l.length=1 by omega];rfl
def qle(l:Bs)(j:Nat)(h:l.length<=j:=by omega):bv l j = .int .u8 0:=by unfold bv;rw[List.getD_eq_getElem?_getD,List.getElem?_eq_none h];rfl
def zaq(l:Bs)(c d:UInt8)(i:Nat):(if i=l.length then Value.int .u8 c.toNat else if i=l.length+1 then .int .u8 d.toNat else bv l i)=bv (l++[c,d]) i:=by
 by_cases h:i<l.length
 ·rw[qW oA,qW oA,zap _ _ _ h]
 ·by_cases h1:i=l.length
  ·subst h1;rw[qX rfl,zao]
  ·by_cases h2:i=l.length+1
   ·subst h2;rw[qW h1,qX rfl,znu]
   ·rw[qW h1,qW h2,qle _ _,qle _ _ oB]
def znv(l:Bs)(c:UInt8)(i:Nat):(if i=l.length then Value.int .u8 c.toNat else bv l i)=bv (l++[c]) i:=by
 by_cases h:i<l.length
 ·rw[qW oA,zap _ _ _ h]
 ·by_cases h1:i=l.length
  ·subst h1;rw[qX rfl,zao]
  ·rw[qW h1,qle _ _,qle _ _ oB]
def vI2(p:Nat):Value.int .i64 ((p:Int)+2) = .int .i64 ((p+2:Nat):Int):=by rw[Int.natCast_add];rfl
def rm(p:Nat):Value.int .i64 ((p:Int)+1) = .int .i64 ((p+1:Nat):Int):=by rw[Int.natCast_add];rfl
def zh1(n:Nat)(h:n<=4000000:=by omega):wrap64 (n:Int)=(n:Int):=by unfold wrap64;omega
def zsr(p:Addr)(n c:Nat)(w:World):(binOp .neq 23 (.slice (some p) n c) (.slice none 0 0)).run Tryz.prog w = .ok (.bool true) w:=oD
def zsq(w:World):(binOp .neq 23 (.slice none 0 0) (.slice none 0 0)).run Tryz.prog w = .ok (.bool false) w:=oD
def zph(p:Addr)(n c:Nat)(w:World):(binOp .eql 23 (.slice (some p) n c) (.slice none 0 0)).run Tryz.prog w = .ok (.bool false) w:=oD
def zpg(w:World):(binOp .eql 23 (.slice none 0 0) (.slice none 0 0)).run Tryz.prog w = .ok (.bool true) w:=oD
set_option maxHeartbeats 4000000 in
set_option maxRecDepth 1000000 in
def zno(R:Nat)(a b a1 a2 b1 b2:UInt8)(s:ByteArray)(w:World)(hab:a≠b)(hs:s.size<=1000000)(hB:ly R a b a1 a2 b1 b2 w) :
  Calls Tryz.prog 350 #[.pointer (some ⟨R,0,none⟩),.string s] w fun e w'=>e = .returned (.string ⟨(e7 a b [a1,a2] [b1,b2] s.data.toList).toArray⟩)/\Below w.heap.size w w':=by
 obtain⟨ga,gb,gt,ca,cb,ct,-,hT,ht0,ht1,-⟩:=hB.ex;obtain⟨L,hL⟩:∃L,s.data.toList=L:=⟨_,rfl⟩;have ac:L.length=s.size:=by rw[← hL];exact(Lib.size_eq s).symm
 rw[hL];have HB:Aside (ly R a b a1 a2 b1 b2 w):=hB;clear hB;have cBc:=fun w=>za9 s b w
 have cAc:=fun w=>za9 s a w
 rw[hL]at cBc cAc;obtain⟨Z,hZ⟩:∃Z,js a b L=Z:=⟨_,rfl⟩;have HZ:Aside (js a b L=Z):=hZ;have hZ2:Z<=2000000:=by
  rw[← hZ];unfold js;have h1:=List.count_le_length (a:=a) (l:=L);have h2:=List.count_le_length (a:=b) (l:=L);omega
 clear hZ;obtain⟨M,hM⟩:∃M,s.size+Z=M:=⟨_,rfl⟩;have HM:Aside (s.size+Z=M):=hM;have hMb:M<=3000000:=oA
 clear hM;have hn1:=zsr;have hn2:=zsq
 go_enter Tryz.func350,Tryz.ntmps350
 go_upto_if 26 with(fail)
 go_cut [5,6] (fun s5 s6 wx=>s5 = .int .i64 (M:Nat)/\s6 = .bool (decide (0<Z))/\Below w.heap.size w wx)
 case first=>
  obtain⟨X,hX⟩:∃X,L.count b=X:=⟨_,rfl⟩;obtain⟨Y,hY⟩:∃Y,L.count a=Y:=⟨_,rfl⟩;have HXY:Aside (Z=Y+X):=by show Z=Y+X;rw[← HZ.out];unfold js;rw[hX,hY]
  have hXl:X<=s.size:=by rw[← hX,← ac];exact List.count_le_length
  have hYl:Y<=s.size:=by rw[← hY,← ac];exact List.count_le_length
  have cBc:∀w,Calls Tryz.prog 91 #[.string s,.string ⟨#[b]⟩] w fun e w'=>e = .returned (.int .i64 (X:Nat))/\w'=w:=fun w=>by rw[← hX];exact cBc w
  have cAc:∀w,Calls Tryz.prog 91 #[.string s,.string ⟨#[a]⟩] w fun e w'=>e = .returned (.int .i64 (Y:Nat))/\w'=w:=fun w=>by rw[← hY];exact cAc w
  clear hX hY
  go_wp2
  ·rename_i h16;clear h16
   go_loopg [5,6,32] 2 (fun gk s5 s6 s32 wx=>Below w.heap.size w wx/\((s32 = .int .i64 0/\s5 = .int .i64 (s.size:Nat)/\s6 = .bool false/\gk=2)\/(s32 = .int .i64 1/\s5 = .int .i64 ((s.size+X:Nat):Int)/\s6 = .bool (decide (0<X))/\gk=1)\/(s32 = .int .i64 2/\s5 = .int .i64 ((s.size+(Y+X):Nat):Int)/\s6 = .bool (decide (0<Y+X))/\gk=0)))
   case atStart=>exact⟨Below.refl _ _,Or.inl ⟨rfl,rfl,rfl,rfl⟩⟩
   case round=>
    obtain⟨hbw,h⟩:=hrel;have ht0':wr.cell? ⟨gt,0,none⟩=some (.string ⟨#[b]⟩):=(hbw.cell (World.block_lt_of_cell? _ _ ht0)).trans ht0;have ht1':wr.cell? ⟨gt,1,none⟩=some (.string ⟨#[a]⟩):=(hbw.cell (World.block_lt_of_cell? _ _ ht1)).trans ht1;clear ht0 ht1;rcases h with⟨rfl,rfl,rfl,rfl⟩|⟨rfl,rfl,rfl,rfl⟩|⟨rfl,rfl,rfl,rfl⟩
    ·have cX:=cBc wr;by_cases h0:X=0
     ·subst h0
      go_wp2_with (go_at_call 91;go_must (refine cX.mono ?_;rintro e W1 ⟨rfl,rfl⟩))
      go_roundg 1
      case measure=>omega
      case rel=>exact⟨hbw,Or.inr (Or.inl ⟨rfl,rfl,rfl,rfl⟩)⟩
     ·have hz:¬((X:Int)=0):=oA
      obtain⟨ga',gb',gt',ca',cb',ct',hR,-⟩:=(HB.out.below hbw).ex;have hRb:wr.cell? ⟨R,b.toNat,none⟩=some (.slice (some ⟨gb',0,none⟩) 2 cb'):=by rw[hR b];unfold rv;rw[qW (fun h=>hab h.symm),qX rfl]
      clear hR;have g0:∀h,(⟨#[b]⟩:ByteArray)[0]'h=b:=fun _=>rfl
      have g1:(b.toNat:Int)<256:=by have:=b.toNat_lt;omega
      go_wp2_with (go_at_call 91;go_must (refine cX.mono ?_;rintro e W1 ⟨rfl,rfl⟩))
      go_region
      all_goals go_wp2
      go_roundg 1
      case measure=>omega
      case rel=>exact⟨hbw.drew,Or.inr (Or.inl ⟨rfl,congrArg _ oA,by rw[decide_eq_true (Nat.pos_of_ne_zero h0)],rfl⟩)⟩
    ·have cX:=cAc wr;by_cases h0:Y=0
     ·subst h0
      go_wp2_with (go_at_call 91;go_must (refine cX.mono ?_;rintro e W1 ⟨rfl,rfl⟩))
      go_roundg 0
      case measure=>omega
      case rel=>exact⟨hbw,Or.inr (Or.inr ⟨rfl,congrArg _ oA,by rw[wO],rfl⟩)⟩
     ·have hz:¬((Y:Int)=0):=oA
      obtain⟨ga',gb',gt',ca',cb',ct',hR,-⟩:=(HB.out.below hbw).ex;have hRb:wr.cell? ⟨R,a.toNat,none⟩=some (.slice (some ⟨ga',0,none⟩) 2 ca'):=by rw[hR a];unfold rv;rw[qX rfl]
      clear hR;have g0:∀h,(⟨#[a]⟩:ByteArray)[0]'h=a:=fun _=>rfl
      have g1:(a.toNat:Int)<256:=by have:=a.toNat_lt;omega
      go_wp2_with (go_at_call 91;go_must (refine cX.mono ?_;rintro e W1 ⟨rfl,rfl⟩))
      go_region
      all_goals go_wp2
      go_roundg 0
      case measure=>omega
      case rel=>exact⟨hbw.drew,Or.inr (Or.inr ⟨rfl,congrArg _ oA,by rw[decide_eq_true (show 0<Y+X by omega)],rfl⟩)⟩
    ·go_wp2
     go_meet
     case rel=>exact⟨by rw[← HM.out,HXY.out],by rw[HXY.out],hbw⟩
  ·rename_i h16;clear h16
   go_loopg [5,6,10] s.size (fun gk s5 s6 s10 wx=>wx=w/\∃k C:Nat,s10 = .int .i64 k/\s5 = .int .i64 ((s.size+C:Nat):Int)/\s6 = .bool (decide (0<C))/\k<=s.size/\s.size<=k+gk/\Aside (js a b (L.take k)=C)/\C<=2000000)
   case atStart=>exact⟨rfl,0,0,rfl,rfl,rfl,Nat.zero_le _,oA,rfl,oA⟩
   case round=>
    obtain⟨rfl,k,C,rfl,rfl,rfl,hk,hgk,HC,hC⟩:=hrel;by_cases hk2:k<s.size
    ·obtain⟨g,rfl⟩:∃g,gk=g+1:=⟨gk-1,oA⟩
     obtain⟨c,hc⟩:∃c,s[k]'hk2=c:=⟨_,rfl⟩;have hstep:Aside (js a b (L.take (k+1))=C+(if c=a then 1 else if c=b then 1 else 0)):=by
      have h1:k<L.length:=by rw[ac];exact hk2
      have h2:L[k]'h1=c:=by subst hL;exact hc
      show _=_;rw[zg2 L k h1,q1q,HC.out,q1r hab,h2]
     have hC3:Aside (js a b (L.take (k+1))<=2000000):=by
      show _<=_;unfold js;have h1:=List.count_le_length (a:=a) (l:=L.take (k+1));have h2:=List.count_le_length (a:=b) (l:=L.take (k+1));rw[List.length_take]at h1 h2;omega
     obtain⟨ga',gb',gt',ca',cb',ct',hR,-⟩:=HB.out.ex;have hRc:=hR c;unfold rv at hRc;clear hR;have g1:(c.toNat:Int)<256:=by have:=c.toNat_lt;omega
     by_cases h1:c=a
     ·rw[qX h1]at hRc;rw[qX h1]at hstep;clear h1
      go_wp2
      go_roundg g
      case measure=>omega
      case rel=>exact⟨rfl,k+1,C+1,congrArg _ oA,congrArg _ oA,by rw[decide_eq_true (Nat.succ_pos C)],oA,oA,hstep,by have:=hC3.out;rw[hstep.out]at this;exact this⟩
     ·rw[qW h1]at hRc;rw[qW h1]at hstep;by_cases h2:c=b
      ·rw[qX h2]at hRc;rw[qX h2]at hstep;clear h1 h2
       go_wp2
       go_roundg g
       case measure=>omega
       case rel=>exact⟨rfl,k+1,C+1,congrArg _ oA,congrArg _ oA,by rw[decide_eq_true (Nat.succ_pos C)],oA,oA,hstep,by have:=hC3.out;rw[hstep.out]at this;exact this⟩
      ·rw[qW h2]at hRc;rw[qW h2]at hstep;clear h1 h2
       go_wp2
       go_roundg g
       case measure=>omega
       case rel=>exact⟨rfl,k+1,C,congrArg _ oA,congrArg _ oA,rfl,oA,oA,hstep,hC⟩
    ·obtain rfl:k=s.size:=oA
     have HC2:C=Z:=by rw[← HC.out,← ac,List.take_length,HZ.out]
     subst HC2
     go_wp2
     go_meet
     case rel=>exact⟨by rw[HM.out],rfl,Below.refl _ _⟩
 case rest=>
  obtain⟨rfl,hs6,hbw⟩:=hcut;cases h0:decide (0<Z)<;>rw[h0]at hs6<;>subst hs6
  ·have hz0:=of_decide_eq_false h0;have hid:=zbz hab [a1,a2] [b1,b2] L (by rw[HZ.out];omega)
   clear h0 hz0;have HI:Aside (e7 a b [a1,a2] [b1,b2] L=L):=hid;clear hid
   go_wp2
   go_ret
   exact⟨by rw[HI.out,← hL];rfl,hbw⟩
  ·clear h0;have hmk:∀w:World,(Instr.makeSlice 23 (.int .i64 (M:Int)) (.int .i64 (M:Int))).run Tryz.prog w = .ok (.slice (some ⟨w.heap.size,0,none⟩) M M) (w.alloc (.cells (madeCells #[.int .u8 0] M) 5)):=fun w=>
    run_make_row' (P:=Tryz.prog) 23 5 (.int .u8 0) 1 Tryz.underlying23 oD rfl .i64 .i64 M oA oA w
   go_wp2
   obtain⟨G,hG⟩:∃G,wc.heap.size=G:=⟨_,rfl⟩;have hrow0:=World.rowIs_made wc (.int .u8 0) M 5;have hGle:w.heap.size<=G:=by rw[← hG];exact hbw.size
   have hbw1:=hbw.alloc hbw.size (Obj.cells (madeCells #[.int .u8 0] M) 5);rw[hG]at hrow0 ⊢;have hLM:Aside (∀k,(e7 a b [a1,a2] [b1,b2] (L.take k)).length<=M):=fun k=>by
    have h1:e7 a b [a1,a2] [b1,b2] L=e7 a b [a1,a2] [b1,b2] (L.take k)++e7 a b [a1,a2] [b1,b2] (L.drop k):=by rw[← qse,List.take_append_drop]
    have h2:=congrArg List.length h1;rw[qsf hab,ac,HZ.out,HM.out,qM]at h2;omega
   go_loopg [13,14] s.size (fun gk s13 s14 wx=>∃k j:Nat,s13 = .int .i64 j/\s14 = .int .i64 k/\k<=s.size/\s.size<=k+gk/\j<=M/\Aside ((e7 a b [a1,a2] [b1,b2] (L.take k)).length=j)/\Aside (wx.rowIs G 5 M (bv (e7 a b [a1,a2] [b1,b2] (L.take k))))/\Below w.heap.size w wx)
   case atStart=>exact⟨0,0,rfl,rfl,Nat.zero_le _,oA,Nat.zero_le _,rfl,hrow0.congr (fun i _=>(qle [] i (Nat.zero_le _)).symm),hbw1⟩
   case round=>
    obtain⟨k,j,rfl,rfl,hk,hgk,hjM,HJ,hrow,hbx⟩:=hrel;clear hrow0 hbw1;by_cases hk2:k<s.size
    ·obtain⟨g,rfl⟩:∃g,gk=g+1:=⟨gk-1,oA⟩
     have HG:Aside (s.size<=k+1+g):=by show _<=_;omega
     clear hgk hk;obtain⟨c,hc⟩:∃c,s[k]'hk2=c:=⟨_,rfl⟩;have hk1:k<L.length:=by rw[ac];exact hk2
     have hLk:L[k]'hk1=c:=by subst hL;exact hc
     have hstep:Aside (e7 a b [a1,a2] [b1,b2] (L.take (k+1))=e7 a b [a1,a2] [b1,b2] (L.take k)++qf a b [a1,a2] [b1,b2] c):=by
      show _=_;rw[zg2 L k hk1,qse,hLk];show _++(qf a b [a1,a2] [b1,b2] c++[])=_;rw[List.append_nil]
     have hfit:Aside (j+(qf a b [a1,a2] [b1,b2] c).length<=M):=by
      have:=hLM.out (k+1);rw[hstep.out,qM,HJ.out]at this;exact this
     clear hLk hk1;obtain⟨ga',gb',gt',ca',cb',ct',hR,hT',ht0',ht1',ha0,ha1,hb0,hb1⟩:=(HB.out.below hbx).ex;have hRc:=hR c;unfold rv at hRc;clear hR hT' ht0' ht1';have g1:(c.toNat:Int)<256:=by have:=c.toNat_lt;omega
     unfold qf at hstep hfit;by_cases h1:c=a
     ·rw[qX h1]at hRc hstep hfit;have hf2:j+2<=M:=hfit.out;clear h1;have hMj:¬M=j:=oA
      obtain⟨ROW,hcp,hnew⟩:=za7 (w:=wr.drew) (c:=ca') hrow.out.drew hf2 (by rw[World.cell?_drew];exact ha0) (by rw[World.cell?_drew];exact ha1)
      have HN:Aside (_):=hnew;have HW:Aside (wrap64 ((j:Int)+2)=(j:Int)+2):=by have:=zh1 (j+2);rw[Int.natCast_add]at this;exact this
      clear hnew
      go_wp2
      go_region
      all_goals go_wp2
      go_roundg g
      case measure=>exact Nat.lt_succ_self _
      case rel=>exact⟨k+1,j+2,by first|exact vI2 j|exact(congrArg (Value.int .i64) HW.out).trans (vI2 j),rm k,hk2,HG.out,hf2,by show _=_;rw[hstep.out,qM,HJ.out];rfl,World.rowIs.congr HN.out (fun i _=>by rw[hstep.out,← zaq,HJ.out]),below_setRow hbx.drew hGle _⟩
     ·rw[qW h1]at hRc hstep hfit;by_cases h2:c=b
      ·rw[qX h2]at hRc hstep hfit;have hf2:j+2<=M:=hfit.out;clear h1 h2;have hMj:¬M=j:=oA
       obtain⟨ROW,hcp,hnew⟩:=za7 (w:=wr.drew) (c:=cb') hrow.out.drew hf2 (by rw[World.cell?_drew];exact hb0) (by rw[World.cell?_drew];exact hb1)
       have HN:Aside (_):=hnew;have HW:Aside (wrap64 ((j:Int)+2)=(j:Int)+2):=by have:=zh1 (j+2);rw[Int.natCast_add]at this;exact this
       clear hnew
       go_wp2
       go_region
       all_goals go_wp2
       go_roundg g
       case measure=>exact Nat.lt_succ_self _
       case rel=>exact⟨k+1,j+2,by first|exact vI2 j|exact(congrArg (Value.int .i64) HW.out).trans (vI2 j),rm k,hk2,HG.out,hf2,by show _=_;rw[hstep.out,qM,HJ.out];rfl,World.rowIs.congr HN.out (fun i _=>by rw[hstep.out,← zaq,HJ.out]),below_setRow hbx.drew hGle _⟩
      ·rw[qW h2]at hRc hstep hfit;have hf1:j+1<=M:=hfit.out;clear h1 h2;have hcell:wr.cell? ⟨G,j,none⟩=some (bv (e7 a b [a1,a2] [b1,b2] (L.take k)) j):=hrow.out.cell oA
       have hfroz:wr.frozen? ⟨G,j,none⟩=false:=hrow.out.frozen j
       go_wp2
       go_roundg g
       case measure=>exact Nat.lt_succ_self _
       case rel=>exact⟨k+1,j+1,rm j,rm k,hk2,HG.out,hf1,by show _=_;rw[hstep.out,qM,HJ.out];rfl,World.rowIs.congr (World.rowIs.set hrow.out j _) (fun i _=>by rw[hstep.out,← znv,HJ.out]),hbx.setCell hGle _⟩
    ·obtain rfl:k=s.size:=oA
     have HT:Aside (L.take s.size=L):=by show _=_;rw[← ac,List.take_length]
     have HE:Aside (∃l,l=e7 a b [a1,a2] [b1,b2] L/\l.length=M):=⟨_,rfl,by rw[qsf hab,ac,HZ.out,HM.out]⟩
     obtain⟨E,hE,hEl⟩:=HE.out;have hcv:(convert 23 9 (.slice (some ⟨G,0,none⟩) M M)).run Tryz.prog wr = .ok (.string ⟨E.toArray⟩) wr:=by
      have h:=run_convert_bytes_back (P:=Tryz.prog) wr 23 9 5 ⟨G,0,none⟩ M E Tryz.underlying23 Tryz.underlying5 Tryz.underlying9 (fun i hi=>by
       rw[mb,wO,hrow.out.cell oA,HT.out,← hE]
       unfold bv;rw[List.getD_eq_getElem?_getD,List.getElem?_eq_getElem hi];rfl)
      rw[hEl]at h;exact h
     have HEq:Aside (E=e7 a b [a1,a2] [b1,b2] L):=hE;clear hE hEl
     go_wp2
     go_ret
     exact⟨by rw[← HEq.out];rfl,hbx⟩
end Go.Proofs.Repl
set_option linter.unusedVariables false
namespace Go.Proofs.Repl
open Go.Shelf Go.RowKit Go.Lib Go.Sym
def zqs:(Tryz.prog.info? 9).map (fun i=>(i.zero,i.size,i.bytes))=some (some (Value.string ⟨#[]⟩),1,16):=oD
def mk2(w:World):(Instr.makeSlice 33 (.int .i64 0) (.int .i64 2)).run Tryz.prog w = .ok (.slice (some ⟨w.heap.size,0,none⟩) 0 2) (w.alloc (.cells #[.string ⟨#[]⟩,.string ⟨#[]⟩] 9)):=by
 obtain⟨i,hi,hzz⟩:=Option.map_eq_some_iff.1 zqs;simp only[qP]at hzz;obtain⟨hz,hs,hb⟩:=hzz;have h:=run_make (P:=Tryz.prog) w 33 9 i (.string ⟨#[]⟩) Tryz.underlying33 hi hz .i64 .i64 0 2 oE oE (by rw[hb];decide) oE
 rw[hs,show madeCells (Value.string ⟨#[]⟩).cells (Int.toNat 2*1)=#[.string ⟨#[]⟩,.string ⟨#[]⟩] from oD]at h
 exact h
def zr(V:Value)(j:Nat):Value:=if j=256 then V else .slice none 0 0
def z1(b:UInt8)(g c:Nat)(V:Value)(j:Nat):Value:=if j=b.toNat then .slice (some ⟨g,0,none⟩) 2 c else zr V j
def vca:Tryz.zeroCells308.toList.length=257:=oD
def vb7:Tryz.zeroCells308.toList.all (fun v=>v.oneCell')=true:=oD
def mj:Option Value->Bool|some (.slice none n c)=>Nat.beq n 0&&Nat.beq c 0|_=>false
def zqz{v:Option Value}(h:mj v=true):v=some (.slice none 0 0):=by
 unfold mj at h;split at h
 ·simp only[qA]at h;rw[qN h.1,qN h.2]
 ·cases h
def vb8:(List.range 257).all (fun j=>mj Tryz.zeroCells308.toList[j]?)=true:=oD
def zxg(w:World)(T:Nat):∃ROW,(storeCells ⟨w.heap.size,0,none⟩ (Tryz.zeroCells308.toList.set 256 (.slice (some ⟨T,0,none⟩) 0 2))).run Tryz.prog (w.alloc (.cells Tryz.zeroCells308 308)) = .ok () ((w.alloc (.cells Tryz.zeroCells308 308)).setRow w.heap.size ROW) /\
  ((w.alloc (.cells Tryz.zeroCells308 308)).setRow w.heap.size ROW).rowIs w.heap.size 308 257 (zr (.slice (some ⟨T,0,none⟩) 0 2)):=by
 have hnew:(w.alloc (.cells Tryz.zeroCells308 308)).heap[w.heap.size]? = some (.cells Tryz.zeroCells308 308):=heap_alloc_new w _;have hz:=vca;have h:=run_storeCells_at Tryz.prog w.heap.size 0 308 (Tryz.zeroCells308.toList.set 256 (.slice (some ⟨T,0,none⟩) 0 2)) 0 _ _ hnew (by rw[List.length_set,hz,← Array.length_toList,hz];decide) (fun v hv=>by
  rcases List.mem_or_eq_of_mem_set hv with hv|rfl
  ·exact List.all_eq_true.1 vb7 v hv
  ·rfl)
 refine⟨_,h,?_⟩;refine⟨_,setRow_heap _ _ _ _ _ _ hnew,?_,fun i hi => ?_⟩
 ·simp only[List.size_toArray,qM,List.length_set,List.length_take,List.length_drop,hz];decide
 ·rw[List.getElem?_toArray,List.length_set,hz,List.drop_eq_nil_of_le (by rw[hz];decide),List.append_nil]
  show([]++_)[i]? = _;rw[List.nil_append,List.getElem?_set];unfold zr;by_cases h2:256=i
  ·subst h2;rw[qX rfl,qX rfl,hz];rfl
  ·rw[qW h2,qW (fun e=>h2 e.symm)]
   exact zqz (List.all_eq_true.1 vb8 i (List.mem_range.2 hi))
def qey(w:World)(x y:UInt8):Obj := .cells (bytesRow ⟨#[x,y]⟩ (grownCap w 2 0 5)) 5 ((bytesRow ⟨#[x,y]⟩ (grownCap w 2 0 5)).size,(bytesRow ⟨#[x,y]⟩ (grownCap w 2 0 5)).size+1)
def qeu(w:World):Nat:=grownCap w 2 0 5
def cv2(w:World)(x y:UInt8):(convert 9 23 (.string ⟨#[x,y]⟩)).run Tryz.prog w = .ok (.slice (some ⟨w.heap.size,0,none⟩) 2 (qeu w)) (w.drew.alloc (qey w x y)):=
 run_bytes_of_string (P:=Tryz.prog) w 9 23 5 ⟨#[x,y]⟩ Tryz.underlying9 Tryz.underlying23 Tryz.underlying5
def znq(w W:World)(x y:UInt8):(W.alloc (qey w x y)).cell? ⟨W.heap.size,0,none⟩=some (.int .u8 x.toNat)/\(W.alloc (qey w x y)).cell? ⟨W.heap.size,1,none⟩=some (.int .u8 y.toNat):=by
 unfold qey;rw[World.cell?_alloc_mark,World.cell?_alloc_mark];exact⟨bytesRow_at ⟨#[x,y]⟩ _ 0 (by show 0<2;decide),bytesRow_at ⟨#[x,y]⟩ _ 1 (by show 1<2;decide)⟩
def cv1(w:World)(x:UInt8):(convert 23 9 (.slice (some ⟨w.heap.size,0,none⟩) 1 1)).run Tryz.prog (w.alloc (.cells #[.int .u8 x.toNat] 5)) = .ok (.string ⟨#[x]⟩) (w.alloc (.cells #[.int .u8 x.toNat] 5)):=
 run_convert_bytes_back (P:=Tryz.prog) _ 23 9 5 ⟨w.heap.size,0,none⟩ 1 [x] Tryz.underlying23 Tryz.underlying5 Tryz.underlying9 (fun i hi=>by
  have:i=0:=by simpa using hi
  subst this;rw[mb];show World.cell? _ ⟨w.heap.size,0,none⟩=_;unfold World.cell?;rw[show(w.alloc (.cells #[.int .u8 (x.toNat:Int)] 5)).heap[w.heap.size]? = _ from heap_alloc_new w _]
  rfl)
def w4(wr:World)(T k n:Nat)(c:UInt8):World:=(((wr.alloc (.cells #[.int .u8 c.toNat] 5)).alloc (.cells #[.string ⟨#[c]⟩] 9)).setCell ⟨T,k,none⟩ (.string ⟨#[c]⟩)).setCell ⟨T+1,256,none⟩ (.slice (some ⟨T,0,none⟩) n 2)
def w5(wr:World)(T k n:Nat)(c x y:UInt8):World:=(((w4 wr T k n c).alloc (qey (w4 wr T k n c) x y)).setCell ⟨T+1,c.toNat,none⟩ (.slice (some ⟨wr.heap.size+1+1,0,none⟩) 2 (qeu (w4 wr T k n c)))).drew
def zgq(wr:World)(T k n:Nat)(c x y:UInt8)(hT:T+2<=wr.heap.size){f h:Nat->Value}(hR:wr.rowIs (T+1) 308 257 f)(hTr:wr.rowIs T 9 2 h) :
  (w5 wr T k n c x y).rowIs (T+1) 308 257 (fun j=>if j=c.toNat then .slice (some ⟨wr.heap.size+1+1,0,none⟩) 2 (qeu (w4 wr T k n c)) else if j=256 then .slice (some ⟨T,0,none⟩) n 2 else f j)/\(w5 wr T k n c x y).rowIs T 9 2 (fun i=>if i=k then .string ⟨#[c]⟩ else h i) /\
   (w5 wr T k n c x y).cell? ⟨wr.heap.size+1+1,0,none⟩=some (.int .u8 x.toNat)/\(w5 wr T k n c x y).cell? ⟨wr.heap.size+1+1,1,none⟩=some (.int .u8 y.toNat)/\(∀p:Addr,T+2<=p.block->p.block<wr.heap.size->(w5 wr T k n c x y).cell? p=wr.cell? p)/\Below T wr (w5 wr T k n c x y)/\T+2<=(w5 wr T k n c x y).heap.size:=by
 unfold w5;generalize hWb:qey (w4 wr T k n c) x y=B;generalize (Value.slice (some ⟨wr.heap.size+1+1,0,none⟩) 2 (qeu (w4 wr T k n c)))=V3;have hbc0:=fun W=>znq (w4 wr T k n c) W x y
 rw[hWb]at hbc0;unfold w4;clear hWb;generalize (Obj.cells #[.int .u8 c.toNat] 5)=o1;generalize (Obj.cells #[.string ⟨#[c]⟩] 9)=o2;generalize (Value.string ⟨#[c]⟩)=S;generalize (Value.slice (some ⟨T,0,none⟩) n 2)=V2;have hsz:((((wr.alloc o1).alloc o2).setCell ⟨T,k,none⟩ S).setCell ⟨T+1,256,none⟩ V2).heap.size=wr.heap.size+1+1:=by simp[World.setCell]
 have hbc:=hbc0 ((((wr.alloc o1).alloc o2).setCell ⟨T,k,none⟩ S).setCell ⟨T+1,256,none⟩ V2);rw[hsz]at hbc;refine⟨?_,?_,?_,?_,fun p h1 h2 => ?_,?_,?_⟩
 ·exact(((((hR.alloc o1).alloc o2).setOther (a:=⟨T,k,none⟩) oC S).set 256 V2).alloc _).set _ V3
 ·exact(((((hTr.alloc o1).alloc o2).set k S).setOther (a:=⟨T+1,256,none⟩) oC V2).alloc _).setOther (a:=⟨T+1,c.toNat,none⟩) oC V3
 ·rw[World.cell?_drew,World.cell?_setCell_other _ _ _ _ (by intro h;have:=congrArg Addr.block h;simp at this;omega)];exact hbc.1
 ·rw[World.cell?_drew,World.cell?_setCell_other _ _ _ _ (by intro h;have:=congrArg Addr.block h;simp at this;omega)];exact hbc.2
 ·refine World.cell?_of_block (w:=wr) ?_;show(World.setCell _ _ _).heap[p.block]? = _;rw[Below.heap_setCell _ _ _ _ oB,Below.heap_alloc _ _ _ (by rw[hsz];omega),Below.heap_setCell _ _ _ _ oB,Below.heap_setCell _ _ _ _ oB,Below.heap_alloc _ _ _ oB,Below.heap_alloc _ _ _ h2]
 ·have hsz2:wr.heap.size+1+1=((((wr.alloc o1).alloc o2).setCell ⟨T,k,none⟩ S).setCell ⟨T+1,256,none⟩ V2).heap.size:=hsz.symm;exact(((((((Below.refl T wr).alloc oA o1).alloc oB o2).setCell (p:=⟨T,k,none⟩) (wF _) S).setCell (p:=⟨T+1,256,none⟩) (Nat.le_succ _) V2).alloc oA _).setCell (p:=⟨T+1,c.toNat,none⟩) (Nat.le_succ _) V3).drew
 ·show _<=(World.setCell _ _ _).heap.size;simp[World.setCell];omega
set_option maxHeartbeats 4000000 in
set_option maxRecDepth 1000000 in
def zng(q ro cap:Nat)(a b a1 a2 b1 b2:UInt8)(w:World)(hab:a≠b)
  (hc:w.cell? ⟨q,4,none⟩=some (.slice (some ⟨ro,0,none⟩) 4 cap)) (h0:w.cell? ⟨ro,0,none⟩=some (.string ⟨#[a]⟩)) (h1:w.cell? ⟨ro,1,none⟩=some (.string ⟨#[a1,a2]⟩)) (h2:w.cell? ⟨ro,2,none⟩=some (.string ⟨#[b]⟩)) (h3:w.cell? ⟨ro,3,none⟩=some (.string ⟨#[b1,b2]⟩)) :
  Calls Tryz.prog 251 #[.pointer (some ⟨q,0,none⟩)] w fun e w'=>∃R,e = .returned (.iface 309 (.pointer (some ⟨R,0,none⟩)))/\ly R a b a1 a2 b1 b2 w'/\Below w.heap.size w w':=by
 go_enter Tryz.func251,Tryz.ntmps251
 go_wp2
 go_loopg [4,5] 2 (fun gk s4 s5 wx=>wx=w/\((s5 = .int .i64 0/\s4 = .bool true/\gk=2)\/(s5 = .int .i64 2/\s4 = .bool false/\gk=1)\/(s5 = .int .i64 4/\s4 = .bool false/\gk=0)))
 case atStart=>exact⟨rfl,Or.inl ⟨rfl,rfl,rfl⟩⟩
 case round=>
  obtain⟨rfl,⟨rfl,rfl,rfl⟩|⟨rfl,rfl,rfl⟩|⟨rfl,rfl,rfl⟩⟩:=hrel
  ·go_wp2
   go_roundg 1
   case measure=>exact Nat.lt_succ_self _
   case rel=>exact⟨rfl,Or.inr (Or.inl ⟨rfl,rfl,rfl⟩)⟩
  ·go_wp2
   go_roundg 0
   case measure=>exact Nat.lt_succ_self _
   case rel=>exact⟨rfl,Or.inr (Or.inr ⟨rfl,rfl,rfl⟩)⟩
  ·have hmk:=mk2;obtain⟨W1,hW1⟩:∃W1,wr.alloc (.cells #[.string ⟨#[]⟩,.string ⟨#[]⟩] 9)=W1:=⟨_,rfl⟩;have hz1:W1.heap.size=wr.heap.size+1:=by rw[← hW1];simp
   have hT1:W1.rowIs wr.heap.size 9 2 (fun _ => .string ⟨#[]⟩):=by rw[← hW1];exact World.rowIs_alloc wr _ _ _ (fun i hi=>by match i,hi with|0,_=>rfl|1,_=>rfl)
   have hb1:Below wr.heap.size wr W1:=by rw[← hW1];exact(Below.refl _ _).alloc (wF _) _
   obtain⟨ROW,hst,hrow⟩:=zxg W1 wr.heap.size;rw[hz1]at hst hrow;have hT2:=(hT1.alloc (.cells Tryz.zeroCells308 308)).of_block (setRow_other (W1.alloc (.cells Tryz.zeroCells308 308)) (wr.heap.size+1) wr.heap.size ROW oA)
   have hb2:=below_setRow (hb1.alloc hb1.size (.cells Tryz.zeroCells308 308)) (Nat.le_succ wr.heap.size) ROW;obtain⟨W2,hW2⟩:∃W2,(W1.alloc (.cells Tryz.zeroCells308 308)).setRow (wr.heap.size+1) ROW=W2:=⟨_,rfl⟩;rw[hW2]at hst hrow hT2 hb2;have HB2:Aside (W2.rowIs (wr.heap.size+1) 308 257 (zr (.slice (some ⟨wr.heap.size,0,none⟩) 0 2))/\W2.rowIs wr.heap.size 9 2 (fun _ => .string ⟨#[]⟩)/\Below wr.heap.size wr W2):=⟨hrow,hT2,hb2⟩
   clear hrow hT2 hb2 hT1 hb1 hW2
   go_wp2
   obtain⟨T,hT⟩:∃T,wr.heap.size=T:=⟨_,rfl⟩;rw[hT]at HB2 ⊢;have hS:Aside (wr.heap.size=T):=hT;clear hst hmk hz1 hW1 hT
   go_loopg [12] 2 (fun gk s12 wx=>Below T wr wx/\T+2<=wx.heap.size/\(
    (s12 = .int .i64 2/\gk=2/\Aside (wx.rowIs (T+1) 308 257 (zr (.slice (some ⟨T,0,none⟩) 0 2))/\wx.rowIs T 9 2 (fun _ => .string ⟨#[]⟩))) \/
    (s12 = .int .i64 0/\gk=1/\∃gb cb,T+2<=gb/\gb<wx.heap.size/\Aside (wx.rowIs (T+1) 308 257 (fun j=>if j=b.toNat then .slice (some ⟨gb,0,none⟩) 2 cb else if j=256 then .slice (some ⟨T,0,none⟩) 1 2 else .slice none 0 0)/\wx.rowIs T 9 2 (fun i=>if i=0 then .string ⟨#[b]⟩ else .string ⟨#[]⟩)/\wx.cell? ⟨gb,0,none⟩=some (.int .u8 b1.toNat)/\wx.cell? ⟨gb,1,none⟩=some (.int .u8 b2.toNat))) \/
    (s12 = .int .i64 (-2)/\gk=0/\Aside (ly (T+1) a b a1 a2 b1 b2 wx))))
   case atStart=>exact⟨HB2.out.2.2,by have:=HB2.out.1.lt;omega,Or.inl ⟨rfl,rfl,HB2.out.1,HB2.out.2.1⟩⟩
   case round=>
    obtain⟨hbx,hsz,h⟩:=hrel;have k0:=(hbx.cell (p:=⟨ro,0,none⟩) (by rw[← hS.out];exact World.block_lt_of_cell? _ _ h0)).trans h0
    have k1:=(hbx.cell (p:=⟨ro,1,none⟩) (by rw[← hS.out];exact World.block_lt_of_cell? _ _ h1)).trans h1
    have k2:=(hbx.cell (p:=⟨ro,2,none⟩) (by rw[← hS.out];exact World.block_lt_of_cell? _ _ h2)).trans h2
    have k3:=(hbx.cell (p:=⟨ro,3,none⟩) (by rw[← hS.out];exact World.block_lt_of_cell? _ _ h3)).trans h3
    clear h0 h1 h2 h3 hc HB2;have e1:=zph;have e2:=zpg;have e3:=cv1;have e4:=cv2;rcases h with⟨rfl,rfl,hr⟩|⟨rfl,rfl,gb,cb,hgb,hgs,hr⟩|⟨rfl,rfl,hr⟩
    ·have g0:∀h,(⟨#[b]⟩:ByteArray)[0]'h=b:=fun _=>rfl
     have g1:(b.toNat:Int)<256:=by have:=b.toNat_lt;omega
     have g2:b.toNat<256:=b.toNat_lt;have hRb:wr.cell? ⟨T+1,b.toNat,none⟩=some (.slice none 0 0):=by
      rw[hr.out.1.cell oA];unfold zr;rw[qW (by have:=b.toNat_lt;omega)]
     have hR2:wr.cell? ⟨T+1,256,none⟩=some (.slice (some ⟨T,0,none⟩) 0 2):=by rw[hr.out.1.cell oE];rfl
     have hT0:∀o1 o2,((wr.alloc o1).alloc o2).cell? ⟨T,0,none⟩=some (.string ⟨#[]⟩):=fun o1 o2=>((hr.out.2.alloc o1).alloc o2).cell oE
     have hTf:∀o1 o2,((wr.alloc o1).alloc o2).frozen? ⟨T,0,none⟩=false:=fun o1 o2=>((hr.out.2.alloc o1).alloc o2).frozen _
     have hR3:∀o1 o2,((wr.alloc o1).alloc o2).cell? ⟨T+1,256,none⟩=some (.slice (some ⟨T,0,none⟩) 0 2):=fun o1 o2=>by rw[((hr.out.1.alloc o1).alloc o2).cell oE];rfl
     have hRf:∀o1 o2,((wr.alloc o1).alloc o2).frozen? ⟨T+1,256,none⟩=false:=fun o1 o2=>((hr.out.1.alloc o1).alloc o2).frozen _
     have hR4:∀o1 o2 v1 v2 o3,(((((wr.alloc o1).alloc o2).setCell ⟨T,0,none⟩ v1).setCell ⟨T+1,256,none⟩ v2).alloc o3).cell? ⟨T+1,b.toNat,none⟩=some (.slice none 0 0):=fun o1 o2 v1 v2 o3=>by
      rw[((((((hr.out.1.alloc o1).alloc o2).setOther (a:=⟨T,0,none⟩) oC v1).set 256 v2)).alloc o3).cell oA]
      rw[qW oA];unfold zr;rw[qW (by have:=b.toNat_lt;omega)]
     have hRg:∀o1 o2 v1 v2 o3,(((((wr.alloc o1).alloc o2).setCell ⟨T,0,none⟩ v1).setCell ⟨T+1,256,none⟩ v2).alloc o3).frozen? ⟨T+1,b.toNat,none⟩=false:=fun o1 o2 v1 v2 o3=>
      ((((((hr.out.1.alloc o1).alloc o2).setOther (a:=⟨T,0,none⟩) oC v1).set 256 v2)).alloc o3).frozen _
     clear g2
     go_wp2
     go_roundg 1
     case measure=>exact Nat.lt_succ_self _
     case rel=>
      have HS:=zgq wr T 0 1 b b1 b2 hsz hr.out.1 hr.out.2;obtain⟨q1,q2,q3,q4,q5,q6,q7⟩:=HS;have q8:=World.block_lt_of_cell? _ _ q3;refine⟨hbx.trans q6,q7,Or.inr (Or.inl ⟨rfl,rfl,wr.heap.size+1+1,qeu (w4 wr T 0 1 b),oA,q8,(?_:_/\_/\_/\_)⟩)⟩
      refine⟨q1.congr (fun j _ => ?_),q2,q3,q4⟩
      ·show(if _ then _ else if _ then _ else zr _ j)=_
       unfold zr;by_cases h1:j=b.toNat
       ·rw[qX h1,qX h1]
       ·by_cases h2:j=256
        ·rw[qW h1,qX h2,qW h1,qX h2]
        ·rw[qW h1,qW h2,qW h2,qW h1,qW h2]
    ·have g0:∀h,(⟨#[a]⟩:ByteArray)[0]'h=a:=fun _=>rfl
     have g1:(a.toNat:Int)<256:=by have:=a.toNat_lt;omega
     have g2:a.toNat<256:=a.toNat_lt;have hne:¬a.toNat=b.toNat:=fun h=>hab (UInt8.toNat_inj.1 h)
     have HNE:Aside (¬a.toNat=b.toNat):=hne;have hRb:wr.cell? ⟨T+1,a.toNat,none⟩=some (.slice none 0 0):=by
      rw[hr.out.1.cell oA];rw[qW oA,qW oA]
     have hR2:wr.cell? ⟨T+1,256,none⟩=some (.slice (some ⟨T,0,none⟩) 1 2):=by rw[hr.out.1.cell oE];rw[qW (by have:=b.toNat_lt;omega),qX rfl]
     have hT0:∀o1 o2,((wr.alloc o1).alloc o2).cell? ⟨T,1,none⟩=some (.string ⟨#[]⟩):=fun o1 o2=>((hr.out.2.1.alloc o1).alloc o2).cell oE
     have hTf:∀o1 o2,((wr.alloc o1).alloc o2).frozen? ⟨T,1,none⟩=false:=fun o1 o2=>((hr.out.2.1.alloc o1).alloc o2).frozen _
     have hR3:∀o1 o2,((wr.alloc o1).alloc o2).cell? ⟨T+1,256,none⟩=some (.slice (some ⟨T,0,none⟩) 1 2):=fun o1 o2=>by rw[((hr.out.1.alloc o1).alloc o2).cell oE];rw[qW (by have:=b.toNat_lt;omega),qX rfl]
     have hRf:∀o1 o2,((wr.alloc o1).alloc o2).frozen? ⟨T+1,256,none⟩=false:=fun o1 o2=>((hr.out.1.alloc o1).alloc o2).frozen _
     have hR4:∀o1 o2 v1 v2 o3,(((((wr.alloc o1).alloc o2).setCell ⟨T,1,none⟩ v1).setCell ⟨T+1,256,none⟩ v2).alloc o3).cell? ⟨T+1,a.toNat,none⟩=some (.slice none 0 0):=fun o1 o2 v1 v2 o3=>by
      rw[((((((hr.out.1.alloc o1).alloc o2).setOther (a:=⟨T,1,none⟩) oC v1).set 256 v2)).alloc o3).cell oA]
      rw[qW oA];rw[qW oA,qW oA]
     have hRg:∀o1 o2 v1 v2 o3,(((((wr.alloc o1).alloc o2).setCell ⟨T,1,none⟩ v1).setCell ⟨T+1,256,none⟩ v2).alloc o3).frozen? ⟨T+1,a.toNat,none⟩=false:=fun o1 o2 v1 v2 o3=>
      ((((((hr.out.1.alloc o1).alloc o2).setOther (a:=⟨T,1,none⟩) oC v1).set 256 v2)).alloc o3).frozen _
     clear g2 hne
     go_wp2
     go_roundg 0
     case measure=>exact Nat.lt_succ_self _
     case rel=>
      have HS:=zgq wr T 1 2 a a1 a2 hsz hr.out.1 hr.out.2.1;obtain⟨q1,q2,q3,q4,q5,q6,q7⟩:=HS;have hgbR:=(q5 ⟨gb,0,none⟩ hgb hgs).trans hr.out.2.2.1;have hgbS:=(q5 ⟨gb,1,none⟩ hgb hgs).trans hr.out.2.2.2;have hB:ly (T+1) a b a1 a2 b1 b2 (w5 wr T 1 2 a a1 a2):=by
       refine⟨wr.heap.size+1+1,gb,T,qeu (w4 wr T 1 2 a),cb,2,fun d => ?_,?_,?_,?_,q3,q4,hgbR,hgbS⟩
       ·rw[q1.cell (by have:=d.toNat_lt;omega)]
        unfold rv;by_cases h1:d=a
        ·rw[qX (congrArg _ h1),qX h1]
        ·rw[qW (fun h=>h1 (UInt8.toNat_inj.1 h)),qW h1,qW (by have:=d.toNat_lt;omega)]
         by_cases h2:d=b
         ·rw[qX (congrArg _ h2),qX h2]
         ·rw[qW (fun h=>h2 (UInt8.toNat_inj.1 h)),qW h2,qW (by have:=d.toNat_lt;omega)]
       ·rw[q1.cell oE,qW (by have:=a.toNat_lt;omega),qX rfl]
       ·rw[q2.cell oE];rfl
       ·rw[q2.cell oE];rfl
      exact⟨hbx.trans q6,q7,Or.inr (Or.inr ⟨rfl,rfl,hB⟩)⟩
    ·go_wp2
     go_ret
     exact⟨T+1,rfl,hr.out,by rw[hS.out];exact hbx⟩
end Go.Proofs.Repl
namespace Go.Proofs.YtgpcmiimfgghdabGreatDoor.Once
open Go.Sym(oD)
def disable(w:World):(callFunc 302 #[]).run Tryz.prog w = .ok (.value (.tuple #[])) w:=run_call_mark0 Tryz.func302 oD oD oD .disable oD w
def enable(w:World):(callFunc 304 #[]).run Tryz.prog w = .ok (.value (.tuple #[])) w:=run_call_mark0 Tryz.func304 oD oD oD .enable oD w
def acquire(a:Addr)(w:World):(callFunc 305 #[.pointer (some a)]).run Tryz.prog w = .ok (.value (.tuple #[])) w:=run_call_marked Tryz.func305 oD oD oD .acquire oD a w
def releaseMerge(a:Addr)(w:World):(callFunc 307 #[.pointer (some a)]).run Tryz.prog w = .ok (.value (.tuple #[])) w:=run_call_marked Tryz.func307 oD oD oD .releaseMerge oD a w
set_option maxHeartbeats 1600000 in
def zxl(a:Addr)(x:Value)(u:FrameMode)(w:World)(hc:w.cell? a=some x)(hz:w.frozen? a=false) :
  CallsD Tryz.prog 275 #[.pointer (some a),.bool true] u w fun e u' w'=>u'=u/\(e = .returned (.tuple #[])/\w'=w.drew.setCell a (.int .u32 1)):=by
 have hc':w.drew.cell? a=some x:=by go_simp
 have hz':w.drew.frozen? a=false:=by go_simp
 have hst:=run_call_store (P:=Tryz.prog) Tryz.func292 oD oD oD oD (k := .u32) (y:=1) hc' hz'
 go_enter_d Tryz.func275,Tryz.ntmps275
 go_wp2
 go_region_calls
 all_goals (go_end0;exact⟨rfl,rfl⟩)
set_option maxHeartbeats 1600000 in
def zyz(a:Addr)(u:FrameMode)(w:World)(hc:w.cell? a=some (.int .i32 1))(hz:w.frozen? a=false) :
  CallsD Tryz.prog 274 #[.pointer (some a)] u w fun e u' w'=>u'=u/\(e = .returned (.tuple #[])/\w'=w.setCell a (.int .i32 0)):=by
 have hd:=disable;have he:=enable;have hr:=releaseMerge;have hadd:=run_call_add (P:=Tryz.prog) Tryz.func308 oD oD oD .i32 oD (y := -1) (s:=0) hc hz (by simp[go_sem];rfl)
 have hcv:=run_convert_to_unsafe (P:=Tryz.prog) (src:=340) (dst:=140) Tryz.underlying340 Tryz.underlying140 oD hc
 go_enter_d Tryz.func274,Tryz.ntmps274
 go_wp2
 go_end0
 go_wp2
 go_end0
 exact⟨rfl,rfl⟩
set_option maxHeartbeats 1600000 in
def zry(a:Addr)(w:World)(hc:w.cell? a=some (.int .i32 0))(hz:w.frozen? a=false) :
  Calls Tryz.prog 273 #[.pointer (some a)] w fun e w'=>e = .returned (.tuple #[])/\w'=w.setCell a (.int .i32 1):=by
 have hd:=disable;have he:=enable;have ha:=acquire;have hcas:=run_call_cas_hit (P:=Tryz.prog) Tryz.func303 oD oD oD .i32 oD (y:=1) hc hz
 have hc':(w.setCell a (.int .i32 1)).cell? a=some (.int .i32 1):=World.cell?_setCell_same w a _ hc;have hcv:=run_convert_to_unsafe (P:=Tryz.prog) (src:=340) (dst:=140) Tryz.underlying340 Tryz.underlying140 oD hc'
 go_enter Tryz.func273,Tryz.ntmps273
 go_wp2
 first|go_end0|(simp only[Exit.inBlock,Exit.then];refine bodyPost_ret (results_none rfl _ _ _) rfl ?_)|refine bodyPost_ret (results_none rfl _ _ _) rfl ?_
 go_wp2
 go_end0
 exact⟨rfl,rfl⟩
end Go.Proofs.YtgpcmiimfgghdabGreatDoor.Once
namespace Go.Proofs.YtgpcmiimfgghdabGreatDoor.Once
open Go.Sym(oC oD)
set_option maxHeartbeats 1600000 in
def zxa(b:Nat)(w:World)(R:World->Prop)
  (h0:w.cell? ⟨b,0,none⟩=some (.int .u32 0)) (h1:w.cell? ⟨b,0+1,none⟩=some (.int .i32 0)) (f0:w.frozen? ⟨b,0,none⟩=false) (f1:w.frozen? ⟨b,0+1,none⟩=false)
  (hf:Calls Tryz.prog 223 #[.pointer (some ⟨b,0,none⟩)] (w.setCell ⟨b,0+1,none⟩ (.int .i32 1)) fun e w'=>e = .returned (.tuple #[])/\R w')
  (hR:∀w',R w'->w'.cell? ⟨b,0,none⟩=some (.int .u32 0)/\w'.frozen? ⟨b,0,none⟩=false/\w'.cell? ⟨b,0+1,none⟩=some (.int .i32 1)/\w'.frozen? ⟨b,0+1,none⟩=false) :
  Calls Tryz.prog 250 #[.pointer (some ⟨b,0,none⟩),.func (.func 223) #[.pointer (some ⟨b,0,none⟩)] #[]] w fun e w'=>e = .returned (.tuple #[])/\∃w1,R w1/\w'=(w1.drew.setCell ⟨b,0,none⟩ (.int .u32 1)).setCell ⟨b,0+1,none⟩ (.int .i32 0):=by
 have hl:=run_call_load (P:=Tryz.prog) Tryz.func272 oD oD oD .u32 oD (w:=w.setCell ⟨b,0+1,none⟩ (.int .i32 1)) (a:=⟨b,0,none⟩) (x:=0) ((World.cell?_setCell_other _ ⟨b,0+1,none⟩ ⟨b,0,none⟩ _ oC).trans h0)
 have hnot:∀(x:Bool)(w:World),(Op.unary .not (.bool x)).run Tryz.prog w = .ok (.bool (!x)) w:=fun _ _=>rfl
 go_enter_defers Tryz.func250,Tryz.ntmps250
 go_wp2_with (first|(go_at_call 273;refine(zry ⟨b,0+1,none⟩ _ (by go_simp) (by go_simp)).mono ?_;rintro e w' ⟨rfl,rfl⟩)|(go_at_call 249;go_in)|(go_at_call 223;refine hf.mono ?_;rintro e w' ⟨rfl,hw⟩))
 obtain⟨r0,rf0,r1,rf1⟩:=hR w' hw
 first|go_end0|skip
 first|go_wp2|skip
 refine leaves_cons (f:=275) (args:=#[.pointer (some ⟨b,0,none⟩),.bool true]) oC (by simp[go_sem]) ?_
 refine(zxl ⟨b,0,none⟩ (.int .u32 0) .returning _ r0 rf0).mono ?_;rintro e u' w'' ⟨rfl,rfl,rfl⟩
 refine leaves_cons (f:=274) (args:=#[.pointer (some ⟨b,0+1,none⟩)]) (by simp[settle]) (by simp[go_sem]) ?_
 have r1':(w'.drew.setCell ⟨b,0,none⟩ (.int .u32 1)).cell? ⟨b,0+1,none⟩=some (.int .i32 1):=by
  refine(World.cell?_setCell_other _ ⟨b,0,none⟩ ⟨b,0+1,none⟩ _ oC).trans ?_
  rw[World.cell?_drew];exact r1
 refine(zyz ⟨b,0+1,none⟩ _ _ r1' (by simp[rf1])).mono ?_
 rintro e u' w'' ⟨rfl,rfl,rfl⟩
 simp[Leaves,settle,results,Tryz.results250];exact⟨w',hw,rfl⟩
set_option maxHeartbeats 1600000 in
def zov(b:Nat)(w:World)(R:World->Prop)
  (h0:w.cell? ⟨b,0,none⟩=some (.int .u32 0)) (h1:w.cell? ⟨b,0+1,none⟩=some (.int .i32 0)) (f0:w.frozen? ⟨b,0,none⟩=false) (f1:w.frozen? ⟨b,0+1,none⟩=false)
  (hf:Calls Tryz.prog 223 #[.pointer (some ⟨b,0,none⟩)] (w.setCell ⟨b,0+1,none⟩ (.int .i32 1)) fun e w'=>e = .returned (.tuple #[])/\R w')
  (hR:∀w',R w'->w'.cell? ⟨b,0,none⟩=some (.int .u32 0)/\w'.frozen? ⟨b,0,none⟩=false/\w'.cell? ⟨b,0+1,none⟩=some (.int .i32 1)/\w'.frozen? ⟨b,0+1,none⟩=false) :
  Calls Tryz.prog 222 #[.pointer (some ⟨b,0,none⟩),.func (.func 223) #[.pointer (some ⟨b,0,none⟩)] #[]] w fun e w'=>e = .returned (.tuple #[])/\∃w1,R w1/\w'=(w1.drew.setCell ⟨b,0,none⟩ (.int .u32 1)).setCell ⟨b,0+1,none⟩ (.int .i32 0):=by
 have hl:=run_call_load (P:=Tryz.prog) Tryz.func272 oD oD oD .u32 oD h0
 have hnot:∀(x:Bool)(w:World),(Op.unary .not (.bool x)).run Tryz.prog w = .ok (.bool (!x)) w:=fun _ _=>rfl
 go_enter Tryz.func222,Tryz.ntmps222
 go_wp2_with (first|(go_at_call 249;go_in)|(go_at_call 250;refine(zxa b w R h0 h1 f0 f1 hf hR).mono ?_;rintro e w' ⟨rfl,w1,hw1,rfl⟩))
 go_end0
 exact⟨rfl,w1,hw1,rfl⟩
end Go.Proofs.YtgpcmiimfgghdabGreatDoor.Once
namespace Go.Proofs.YtgpcmiimfgghdabGreatDoor.Once
open Go.Sym(oC)
set_option maxHeartbeats 1600000 in
def replaceS_first(b:Nat)(s:ByteArray)(w:World)(R:World->Prop)(Q:Value->World->Prop)
  (h0:w.cell? ⟨b,0,none⟩=some (.int .u32 0)) (h1:w.cell? ⟨b,0+1,none⟩=some (.int .i32 0)) (f0:w.frozen? ⟨b,0,none⟩=false) (f1:w.frozen? ⟨b,0+1,none⟩=false)
  (hf:Calls Tryz.prog 223 #[.pointer (some ⟨b,0,none⟩)] (w.setCell ⟨b,0+1,none⟩ (.int .i32 1)) fun e w'=>e = .returned (.tuple #[])/\R w')
  (hR:∀w',R w'->w'.cell? ⟨b,0,none⟩=some (.int .u32 0)/\w'.frozen? ⟨b,0,none⟩=false/\w'.cell? ⟨b,0+1,none⟩=some (.int .i32 1)/\w'.frozen? ⟨b,0+1,none⟩=false)
  (hg:∀w',R w'->∃g,w'.cell? ⟨b,3,none⟩=some (.iface 309 (.pointer (some ⟨g,0,none⟩))) /\
   Calls Tryz.prog 350 #[.pointer (some ⟨g,0,none⟩),.string s] ((w'.drew.setCell ⟨b,0,none⟩ (.int .u32 1)).setCell ⟨b,0+1,none⟩ (.int .i32 0)) fun e w''=>∃v,e = .returned v/\Q v w'') :
  Calls Tryz.prog 182 #[.pointer (some ⟨b,0,none⟩),.string s] w fun e w'=>∃v,e = .returned v/\Q v w':=by
 have hme : ∀ (g : Nat) (w : World), (method 480 309 (.pointer (some ⟨g, 0, none⟩)) "Replace").run Tryz.prog w = .ok (350, .pointer (some ⟨g, 0, none⟩)) w := fun _ _ => by kernel_rfl
 go_enter Tryz.func182,Tryz.ntmps182
 go_wp2_with (first|(go_at_call 222;refine(zov b w R h0 h1 f0 f1 hf hR).mono ?_;rintro e w' ⟨rfl,w1,hw1,rfl⟩;obtain⟨g,hg1,hg2⟩:=hg w1 hw1;have hc3:((w1.drew.setCell ⟨b,0,none⟩ (.int .u32 1)).setCell ⟨b,0+1,none⟩ (.int .i32 0)).cell? ⟨b,3,none⟩=some (.iface 309 (.pointer (some ⟨g,0,none⟩))):=((World.cell?_setCell_other _ ⟨b,0+1,none⟩ ⟨b,3,none⟩ _ oC).trans ((World.cell?_setCell_other _ ⟨b,0,none⟩ ⟨b,3,none⟩ _ oC).trans (by rw[World.cell?_drew];exact hg1))))|(go_at_call 350;refine hg2.mono ?_;rintro e w' ⟨v,rfl,hq⟩))
 go_ret
 exact⟨_,rfl,hq⟩
end Go.Proofs.YtgpcmiimfgghdabGreatDoor.Once
namespace Go.Sym
open Go.RowKit
variable[LC]
def dd.blocks_none{G:Gh}{hp:List (Nat×ah)}{w:World}(hm:dd G hp w){b:Nat}(h:p9 G hp b)(o:Nat):G.imm b o=none:=by
 obtain⟨n,bx,hl,ha⟩:=h;have hb:=hm.holds n bx hl
 cases bx with
 |cells cs T=>obtain⟨B,vs,h1,_,_,_,h5⟩:=hb;simp only[Gh.at,h1,qI]at ha;subst ha;exact h5 o
 |row τ l E=>
  obtain⟨a,c,h1,h2⟩:=hb;rcases h2 with⟨rfl,_⟩|⟨g,vs,fz,rfl,_,_,_,_,_,_,_,h9⟩
  ·simp only[Gh.at,h1]at ha;cases ha
  ·simp only[Gh.at,h1,qI]at ha;subst ha;exact h9 o
 |loop st pe f m fr ps tag D=>obtain⟨B,tmps,DB,h1,_,_,_,_,h5⟩:=hb;simp only[Gh.at,h1,qI]at ha;subst ha;exact h5 o
 |dfr=>obtain⟨B,h1,_,h5⟩:=hb;simp only[Gh.at,h1,qI]at ha;subst ha;exact h5 o
 |it s p=>obtain⟨B,h1,_,h5⟩:=hb;simp only[Gh.at,h1,qI]at ha;subst ha;exact h5 o
 |dead=>cases ha
def d9.gone{P:Program}{f:FuncId}{xs:List AV}{hp:List (Nat×ah)}{r:AV}
  (h:∀(w:World)(G:Gh)(vs:List Value),dd G hp w->am xs G vs->Calls P f vs.toArray w fun e w'=>∃v,e = .returned v/\aj r G v/\cd (p9 G hp) w w'):d9 P f xs hp r []:=by
 intro w G vs hm hr;refine(h w G vs hm hr).mono ?_;rintro e w' ⟨v,rfl,hv,hs⟩
 have hblk:∀b o v,G.imm b o=some v->w'.heap[b]? = w.heap[b]? := fun b o v hv=>hs.block b (World.block_lt_of_cell? _ _ (hm.agree b o v hv)) fun hb=>by
  rw[hm.blocks_none hb o]at hv;cases hv
 refine⟨v,G,rfl,⟨⟨fun b o v hv=>by rw[World.cell?_of_block (w:=w) (hblk b o v hv)];exact hm.agree b o v hv,hm.one,fun n bx h=>(by cases h),fun n m bx bx' b h=>(by cases h),LC.mono (fun _ _ _ h=>h) hblk hm.tab⟩,hs,fun _ _ _ h=>h,fun _ _ _ h => .inl h,fun n bx b h=>(by cases h),fun _ _ _ _ h=>h,fun _ _ _ _ h=>h⟩,hv⟩
end Go.Sym
set_option linter.unusedVariables false
namespace Go.Proofs.Repl
open Go.Shelf Go.RowKit Go.Lib Go.Sym
def ly.setCell{R q n:Nat}{u:Int}{a b a1 a2 b1 b2:UInt8}{w:World}(h:ly R a b a1 a2 b1 b2 w)(hq:w.cell? ⟨q,0,none⟩=some (.int .u32 u))(v:Value):ly R a b a1 a2 b1 b2 (w.setCell ⟨q,n,none⟩ v):=by
 obtain⟨ga,gb,gt,ca,cb,ct,h1,h2,h3,h4,h5,h6,h7,h8⟩:=h.ex;have kR:¬R=q:=fun e=>by
  have:=h1 0;subst e;rw[show(0:UInt8).toNat=0 from rfl,hq]at this
  unfold rv at this;split at this
  ·cases this
  ·split at this<;>cases this
 have kt:¬gt=q:=fun e=>by subst e;rw[hq]at h3;cases h3
 have ka:¬ga=q:=fun e=>by subst e;rw[hq]at h5;cases h5
 have kb:¬gb=q:=fun e=>by subst e;rw[hq]at h7;cases h7
 have k:∀{p:Nat}{o:Nat}{x:Value},¬p=q->w.cell? ⟨p,o,none⟩=some x->(w.setCell ⟨q,n,none⟩ v).cell? ⟨p,o,none⟩=some x:=fun{p o x} hp hx=>by
  rw[World.cell?_of_block (w:=w) (Below.heap_setCell w ⟨q,n,none⟩ v p hp)];exact hx
 exact⟨ga,gb,gt,ca,cb,ct,fun c=>k kR (h1 c),k kR h2,k kt h3,k kt h4,k ka h5,k ka h6,k kb h7,k kb h8⟩
structure Once(q:Nat)(w w':World):Prop where
 bel:cd (fun k=>k=q) w w'
 c0:w'.cell? ⟨q,0,none⟩=some (.int .u32 0)
 c1:w'.cell? ⟨q,0+1,none⟩=some (.int .i32 1)
 f0:w'.frozen? ⟨q,0,none⟩=false
 f1:w'.frozen? ⟨q,0+1,none⟩=false
def zm9(S:Nat->Prop)(w:World):cd S w w.drew:=⟨rfl,rfl,rfl,wF _,fun _ _ _=>rfl⟩
def q1b{S:Nat->Prop}{w w':World}(h:Below w.heap.size w w'):cd S w w':=⟨h.os,h.tape,h.output,h.size,fun k hk _=>h.block k hk⟩
def qlc{q:Nat}{w w':World}(h:cd (fun k=>k=q) w w')(n:Nat)(v:Value):cd (fun k=>k=q) w (w'.setCell ⟨q,n,none⟩ v):=
 ⟨h.os,h.tape,h.output,by simp[World.setCell];exact h.size,fun k hk hn=>(Below.heap_setCell w' ⟨q,n,none⟩ v k hn).trans (h.block k hk hn)⟩
def q1c{S:Nat->Prop}{a b c:World}(h:cd S a b)(k:cd S b c):cd S a c:=
 ⟨k.os.trans h.os,k.tape.trans h.tape,k.output.trans h.output,Nat.le_trans h.size k.size,fun i hi hn=>(k.block i (Nat.lt_of_lt_of_le hi h.size) hn).trans (h.block i hi hn)⟩
set_option maxHeartbeats 1600000 in
def znk(q ro cap:Nat)(v3:Value)(a b a1 a2 b1 b2:UInt8)(w:World)(hab:a≠b)
  (c0:w.cell? ⟨q,0,none⟩=some (.int .u32 0)) (c1:w.cell? ⟨q,0+1,none⟩=some (.int .i32 1)) (hf:∀j,w.frozen? ⟨q,j,none⟩=false) (c3:w.cell? ⟨q,3,none⟩=some v3)
  (hc:w.cell? ⟨q,4,none⟩=some (.slice (some ⟨ro,0,none⟩) 4 cap)) (h0:w.cell? ⟨ro,0,none⟩=some (.string ⟨#[a]⟩)) (h1:w.cell? ⟨ro,1,none⟩=some (.string ⟨#[a1,a2]⟩)) (h2:w.cell? ⟨ro,2,none⟩=some (.string ⟨#[b]⟩)) (h3:w.cell? ⟨ro,3,none⟩=some (.string ⟨#[b1,b2]⟩)) :
  Calls Tryz.prog 223 #[.pointer (some ⟨q,0,none⟩)] w fun e w'=>e = .returned (.tuple #[])/\Once q w w'/\∃R,w'.cell? ⟨q,3,none⟩=some (.iface 309 (.pointer (some ⟨R,0,none⟩)))/\ly R a b a1 a2 b1 b2 w':=by
 have hqlt:q<w.heap.size:=World.block_lt_of_cell? _ _ c0;have hB:=zng q ro cap a b a1 a2 b1 b2 w hab hc h0 h1 h2 h3
 go_enter Tryz.func223,Tryz.ntmps223
 go_wp2_with (go_at_call 251;go_must (refine hB.mono ?_;rintro e W ⟨R,rfl,hBu,hbe⟩;have k0:∀{j:Nat}{v:Value},w.cell? ⟨q,j,none⟩=some v->W.cell? ⟨q,j,none⟩=some v:=(fun hj=>(hbe.cell (World.block_lt_of_cell? _ _ hj)).trans hj);have kf:∀j,W.frozen? ⟨q,j,none⟩=false:=(fun j=>(hbe.frozen (p:=⟨q,j,none⟩) hqlt).trans (hf j));have d0:=k0 c0;have d1:=k0 c1;have d3:=k0 c3;have d4:=k0 hc;clear hB hf k0))
 have d0':(W.setCell ⟨q,3,none⟩ (.iface 309 (.pointer (some ⟨R,0,none⟩)))).cell? ⟨q,0,none⟩=some (.int .u32 0):=by rw[World.cell?_setCell_other _ _ _ _ oC];exact d0
 have d1':(W.setCell ⟨q,3,none⟩ (.iface 309 (.pointer (some ⟨R,0,none⟩)))).cell? ⟨q,0+1,none⟩=some (.int .i32 1):=by rw[World.cell?_setCell_other _ _ _ _ oC];exact d1
 have d3':=World.cell?_setCell_same W ⟨q,3,none⟩ (.iface 309 (.pointer (some ⟨R,0,none⟩))) d3
 go_end0
 refine⟨rfl,⟨qlc (qlc (q1b hbe) 3 _) 4 _,?_,?_,?_,?_⟩,R,?_,(hBu.setCell d0 _).setCell d0' _⟩
 ·rw[World.cell?_setCell_other _ _ _ _ oC];exact d0'
 ·rw[World.cell?_setCell_other _ _ _ _ oC];exact d1'
 ·simp[kf]
 ·simp[kf]
 ·rw[World.cell?_setCell_other _ _ _ _ oC];exact d3'
def replS(q ro cap:Nat)(v3:Value)(a b a1 a2 b1 b2:UInt8)(s:ByteArray)(w:World)(hab:a≠b)(hs:s.size<=1000000)
  (c0:w.cell? ⟨q,0,none⟩=some (.int .u32 0)) (c1:w.cell? ⟨q,0+1,none⟩=some (.int .i32 0)) (hf:∀j,w.frozen? ⟨q,j,none⟩=false) (c3:w.cell? ⟨q,3,none⟩=some v3)
  (hc:w.cell? ⟨q,4,none⟩=some (.slice (some ⟨ro,0,none⟩) 4 cap)) (h0:w.cell? ⟨ro,0,none⟩=some (.string ⟨#[a]⟩)) (h1:w.cell? ⟨ro,1,none⟩=some (.string ⟨#[a1,a2]⟩)) (h2:w.cell? ⟨ro,2,none⟩=some (.string ⟨#[b]⟩)) (h3:w.cell? ⟨ro,3,none⟩=some (.string ⟨#[b1,b2]⟩)) :
  Calls Tryz.prog 182 #[.pointer (some ⟨q,0,none⟩),.string s] w fun e w'=>∃v,e = .returned v/\v = .string ⟨(e7 a b [a1,a2] [b1,b2] s.data.toList).toArray⟩/\cd (fun k=>k=q) w w':=by
 have hne:¬ro=q:=fun e=>by subst e;rw[c0]at h0;cases h0
 have k:∀{p:Addr}{x:Value},p≠⟨q,0+1,none⟩->w.cell? p=some x->(w.setCell ⟨q,0+1,none⟩ (.int .i32 1)).cell? p=some x:=fun{p x} hp hx=>by
  rw[World.cell?_setCell_other _ _ _ _ (fun e=>hp e.symm)];exact hx
 have kb:cd (fun k=>k=q) w (w.setCell ⟨q,0+1,none⟩ (.int .i32 1)):=qlc (q1b (Below.refl _ _)) _ _
 refine Go.Proofs.YtgpcmiimfgghdabGreatDoor.Once.replaceS_first q s w (fun w'=>Once q (w.setCell ⟨q,0+1,none⟩ (.int .i32 1)) w'/\∃R,w'.cell? ⟨q,3,none⟩=some (.iface 309 (.pointer (some ⟨R,0,none⟩)))/\ly R a b a1 a2 b1 b2 w') (fun v w'=>v = .string ⟨(e7 a b [a1,a2] [b1,b2] s.data.toList).toArray⟩/\cd (fun k=>k=q) w w') c0 c1 (hf _) (hf _) ?_ ?_ ?_
 ·exact znk q ro cap v3 a b a1 a2 b1 b2 _ hab (k oC c0) (World.cell?_setCell_same w _ _ c1) (fun j=>by simp[hf]) (k oC c3) (k oC hc) (k (by intro h;exact hne (congrArg Addr.block h)) h0) (k (by intro h;exact hne (congrArg Addr.block h)) h1) (k (by intro h;exact hne (congrArg Addr.block h)) h2) (k (by intro h;exact hne (congrArg Addr.block h)) h3)
 ·rintro w' ⟨ho,_⟩
  exact⟨ho.c0,ho.f0,ho.c1,ho.f1⟩
 ·rintro w' ⟨ho,R,hR,hBu⟩
  refine⟨R,hR,?_⟩;have e0:w'.drew.cell? ⟨q,0,none⟩=some (.int .u32 0):=by rw[World.cell?_drew];exact ho.c0
  have e1:=World.cell?_setCell_same w'.drew ⟨q,0,none⟩ (.int .u32 1) e0;have hB2:ly R a b a1 a2 b1 b2 ((w'.drew.setCell ⟨q,0,none⟩ (.int .u32 1)).setCell ⟨q,0+1,none⟩ (.int .i32 0)):=
   ((hBu.below (Below.refl _ w').drew).setCell e0 _).setCell e1 _
  have hBel:cd (fun k=>k=q) w ((w'.drew.setCell ⟨q,0,none⟩ (.int .u32 1)).setCell ⟨q,0+1,none⟩ (.int .i32 0)):=
   qlc (qlc (q1c (q1c kb ho.bel) (zm9 _ _)) 0 _) (0+1) _
  refine(zno R a b a1 a2 b1 b2 s _ hab hs hB2).mono ?_;rintro e w2 ⟨rfl,hb2⟩
  exact⟨_,rfl,rfl,q1c hBel (q1b hb2)⟩
end Go.Proofs.Repl
namespace Go.Sym
open Go.Proofs Go.RowKit
variable[LC]
def zve(a b a1 a2 b1 b2:UInt8)(s:Bs)(p2:Int)(hab:a≠b)(hs:s.length<=1000000) :
  d9 Tryz.prog 182 [.ptr 0 0,.str s] [(0,.cells [.int .u32 0,.int .i32 0,.int .u32 p2,.val .nilIface,.own 1] 250),(1,.row .str [[a],[a1,a2],[b],[b1,b2]] 9)] (.str (e7 a b [a1,a2] [b1,b2] s)) []:=by
 refine d9.gone fun w G vs hm hr => ?_
 match vs,hr with
 |[v1,v2],hr=>
 obtain⟨⟨q,hG,rfl⟩,r2,_⟩:=hr;have r2:v2 = .string ⟨s.toArray⟩:=r2;subst r2;obtain⟨B,cs,g1,g2,g3,g4,g5⟩:=hm.holds 0 _ rfl;rw[show G.box 0=some q from hG]at g1
 cases g1
 obtain⟨ad,c,us,o1,o2,o3,o4⟩:=(hm.holds 1 (.row .str [[a],[a1,a2],[b],[b1,b2]] 9) rfl).rowAt;obtain⟨u0,c0,x0⟩:=kp g3 (i:=0) rfl;obtain⟨u1,c1,x1⟩:=kp g3 (i:=1) rfl;obtain⟨u3,c3,x3⟩:=kp g3 (i:=3) rfl;obtain⟨u4,c4,x4⟩:=kp g3 (i:=4) rfl;have x0:u0 = .int .u32 0:=x0;have x1:u1 = .int .i32 0:=x1;obtain⟨ad',n',c',x5,x4⟩:=x4;rw[o1]at x5;cases x5
 subst x0 x1 x4;have k:∀{i:Nat}{v:Value},cs.toList[i]? = some v->w.cell? ⟨q,i,none⟩=some v:=fun{i v} h=>cell_of_heap g2 h
 obtain⟨ho1,ho2⟩:=o2;rcases ho2 with⟨_,h0,_⟩|⟨g,vr,fz,rfl,e1,_,e3,e4,e5,e6,_⟩
 ·cases h0
 ·have hus:us=[.string ⟨#[a]⟩,.string ⟨#[a1,a2]⟩,.string ⟨#[b]⟩,.string ⟨#[b1,b2]⟩]:=by
   match us,o3 with
   |[y0,y1,y2,y3],⟨z0,z1,z2,z3,_⟩=>
    have z0:y0 = .string ⟨#[a]⟩:=z0;have z1:y1 = .string ⟨#[a1,a2]⟩:=z1;have z2:y2 = .string ⟨#[b]⟩:=z2;have z3:y3 = .string ⟨#[b1,b2]⟩:=z3;rw[z0,z1,z2,z3]
  have kr:∀{i:Nat}{v:Value},us[i]? = some v->w.cell? ⟨g,i,none⟩=some v:=fun{i v} h=>by
   rw[← e6,List.getElem?_take]at h;split at h
   ·exact cell_of_heap e1 h
   ·cases h
  subst hus;refine(Go.Proofs.Repl.replS q g c u3 a b a1 a2 b1 b2 ⟨s.toArray⟩ w hab (by rw[jl];exact hs) (k c0) (k c1) (fun j=>by simp[World.frozen?,g2]) (k c3) (k c4) (kr (i:=0) rfl) (kr (i:=1) rfl) (kr (i:=2) rfl) (kr (i:=3) rfl)).mono ?_
  rintro e w' ⟨v,rfl,rfl,hb⟩
  refine⟨_,rfl,rfl,⟨hb.os,hb.tape,hb.output,hb.size,fun k hk hn=>hb.block k hk (fun e=>hn ?_)⟩⟩
  subst e;exact⟨0,_,rfl,hG⟩
def zfe:IF:=⟨.fn 182,[.ptr 0 0,.h .str],[(0,.cells [.h (.int .u32),.h (.int .i32),.h (.int .u32),.c .nilIface,.own 1] 250),(1,.row .str 9)],_,RS.mk (.h .str) []⟩
def zvf:(zfe.e w9).Sound Tryz.prog:=fun d d' r h=>by
 obtain⟨_,s,_⟩:=d;obtain⟨⟨p0,p1,p2,_,_,_⟩,on,_⟩:=d';have h:w9 s p0 p1 p2 on=some r:=h;obtain⟨a,a1,a2,b,b1,b2,rfl,rfl,rfl,hab,hs,rfl⟩:=zvg h;exact⟨Tryz.call182,zve a b a1 a2 b1 b2 s p2 hab hs⟩
end Go.Sym
namespace Go.Sym
open Go.Proofs Go.RowKit
open Go.Proofs.Tryz
variable[LC]
def znc:Builder.Extra Tryz.prog Tryz.lays155_ren:={
 sizeBuilder:=oD
 liesBuilder:=oD
 t5:=Tryz.lays155.t5
 a5:=Tryz.lays155.a5
 z5:=Tryz.lays155.z5
 v5:=Tryz.lays155.v5
 infoByte:=oD
 cellsByte:=oD
 sizeByte:=oD
 neB5:=by decide }
def zvc{G:Gh}{w:World}(hm:dd G [] w)(hi:2∈LC.ints)(s o n:Bs)(d1:1<=o.length)(d2:s.length<4294967281)(d3:s.length+s.length*n.length<=140737488355328) :
  Calls Tryz.prog 27 #[.string ⟨s.toArray⟩,.string ⟨o.toArray⟩,.string ⟨n.toArray⟩] w fun e w'=>e = .returned (.string ⟨(Lib.replaceAll s o n).toArray⟩)/\ch w w':=by
 obtain⟨k,hk⟩:=hm.tab.2.1 _ hi;have hk:=hm.agree _ _ _ hk;have hc:Lib.countB ⟨s.toArray⟩ ⟨o.toArray⟩<=s.length:=by
  have:=Lib.countB_mul_le (⟨o.toArray⟩:ByteArray) (by rw[jl];exact d1) _ (⟨s.toArray⟩:ByteArray) (wF _)
  rw[jl,jl]at this;exact Nat.le_trans (Nat.le_mul_of_pos_right _ d1) this
 exact(Any.strings_ReplaceAll Tryz.lays155 znc ⟨s.toArray⟩ ⟨o.toArray⟩ ⟨n.toArray⟩ k w (by rw[jl];exact d2) hk (by rw[jl];exact d1) (by
  rw[jl,jl];exact Nat.le_trans (Nat.add_le_add_left (Nat.mul_le_mul_right _ hc) _) d3)).mono fun e w'⟨he,hw⟩=>⟨he,ch.of_below hw⟩
def zfd:IF:=⟨.fn 27,[.h .str,.h .str,.h .str],[],_,RS.mk (.h .str) []⟩
def zvd(hi:2∈LC.ints):(zfd.e xd).Sound Tryz.prog:=fun d d' r h=>by
 obtain⟨s,o,n,_⟩:=d;have h:xd s o n=some r:=h;unfold xd at h;cases hd:decide (1<=List.length (α:=UInt8) o/\List.length (α:=UInt8) s<4294967281/\List.length (α:=UInt8) s+List.length (α:=UInt8) s*List.length (α:=UInt8) n<=140737488355328)<;>rw[hd]at h<;>simp only[qT,qF,reduceCtorEq]at h
 have h:=qJ h;subst h;obtain⟨d1,d2,d3⟩:=of_decide_eq_true hd;refine⟨call27,d9.data fun w G vs hm hr => ?_⟩
 match vs,hr with
 |[u,v,x],⟨h1,h2,h3,_⟩=>
  have h1:u = .string ⟨s.toArray⟩:=h1;have h2:v = .string ⟨o.toArray⟩:=h2;have h3:x = .string ⟨n.toArray⟩:=h3;subst h1 h2 h3;exact(zvc hm hi s o n d1 d2 d3).mono fun e w'⟨he,hw⟩=>⟨_,he,rfl,hw⟩
end Go.Sym
namespace Go.Sym
open Go.Proofs Go.RowKit Go.Shelf
def cd.refl(S:Nat->Prop)(w:World):cd S w w:=⟨rfl,rfl,rfl,wF _,fun _ _ _=>rfl⟩
def cd.drew(S:Nat->Prop)(w:World):cd S w w.drew:=⟨rfl,rfl,rfl,wF _,fun _ _ _=>rfl⟩
def cd.freeze{S:Nat->Prop}(w:World)(p:Addr)(n:Nat)(h:S p.block):cd S w (w.drew.freeze p n):=by
 unfold World.freeze;split
 ·exact cd.drew S w
 ·exact⟨rfl,rfl,rfl,oC,fun k hk hS=>by
   simp[Array.getElem?_modify];rw[qW (fun e=>hS (by rw[← e];exact h))];rfl⟩
def cd.drew_alloc(S:Nat->Prop)(w:World)(o:Obj):cd S w (w.drew.alloc o):=⟨rfl,rfl,rfl,oC,fun k hk _=>Below.heap_alloc w.drew _ k hk⟩
def zat{G:Gh}:∀{l:List UInt8}{us:List Value},am (l.flatMap Ty.byte.enc) G us->us=Lib.byteCells l
 |[],[],_=>rfl|c::l,u::us,⟨h1,h2⟩=>by
  have h1:u = .int .u8 c.toNat:=h1;rw[h1,zat (l:=l) h2];rfl
 |[],_::_,h=>h.elim|_::_,[],h=>h.elim
section
variable{P:Program}{ρ:Ren}
set_option maxHeartbeats 2000000 in
def zxm(L:Lays.n169 P ρ)(X:Builder.Extra P ρ)(b:Nat)(p:Value)(l:List UInt8)(g cap:Nat)(w:World)(hbk:w.heap[b]? = some (.cells #[p,.slice (some ⟨g,0,none⟩) l.length cap] (ρ.t 72) (0,0)))
  (cur:Array Value) (fz:Nat×Nat) (hg:w.heap[g]? = some (.cells cur (ρ.t 5) fz)) (hnc:l.length<=cap) (hcm:cap<=maxLen) (hcs:cur.size=cap*1) (htake:cur.toList.take (l.length*1)=Lib.byteCells l) (h0:l≠[]) :
  Calls P (ρ.f 169) #[.pointer (some ⟨b,0,none⟩)] w fun e w'=>e = .returned (.string ⟨l.toArray⟩)/\cd (fun k=>k=g) w w':=by
 have n9:l.length≠0:=by simpa using h0
 have c1:w.drew.cell? ⟨b,1,none⟩=some (.slice (some ⟨g,0,none⟩) l.length cap):=by
  have:w.drew.heap[b]? = some (.cells #[p,.slice (some ⟨g,0,none⟩) l.length cap] (ρ.t 72) (0,0)):=hbk;rw[Lib.cell_of_heap this];rfl
 have hSD:(Builtin.unsafeSliceData_ #[(ρ.t 37)] (ρ.t 127) #[.slice (some ⟨g,0,none⟩) l.length cap]).run P w.drew = .ok (.pointer (some ⟨g,0,none⟩)) w.drew:=
  Lib.run_unsafeSliceData_row _ _ _ _ _ _ oA
 have hUS:(Builtin.unsafeString_ #[(ρ.t 127),(ρ.t 3)] (ρ.t 9) #[.pointer (some ⟨g,0,none⟩),.int .i64 l.length]).run P w.drew = .ok (.string ⟨l.toArray⟩) (w.drew.freeze ⟨g,0,none⟩ l.length):=by
  refine Lib.run_unsafeString_row w.drew (ρ.t 127) (ρ.t 3) (ρ.t 9) (ρ.t 5) L.t127 X.cellsByte g cur.size (by have hg':w.drew.heap[g]? = some (.cells cur (ρ.t 5) fz):=hg;simp[World.shape?,hg']) l h0 oA (by unfold maxLen at hcm;omega) ?_
  intro j x hx;have hj:(cur.toList.take (l.length*1))[j]? = some (.int .u8 x.toNat):=by rw[htake];simp[Lib.byteCells,hx]
  have hj2:cur[j]? = some (.int .u8 x.toNat):=by
   rw[List.getElem?_take]at hj;split at hj
   ·simpa using hj
   ·cases hj
  have hg':w.drew.heap[g]? = some (.cells cur (ρ.t 5) fz):=hg;by_cases hj0:j=0
  ·subst hj0;simp[World.cell?,Addr.add,hg',hj2]
  ·simp[World.cell?,Addr.add,hj0,hg',hj2]
 have mixed:=L.mixed;have t72:=L.t72;have a72:=L.a72;have z72:=L.z72;have v72:=L.v72;have u72:=run_underlying L.t72;have t70:=L.t70;have a70:=L.a70;have z70:=L.z70;have v70:=L.v70;have u70:=run_underlying L.t70;have t37:=L.t37;have a37:=L.a37;have z37:=L.z37;have v37:=L.v37;have u37:=run_underlying L.t37;have t127:=L.t127;have a127:=L.a127;have z127:=L.z127;have v127:=L.v127;have u127:=run_underlying L.t127;have t3:=L.t3;have a3:=L.a3;have z3:=L.z3;have v3:=L.v3;have u3:=run_underlying L.t3;have t9:=L.t9;have a9:=L.a9;have z9:=L.z9;have v9:=L.v9;have u9:=run_underlying L.t9;have t5:=X.t5;have a5:=X.a5;have z5:=X.z5;have v5:=X.v5;have u5:=run_underlying X.t5;clear hcs htake hnc hcm hg
 go_enter L.f169,Body.n169_ntmps ρ
 go_wp2
 go_region_o
 all_goals (go_wp2;go_ret;exact⟨rfl,cd.freeze w ⟨g,0,none⟩ _ rfl⟩)
set_option maxHeartbeats 2000000 in
def zxn(L:Lays.n169 P ρ)(X:Builder.Extra P ρ)(b:Nat)(p:Value)(w:World)(hbk:w.heap[b]? = some (.cells #[p,.slice none 0 0] (ρ.t 72) (0,0))) :
  Calls P (ρ.f 169) #[.pointer (some ⟨b,0,none⟩)] w fun e w'=>e = .returned (.string ⟨#[]⟩)/\cd (fun _=>False) w w':=by
 have hUS:=Any.unsafeString_none L X;have c1:w.drew.cell? ⟨b,1,none⟩=some (.slice none 0 0):=by
  have:w.drew.heap[b]? = some (.cells #[p,.slice none 0 0] (ρ.t 72) (0,0)):=hbk;rw[Lib.cell_of_heap this];rfl
 have hSD:(Builtin.unsafeSliceData_ #[(ρ.t 37)] (ρ.t 127) #[.slice none 0 0]).run P w.drew = .ok (.pointer none) w.drew:=rfl;have mixed:=L.mixed;have t72:=L.t72;have a72:=L.a72;have z72:=L.z72;have v72:=L.v72;have u72:=run_underlying L.t72;have t70:=L.t70;have a70:=L.a70;have z70:=L.z70;have v70:=L.v70;have u70:=run_underlying L.t70;have t37:=L.t37;have a37:=L.a37;have z37:=L.z37;have v37:=L.v37;have u37:=run_underlying L.t37;have t127:=L.t127;have a127:=L.a127;have z127:=L.z127;have v127:=L.v127;have u127:=run_underlying L.t127;have t3:=L.t3;have a3:=L.a3;have z3:=L.z3;have v3:=L.v3;have u3:=run_underlying L.t3;have t9:=L.t9;have a9:=L.a9;have z9:=L.z9;have v9:=L.v9;have u9:=run_underlying L.t9;have t5:=X.t5;have a5:=X.a5;have z5:=X.z5;have v5:=X.v5;have u5:=run_underlying X.t5
 go_enter L.f169,Body.n169_ntmps ρ
 go_wp2
 go_region_o
 all_goals (go_wp2;go_ret;exact⟨rfl,cd.drew _ w⟩)
set_option maxHeartbeats 2000000 in
def zxo(L:Lays.n169 P ρ)(X:Builder.Extra P ρ)(b g:Nat)(p:Value)(cur:Array Value)(w:World)(hbk:w.heap[b]? = some (.cells #[p,.slice (some ⟨g,0,none⟩) 0 0] (ρ.t 72) (0,0)))(fz:Nat×Nat)(hg:w.heap[g]? = some (.cells cur (ρ.t 5) fz)) :
  Calls P (ρ.f 169) #[.pointer (some ⟨b,0,none⟩)] w fun e w'=>e = .returned (.string ⟨#[]⟩)/\cd (fun _=>False) w w':=by
 have hUS:=Any.unsafeString_none L X;have hlt:b<w.heap.size:=by
  rcases Nat.lt_or_ge b w.heap.size with h'|h'
  ·exact h'
  ·simp[Array.getElem?_eq_none h']at hbk
 have c1:w.drew.cell? ⟨b,1,none⟩=some (.slice (some ⟨g,0,none⟩) 0 0):=by
  have:w.drew.heap[b]? = some (.cells #[p,.slice (some ⟨g,0,none⟩) 0 0] (ρ.t 72) (0,0)):=hbk;rw[Lib.cell_of_heap this];rfl
 have hSD:(Builtin.unsafeSliceData_ #[(ρ.t 37)] (ρ.t 127) #[.slice (some ⟨g,0,none⟩) 0 0]).run P w.drew = .ok (.pointer (some ⟨w.drew.heap.size,0,none⟩)) (w.drew.alloc (.view ⟨g,0,none⟩ (ρ.t 5))):=
  Lib.run_unsafeSliceData_zero w.drew _ _ (ρ.t 5) L.t127 ⟨g,0,none⟩ 0 ((ρ.t 5),cur.size) (by have hg':w.drew.heap[g]? = some (.cells cur (ρ.t 5) fz):=hg;simp[World.shape?,hg'])
 have c2:(w.drew.alloc (.view ⟨g,0,none⟩ (ρ.t 5))).cell? ⟨b,1,none⟩=some (.slice (some ⟨g,0,none⟩) 0 0):=by
  have:(w.drew.alloc (.view ⟨g,0,none⟩ (ρ.t 5))).heap[b]? = _:=(Lib.alloc_old w.drew _ b hlt).trans hbk;rw[Lib.cell_of_heap this];rfl
 have c3:(w.alloc (.view ⟨g,0,none⟩ (ρ.t 5))).drew.cell? ⟨b,1,none⟩=some (.slice (some ⟨g,0,none⟩) 0 0):=c2;have c0:w.cell? ⟨b,1,none⟩=some (.slice (some ⟨g,0,none⟩) 0 0):=c1;have mixed:=L.mixed;have t72:=L.t72;have a72:=L.a72;have z72:=L.z72;have v72:=L.v72;have u72:=run_underlying L.t72;have t70:=L.t70;have a70:=L.a70;have z70:=L.z70;have v70:=L.v70;have u70:=run_underlying L.t70;have t37:=L.t37;have a37:=L.a37;have z37:=L.z37;have v37:=L.v37;have u37:=run_underlying L.t37;have t127:=L.t127;have a127:=L.a127;have z127:=L.z127;have v127:=L.v127;have u127:=run_underlying L.t127;have t3:=L.t3;have a3:=L.a3;have z3:=L.z3;have v3:=L.v3;have u3:=run_underlying L.t3;have t9:=L.t9;have a9:=L.a9;have z9:=L.z9;have v9:=L.v9;have u9:=run_underlying L.t9;have t5:=X.t5;have a5:=X.a5;have z5:=X.z5;have v5:=X.v5;have u5:=run_underlying X.t5
 go_enter L.f169,Body.n169_ntmps ρ
 go_wp2
 go_region_o
 all_goals (go_wp2;go_ret;exact⟨rfl,cd.drew_alloc _ w _⟩)
set_option maxHeartbeats 2000000 in
def zxp(L:Lays.n169 P ρ)(X:Builder.Extra P ρ)(b g cap:Nat)(p:Value)(w:World)(hc0:cap≠0)(hbk:w.heap[b]? = some (.cells #[p,.slice (some ⟨g,0,none⟩) 0 cap] (ρ.t 72) (0,0))) :
  Calls P (ρ.f 169) #[.pointer (some ⟨b,0,none⟩)] w fun e w'=>e = .returned (.string ⟨#[]⟩)/\cd (fun _=>False) w w':=by
 have hUS:=Any.unsafeString_none L X;have c1:w.drew.cell? ⟨b,1,none⟩=some (.slice (some ⟨g,0,none⟩) 0 cap):=by
  have:w.drew.heap[b]? = some (.cells #[p,.slice (some ⟨g,0,none⟩) 0 cap] (ρ.t 72) (0,0)):=hbk;rw[Lib.cell_of_heap this];rfl
 have hSD:(Builtin.unsafeSliceData_ #[(ρ.t 37)] (ρ.t 127) #[.slice (some ⟨g,0,none⟩) 0 cap]).run P w.drew = .ok (.pointer (some ⟨g,0,none⟩)) w.drew:=
  Lib.run_unsafeSliceData_row _ _ _ _ _ _ hc0
 clear hc0;have mixed:=L.mixed;have t72:=L.t72;have a72:=L.a72;have z72:=L.z72;have v72:=L.v72;have u72:=run_underlying L.t72;have t70:=L.t70;have a70:=L.a70;have z70:=L.z70;have v70:=L.v70;have u70:=run_underlying L.t70;have t37:=L.t37;have a37:=L.a37;have z37:=L.z37;have v37:=L.v37;have u37:=run_underlying L.t37;have t127:=L.t127;have a127:=L.a127;have z127:=L.z127;have v127:=L.v127;have u127:=run_underlying L.t127;have t3:=L.t3;have a3:=L.a3;have z3:=L.z3;have v3:=L.v3;have u3:=run_underlying L.t3;have t9:=L.t9;have a9:=L.a9;have z9:=L.z9;have v9:=L.v9;have u9:=run_underlying L.t9;have t5:=X.t5;have a5:=X.a5;have z5:=X.z5;have v5:=X.v5;have u5:=run_underlying X.t5
 go_enter L.f169,Body.n169_ntmps ρ
 go_wp2
 go_region_o
 all_goals (go_wp2;go_ret;exact⟨rfl,cd.drew _ w⟩)
end
open Go.Proofs.Tryz
variable[LC]
def zna{q:Nat}(w:World)(n:Nat)(v:Value):cd (fun k=>k=q) w (w.setCell ⟨q,n,none⟩ v):=
 ⟨rfl,rfl,rfl,by simp[World.setCell],fun k hk hS=>by simp only[World.setCell,Array.getElem?_modify];rw[qW (fun e=>hS e.symm)]⟩
def cd.mono{S S':Nat->Prop}{w w':World}(h:cd S w w')(hS:∀k,S k->S' k):cd S' w w':=⟨h.os,h.tape,h.output,h.size,fun k hk hn=>h.block k hk fun q=>hn (hS k q)⟩
def Fin.same{vcg w:World}{vcb G:Gh}{vcd hp hp':List (Nat×ah)}(hf:Fin vcg vcb vcd G hp' w)(h:∀n,af hp n=af hp' n):Fin vcg vcb vcd G hp w:=
 ⟨⟨hf.mem.agree,hf.mem.one,fun n bx hl=>hf.mem.holds n bx (by rw[← h];exact hl),fun n m bx bx' b h1 h2=>hf.mem.apart n m bx bx' b (by rw[← h];exact h1) (by rw[← h];exact h2),hf.mem.tab⟩,
  hf.bel,hf.imm_le,hf.imm_new,fun n bx b hl=>hf.base n bx b (by rw[← h];exact hl),hf.keep,hf.keepOwn⟩
abbrev bxB:List (Nat×a8):=[(0,.cells [.pn 0,.own 1] 70),(1,.row .byte 5)]
def q1u:IF:=⟨.fn 55,[.ptr 0 0],bxB,_,RS.mk (.tup []) bxB⟩
def zam:IF:=⟨.fn 33,[.ptr 0 0],bxB,_,RS.mk (.h .str) []⟩
abbrev bxh(l:Bs):List (Nat×ah):=[(0,.cells [.pn 0,.own 1] 70),(1,.row .byte l 5)]
def zar{G:Gh}{w:World}{l:Bs}{vs:List Value}(hm:dd G (bxh l) w)(hr:am [AV.ptr 0 0] G vs) :
  ∃B p ad c,vs=[.pointer (some ⟨B,0,none⟩)]/\G.box 0=some B/\G.own 1=some (ad,l.length,c)/\(p = .pointer none\/p = .pointer (some ⟨B,0,none⟩)) /\
   w.heap[B]? = some (.cells #[p,.slice ad l.length c] 70 (0,0))/\(∀o,G.imm B o=none):=by
 match vs,hr with
 |[v],⟨⟨B,h1,h2⟩,_⟩=>
  obtain⟨B',arr,k1,k2,k3,_,k5⟩:=hm.holds 0 _ rfl;rw[h1]at k1;injection k1 with k1;subst k1
  match arr,k2,k3 with
  |⟨[]⟩,_,h=>exact h.elim|⟨[_]⟩,_,h=>exact h.2.elim|⟨_::_::_::_⟩,_,h=>exact h.2.2.elim|⟨[p,x]⟩,k2,⟨⟨B2,q1,q2⟩,⟨a,n,c,q3,q4⟩,_⟩=>
   rw[h1]at q1;injection q1 with q1;subst q1
   obtain⟨a',c',r1,_⟩:=hm.holds 1 _ rfl;rw[r1]at q3;simp only[qI,qP]at q3;obtain⟨rfl,rfl,rfl⟩:=q3;subst q4 h2;exact⟨B,p,a',c',rfl,h1,r1,q2,k2,k5⟩
def za8:(q1u.e wz).Sound Tryz.prog:=fun d d' r h=>by
 obtain⟨d0,l,_⟩:=d';have h:wz l=some r:=h;have h:=qJ h;subst h;refine⟨call55,?_⟩;show d9 _ _ [.ptr 0 0] (bxh l) (.tup []) (bxh l);intro w G vs hm hr;obtain⟨B,p,ad,c,rfl,h1,h2,h3,h4,h5⟩:=zar hm hr;rcases h3 with rfl|rfl
 ·refine(Any.Builder_copyCheck_fresh { Tryz.lays165 with } ToValid.bx.toX72 B w (by rw[Lib.cell_of_heap h4];rfl) (by have q:w.shape? B=some (70,2):=by{ simp[World.shape?,h4] };exact q) (Lib.frozen_of_heap h4 0)).mono ?_
  rintro e w' ⟨rfl,rfl⟩
  refine⟨_,G,rfl,?_,#[],rfl,trivial⟩;refine((qew hm).update (n:=0) (bx := .cells [.pn 0,.own 1] 70) (bx' := .cells [.pn 0,.own 1] 70) (B:=B) rfl h1 h1 (zna w 0 _) ?_ h5).same (fun n => ?_)
  ·exact⟨B,#[.pointer (some ⟨B,0,none⟩),.slice ad l.length c],h1,by simp[World.setCell,Array.getElem?_modify,h4];rfl,⟨⟨B,h1,.inr rfl⟩,⟨ad,l.length,c,h2,rfl⟩,trivial⟩,by intro v hv;simp at hv;rcases hv with rfl|rfl<;>rfl,h5⟩
  ·cases n<;>rfl
 ·refine(Any.Builder_copyCheck_used { Tryz.lays165 with } ToValid.bx.toX72 B w (by rw[Lib.cell_of_heap h4];rfl)).mono ?_
  rintro e w' ⟨rfl,rfl⟩
  exact⟨_,G,rfl,qew hm,#[],rfl,trivial⟩
def znt:(zam.e qox).Sound Tryz.prog:=fun d d' r h=>by
 obtain⟨d0,l,_⟩:=d';have h:qox l=some r:=h;have h:=qJ h;subst h;refine⟨call33,d9.gone fun w G vs hm hr => ?_⟩
 have hm:dd G (bxh l) w:=hm;obtain⟨B,p,ad,c,rfl,h1,h2,h3,h4,h5⟩:=zar hm hr;obtain⟨a',c',k1,k2⟩:=hm.holds 1 _ rfl;rw[h2]at k1;simp only[qI,qP]at k1;obtain⟨rfl,-,rfl⟩:=k1;rcases k2 with⟨rfl,rfl,rfl⟩|⟨g,cs,fz,rfl,hg,_,hnc,hcm,hcs,hrep,_,_⟩
 ·refine(zxn Tryz.lays169 ToValid.bx B p w h4).mono ?_;rintro e w' ⟨rfl,hb⟩
  exact⟨_,rfl,rfl,hb.mono fun _ q=>q.elim⟩
 ·by_cases h0:l=[]
  ·subst h0;by_cases hc0:c=0
   ·subst hc0;refine(zxo Tryz.lays169 ToValid.bx B g p cs w h4 fz hg).mono ?_;rintro e w' ⟨rfl,hb⟩
    exact⟨_,rfl,rfl,hb.mono fun _ q=>q.elim⟩
   ·refine(zxp Tryz.lays169 ToValid.bx B g c p w hc0 h4).mono ?_;rintro e w' ⟨rfl,hb⟩
    exact⟨_,rfl,rfl,hb.mono fun _ q=>q.elim⟩
  ·refine(zxm Tryz.lays169 ToValid.bx B p l g c w h4 cs fz hg hnc hcm hcs (zat hrep) h0).mono ?_;rintro e w' ⟨rfl,hb⟩
   refine⟨_,rfl,rfl,hb.mono fun k q => ?_⟩
   subst q;exact⟨1,.row .byte l 5,rfl,by simp only[Gh.at,h2]⟩
end Go.Sym
namespace Go.Sym
open Go.Proofs Go.RowKit Go.Sort
open Go.Proofs.Tryz
variable[LC]
def q97:IF:=⟨.fn 59,[.h .str],[],_,RS.mk (.tup [.h (.int .i64),.c .nilIface]) []⟩
def zm2:(q97.e qat).Sound Tryz.prog:=fun d d' r h=>by
 obtain⟨s,_⟩:=d;have h:qat s=some r:=h;unfold qat at h;cases hd:decide (List.length (α:=UInt8) s<=281474976710656)<;>rw[hd]at h<;>simp only[qT,qF,reduceCtorEq]at h
 have hl:List.length (α:=UInt8) s<=281474976710656:=of_decide_eq_true hd;split at h
 ·rename_i v hA;have h:=qJ h;subst h;refine⟨call59,d9.data fun w G vs hm hr => ?_⟩
  match vs,hr with
  |[u],⟨e1,_⟩=>
   have e1:u = .string ⟨List.toArray s⟩:=e1;subst e1;have hsz:(⟨List.toArray (α:=UInt8) s⟩:ByteArray).size=List.length (α:=UInt8) s:=jl s;refine(Any.strconv_Atoi_ok Tryz.laysC172 ⟨List.toArray (α:=UInt8) s⟩ oA v (by simpa using hA) w).mono fun e w'⟨he,hw⟩=>⟨_,he,⟨_,rfl,rfl,rfl,trivial⟩,?_⟩
   rcases hw with rfl|⟨t,rfl⟩
   ·exact ch.refl _
   ·refine⟨rfl,rfl,rfl,?_,fun j hj _ => ?_⟩
    ·simp[Lib.bytesWorld,World.freeze]
    ·show((w.heap.push _).modify w.heap.size _)[j]? = _;rw[Array.getElem?_modify,qW oA,Array.getElem?_push_lt oA]
     exact(Array.getElem?_eq_getElem hj).symm
 ·cases h
end Go.Sym
namespace Go.Sym
noncomputable section
open Go.Proofs
set_option linter.unusedVariables false
set_option maxRecDepth 100000
set_option maxHeartbeats 2000000
open Tryz
abbrev wT : Ty := .tree (.prod (.list (.prod .str .str)) (.list .byte))
abbrev wL : Ty := .list (.prod .str .str)
abbrev wP : Ty := .prod .str .str
abbrev wH : Pt := .h (.int .i64)
abbrev wI : Ty := .int .i64
abbrev wB : Ty := .list .byte
abbrev wN : Pt := .c .nilS
abbrev wS : Pt := .h .str
abbrev wG : Program := Tryz.prog
section
variable(fu:Nat)
def q2y:Nat->Option ((τ:Ty)×List τ.den)|0=>some ⟨.byte,q5j⟩|1=>some ⟨.prod .byte .byte,q5k⟩|5=>some ⟨.int .u64,zx1⟩|_=>none
abbrev qf4(f:Nat)(p:List Nat):Option (Code×Code):=some (u7 0 (sub (xl (tc wG f)) p),u7 1 (sub (xl (tc wG f)) p))
def zro:Nat->Option (Code×Code)|0=>qf4 9 [0,1,0,1,1]|1=>qf4 9 [0,1,0,1,1,1,1]|2=>qf4 79 [0,1,0,1,1,1]|3=>qf4 11 [0,1,0,1]|4=>qf4 40 [0,1,1]|5=>qf4 7 [0,1,0,1,1,1]|_=>none
instance:LC:=⟨zro,q2y,[2],[3,4],[(0,256),(1,32),(5,20)]⟩
def q9a:wG.follows .mixedOrders=true:=oD
def etys:List (Nat×Ty):=[(3,.int .i64),(5,.byte),(9,.str),(21,.int .i32),(23,.list .byte),(26,.tree (.prod wL wB)),(37,.prod .str .str),(97,.prod .str .str),(164,.prod .str (.prod wI (.prod .bool .str))),(196,.prod .str (.prod .str (.prod wI .bool)))]
abbrev fx{i:IF}(calls:List (EP wG):=[])(ls:List LB:=[])(sub:Bool:=false)(tags:List (List Nat×Nat):=[])(ht:∀p t,ob p tags=some t->∀g ps x y,Sym.sub (xl (tc wG (qsq i.key))) p = .rangeFunc g ps x y->LC.lc t=some (x,y):=by exact lm)(hf:wG.funcs[qsq i.key]? = some (tc wG (qsq i.key)):=by kernel_rfl):Fx wG i:=Fx.at etys q9a (qsq i.key) calls ls sub tags ht hf
abbrev fy{i:IF}(f:FuncId)(calls:List (EP wG):=[])(ls:List LB:=[])(sub:Bool:=false)(tags:List (List Nat×Nat):=[])(ht:∀p t,ob p tags=some t->∀g ps x y,Sym.sub (xl (tc wG f)) p = .rangeFunc g ps x y->LC.lc t=some (x,y):=by exact lm)(hf:wG.funcs[f]? = some (tc wG f):=by kernel_rfl):Fx wG i:=Fx.at etys q9a f calls ls sub tags ht hf
def zks:(qxy 95 ww).Sound wG:=zkr func95 oD oD oD oD
def zku:(qxz 253 ww).Sound wG:=zkt func253 oD oD oD oD
def x0s:EI wG ⟨.fn 19,[.h wT],[],_,RS.mk (.fn 42 [.ptr 0 0]) [(0,.dat wT 26)]⟩:=(fx).fi qao
def pl:EI wG ⟨.fn 20,[wH,wH],[],_,RS.mk (.h (.prod wI wI)) []⟩:=(fx).fi cn
def x2s:EI wG ⟨.yld 0,[wH,.agg [.h wL,.h wB,.h (.list wT),wH]],[(0,.loop .ready none 9 36 [(2,.ptr 1 0),(3,.ptr 2 0)] [11,12] 0 3),(1,.dat (.prod wI wI) 29),(2,.cells [.h .bool] 4),(3,.dfr)],_,.two (RS.mk (.c (.bool false)) [(0,.loop .done (some .ret) 9 36 [(2,.ptr 1 0),(3,.ptr 2 0)] [11,12] 0 3),(1,.dat (.prod wI wI) 29),(2,.cells [.h .bool] 4),(3,.dfr)]) (RS.mk (.c (.bool true)) [(0,.loop .ready none 9 36 [(2,.ptr 1 0),(3,.ptr 2 0)] [11,12] 0 3),(1,.dat (.prod wI wI) 29),(2,.cells [.h .bool] 4),(3,.dfr)])⟩:=(fy 9 [pl.p] [] false [([0,1,0,1,1],0)] (ne rfl lm)).fo qy4 [] 0 [0,1,0,1,1]
def x3i:IF:=⟨.fn 43,[.h wT,wH,.ptr 0 0,.ptr 1 0,.ptr 2 0],[(0,.cells [.yld 3] 87),(1,.cells [wH] 3),(2,.cells [.fn 43 [.ptr 0 0,.ptr 1 0,.ptr 2 0]] 88),(3,.loop .ready none 9 36 [(2,.ptr 4 0),(3,.ptr 5 0)] [11,12] 0 6),(4,.dat (.prod wI wI) 29),(5,.cells [.h .bool] 4),(6,.dfr)],_,.two (RS.mk (.c (.bool false)) [(0,.cells [.yld 3] 87),(1,.cells [wH] 3),(2,.cells [.fn 43 [.ptr 0 0,.ptr 1 0,.ptr 2 0]] 88),(3,.loop .done (some .ret) 9 36 [(2,.ptr 4 0),(3,.ptr 5 0)] [11,12] 0 6),(4,.dat (.prod wI wI) 29),(5,.cells [.h .bool] 4),(6,.dfr)]) (RS.mk (.c (.bool true)) [(0,.cells [.yld 3] 87),(1,.cells [wH] 3),(2,.cells [.fn 43 [.ptr 0 0,.ptr 1 0,.ptr 2 0]] 88),(3,.loop .ready none 9 36 [(2,.ptr 4 0),(3,.ptr 5 0)] [11,12] 0 6),(4,.dat (.prod wI wI) 29),(5,.cells [.h .bool] 4),(6,.dfr)])⟩
def x3(s7:EI wG x3i)(fu:Nat):Fx wG x3i:=fx [x2s.p,s7.p] [lb 488 [(1,wH),(4,.ptr 2 0),(20,.h (.list wT)),(21,wH),(22,wH)] [(0,.cells [.yld 3] 87),(1,.cells [wH] 3),(2,.cells [.fn 43 [.ptr 0 0,.ptr 1 0,.ptr 2 0]] 88),(3,.loop .ready none 9 36 [(2,.ptr 4 0),(3,.ptr 5 0)] [11,12] 0 6),(4,.dat (.prod wI wI) 29),(5,.cells [.h .bool] 4),(6,.dfr)]]
def z9a(s7:EI wG x3i)(fu:Nat):Nat->(x3 s7 fu).L 0:=Fx.lq (qka s7.f fu) (qy7 s7.f fu) (fun r0=>[r0.s])
def x3k(s7:EI wG x3i)(fu:Nat):EI wG x3i:=(x3 s7 fu).fi (qp1 s7.f fu) [(z9a s7 fu fu).s]
def x3s:EI wG x3i := .rc (qea fu) (fun r=>qp1 r fu) (fun _ _=>rfl) (fun _=>rfl) (fun s7=>x3k s7 fu) (fun _=>rfl) fu
def x4s:EI wG ⟨.fn 42,[.yld 0,.ptr 1 0],[(0,.loop .ready none 9 36 [(2,.ptr 2 0),(3,.ptr 3 0)] [11,12] 0 4),(1,.dat wT 26),(2,.dat (.prod wI wI) 29),(3,.cells [.h .bool] 4),(4,.dfr)],_,.two (RS.mk (.tup []) [(0,.loop .done (some .ret) 9 36 [(2,.ptr 2 0),(3,.ptr 3 0)] [11,12] 0 4),(1,.dat wT 26),(2,.dat (.prod wI wI) 29),(3,.cells [.h .bool] 4),(4,.dfr)]) (RS.mk (.tup []) [(0,.loop .ready none 9 36 [(2,.ptr 2 0),(3,.ptr 3 0)] [11,12] 0 4),(1,.dat wT 26),(2,.dat (.prod wI wI) 29),(3,.cells [.h .bool] 4),(4,.dfr)])⟩:=(fx [(x3s fu).p]).fi (qp0 fu)
def x5s:EI wG ⟨.fn 177,[.h .byte],[],_,RS.mk (.h .bool) []⟩:=(fx).fi qpf
def x6(fu:Nat):Fx wG ⟨.fn 125,[wS,.fn 177 []],[],_,RS.mk (.h .bool) []⟩:=fx [x5s.p] [lb 104 [(0,wS),(1,.fn 177 []),(7,wH),(8,wH)]]
def vak:Nat->(x6 fu).L 0:=Fx.lq (qja fu) (qxr fu) (fun r0=>[r0.s])
def x6s:=(x6 fu).fi (qxq fu) [(vak fu fu).s]
def x7s:EI wG ⟨.fn 121,[wS],[],_,RS.mk (.h .bool) []⟩:=(fx [(x6s fu).p]).fi (qpe fu)
def x8s:EI wG ⟨.fn 271,[wH],[],_,RS.mk (.h .bool) []⟩:=(fx).fi qzz
def x9(fu:Nat):Fx wG ⟨.fn 98,[wS],[],_,RS.mk (.tup [.arr .bool,.h .bool]) []⟩:=fx [] [lb 208 [(0,wS),(2,.el 32 1),(4,wH)] [(32,.row .bool 144)]]
def vb3:Nat->(x9 fu).L 0:=Fx.lq (qzy fu) (q8x fu) (fun r0=>[r0.s])
def x9s:=(x9 fu).fi (qkp fu) [(vb3 fu fu).s]
def zh6:EI wG ⟨.fn 54,[wS,.h .byte],[],_,RS.mk (wH) []⟩:=(fx [⟨qxy 95 ww,zks⟩]).fi qyj
def q58:EI wG ⟨.fn 28,[wS,.h .byte],[],_,RS.mk (wH) []⟩:=(fx [zh6.p]).fi xc
def z03:EI wG ⟨.fn 241,[.h (.int .i32)],[],_,RS.mk (.h .bool) []⟩:=(fx).fi qqu
def t7(fu:Nat):Fx wG ⟨.fn 198,[wS,.h (.int .i32)],[],_,RS.mk (wH) []⟩:=fx [q58.p,z03.p] [lb 3528 [(175,.ptr 32 0)] [(32,.it)],lb 117301840 [(0,wS),(7,wS),(8,wH),(9,wH),(12,wH)],lb 7331364 [(0,wS),(7,wS),(8,wH),(9,wH)],lb 458208 [(0,wS),(7,wS),(8,wH),(9,wH)],lb 13 [(0,wS),(1,.h (.int .i32)),(160,.h .bool)]]
def z1j:Nat->(t7 fu).L 0:=Fx.lq (qkm fu) (qzr fu) (fun r1=>[r1.s])
def z1m(r2:(t7 fu).L 3):Nat->(t7 fu).L 1:=Fx.lq (qzu fu r2.f) (q8w fu r2.f) (fun r4=>[r4.s])
def z1l(r2:(t7 fu).L 3):(t7 fu).L 2:=Fx.jm (qzt fu r2.f) [(z1m fu r2 fu).s]
def z1k:Nat->(t7 fu).L 3:=Fx.lq (qqj fu) (qzs fu) (fun r2=>[(z1l fu r2).s])
def z1i:(t7 fu).L 4:=Fx.jm (qkl fu) [(z1j fu fu).s,(z1k fu fu).s]
def z1n:=(t7 fu).fi (qav fu) [(z1i fu).s]
def q6g:EI wG ⟨.fn 142,[.el 0 1,.h .byte],[(0,.row .bool 144)],_,RS.mk (.h .bool) [(0,.row .bool 144)]⟩:=(fx).fi qed
def x15:Fx wG ⟨.fn 248,[wS,wS],[],_,RS.mk (wH) []⟩:=fx [x8s.p,(x9s fu).p,(z1n fu).p,q6g.p] [lb 470 [(0,wS),(5,.h (.int .i32))],lb 62864 [(0,wS),(6,.el 32 1),(8,wH)] [(32,.row .bool 144)],lb 1000 [(1,wS),(45,.ptr 32 0)] [(32,.it)],lb 124 [(0,wS),(1,wS)]]
def z2p:(x15 fu).L 0:=Fx.jm (qzq fu)
def z2q:Nat->(x15 fu).L 1:=Fx.lq (qkj fu) (qzo fu) (fun r1=>[r1.s])
def z2s:Nat->(x15 fu).L 2:=Fx.lq (qkk fu) (qzp fu) (fun r3=>[r3.s])
def z2r:(x15 fu).L 3:=Fx.jm (qqi fu) [(z2s fu fu).s]
def z2t:=(x15 fu).fi (qqh fu) [(z2p fu).s,(z2q fu fu).s,(z2r fu).s]
def z3e:EI wG ⟨.fn 221,[wS,wS],[],_,RS.mk (.h .bool) []⟩:=(fx [(z2t fu).p]).fi (qqc fu)
def z4t:EI wG ⟨.fn 178,[wS],[],_,RS.mk (.h .bool) []⟩:=(fx [(z3e fu).p]).fi (qyc fu)
def zji:EI wG ⟨.fn 179,[.h .byte],[],_,RS.mk (.h .bool) []⟩:=(fx).fi qae
def z61:EI wG ⟨.fn 122,[wS],[],_,RS.mk (.h .bool) []⟩:=(fx [(z4t fu).p,zji.p]).fi (qpi fu)
def x20(fu:Nat):Fx wG ⟨.fn 123,[wS,wH],[],_,RS.mk (wH) []⟩:=fx [zji.p] [lb 3729 [(0,wS),(5,wH),(6,wH),(26,.h .bool)],lb 464 [(0,wS),(5,wH),(6,wH)]]
def z73(r0:(x20 fu).L 1):(x20 fu).L 0:=Fx.jm (qph fu r0.f) [r0.s]
def z71:Nat->(x20 fu).L 1:=Fx.lq (qjm fu) (qyd fu) (fun r0=>[(z73 fu r0).s])
def z74:=(x20 fu).fi (qpg fu) [(z71 fu fu).s]
def nh:EI wG ⟨.fn 13,[],[],_,RS.mk (.h (.prod wI wI)) []⟩:=(fx).fi dx
def x22:Fx wG ⟨.fn 76,[wS,wS],[],_,RS.mk (.tup [.own 0,.h (.prod wI wI)]) [(0,.row .str 9)]⟩:=fx [(x7s fu).p,pl.p,(z61 fu).p,(z74 fu).p,nh.p] [lb 4072 [(5,.ptr 32 0),(8,.own 33),(55,.own 33),(56,wH),(57,wH)] [(32,.dat (.prod wI wI) 29),(33,.row .str 9)],lb 126 [(5,.ptr 32 0),(6,wS),(8,.own 33)] [(32,.dat (.prod wI wI) 29),(33,.row .str 9)],lb 992 [(5,.ptr 32 0),(6,wS),(7,wH),(8,.own 33)] [(32,.dat (.prod wI wI) 29),(33,.row .str 9)]]
def z8a:Nat->(x22 fu).L 0:=Fx.lq (qjl fu) (qyb fu) (fun r2=>[r2.s])
def z79:(x22 fu).L 1:=Fx.jm (qjk fu) [(z8a fu fu).s]
def z78:Nat->(x22 fu).L 2:=Fx.lq (qjj fu) (qya fu) (fun r0=>[(z79 fu).s,r0.s])
def z8b:=(x22 fu).fi (qpd fu) [(z78 fu fu).s]
def rr:EI wG ⟨.fn 10,[.h (.prod wI wI)],[],_,RS.mk (.h .bool) []⟩:=(fx).fi fv
def x24:Fx wG ⟨.fn 44,[.h wL],[],_,RS.mk (.h (.prod wI wI)) []⟩:=fx [pl.p,(z8b fu).p,rr.p,nh.p] [lb 232 [(2,.ptr 32 0),(11,.h wL),(12,wH),(13,wH)] [(32,.dat (.prod wI wI) 29)]]
def z8c:Nat->(x24 fu).L 0:=Fx.lq (qjn fu) (qye fu) (fun r0=>[r0.s])
def z8d:=(x24 fu).fi (qpj fu) [(z8c fu fu).s]
def x25(fu:Nat):Fx wG ⟨.fn 49,[wS],[],_,RS.mk (wS) []⟩:=fx [] [lb 232 [(3,.own 32),(8,.own 32),(9,wH),(10,wH)] [(32,.row .byte 5)]]
def z8e:Nat->(x25 fu).L 0:=Fx.lq (ul fu) (qdv fu) (fun r0=>[r0.s])
def zjr:=(x25 fu).fi (wv fu) [(z8e fu fu).s]
def pm:EI wG ⟨.fn 23,[wS,wS],[],_,RS.mk (.h .bool) []⟩:=(fx [(zjr fu).p]).fi (ek fu)
def x27(fu:Nat):Fx wG ⟨.fn 213,[wS,.h .byte],[],_,RS.mk (wS) []⟩:=fx [] [lb 96 [(0,wS),(1,.h .byte)]]
def z8f:Nat->(x27 fu).L 0:=Fx.lq (qz2 fu) (q8z fu) (fun r0=>[r0.s])
def z8g:=(x27 fu).fi (q8y fu) [(z8f fu fu).s]
def x28(fu:Nat):Fx wG ⟨.fn 214,[wS,.el 0 1],[(0,.row .bool 144)],_,RS.mk (wS) [(0,.row .bool 144)]⟩:=fx [q6g.p] [lb 96 [(0,wS),(1,.el 0 1)] [(0,.row .bool 144)]]
def z8h:Nat->(x28 fu).L 0:=Fx.lq (qkq fu) (qz1 fu) (fun r0=>[r0.s])
def z8i:=(x28 fu).fi (qz0 fu) [(z8h fu fu).s]
def x29:Fx wG ⟨.fn 173,[wS,wS],[],_,RS.mk (wS) []⟩:=fx [(z8g fu).p,(x9s fu).p,(z8i fu).p] [lb 60 [(0,wS),(1,wS)],lb 29 [(0,wS),(1,wS),(21,.h .bool)],lb 28 [(0,wS),(1,wS)],lb 13 [(0,wS),(1,wS),(12,.h .bool)]]
def z8m:(x29 fu).L 0:=Fx.jm (qzx fu)
def z8l:(x29 fu).L 1:=Fx.jm (qqm fu) [(z8m fu).s]
def z8k:(x29 fu).L 2:=Fx.jm (qzw fu) [(z8l fu).s]
def z8j:(x29 fu).L 3:=Fx.jm (qql fu) [(z8k fu).s]
def z8n:=(x29 fu).fi (qqk fu) [(z8j fu).s]
def qnk:EI wG ⟨.fn 119,[.ptr 0 0],[(0,.cells [wS] 159)],_,RS.mk (.tup []) [(0,.cells [wS] 159)]⟩:=(fx [(z8n fu).p]).fi (w7 fu)
def qnl:EI wG ⟨.fn 116,[.h .byte],[],_,RS.mk (.h .bool) []⟩:=(fx [q58.p]).fi pu
def x32:Fx wG ⟨.fn 115,[.ptr 0 0,.fn 116 []],[(0,.cells [wS] 159)],_,RS.mk (wS) [(0,.cells [wS] 159)]⟩:=fx [(qnk fu).p,qnl.p] [lb 482 [(0,.ptr 0 0),(1,.fn 116 []),(5,wH)] [(0,.cells [wS] 159)],lb 481 [(0,.ptr 0 0),(1,.fn 116 []),(5,wH),(25,.h .bool)] [(0,.cells [wS] 159)],lb 480 [(0,.ptr 0 0),(1,.fn 116 []),(5,wH)] [(0,.cells [wS] 159)]]
def z8r(r0:(x32 fu).L 2):(x32 fu).L 0:=Fx.jm (q8k fu r0.f) [r0.s]
def z8q(r0:(x32 fu).L 2):(x32 fu).L 1:=Fx.jm (qyy fu r0.f) [(z8r fu r0).s]
def z8p:Nat->(x32 fu).L 2:=Fx.lq (qj3 fu) (q8j fu) (fun r0=>[(z8q fu r0).s])
def z8s:=(x32 fu).fi (qj2 fu) [(z8p fu fu).s]
def q7o:EI wG ⟨.fn 117,[.ptr 0 0,.h .byte],[(0,.cells [wS] 159)],_,RS.mk (.h .bool) [(0,.cells [wS] 159)]⟩:=(fx [(qnk fu).p]).fi (qal fu)
def z8t:EI wG ⟨.fn 168,[.h .byte],[],_,RS.mk (.h .bool) []⟩:=(fx [qnl.p]).fi qj1
def x35:Fx wG ⟨.fn 115,[.ptr 0 0,.fn 168 []],[(0,.cells [wS] 159)],_,RS.mk (wS) [(0,.cells [wS] 159)]⟩:=fx [(qnk fu).p,z8t.p] [lb 482 [(0,.ptr 0 0),(1,.fn 168 []),(5,wH)] [(0,.cells [wS] 159)],lb 481 [(0,.ptr 0 0),(1,.fn 168 []),(5,wH),(25,.h .bool)] [(0,.cells [wS] 159)],lb 480 [(0,.ptr 0 0),(1,.fn 168 []),(5,wH)] [(0,.cells [wS] 159)]]
def z8w(r0:(x35 fu).L 2):(x35 fu).L 0:=Fx.jm (q8m fu r0.f) [r0.s]
def z8v(r0:(x35 fu).L 2):(x35 fu).L 1:=Fx.jm (qyz fu r0.f) [(z8w fu r0).s]
def z8u:Nat->(x35 fu).L 2:=Fx.lq (qj4 fu) (q8l fu) (fun r0=>[(z8v fu r0).s])
def z8x:=(x35 fu).fi (qps fu) [(z8u fu fu).s]
def z8y:EI wG ⟨.fn 210,[.h .byte],[],_,RS.mk (.h .bool) []⟩:=(fx [qnl.p]).fi qj6
def x37:Fx wG ⟨.fn 115,[.ptr 0 0,.fn 210 []],[(0,.cells [wS] 159)],_,RS.mk (wS) [(0,.cells [wS] 159)]⟩:=fx [(qnk fu).p,z8y.p] [lb 482 [(0,.ptr 0 0),(1,.fn 210 []),(5,wH)] [(0,.cells [wS] 159)],lb 481 [(0,.ptr 0 0),(1,.fn 210 []),(5,wH),(25,.h .bool)] [(0,.cells [wS] 159)],lb 480 [(0,.ptr 0 0),(1,.fn 210 []),(5,wH)] [(0,.cells [wS] 159)]]
def z82(r0:(x37 fu).L 2):(x37 fu).L 0:=Fx.jm (q8o fu r0.f) [r0.s]
def z81(r0:(x37 fu).L 2):(x37 fu).L 1:=Fx.jm (qy0 fu r0.f) [(z82 fu r0).s]
def z8z:Nat->(x37 fu).L 2:=Fx.lq (qj5 fu) (q8n fu) (fun r0=>[(z81 fu r0).s])
def z83:=(x37 fu).fi (qpt fu) [(z8z fu fu).s]
def x38:Fx wG ⟨.fn 169,[.ptr 0 0],[(0,.cells [wS] 159)],_,RS.mk (.tup [wS,.h .bool]) [(0,.cells [wS] 159)]⟩:=fx [(q7o fu).p,(z83 fu).p] [lb 976 [(0,.ptr 0 0),(4,.own 32),(5,wH)] [(0,.cells [wS] 159),(32,.row .byte 5)]]
def z84:Nat->(x38 fu).L 0:=Fx.lq (qj7 fu) (qy1 fu) (fun r0=>[r0.s])
def z86:=(x38 fu).fi (qpu fu) [(z84 fu fu).s]
def x39:Fx wG ⟨.fn 140,[wS,wS],[],_,RS.mk (wH) []⟩:=fx [zh6.p] [lb 57 [(0,wS),(1,wS),(5,wH),(16,.h .bool)]]
def z87:x39.L 0:=Fx.jm qpl
def z88:=x39.fi qpk [(z87).s]
def z9c:EI wG ⟨.fn 211,[wS,wS],[],_,RS.mk (.tup [wS,wS,.h .bool]) []⟩:=(fx [z88.p]).fi qyf
def z9d:EI wG ⟨.fn 170,[wS,wS],[],_,RS.mk (.tup [wS,wS,.h .bool]) []⟩:=(fx [z9c.p]).fi qqd
def zjx:EI wG ⟨.fn 185,[wS,wS],[],_,RS.mk (.h .bool) []⟩:=(fx).fi qjo
def z9e:EI wG ⟨.fn 212,[wS,wS],[],_,RS.mk (.tup [wS,.h .bool]) []⟩:=(fx [zjx.p]).fi qyh
def z9f:EI wG ⟨.fn 171,[wS,wS],[],_,RS.mk (.tup [wS,.h .bool]) []⟩:=(fx [z9e.p]).fi qqf
def zep:LC.glob 5=some ⟨.int .u64,Lib.pow10Tab⟩:=rfl
def zeq:(5,20)∈LC.sizes:=oE
def z9g:EI wG ⟨.fn 118,[.ptr 0 0],[(0,.cells [wS] 159)],_,RS.mk (.tup [.h (.prod .str (.prod wI (.prod .bool .str))),.h .bool]) [(0,.cells [wS] 159)]⟩:=(fx [(z8x fu).p,(q7o fu).p,(z86 fu).p,z9d.p,z9f.p,⟨zd4.e qaf,zs0 zep zeq oE oE⟩]).fi (qpr fu)
def zjy:EI wG ⟨.fn 174,[.h (.prod .str (.prod wI (.prod .bool .str))),.ptr 0 0],[(0,.dat (.prod .str (.prod wI (.prod .bool .str))) 164)],_,RS.mk (.h .bool) [(0,.dat (.prod .str (.prod wI (.prod .bool .str))) 164)]⟩:=(fx [(pm fu).p]).fi (qjv fu)
def x47:Fx wG ⟨.fn 216,[.h (.list (.prod .str (.prod wI (.prod .bool .str)))),.fn 174 [.ptr 0 0]],[(0,.dat (.prod .str (.prod wI (.prod .bool .str))) 164)],_,RS.mk (wH) [(0,.dat (.prod .str (.prod wI (.prod .bool .str))) 164)]⟩:=fx [(zjy fu).p] [lb 104 [(0,.h (.list (.prod .str (.prod wI (.prod .bool .str))))),(1,.fn 174 [.ptr 0 0]),(7,wH),(8,wH)] [(0,.dat (.prod .str (.prod wI (.prod .bool .str))) 164)]]
def z9h:Nat->(x47 fu).L 0:=Fx.lq (qkh fu) (qzn fu) (fun r0=>[r0.s])
def z9i:=(x47 fu).fi (qzm fu) [(z9h fu fu).s]
def z9j:EI wG ⟨.fn 175,[.h (.list (.prod .str (.prod wI (.prod .bool .str)))),.fn 174 [.ptr 0 0]],[(0,.dat (.prod .str (.prod wI (.prod .bool .str))) 164)],_,RS.mk (.h .bool) [(0,.dat (.prod .str (.prod wI (.prod .bool .str))) 164)]⟩:=(fx [(z9i fu).p]).fi (qqb fu)
def x50:Fx wG ⟨.fn 270,[.h .byte],[],_,RS.mk (.tup [.h .byte,.h .bool]) []⟩:=fx [] [lb 103 [(0,.h .byte),(13,.h .bool)],lb 25 [(0,.h .byte),(4,.h .bool)]]
def z9m:x50.L 0:=Fx.jm qxx
def z9l:x50.L 1:=Fx.jm qxw [(z9m).s]
def z9n:=x50.fi uk [(z9l).s]
def zj1:EI wG ⟨.fn 246,[wS],[],_,RS.mk (.tup [.h .byte,.h .bool]) []⟩:=(fx [z9n.p]).fi um
def x52:Fx wG ⟨.fn 219,[.h (.prod .str (.prod wI (.prod .bool .str)))],[],_,RS.mk (wS) []⟩:=fx [(pm fu).p,zj1.p] [lb 4048 [(3,wS),(4,.own 32),(5,wH)] [(32,.row .byte 5)],lb 62 [(3,wS)],lb 61 [(3,wS),(26,.h .bool)]]
def z9q:Nat->(x52 fu).L 0:=Fx.lq (qjz fu) (qyw fu) (fun r2=>[r2.s])
def z9p:(x52 fu).L 1:=Fx.jm (qd5 fu) [(z9q fu fu).s]
def z9o:(x52 fu).L 2:=Fx.jm (w6 fu) [(z9p fu).s]
def z9r:=(x52 fu).fi (qpp fu) [(z9o fu).s]
def zcb:LC.glob 0=some ⟨.byte,q5j⟩:=rfl
def q9i:LC.glob 1=some ⟨.prod .byte .byte,q5k⟩:=rfl
def zca:qe0 q5j=true:=oD
def q9h:qe1 q5k=true:=oD
def x53:Fx wG ⟨.fn 176,[.own 0],[(0,.row (.prod .str (.prod wI (.prod .bool .str))) 164)],_,RS.mk (.tup [.h wP,.h .bool]) [(0,.dead)]⟩:=fx [⟨zgl.e qas,zxd⟩,(z9r fu).p,⟨zg9.e qaw,zyl zcb q9i zca q9h⟩] [lb 2024 [(2,.ptr 32 0),(4,.ptr 33 0),(28,.own 34),(29,wH),(30,wH)] [(0,.dead),(32,.dat wP 97),(33,.dat wP 97),(34,.row (.prod .str (.prod wI (.prod .bool .str))) 164)]] true
def z9s:Nat->(x53 fu).L 0:=Fx.lq (qjs fu) (qyp fu) (fun r0=>[r0.s])
def z9t:=(x53 fu).fi (qjr fu) [(z9s fu fu).s]
def x54:Fx wG ⟨.fn 120,[.h (.list (.prod .str (.prod wI (.prod .bool .str))))],[],_,RS.mk (.tup [.own 0,.h .bool]) [(0,.row wP 97)]⟩:=fx [(z9j fu).p,(zjy fu).p,(z9t fu).p] [lb 3827623 [(0,.h (.list (.prod .str (.prod wI (.prod .bool .str))))),(4,.own 34),(6,.ptr 32 0),(7,.fn 174 [.ptr 32 0]),(8,.own 33),(13,.h (.list (.prod .str (.prod wI (.prod .bool .str))))),(14,wH),(15,wH),(26,.h (.list (.prod .str (.prod wI (.prod .bool .str))))),(27,wH),(28,wH)] [(32,.dat (.prod .str (.prod wI (.prod .bool .str))) 164),(33,.row (.prod .str (.prod wI (.prod .bool .str))) 164),(34,.row wP 97)],lb 956904 [(0,.h (.list (.prod .str (.prod wI (.prod .bool .str))))),(4,.own 33),(6,.ptr 32 0),(7,.fn 174 [.ptr 32 0]),(8,.own 34),(13,.h (.list (.prod .str (.prod wI (.prod .bool .str))))),(14,wH),(15,wH),(26,.h (.list (.prod .str (.prod wI (.prod .bool .str))))),(27,wH),(28,wH)] [(32,.dat (.prod .str (.prod wI (.prod .bool .str))) 164),(33,.row wP 97),(34,.row (.prod .str (.prod wI (.prod .bool .str))) 164)],lb 232 [(0,.h (.list (.prod .str (.prod wI (.prod .bool .str))))),(4,.own 32),(13,.h (.list (.prod .str (.prod wI (.prod .bool .str))))),(14,wH),(15,wH)] [(32,.row wP 97)]]
def z9w(r0:(x54 fu).L 2)(r1:(x54 fu).L 1):(x54 fu).L 0:=Fx.jm (qjx fu r0.f r1.f) [r1.s]
def z9v(r0:(x54 fu).L 2):Nat->(x54 fu).L 1:=Fx.lq (qjw fu r0.f) (qyt fu r0.f) (fun r1=>[(z9w fu r0 r1).s,r0.s])
def z9u:Nat->(x54 fu).L 2:=Fx.lq (qd4 fu) (qys fu) (fun r0=>[r0.s,(z9v fu r0 fu).s])
def z9x:=(x54 fu).fi (qd3 fu) [(z9u fu fu).s]
def x55:Fx wG ⟨.fn 75,[wS],[],_,.two (RS.mk (.tup [.agg [wS,wS,wN],.h .bool]) []) (RS.mk (.tup [.agg [wS,wS,.own 0],.h .bool]) [(0,.row wP 97)])⟩:=fx [(z8s fu).p,(q7o fu).p,(z9g fu).p,(qnk fu).p,(z9x fu).p] [lb 16352 [(2,.ptr 32 0),(4,.ptr 33 0),(5,.ptr 34 0),(7,.own 35)] [(32,.cells [wS,wS,wN] 60),(33,.cells [wS] 159),(34,.cells [wS,wS,wN] 60),(35,.row (.prod .str (.prod wI (.prod .bool .str))) 164)],lb 510 [(2,.ptr 32 0),(4,.ptr 33 0),(5,.ptr 34 0)] [(32,.cells [wS,wS,wN] 60),(33,.cells [wS] 159),(34,.cells [wS,wS,wN] 60)],lb 509 [(2,.ptr 32 0),(4,.ptr 33 0),(5,.ptr 34 0),(33,.h .bool)] [(32,.cells [wS,wS,wN] 60),(33,.cells [wS] 159),(34,.cells [wS,wS,wN] 60)]]
def z90:Nat->(x55 fu).L 0:=Fx.lq (qjy fu) (qyu fu) (fun r2=>[r2.s])
def z9z:(x55 fu).L 1:=Fx.jm (qyv fu) [(z90 fu fu).s]
def z9y:(x55 fu).L 2:=Fx.jm (w3 fu) [(z9z fu).s]
def z91:=(x55 fu).fi (qpo fu) [(z9y fu).s]
def x56(fu:Nat):Fx wG ⟨.fn 125,[wS,.fn 116 []],[],_,RS.mk (.h .bool) []⟩:=fx [qnl.p] [lb 104 [(0,wS),(1,.fn 116 []),(7,wH),(8,wH)]]
def z92:Nat->(x56 fu).L 0:=Fx.lq (qjb fu) (q8d fu) (fun r0=>[r0.s])
def z93:=(x56 fu).fi (qo0 fu) [(z92 fu fu).s]
def zj5:EI wG ⟨.fn 80,[wS],[],_,RS.mk (.h .bool) []⟩:=(fx [(z93 fu).p]).fi (qam fu)
def z94:EI wG ⟨.fn 82,[.h wP,.ptr 0 0],[(0,.dat wP 97)],_,RS.mk (.h .bool) [(0,.dat wP 97)]⟩:=(fx [(pm fu).p]).fi (qym fu)
def x59:Fx wG ⟨.fn 130,[.h wL,.fn 82 [.ptr 0 0]],[(0,.dat wP 97)],_,RS.mk (wH) [(0,.dat wP 97)]⟩:=fx [(z94 fu).p] [lb 104 [(0,.h wL),(1,.fn 82 [.ptr 0 0]),(7,wH),(8,wH)] [(0,.dat wP 97)]]
def z95:Nat->(x59 fu).L 0:=Fx.lq (qkg fu) (qzl fu) (fun r0=>[r0.s])
def z96:=(x59 fu).fi (qzk fu) [(z95 fu fu).s]
def z98:EI wG ⟨.fn 81,[.h wL,.fn 82 [.ptr 0 0]],[(0,.dat wP 97)],_,RS.mk (.h .bool) [(0,.dat wP 97)]⟩:=(fx [(z96 fu).p]).fi (qqa fu)
def x61:Fx wG ⟨.fn 50,[.h (.prod .str (.prod .str wL))],[],_,RS.mk (.h (.prod wI wI)) []⟩:=fx [(zj5 fu).p,pl.p,nh.p,(z98 fu).p,⟨zhq.e qaz,zy9 zcb q9i zca q9h⟩] [lb 31333 [(1,.ptr 32 0),(2,.ptr 33 0),(3,wH),(4,.ptr 34 0),(22,.h wL),(23,wH),(24,wH),(29,.h .bool)] [(32,.dat (.prod .str (.prod .str wL)) 60),(33,.dat (.prod wI wI) 29),(34,.dat wP 97)],lb 488 [(1,.ptr 32 0),(2,.ptr 33 0),(22,.h wL),(23,wH),(24,wH)] [(32,.dat (.prod .str (.prod .str wL)) 60),(33,.dat (.prod wI wI) 29)],lb 28 [(1,.ptr 32 0),(2,.ptr 33 0)] [(32,.dat (.prod .str (.prod .str wL)) 60),(33,.dat (.prod wI wI) 29)],lb 13 [(1,.ptr 32 0),(2,.ptr 33 0),(14,.h .bool)] [(32,.dat (.prod .str (.prod .str wL)) 60),(33,.dat (.prod wI wI) 29)]]
def vac(r2:(x61 fu).L 1):(x61 fu).L 0:=Fx.jm (qak fu r2.f) [r2.s]
def vab:Nat->(x61 fu).L 1:=Fx.lq (qd1 fu) (qyn fu) (fun r2=>[(vac fu r2).s])
def vaa:(x61 fu).L 2:=Fx.jm (qyo fu) [(vab fu fu).s]
def z99:(x61 fu).L 3:=Fx.jm (qd0 fu) [(vaa fu).s]
def q7w:=(x61 fu).fi (uo fu) [(z99 fu).s]
def zj9:EI wG ⟨.fn 41,[wS],[],_,.two (RS.mk (.tup [.agg [wS,wS,wN],.agg [wH,wH]]) []) (RS.mk (.tup [.agg [wS,wS,.own 0],.agg [wH,wH]]) [(0,.row wP 97)])⟩:=(fx [pl.p,(z91 fu).p,(q7w fu).p,rr.p,nh.p]).fi (qdz fu)
def x63:Fx wG ⟨.fn 48,[.h wL],[],_,.two (RS.mk (.tup [.agg [wS,wS,wN],wH,.h .bool]) []) (RS.mk (.tup [.agg [wS,wS,.own 0],wH,.h .bool]) [(0,.row wP 97)])⟩:=fx [(pm fu).p,(zj9 fu).p,rr.p] [lb 935 [(0,.h wL),(2,.ptr 32 0),(5,wH),(10,.h wL),(11,wH),(12,wH)] [(32,.cells [wS,wS,wN] 60)],lb 232 [(0,.h wL),(2,.ptr 32 0),(5,wH),(10,.h wL),(11,wH),(12,wH)] [(32,.cells [wS,wS,wN] 60)]]
def vae(r0:(x63 fu).L 1):(x63 fu).L 0:=Fx.jm (qd8 fu r0.f) [r0.s]
def vad:Nat->(x63 fu).L 1:=Fx.lq (w8 fu) (qpw fu) (fun r0=>[(vae fu r0).s])
def q7x:=(x63 fu).fi (qd7 fu) [(vad fu fu).s]
def x64:Fx wG ⟨.fn 24,[.h (.prod .str (.prod .str wL)),wS],[],_,RS.mk (.tup [wS,.h .bool,.h (.prod wI wI)]) []⟩:=fx [(q7w fu).p,rr.p,(pm fu).p,nh.p] [lb 232 [(1,wS),(6,.ptr 32 0),(16,.h wL),(17,wH),(18,wH)] [(32,.dat (.prod wI wI) 29)]]
def vaf:Nat->(x64 fu).L 0:=Fx.lq (qjp fu) (qyk fu) (fun r0=>[r0.s])
def qu8:=(x64 fu).fi (rz fu) [(vaf fu fu).s]
def vag:EI wG ⟨.fn 180,[.h .byte],[],_,RS.mk (.h .bool) []⟩:=(fx).fi qjt
def x66(fu:Nat):Fx wG ⟨.fn 125,[wS,.fn 180 []],[],_,RS.mk (.h .bool) []⟩:=fx [vag.p] [lb 104 [(0,wS),(1,.fn 180 []),(7,wH),(8,wH)]]
def vah:Nat->(x66 fu).L 0:=Fx.lq (qjc fu) (q8e fu) (fun r0=>[r0.s])
def vai:=(x66 fu).fi (qo1 fu) [(vah fu fu).s]
def vaj:EI wG ⟨.fn 181,[.own 0],[(0,.row .str 9)],_,RS.mk (.ptr 1 0) [(0,.dead),(1,.cells [.h (.int .u32),.h (.int .i32),.h (.int .u32),.c .nilIface,.own 2] 250),(2,.row .str 9)]⟩:=(fx [] [] true).fi qzv
def van:EI wG ⟨.fn 224,[.h .byte],[],_,RS.mk (.h .byte) []⟩:=(fx).fi pt
def x72(fu:Nat):Fx wG ⟨.fn 183,[wS],[],_,RS.mk (.own 0) [(0,.row .str 9)]⟩:=fx [qnl.p,van.p] [lb 29902 [(0,wS),(3,.own 32),(5,wS),(9,wH),(10,wH)] [(32,.row .str 9)],lb 232 [(0,wS),(3,.own 32),(9,wH),(10,wH)] [(32,.row .str 9)]]
def vap(r0:(x72 fu).L 1):(x72 fu).L 0:=Fx.jm (qj0 fu r0.f) [r0.s]
def vao:Nat->(x72 fu).L 1:=Fx.lq (qd6 fu) (qyx fu) (fun r0=>[(vap fu r0).s])
def vaq:=(x72 fu).fi (qpq fu) [(vao fu fu).s]
def x73:Fx wG ⟨.fn 124,[.h wP],[],_,RS.mk (wS) []⟩:=fx [(zj5 fu).p,(vai fu).p,vaj.p,⟨zfe.e w9,zvf⟩,(vaq fu).p,⟨zc3.e qau,zq5 zep zeq⟩] [lb 1000 [(1,.ptr 32 0),(3,wS),(38,.own 33),(39,wH),(40,wH)] [(32,.dat wP 97),(33,.row .str 9)],lb 30 [(1,.ptr 32 0)] [(32,.dat wP 97)],lb 29 [(1,.ptr 32 0),(24,.h .bool)] [(32,.dat wP 97)]]
def vat:Nat->(x73 fu).L 0:=Fx.lq (qju fu) (qyq fu) (fun r2=>[r2.s])
def vas:(x73 fu).L 1:=Fx.jm (qyr fu) [(vat fu fu).s]
def var:(x73 fu).L 2:=Fx.jm (qd2 fu) [(vas fu).s]
def vau:=(x73 fu).fi (qpn fu) [(var fu).s]
def x74:Fx wG ⟨.fn 77,[.h (.prod .str (.prod .str wL))],[],_,RS.mk (.tup [wS,.h (.prod wI wI)]) []⟩:=fx [(q7w fu).p,rr.p,(vau fu).p,pl.p,nh.p] [lb 488 [(3,.ptr 32 0),(5,wS),(20,.h wL),(21,wH),(22,wH)] [(32,.dat (.prod wI wI) 29)]]
def vav:Nat->(x74 fu).L 0:=Fx.lq (qjq fu) (qyl fu) (fun r0=>[r0.s])
def vaw:=(x74 fu).fi (qpm fu) [(vav fu fu).s]
def x75:Fx wG ⟨.fn 45,[.h wT],[],_,RS.mk (wH) []⟩:=fx [(q7x fu).p,(pm fu).p,(qu8 fu).p,(vaw fu).p,rr.p] [lb 30 [(1,.ptr 32 0),(3,.ptr 33 0),(4,wH)] [(32,.dat wT 26),(33,.cells [wS,wS,.own 34] 60),(34,.row wP 97)],lb 29 [(1,.ptr 32 0),(3,.ptr 33 0),(4,wH),(31,.h .bool)] [(32,.dat wT 26),(33,.cells [wS,wS,.own 34] 60),(34,.row wP 97)]]
def vay:(x75 fu).L 0:=Fx.jm (qzh fu)
def vax:(x75 fu).L 1:=Fx.jm (pw fu) [(vay fu).s]
def vaz:=(x75 fu).fi (qp7 fu) [(vax fu).s]
def x76(fu:Nat):Fx wG ⟨.fn 46,[.h wB],[],_,RS.mk (wH) []⟩:=fx [] [lb 14924 [(0,.h wB),(3,wH),(4,wH),(5,.h .byte)],lb 7461 [(0,.h wB),(3,wH),(4,wH),(5,.h .byte),(32,.h .bool)],lb 464 [(0,.h wB),(3,wH),(4,wH)]]
def va2(r0:(x76 fu).L 2):(x76 fu).L 0:=Fx.jm (qxt fu r0.f) [r0.s]
def va1(r0:(x76 fu).L 2):(x76 fu).L 1:=Fx.jm (qdu fu r0.f) [r0.s,(va2 fu r0).s]
def va0:Nat->(x76 fu).L 2:=Fx.lq (qdt fu) (qxs fu) (fun r0=>[(va1 fu r0).s])
def va3:=(x76 fu).fi (qo3 fu) [(va0 fu fu).s]
end
end
noncomputable section
open Go.Proofs
set_option linter.unusedVariables false
set_option maxRecDepth 100000
set_option maxHeartbeats 2000000
open Tryz
section
variable(fu:Nat)
def va4:EI wG ⟨.fn 126,[.h .byte],[],_,RS.mk (.h .bool) []⟩:=(fx).fi qj9
def x78(fu:Nat):Fx wG ⟨.fn 125,[wS,.fn 126 []],[],_,RS.mk (.h .bool) []⟩:=fx [va4.p] [lb 104 [(0,wS),(1,.fn 126 []),(7,wH),(8,wH)]]
def va5:Nat->(x78 fu).L 0:=Fx.lq (qjd fu) (q8f fu) (fun r0=>[r0.s])
def va6:=(x78 fu).fi (qo2 fu) [(va5 fu fu).s]
def va7:EI wG ⟨.fn 127,[wS,wS],[],_,RS.mk (.h .bool) []⟩:=(fx [zjx.p]).fi qqg
def x80:Fx wG ⟨.fn 78,[.h wL],[],_,RS.mk (.tup [wS,.h .bool]) []⟩:=fx [(q7x fu).p,(pm fu).p,(qu8 fu).p,(va6 fu).p,va7.p] [lb 30 [(4,.ptr 32 0)] [(32,.cells [wS,wS,.own 33] 60),(33,.row wP 97)],lb 29 [(4,.ptr 32 0),(24,.h .bool)] [(32,.cells [wS,wS,.own 33] 60),(33,.row wP 97)]]
def vba:(x80 fu).L 0:=Fx.jm (qy6 fu)
def va9:(x80 fu).L 1:=Fx.jm (qan fu) [(vba fu).s]
def vbb:=(x80 fu).fi (qpx fu) [(va9 fu).s]
def vbc:EI wG ⟨.fn 128,[.h wB],[],_,RS.mk (.fn 186 [.ptr 0 0]) [(0,.cells [.h wB] 23)]⟩:=(fx).fi qze
def x82(fu:Nat):Fx wG ⟨.fn 97,[wS,.h .byte],[],_,RS.mk (wS) []⟩:=fx [] [lb 96 [(0,wS),(1,.h .byte)]]
def vbd:Nat->(x82 fu).L 0:=Fx.lq (qz3 fu) (q81 fu) (fun r0=>[r0.s])
def vbe:=(x82 fu).fi (q80 fu) [(vbd fu fu).s]
def x83(fu:Nat):Fx wG ⟨.fn 99,[wS,.el 0 1],[(0,.row .bool 144)],_,RS.mk (wS) [(0,.row .bool 144)]⟩:=fx [q6g.p] [lb 96 [(0,wS),(1,.el 0 1)] [(0,.row .bool 144)]]
def vbf:Nat->(x83 fu).L 0:=Fx.lq (qay fu) (qqq fu) (fun r0=>[r0.s])
def vbg:=(x83 fu).fi (qqp fu) [(vbf fu fu).s]
def x84:Fx wG ⟨.fn 56,[wS,wS],[],_,RS.mk (wS) []⟩:=fx [(vbe fu).p,(x9s fu).p,(vbg fu).p] [lb 60 [(0,wS),(1,wS)],lb 29 [(0,wS),(1,wS),(21,.h .bool)],lb 28 [(0,wS),(1,wS)],lb 13 [(0,wS),(1,wS),(12,.h .bool)]]
def vbk:(x84 fu).L 0:=Fx.jm (qqo fu)
def vbj:(x84 fu).L 1:=Fx.jm (qko fu) [(vbk fu).s]
def vbi:(x84 fu).L 2:=Fx.jm (qqn fu) [(vbj fu).s]
def vbh:(x84 fu).L 3:=Fx.jm (qkn fu) [(vbi fu).s]
def zkg:=(x84 fu).fi (qax fu) [(vbh fu).s]
def vbl:EI wG ⟨.fn 129,[wS,wS],[],_,RS.mk (wH) []⟩:=(fx [(zkg fu).p]).fi (qp6 fu)
def vbm:EI wG ⟨.yld 0,[wH,wS],[(0,.loop .ready none 79 51 [(2,.ptr 1 0),(3,.ptr 2 0),(4,.ptr 3 0),(5,.ptr 4 0),(6,.ptr 5 0)] [12,13] 2 6),(1,.cells [.h wB] 23),(2,.cells [wS] 9),(3,.cells [.own 7] 92),(4,.cells [.own 8] 92),(5,.cells [wH] 3),(6,.dfr),(7,.row wB 23),(8,.row wB 23)],_,.two (RS.mk (.c (.bool true)) [(0,.loop .ready none 79 51 [(2,.ptr 1 0),(3,.ptr 2 0),(4,.ptr 3 0),(5,.ptr 4 0),(6,.ptr 5 0)] [12,13] 2 6),(1,.cells [.h wB] 23),(2,.cells [wS] 9),(3,.cells [.own 9] 92),(4,.cells [.own 10] 92),(5,.cells [wH] 3),(6,.dfr),(7,.dead),(8,.dead),(9,.row wB 23),(10,.row wB 23)]) (RS.mk (.c (.bool false)) [(0,.loop .done (some .ret) 79 51 [(2,.ptr 1 0),(3,.ptr 2 0),(4,.ptr 3 0),(5,.ptr 4 0),(6,.ptr 5 0)] [12,13] 2 6),(1,.cells [.h wB] 23),(2,.cells [wS] 9),(3,.cells [.own 9] 92),(4,.cells [.own 9] 92),(5,.cells [wH] 3),(6,.dfr),(7,.dead),(8,.dead),(9,.row wB 23)])⟩:=(fy 79 [(vbl fu).p] [] false [([0,1,0,1,1,1],2)] (ne rfl lm)).fo (qd9 fu) [] 0 [0,1,0,1,1,1]
def x87:Fx wG ⟨.fn 186,[.yld 0,.ptr 1 0],[(0,.loop .ready none 79 51 [(2,.ptr 2 0),(3,.ptr 3 0),(4,.ptr 4 0),(5,.ptr 5 0),(6,.ptr 6 0)] [12,13] 2 7),(1,.cells [.h wB] 23),(2,.cells [.h wB] 23),(3,.cells [wS] 9),(4,.cells [.own 8] 92),(5,.cells [.own 9] 92),(6,.cells [wH] 3),(7,.dfr),(8,.row wB 23),(9,.row wB 23)],_,.two (RS.mk (.tup []) [(0,.loop .done (some .ret) 79 51 [(2,.ptr 2 0),(3,.ptr 3 0),(4,.ptr 4 0),(5,.ptr 5 0),(6,.ptr 6 0)] [12,13] 2 7),(1,.cells [.h wB] 23),(2,.cells [.h wB] 23),(3,.cells [wS] 9),(4,.cells [.own 10] 92),(5,.cells [.own 10] 92),(6,.cells [wH] 3),(7,.dfr),(8,.dead),(9,.dead),(10,.row wB 23)]) (RS.mk (.tup []) [(0,.loop .ready none 79 51 [(2,.ptr 2 0),(3,.ptr 3 0),(4,.ptr 4 0),(5,.ptr 5 0),(6,.ptr 6 0)] [12,13] 2 7),(1,.cells [.h wB] 23),(2,.cells [.h wB] 23),(3,.cells [wS] 9),(4,.cells [.own 10] 92),(5,.cells [.own 11] 92),(6,.cells [wH] 3),(7,.dfr),(8,.dead),(9,.dead),(10,.row wB 23),(11,.row wB 23)])⟩:=fx [⟨zae.e qag,zne oE⟩,(vbm fu).p] [lb 48 [(0,.yld 0),(1,.ptr 1 0),(3,wH)] [(0,.loop .ready none 79 51 [(2,.ptr 2 0),(3,.ptr 3 0),(4,.ptr 4 0),(5,.ptr 5 0),(6,.ptr 6 0)] [12,13] 2 7),(1,.cells [.h wB] 23),(2,.cells [.h wB] 23),(3,.cells [wS] 9),(4,.cells [.own 32] 92),(5,.cells [.own 33] 92),(6,.cells [wH] 3),(7,.dfr),(8,.dead),(9,.dead),(32,.row wB 23),(33,.row wB 23)]]
def vbn:Nat->(x87 fu).L 0:=Fx.lq (qap fu) (qzg fu) (fun r0=>[r0.s])
def vbo:=(x87 fu).fi (qzf fu) [(vbn fu fu).s]
def vbp:EI wG ⟨.fn 79,[.h wB,wS],[],_,RS.mk (.own 0) [(0,.row wB 23)]⟩:=(fx [vbc.p,(vbo fu).p] [] false [([0,1,0,1,1,1],2)] (ne rfl lm)).fi (qpz fu)
def vbq:EI wG ⟨.fn 47,[.h wL,.h wB,wH],[],_,RS.mk (.own 0) [(0,.row wB 23)]⟩:=(fx [(vbb fu).p,(vbp fu).p]).fi (qp5 fu)
def vbs:EI wG ⟨.fn 21,[.h (.prod wT wI)],[],_,RS.mk (wH) []⟩:=(fx [(z8d fu).p,rr.p,(vaz fu).p,(va3 fu).p,(vbq fu).p]).fi (qpy fu)
def vbt:EI wG ⟨.yld 0,[wH,.agg [.h wL,.h wB,.h (.list wT),wH]],[(0,.loop .ready none 9 36 [(2,.ptr 1 0)] [26,27] 1 2),(1,.dat (.prod wI wI) 29),(2,.dfr)],_,.two (RS.mk (.c (.bool false)) [(0,.loop .done (some .ret) 9 36 [(2,.ptr 1 0)] [26,27] 1 2),(1,.dat (.prod wI wI) 29),(2,.dfr)]) (RS.mk (.c (.bool true)) [(0,.loop .ready none 9 36 [(2,.ptr 1 0)] [26,27] 1 2),(1,.dat (.prod wI wI) 29),(2,.dfr)])⟩:=(fy 9 [(vbs fu).p,pl.p] [] false [([0,1,0,1,1,1,1],1)] (ne rfl lm)).fo (qy5 fu) [] 0 [0,1,0,1,1,1,1]
def qhe:IF:=⟨.fn 43,[.h wT,wH,.ptr 0 0,.ptr 1 0,.ptr 2 0],[(0,.cells [.yld 3] 87),(1,.cells [wH] 3),(2,.cells [.fn 43 [.ptr 0 0,.ptr 1 0,.ptr 2 0]] 88),(3,.loop .ready none 9 36 [(2,.ptr 4 0)] [26,27] 1 5),(4,.dat (.prod wI wI) 29),(5,.dfr)],_,.two (RS.mk (.c (.bool false)) [(0,.cells [.yld 3] 87),(1,.cells [wH] 3),(2,.cells [.fn 43 [.ptr 0 0,.ptr 1 0,.ptr 2 0]] 88),(3,.loop .done (some .ret) 9 36 [(2,.ptr 4 0)] [26,27] 1 5),(4,.dat (.prod wI wI) 29),(5,.dfr)]) (RS.mk (.c (.bool true)) [(0,.cells [.yld 3] 87),(1,.cells [wH] 3),(2,.cells [.fn 43 [.ptr 0 0,.ptr 1 0,.ptr 2 0]] 88),(3,.loop .ready none 9 36 [(2,.ptr 4 0)] [26,27] 1 5),(4,.dat (.prod wI wI) 29),(5,.dfr)])⟩
def x92(s11:EI wG qhe)(fu:Nat):Fx wG qhe:=fx [(vbt fu).p,s11.p] [lb 488 [(1,wH),(4,.ptr 2 0),(20,.h (.list wT)),(21,wH),(22,wH)] [(0,.cells [.yld 3] 87),(1,.cells [wH] 3),(2,.cells [.fn 43 [.ptr 0 0,.ptr 1 0,.ptr 2 0]] 88),(3,.loop .ready none 9 36 [(2,.ptr 4 0)] [26,27] 1 5),(4,.dat (.prod wI wI) 29),(5,.dfr)]]
def vbv(s11:EI wG qhe)(fu:Nat):Nat->(x92 s11 fu).L 0:=Fx.lq (qkb s11.f fu) (qy8 s11.f fu) (fun r0=>[r0.s])
def vbu(s11:EI wG qhe)(fu:Nat):EI wG qhe:=(x92 s11 fu).fi (qp2 s11.f fu) [(vbv s11 fu fu).s]
def vbw:EI wG qhe := .rc (qeb fu) (fun r=>qp2 r fu) (fun _ _=>rfl) (fun _=>rfl) (fun s11=>vbu s11 fu) (fun _=>rfl) fu
def vbx:EI wG ⟨.fn 42,[.yld 0,.ptr 1 0],[(0,.loop .ready none 9 36 [(2,.ptr 2 0)] [26,27] 1 3),(1,.dat wT 26),(2,.dat (.prod wI wI) 29),(3,.dfr)],_,.two (RS.mk (.tup []) [(0,.loop .done (some .ret) 9 36 [(2,.ptr 2 0)] [26,27] 1 3),(1,.dat wT 26),(2,.dat (.prod wI wI) 29),(3,.dfr)]) (RS.mk (.tup []) [(0,.loop .ready none 9 36 [(2,.ptr 2 0)] [26,27] 1 3),(1,.dat wT 26),(2,.dat (.prod wI wI) 29),(3,.dfr)])⟩:=(fx [(vbw fu).p]).fi (qp4 fu)
def zkj:EI wG ⟨.fn 9,[.h wT],[],_,RS.mk (.h (.prod wI wI)) []⟩:=(fx [x0s.p,(x4s fu).p,pl.p,(vbx fu).p,nh.p] [] false [([0,1,0,1,1],0),([0,1,0,1,1,1,1],1)] (ne rfl (ne rfl lm))).fi (qj8 fu)
def zkk:EI wG ⟨.fn 17,[.h wT],[],_,RS.mk (.fn 40 [.ptr 0 0]) [(0,.dat wT 26)]⟩:=(fx).fi qpv
def q75:EI wG ⟨.fn 22,[.h wT],[],_,RS.mk (.h (.prod .str (.prod .str wL))) []⟩:=(fx [(q7x fu).p]).fi (qeg fu)
def vby:EI wG ⟨.yld 0,[wH,.agg [.h wL,.h wB,.h (.list wT)]],[(0,.loop .ready none 11 35 [(4,.ptr 1 0),(5,.ptr 2 0),(6,.ptr 3 0),(7,.ptr 4 0)] [13,14] 3 5),(1,.cells [wS] 9),(2,.cells [wS] 9),(3,.dat wT 26),(4,.cells [.h .bool] 4),(5,.dfr)],_,.two (RS.mk (.c (.bool false)) [(0,.loop .done (some .ret) 11 35 [(4,.ptr 1 0),(5,.ptr 2 0),(6,.ptr 3 0),(7,.ptr 4 0)] [13,14] 3 5),(1,.cells [wS] 9),(2,.cells [wS] 9),(3,.dat wT 26),(4,.cells [.h .bool] 4),(5,.dfr)]) (RS.mk (.c (.bool true)) [(0,.loop .ready none 11 35 [(4,.ptr 1 0),(5,.ptr 2 0),(6,.ptr 3 0),(7,.ptr 4 0)] [13,14] 3 5),(1,.cells [wS] 9),(2,.cells [wS] 9),(3,.dat wT 26),(4,.cells [.h .bool] 4),(5,.dfr)])⟩:=(fy 11 [(q75 fu).p,(pm fu).p] [] false [([0,1,0,1],3)] (ne rfl lm)).fo (qqx fu) [] 0 [0,1,0,1]
def vbz:EI wG ⟨.yld 0,[wH,.agg [.h wL,.h wB,.h (.list wT),wH]],[(0,.loop .ready none 40 15 [(2,.ptr 1 0)] [7,8] 4 2),(1,.cells [.yld 3] 84),(2,.dfr),(3,.loop .ready none 11 35 [(4,.ptr 4 0),(5,.ptr 5 0),(6,.ptr 6 0),(7,.ptr 7 0)] [13,14] 3 8),(4,.cells [wS] 9),(5,.cells [wS] 9),(6,.dat wT 26),(7,.cells [.h .bool] 4),(8,.dfr)],_,.two (RS.mk (.c (.bool false)) [(0,.loop .done (some .ret) 40 15 [(2,.ptr 1 0)] [7,8] 4 2),(1,.cells [.yld 3] 84),(2,.dfr),(3,.loop .done (some .ret) 11 35 [(4,.ptr 4 0),(5,.ptr 5 0),(6,.ptr 6 0),(7,.ptr 7 0)] [13,14] 3 8),(4,.cells [wS] 9),(5,.cells [wS] 9),(6,.dat wT 26),(7,.cells [.h .bool] 4),(8,.dfr)]) (RS.mk (.c (.bool true)) [(0,.loop .ready none 40 15 [(2,.ptr 1 0)] [7,8] 4 2),(1,.cells [.yld 3] 84),(2,.dfr),(3,.loop .ready none 11 35 [(4,.ptr 4 0),(5,.ptr 5 0),(6,.ptr 6 0),(7,.ptr 7 0)] [13,14] 3 8),(4,.cells [wS] 9),(5,.cells [wS] 9),(6,.dat wT 26),(7,.cells [.h .bool] 4),(8,.dfr)])⟩:=(fy 40 [(vby fu).p] [] false [([0,1,1],4)] (ne rfl lm)).fo (qy3 fu) [] 0 [0,1,1]
def qhf:IF:=⟨.fn 43,[.h wT,wH,.ptr 0 0,.ptr 1 0,.ptr 2 0],[(0,.cells [.yld 3] 87),(1,.cells [wH] 3),(2,.cells [.fn 43 [.ptr 0 0,.ptr 1 0,.ptr 2 0]] 88),(3,.loop .ready none 40 15 [(2,.ptr 4 0)] [7,8] 4 5),(4,.cells [.yld 6] 84),(5,.dfr),(6,.loop .ready none 11 35 [(4,.ptr 7 0),(5,.ptr 8 0),(6,.ptr 9 0),(7,.ptr 10 0)] [13,14] 3 11),(7,.cells [wS] 9),(8,.cells [wS] 9),(9,.dat wT 26),(10,.cells [.h .bool] 4),(11,.dfr)],_,.two (RS.mk (.c (.bool false)) [(0,.cells [.yld 3] 87),(1,.cells [wH] 3),(2,.cells [.fn 43 [.ptr 0 0,.ptr 1 0,.ptr 2 0]] 88),(3,.loop .done (some .ret) 40 15 [(2,.ptr 4 0)] [7,8] 4 5),(4,.cells [.yld 6] 84),(5,.dfr),(6,.loop .done (some .ret) 11 35 [(4,.ptr 7 0),(5,.ptr 8 0),(6,.ptr 9 0),(7,.ptr 10 0)] [13,14] 3 11),(7,.cells [wS] 9),(8,.cells [wS] 9),(9,.dat wT 26),(10,.cells [.h .bool] 4),(11,.dfr)]) (RS.mk (.c (.bool true)) [(0,.cells [.yld 3] 87),(1,.cells [wH] 3),(2,.cells [.fn 43 [.ptr 0 0,.ptr 1 0,.ptr 2 0]] 88),(3,.loop .ready none 40 15 [(2,.ptr 4 0)] [7,8] 4 5),(4,.cells [.yld 6] 84),(5,.dfr),(6,.loop .ready none 11 35 [(4,.ptr 7 0),(5,.ptr 8 0),(6,.ptr 9 0),(7,.ptr 10 0)] [13,14] 3 11),(7,.cells [wS] 9),(8,.cells [wS] 9),(9,.dat wT 26),(10,.cells [.h .bool] 4),(11,.dfr)])⟩
def x99(s103:EI wG qhf)(fu:Nat):Fx wG qhf:=fx [(vbz fu).p,s103.p] [lb 488 [(1,wH),(4,.ptr 2 0),(20,.h (.list wT)),(21,wH),(22,wH)] [(0,.cells [.yld 3] 87),(1,.cells [wH] 3),(2,.cells [.fn 43 [.ptr 0 0,.ptr 1 0,.ptr 2 0]] 88),(3,.loop .ready none 40 15 [(2,.ptr 4 0)] [7,8] 4 5),(4,.cells [.yld 6] 84),(5,.dfr),(6,.loop .ready none 11 35 [(4,.ptr 7 0),(5,.ptr 8 0),(6,.ptr 9 0),(7,.ptr 10 0)] [13,14] 3 11),(7,.cells [wS] 9),(8,.cells [wS] 9),(9,.dat wT 26),(10,.cells [.h .bool] 4),(11,.dfr)]]
def vb1(s103:EI wG qhf)(fu:Nat):Nat->(x99 s103 fu).L 0:=Fx.lq (qkc s103.f fu) (qy9 s103.f fu) (fun r0=>[r0.s])
def vb0(s103:EI wG qhf)(fu:Nat):EI wG qhf:=(x99 s103 fu).fi (qp3 s103.f fu) [(vb1 s103 fu fu).s]
def vb2:EI wG qhf := .rc (qec fu) (fun r=>qp3 r fu) (fun _ _=>rfl) (fun _=>rfl) (fun s103=>vb0 s103 fu) (fun _=>rfl) fu
def zzt:EI wG ⟨.fn 42,[.yld 0,.ptr 1 0],[(0,.loop .ready none 40 15 [(2,.ptr 2 0)] [7,8] 4 3),(1,.dat wT 26),(2,.cells [.yld 4] 84),(3,.dfr),(4,.loop .ready none 11 35 [(4,.ptr 5 0),(5,.ptr 6 0),(6,.ptr 7 0),(7,.ptr 8 0)] [13,14] 3 9),(5,.cells [wS] 9),(6,.cells [wS] 9),(7,.dat wT 26),(8,.cells [.h .bool] 4),(9,.dfr)],_,.two (RS.mk (.tup []) [(0,.loop .done (some .ret) 40 15 [(2,.ptr 2 0)] [7,8] 4 3),(1,.dat wT 26),(2,.cells [.yld 4] 84),(3,.dfr),(4,.loop .done (some .ret) 11 35 [(4,.ptr 5 0),(5,.ptr 6 0),(6,.ptr 7 0),(7,.ptr 8 0)] [13,14] 3 9),(5,.cells [wS] 9),(6,.cells [wS] 9),(7,.dat wT 26),(8,.cells [.h .bool] 4),(9,.dfr)]) (RS.mk (.tup []) [(0,.loop .ready none 40 15 [(2,.ptr 2 0)] [7,8] 4 3),(1,.dat wT 26),(2,.cells [.yld 4] 84),(3,.dfr),(4,.loop .ready none 11 35 [(4,.ptr 5 0),(5,.ptr 6 0),(6,.ptr 7 0),(7,.ptr 8 0)] [13,14] 3 9),(5,.cells [wS] 9),(6,.cells [wS] 9),(7,.dat wT 26),(8,.cells [.h .bool] 4),(9,.dfr)])⟩:=(fx [(vb2 fu).p]).fi (qzd fu)
def zzu:EI wG ⟨.fn 40,[.yld 0,.ptr 1 0],[(0,.loop .ready none 11 35 [(4,.ptr 2 0),(5,.ptr 3 0),(6,.ptr 4 0),(7,.ptr 5 0)] [13,14] 3 6),(1,.dat wT 26),(2,.cells [wS] 9),(3,.cells [wS] 9),(4,.dat wT 26),(5,.cells [.h .bool] 4),(6,.dfr)],_,.two (RS.mk (.tup []) [(0,.loop .done (some .ret) 11 35 [(4,.ptr 2 0),(5,.ptr 3 0),(6,.ptr 4 0),(7,.ptr 5 0)] [13,14] 3 6),(1,.dat wT 26),(2,.cells [wS] 9),(3,.cells [wS] 9),(4,.dat wT 26),(5,.cells [.h .bool] 4),(6,.dfr)]) (RS.mk (.tup []) [(0,.loop .ready none 11 35 [(4,.ptr 2 0),(5,.ptr 3 0),(6,.ptr 4 0),(7,.ptr 5 0)] [13,14] 3 6),(1,.dat wT 26),(2,.cells [wS] 9),(3,.cells [wS] 9),(4,.dat wT 26),(5,.cells [.h .bool] 4),(6,.dfr)])⟩:=(fx [x0s.p,(zzt fu).p] [] false [([0,1,1],4)] (ne rfl lm)).fi (qy2 fu)
def zzv:EI wG ⟨.fn 11,[.h wT,wS,wS],[],_,RS.mk (.tup [.h wT,.h .bool]) []⟩:=(fx [zkk.p,(zzu fu).p] [] false [([0,1,0,1],3)] (ne rfl lm)).fi (qku fu)
def zzw:EI wG ⟨.fn 188,[wS,.h .byte],[],_,RS.mk (.agg [wS,.fn 230 [.ptr 0 0],.fn 232 []]) [(0,.cells [.h .byte] 5)]⟩:=(fx).fi qqt
def zzx:EI wG ⟨.fn 132,[wS],[],_,.two (RS.mk (.tup [.agg [wS,.fn 230 [.ptr 0 0],.fn 232 []],.h .bool]) [(0,.cells [.h .byte] 5)]) (.two (RS.mk (.tup [.agg [wS,.fn 189 [],.fn 190 []],.h .bool]) []) (.two (RS.mk (.tup [.agg [wS,.fn 191 [],.fn 192 []],.h .bool]) []) (RS.mk (.tup [.agg [wS,.c .nilFunc,.c .nilFunc],.h .bool]) [])))⟩:=(fx [zzw.p,(pm fu).p]).fi (qqs fu)
def zzy:EI wG ⟨.fn 84,[.h wB,wS],[],_,.two (RS.mk (.tup [.agg [wS,.fn 230 [.ptr 0 0],.fn 232 []],.h (.prod wI wI)]) [(0,.cells [.h .byte] 5)]) (.two (RS.mk (.tup [.agg [wS,.fn 189 [],.fn 190 []],.h (.prod wI wI)]) []) (.two (RS.mk (.tup [.agg [wS,.fn 191 [],.fn 192 []],.h (.prod wI wI)]) []) (RS.mk (.tup [.agg [wS,.c .nilFunc,.c .nilFunc],.h (.prod wI wI)]) [])))⟩:=(fx [(zzx fu).p,pl.p,nh.p]).fi (qz4 fu)
def zzz:EI wG ⟨.fn 232,[.h wB],[],_,RS.mk (.tup [.own 0,.h (.prod wI wI)]) [(0,.row .byte 5)]⟩:=(fx [nh.p]).fi qqr
def zh4:EI wG ⟨.fn 226,[.h wB,.h .byte],[],_,RS.mk (wH) []⟩:=(fx [⟨qxz 253 ww,zku⟩]).fi qdx
def zh5(fu:Nat):Fx wG ⟨.fn 190,[.h wB],[],_,RS.mk (.tup [.own 0,.h (.prod wI wI)]) [(0,.row .byte 5)]⟩:=fx [pl.p,nh.p,zh4.p] [lb 1000 [(3,.ptr 32 0),(4,.own 33),(5,wH),(6,wH),(14,.h wB),(15,wH),(16,wH)] [(32,.dat (.prod wI wI) 29),(33,.row .byte 5)]]
def zz0:Nat->(zh5 fu).L 0:=Fx.lq (qad fu) (qoz fu) (fun r0=>[r0.s])
def zz1:=(zh5 fu).fi (qoy fu) [(zz0 fu fu).s]
def zz2:EI wG ⟨.fn 227,[.h wB,.h wB],[],_,RS.mk (.h .bool) []⟩:=(fx).fi qo4
def zh7:EI wG ⟨.fn 238,[.h wB,.h wB],[],_,RS.mk (.h .bool) []⟩:=(fx [zz2.p]).fi qdw
def zz3:EI wG ⟨.fn 236,[.h wB,.h wB],[],_,RS.mk (.h wB) []⟩:=(fx [zh7.p]).fi qah
def zh8(fu:Nat):Fx wG ⟨.fn 256,[.h wB,.h .byte],[],_,RS.mk (.h wB) []⟩:=fx [] [lb 96 [(0,.h wB),(1,.h .byte)]]
def zz4:Nat->(zh8 fu).L 0:=Fx.lq (qx6 fu) (q8i fu) (fun r0=>[r0.s])
def zz5:=(zh8 fu).fi (q8h fu) [(zz4 fu fu).s]
def zh9(fu:Nat):Fx wG ⟨.fn 257,[wS],[],_,RS.mk (.tup [.arr .bool,.h .bool]) []⟩:=fx [] [lb 208 [(0,wS),(2,.el 32 1),(4,wH)] [(32,.row .bool 280)]]
def zz6:Nat->(zh9 fu).L 0:=Fx.lq (qx3 fu) (q8g fu) (fun r0=>[r0.s])
def zz7:=(zh9 fu).fi (qx2 fu) [(zz6 fu fu).s]
def zz8:EI wG ⟨.fn 282,[.el 0 1,.h .byte],[(0,.row .bool 280)],_,RS.mk (.h .bool) [(0,.row .bool 280)]⟩:=(fx).fi qo8
def zia(fu:Nat):Fx wG ⟨.fn 258,[.h wB,.el 0 1],[(0,.row .bool 280)],_,RS.mk (.h wB) [(0,.row .bool 280)]⟩:=fx [zz8.p] [lb 96 [(0,.h wB),(1,.el 0 1)] [(0,.row .bool 280)]]
def zz9:Nat->(zia fu).L 0:=Fx.lq (qjf fu) (qx5 fu) (fun r0=>[r0.s])
def z0a:=(zia fu).fi (qx4 fu) [(zz9 fu fu).s]
def qm7:Fx wG ⟨.fn 237,[.h wB,wS],[],_,RS.mk (.h wB) []⟩:=fx [(zz5 fu).p,(zz7 fu).p,(z0a fu).p] [lb 60 [(0,.h wB),(1,wS)],lb 29 [(0,.h wB),(1,wS),(22,.h .bool)],lb 28 [(0,.h wB),(1,wS)],lb 13 [(0,.h wB),(1,wS),(13,.h .bool)]]
def z0e:(qm7 fu).L 0:=Fx.jm (qx1 fu)
def z0d:(qm7 fu).L 1:=Fx.jm (qo7 fu) [(z0e fu).s]
def z0c:(qm7 fu).L 2:=Fx.jm (qx0 fu) [(z0d fu).s]
def z0b:(qm7 fu).L 3:=Fx.jm (qo6 fu) [(z0c fu).s]
def z0f:=(qm7 fu).fi (qo5 fu) [(z0b fu).s]
def zib(fu:Nat):Fx wG ⟨.fn 239,[.h wB],[],_,RS.mk (.own 0) [(0,.row .byte 5)]⟩:=fx [zj1.p] [lb 464 [(0,.h wB),(3,.own 32),(4,wH)] [(32,.row .byte 5)]]
def z0g:Nat->(zib fu).L 0:=Fx.lq (qar fu) (qp9 fu) (fun r0=>[r0.s])
def z0h:=(zib fu).fi (qzj fu) [(z0g fu fu).s]
def zd:Fx wG ⟨.fn 192,[.h wB],[],_,RS.mk (.tup [.own 0,.h (.prod wI wI)]) [(0,.row .byte 5)]⟩:=fx [pl.p,zh4.p,nh.p,zz3.p,(z0f fu).p,zh7.p,(z0h fu).p] [lb 123646 [(0,.h wB),(3,.ptr 32 0),(4,.own 33),(5,wH),(6,.h wB),(7,.h wB)] [(32,.dat (.prod wI wI) 29),(33,.row .byte 5)],lb 15454 [(0,.h wB),(3,.ptr 32 0),(4,.own 33),(5,wH),(6,.h wB)] [(32,.dat (.prod wI wI) 29),(33,.row .byte 5)],lb 3862 [(0,.h wB),(3,.ptr 32 0),(4,.own 33),(5,wH)] [(32,.dat (.prod wI wI) 29),(33,.row .byte 5)],lb 480 [(0,.h wB),(3,.ptr 32 0),(4,.own 33)] [(32,.dat (.prod wI wI) 29),(33,.row .byte 5)]]
def z0l(r0:(zd fu).L 3):(zd fu).L 0:=Fx.jm (qkf fu r0.f) [r0.s]
def z0k(r0:(zd fu).L 3):(zd fu).L 1:=Fx.jm (qke fu r0.f) [(z0l fu r0).s]
def z0j(r0:(zd fu).L 3):(zd fu).L 2:=Fx.jm (qaq fu r0.f) [(z0k fu r0).s]
def z0i:Nat->(zd fu).L 3:=Fx.lq (qkd fu) (qzi fu) (fun r0=>[(z0j fu r0).s])
def z0m:=(zd fu).fi (qp8 fu) [(z0i fu fu).s]
def z0n:EI wG ⟨.fn 51,[.h wB,wS],[],_,RS.mk (.tup [.own 0,.h (.prod wI wI)]) [(0,.row .byte 5)]⟩:=(fx [(zzy fu).p,rr.p,zzz.p,(zz1 fu).p,(z0m fu).p]).fi (qkr fu)
def zic:Fx wG ⟨.fn 25,[.h wT],[],_,RS.mk (.own 0) [(0,.row .byte 5)]⟩:=fx [(pm fu).p,(z0n fu).p] [lb 104 [(1,.ptr 32 0),(10,.h wL),(11,wH),(12,wH)] [(32,.dat wT 26)]]
def z0o:Nat->(zic fu).L 0:=Fx.lq (qks fu) (qz5 fu) (fun r0=>[r0.s])
def z0p:=(zic fu).fi (qqv fu) [(z0o fu fu).s]
def z0q:EI wG ⟨.fn 85,[wS,.h (.int .i32)],[],_,RS.mk (.agg [wS,.fn 133 [.ptr 0 0],.fn 134 [.ptr 0 0]]) [(0,.cells [.h (.int .i32)] 21)]⟩:=(fx).fi qpa
def z0r:EI wG ⟨.fn 52,[wS],[],_,.two (RS.mk (.tup [.agg [wS,.fn 133 [.ptr 0 0],.fn 134 [.ptr 0 0]],.h .bool]) [(0,.cells [.h (.int .i32)] 21)]) (.two (RS.mk (.tup [.agg [wS,.fn 86 [],.fn 87 []],.h .bool]) []) (.two (RS.mk (.tup [.agg [wS,.fn 89 [],.fn 90 []],.h .bool]) []) (RS.mk (.tup [.agg [wS,.c .nilFunc,.c .nilFunc],.h .bool]) [])))⟩:=(fx [z0q.p,(pm fu).p]).fi (qx7 fu)
def zid(fu:Nat):Fx wG ⟨.fn 133,[.h wB,.ptr 0 0],[(0,.cells [.h (.int .i32)] 21)],_,RS.mk (.own 1) [(0,.cells [.h (.int .i32)] 21),(1,.row (.int .i32) 21)]⟩:=fx [] [lb 232 [(1,.ptr 0 0),(4,.own 32),(8,.h wB),(9,wH),(10,wH)] [(0,.cells [.h (.int .i32)] 21),(32,.row (.int .i32) 21)]]
def z0s:Nat->(zid fu).L 0:=Fx.lq (qjh fu) (qx8 fu) (fun r0=>[r0.s])
def z0t:=(zid fu).fi (qpb fu) [(z0s fu fu).s]
def z0u:EI wG ⟨.fn 86,[.h wB],[],_,RS.mk (.own 0) [(0,.row (.int .i32) 21)]⟩:=(fx).fi qo9
def z0v:EI wG ⟨.fn 136,[wH,.ptr 0 0],[(0,.cells [.h wB] 23)],_,RS.mk (.h (.int .i32)) [(0,.cells [.h wB] 23)]⟩:=(fx).fi qji
def ze(fu:Nat):Fx wG ⟨.fn 89,[.h wB],[],_,RS.mk (.own 0) [(0,.row (.int .i32) 21)]⟩:=fx [z0v.p] [lb 62620 [(1,.ptr 32 0),(3,.own 33),(4,.fn 136 [.ptr 32 0]),(5,wH),(6,.h (.int .i32))] [(32,.cells [.h wB] 23),(33,.row (.int .i32) 21)],lb 250475 [(1,.ptr 32 0),(3,.own 33),(4,.fn 136 [.ptr 32 0]),(5,wH),(6,.h (.int .i32)),(7,.h (.int .i32)),(48,.h .bool)] [(32,.cells [.h wB] 23),(33,.row (.int .i32) 21)],lb 31309 [(1,.ptr 32 0),(3,.own 33),(4,.fn 136 [.ptr 32 0]),(5,wH),(6,.h (.int .i32)),(38,.h .bool)] [(32,.cells [.h wB] 23),(33,.row (.int .i32) 21)],lb 976 [(1,.ptr 32 0),(3,.own 33),(4,.fn 136 [.ptr 32 0]),(5,wH)] [(32,.cells [.h wB] 23),(33,.row (.int .i32) 21)]]
def zie(r0:(ze fu).L 3):(ze fu).L 0:=Fx.jm (qaj fu r0.f) [r0.s]
def z0y(r0:(ze fu).L 3):(ze fu).L 1:=Fx.jm (qdy fu r0.f) [(zie fu r0).s]
def z0x(r0:(ze fu).L 3):(ze fu).L 2:=Fx.jm (qai fu r0.f) [(z0y fu r0).s,(zie fu r0).s]
def z0w:Nat->(ze fu).L 3:=Fx.lq (wy fu) (qx9 fu) (fun r0=>[(z0x fu r0).s])
def z0z:=(ze fu).fi (qpc fu) [(z0w fu fu).s]
def z00:EI wG ⟨.fn 26,[wS,.h wB],[],_,RS.mk (.tup [wS,.h (.prod wI wI)]) []⟩:=(fx [pl.p,(z0r fu).p,(z0t fu).p,nh.p,z0u.p,(z0z fu).p]).fi (qjg fu)
def z01:EI wG ⟨.fn 12,[.h wT],[],_,RS.mk (wS) []⟩:=(fx [(q75 fu).p,(qu8 fu).p,(z0p fu).p,(z00 fu).p,⟨zfd.e xd,zvd oE⟩]).fi (xe fu)
def z02:EI wG ⟨.fn 30,[wS],[],_,RS.mk (wS) []⟩:=(fx [(zkg fu).p,(zjr fu).p]).fi (qqz fu)
def z04:EI wG ⟨.fn 29,[.ptr 0 0,wS],[(0,.cells [.pn 0,.own 1] 70),(1,.row .byte 5)],_,RS.mk (.tup [wH,.c .nilIface]) [(0,.cells [.pn 0,.own 2] 70),(1,.dead),(2,.row .byte 5)]⟩:=(fx [⟨q1u.e wz,za8⟩]).fi qki
def z05:EI wG ⟨.fn 32,[.ptr 0 0,.h .byte],[(0,.cells [.pn 0,.own 1] 70),(1,.row .byte 5)],_,RS.mk (.c .nilIface) [(0,.cells [.pn 0,.own 2] 70),(1,.dead),(2,.row .byte 5)]⟩:=(fx [⟨q1u.e wz,za8⟩]).fi xa
def z06:EI wG ⟨.fn 145,[wS,wS],[],_,RS.mk (.h .bool) []⟩:=(fx).fi qyi
def z07:EI wG ⟨.fn 101,[wS,wS],[],_,RS.mk (.tup [wS,.h .bool]) []⟩:=(fx [z06.p]).fi qyg
def z08:EI wG ⟨.fn 57,[wS,wS],[],_,RS.mk (.tup [wS,.h .bool]) []⟩:=(fx [z07.p]).fi qqe
def zif(fu:Nat):Fx wG ⟨.fn 58,[wS],[],_,RS.mk (.h .bool) []⟩:=fx [] [lb 104 [(0,wS),(5,wH),(6,wH)]]
def z09:Nat->(zif fu).L 0:=Fx.lq (qje fu) (qxv fu) (fun r0=>[r0.s])
def z1a:=(zif fu).fi (qxu fu) [(z09 fu fu).s]
def zig:Fx wG ⟨.fn 31,[wS],[],_,RS.mk (.tup [wS,.h .bool]) []⟩:=fx [z08.p,(z1a fu).p,⟨q97.e qat,zm2⟩] [lb 61 [(4,wS),(35,.h .bool)]]
def z1b:(zig fu).L 0:=Fx.jm (qa0 fu)
def z1c:=(zig fu).fi (qqw fu) [(z1b fu).s]
def zii:Fx wG ⟨.fn 14,[wS],[],_,RS.mk (wS) []⟩:=fx [q58.p,(z02 fu).p,z04.p,z05.p,(z1c fu).p,⟨zam.e qox,znt⟩] [lb 464 [(0,wS),(3,.ptr 32 0),(4,wH)] [(32,.cells [.pn 32,.own 33] 70),(33,.row .byte 5)]]
def z1d:Nat->(zii fu).L 0:=Fx.lq (qef fu) (qz7 fu) (fun r0=>[r0.s])
def z1e:=(zii fu).fi (qqy fu) [(z1d fu fu).s]
def zij:EI wG ⟨.fn 5,[.h wT],[],_,RS.mk (.tup [wS,.h (.prod wI wI)]) []⟩:=(fx [(zkj fu).p,rr.p,(zzv fu).p,(z01 fu).p,nh.p,(z1e fu).p]).fi (qkt fu)
def qup:Fx wG ⟨.fn 18,[.h wT],[],_,RS.mk (.tup [wS,.h .bool]) []⟩:=fx [(pm fu).p,(zj9 fu).p,rr.p,(qu8 fu).p,(q75 fu).p] [lb 423 [(1,.ptr 32 0),(15,.h wL),(16,wH),(17,wH)] [(32,.dat wT 26)],lb 104 [(1,.ptr 32 0),(15,.h wL),(16,wH),(17,wH)] [(32,.dat wT 26)]]
def z1g(r0:(qup fu).L 1):(qup fu).L 0:=Fx.jm (qee fu r0.f) [r0.s]
def z1f:Nat->(qup fu).L 1:=Fx.lq (qz6 fu) (q85 fu) (fun r0=>[(z1g fu r0).s])
def z1h:=(qup fu).fi (q84 fu) [(z1f fu fu).s]
def z1o:EI wG ⟨.yld 0,[wH,.agg [.h wL,.h wB,.h (.list wT)]],[(0,.loop .ready none 7 37 [(5,.ptr 1 0)] [17,18] 5 2),(1,.cells [.own 3] 33),(2,.dfr),(3,.row .str 9)],_,RS.mk (.c (.bool true)) [(0,.loop .ready none 7 37 [(5,.ptr 1 0)] [17,18] 5 2),(1,.cells [.own 4] 33),(2,.dfr),(3,.dead),(4,.row .str 9)]⟩:=(fy 7 [(z1h fu).p] [] false [([0,1,0,1,1,1],5)] (ne rfl lm)).fo (q83 fu) [] 0 [0,1,0,1,1,1]
def z1p:EI wG ⟨.yld 0,[wH,.agg [.h wL,.h wB,.h (.list wT),wH]],[(0,.loop .ready none 40 15 [(2,.ptr 1 0)] [7,8] 4 2),(1,.cells [.yld 3] 84),(2,.dfr),(3,.loop .ready none 7 37 [(5,.ptr 4 0)] [17,18] 5 5),(4,.cells [.own 6] 33),(5,.dfr),(6,.row .str 9)],_,RS.mk (.c (.bool true)) [(0,.loop .ready none 40 15 [(2,.ptr 1 0)] [7,8] 4 2),(1,.cells [.yld 3] 84),(2,.dfr),(3,.loop .ready none 7 37 [(5,.ptr 4 0)] [17,18] 5 5),(4,.cells [.own 7] 33),(5,.dfr),(6,.dead),(7,.row .str 9)]⟩:=(fy 40 [(z1o fu).p] [] false [([0,1,1],4)] (ne rfl lm)).fo (q8p fu) [] 0 [0,1,1]
def qgp:IF:=⟨.fn 43,[.h wT,wH,.ptr 0 0,.ptr 1 0,.ptr 2 0],[(0,.cells [.yld 3] 87),(1,.cells [wH] 3),(2,.cells [.fn 43 [.ptr 0 0,.ptr 1 0,.ptr 2 0]] 88),(3,.loop .ready none 40 15 [(2,.ptr 4 0)] [7,8] 4 5),(4,.cells [.yld 6] 84),(5,.dfr),(6,.loop .ready none 7 37 [(5,.ptr 7 0)] [17,18] 5 8),(7,.cells [.own 9] 33),(8,.dfr),(9,.row .str 9)],_,RS.mk (.c (.bool true)) [(0,.cells [.yld 3] 87),(1,.cells [wH] 3),(2,.cells [.fn 43 [.ptr 0 0,.ptr 1 0,.ptr 2 0]] 88),(3,.loop .ready none 40 15 [(2,.ptr 4 0)] [7,8] 4 5),(4,.cells [.yld 6] 84),(5,.dfr),(6,.loop .ready none 7 37 [(5,.ptr 7 0)] [17,18] 5 8),(7,.cells [.own 10] 33),(8,.dfr),(9,.dead),(10,.row .str 9)]⟩
def zik(s145:EI wG qgp)(fu:Nat):Fx wG qgp:=fx [(z1p fu).p,s145.p] [lb 488 [(1,wH),(4,.ptr 2 0),(20,.h (.list wT)),(21,wH),(22,wH)] [(0,.cells [.yld 3] 87),(1,.cells [wH] 3),(2,.cells [.fn 43 [.ptr 0 0,.ptr 1 0,.ptr 2 0]] 88),(3,.loop .ready none 40 15 [(2,.ptr 4 0)] [7,8] 4 5),(4,.cells [.yld 6] 84),(5,.dfr),(6,.loop .ready none 7 37 [(5,.ptr 7 0)] [17,18] 5 8),(7,.cells [.own 32] 33),(8,.dfr),(9,.dead),(32,.row .str 9)]]
def z1r(s145:EI wG qgp)(fu:Nat):Nat->(zik s145 fu).L 0:=Fx.lq (qzc s145.f fu) (q8u s145.f fu) (fun r0=>[r0.s])
def z1q(s145:EI wG qgp)(fu:Nat):EI wG qgp:=(zik s145 fu).fi (qza s145.f fu) [(z1r s145 fu fu).s]
def z1s:EI wG qgp := .rc (qzb fu) (fun r=>qza r fu) (fun _ _=>rfl) (fun _=>rfl) (fun s145=>z1q s145 fu) (fun _=>rfl) fu
def z1t:EI wG ⟨.fn 42,[.yld 0,.ptr 1 0],[(0,.loop .ready none 40 15 [(2,.ptr 2 0)] [7,8] 4 3),(1,.dat wT 26),(2,.cells [.yld 4] 84),(3,.dfr),(4,.loop .ready none 7 37 [(5,.ptr 5 0)] [17,18] 5 6),(5,.cells [.own 7] 33),(6,.dfr),(7,.row .str 9)],_,RS.mk (.tup []) [(0,.loop .ready none 40 15 [(2,.ptr 2 0)] [7,8] 4 3),(1,.dat wT 26),(2,.cells [.yld 4] 84),(3,.dfr),(4,.loop .ready none 7 37 [(5,.ptr 5 0)] [17,18] 5 6),(5,.cells [.own 8] 33),(6,.dfr),(7,.dead),(8,.row .str 9)]⟩:=(fx [(z1s fu).p]).fi (q8v fu)
def z1u:EI wG ⟨.fn 40,[.yld 0,.ptr 1 0],[(0,.loop .ready none 7 37 [(5,.ptr 2 0)] [17,18] 5 3),(1,.dat wT 26),(2,.cells [.own 4] 33),(3,.dfr),(4,.row .str 9)],_,RS.mk (.tup []) [(0,.loop .ready none 7 37 [(5,.ptr 2 0)] [17,18] 5 3),(1,.dat wT 26),(2,.cells [.own 5] 33),(3,.dfr),(4,.dead),(5,.row .str 9)]⟩:=(fx [x0s.p,(z1t fu).p] [] false [([0,1,1],4)] (ne rfl lm)).fi (q8q fu)
def z1v:EI wG ⟨.fn 7,[.h wT],[],_,RS.mk (.tup [.own 0,.h (.prod wI wI)]) [(0,.row .str 9)]⟩:=(fx [(zkj fu).p,rr.p,zkk.p,(z1u fu).p,nh.p] [] false [([0,1,0,1,1,1],5)] (ne rfl lm)).fi (q82 fu)
def zil(fu:Nat):Fx wG ⟨.fn 8,[.h (.list .str),.h (.list .str)],[],_,RS.mk (.h .bool) []⟩:=fx [] [lb 464 [(0,.h (.list .str)),(1,.h (.list .str)),(5,wH)]]
def z1w:Nat->(zil fu).L 0:=Fx.lq (qwg fu) (q8b fu) (fun r0=>[r0.s])
def z1x:=(zil fu).fi (q8a fu) [(z1w fu fu).s]
def z1y:EI wG ⟨.fn 4,[],[],_,RS.mk (.h .bool) []⟩:=(fx [(zij fu).p,(z1v fu).p,(z1x fu).p]).fi (qxp fu)
def qgq:IF:=⟨.fn 34,[.h wT,wH],[],_,RS.mk (.tup [.h (.list wT),.h (.list wI)]) []⟩
def zim(s152:EI wG qgq)(fu:Nat):Fx wG qgq:=fx [s152.p] [lb 976 [(1,wH),(2,.ptr 32 0),(6,.own 33),(7,.own 34),(8,wH)] [(32,.dat wT 26),(33,.row wT 26),(34,.row wI 3)]]
def z10(s152:EI wG qgq)(fu:Nat):Nat->(zim s152 fu).L 0:=Fx.lq (qiz s152.f fu) (qw7 s152.f fu) (fun r0=>[r0.s])
def z1z(s152:EI wG qgq)(fu:Nat):EI wG qgq:=(zim s152 fu).fi (qoo s152.f fu) [(z10 s152 fu fu).s]
def zin:EI wG qgq := .rc (qdl fu) (fun r=>qoo r fu) (fun _ _=>rfl) (fun _=>rfl) (fun s152=>z1z s152 fu) (fun _=>rfl) fu
def qm9:EI wG ⟨.fn 35,[wH,wH],[],_,RS.mk (.h (.prod wI wI)) []⟩:=(fx).fi im
def rp:EI wG ⟨.fn 109,[wH,wH,wH],[],_,RS.mk (.h .bool) []⟩:=(fx).fi ej
def zio(fu:Nat):Fx wG ⟨.fn 202,[wS],[],_,RS.mk (.h .bool) []⟩:=fx [rp.p] [lb 208 [(0,wS),(3,wH)]]
def z11:Nat->(zio fu).L 0:=Fx.lq (qhj fu) (qvk fu) (fun r0=>[r0.s])
def z13:=(zio fu).fi (qns fu) [(z11 fu fu).s]
def ziq(fu:Nat):Fx wG ⟨.fn 203,[.h .byte,wS],[],_,RS.mk (.h .bool) []⟩:=fx [] [lb 208 [(0,.h .byte),(1,wS),(5,wH)]]
def z14:Nat->(ziq fu).L 0:=Fx.lq (qc7 fu) (qn9 fu) (fun r0=>[r0.s])
def q6h:=(ziq fu).fi (wo fu) [(z14 fu fu).s]
def qnb:EI wG ⟨.fn 164,[.h .byte],[],_,RS.mk (.h .bool) []⟩:=(fx).fi lz
def qcg(fu:Nat):Fx wG ⟨.fn 204,[wS],[],_,RS.mk (wS) []⟩:=fx [qnb.p] [lb 98 [(0,wS)],lb 224 [(0,wS)],lb 97 [(0,wS),(10,.h .bool)],lb 96 [(0,wS)]]
def z17(r0:(qcg fu).L 3):(qcg fu).L 0:=Fx.jm (qwl fu r0.f) [r0.s]
def z18:Nat->(qcg fu).L 1:=Fx.lq (qif fu) (qwk fu) (fun r3=>[r3.s])
def z16(r0:(qcg fu).L 3):(qcg fu).L 2:=Fx.jm (qie fu r0.f) [(z17 fu r0).s,(z18 fu fu).s]
def z15:Nat->(qcg fu).L 3:=Fx.lq (qid fu) (qwj fu) (fun r0=>[(z16 fu r0).s])
def z19:=(qcg fu).fi (qwi fu) [(z15 fu fu).s]
def zir:Fx wG ⟨.fn 151,[wS,wS],[],_,RS.mk (wH) []⟩:=fx [(z13 fu).p,(q6h fu).p,(z19 fu).p] [lb 976 [(1,wS),(5,wH)]]
def z2a:Nat->(zir fu).L 0:=Fx.lq (qcs fu) (qvj fu) (fun r0=>[r0.s])
def z2b:=(zir fu).fi (qhi fu) [(z2a fu fu).s]
def lv(fu:Nat):Fx wG ⟨.fn 152,[wS,wS],[],_,RS.mk (.own 0) [(0,.row .str 9)]⟩:=fx [qnb.p] [lb 979 [(5,wS),(6,.own 32),(7,wH)] [(32,.row wI 3)],lb 3913 [(5,wS),(6,.own 32),(7,wH),(37,.h .bool)] [(32,.row wI 3)],lb 520531 [(5,wS),(6,.own 32),(8,.own 33),(9,wH),(10,wH),(11,wH)] [(32,.row wI 3),(33,.row .str 9)],lb 4164243 [(5,wS),(6,.own 32),(8,.own 33),(9,wH),(10,wH),(11,wH),(12,wH),(69,.h .bool)] [(32,.row wI 3),(33,.row .str 9)],lb 520528 [(5,wS),(6,.own 32),(8,.own 33),(9,wH),(10,wH),(11,wH)] [(32,.row wI 3),(33,.row .str 9)],lb 4064 [(5,wS),(6,.own 32),(8,.own 33),(9,wH)] [(32,.row wI 3),(33,.row .str 9)],lb 976 [(5,wS),(6,.own 32),(7,wH)] [(32,.row wI 3)]]
def z2f(r0:(lv fu).L 6):(lv fu).L 0:=Fx.jm (qn0 fu r0.f) [r0.s]
def z2d(r0:(lv fu).L 6):(lv fu).L 1:=Fx.jm (qnz fu r0.f) [(z2f fu r0).s]
def z2i(r2:(lv fu).L 5)(r4:(lv fu).L 4):(lv fu).L 2:=Fx.jm (qn1 fu r2.f r4.f) [r4.s]
def z2h(r2:(lv fu).L 5)(r4:(lv fu).L 4):(lv fu).L 3:=Fx.jm (qhm fu r2.f r4.f) [(z2i fu r2 r4).s]
def z2g(r2:(lv fu).L 5):Nat->(lv fu).L 4:=Fx.lq (zj fu r2.f) (qvn fu r2.f) (fun r4=>[(z2h fu r2 r4).s,r2.s])
def z2e:Nat->(lv fu).L 5:=Fx.lq (ue fu) (qny fu) (fun r2=>[(z2g fu r2 fu).s])
def z2c:Nat->(lv fu).L 6:=Fx.lq (qct fu) (qnx fu) (fun r0=>[(z2d fu r0).s,(z2e fu fu).s])
def z2j:=(lv fu).fi (qnw fu) [(z2c fu fu).s]
def zis:Fx wG ⟨.fn 104,[wS,wS],[],_,RS.mk (.h (.prod wI wI)) []⟩:=fx [(z2b fu).p,qm9.p,(z2j fu).p] [lb 976 [(4,.ptr 32 0),(5,.own 33),(6,wH)] [(32,.dat (.prod wI wI) 29),(33,.row .str 9)]]
def z2k:Nat->(zis fu).L 0:=Fx.lq (qhl fu) (qvm fu) (fun r0=>[r0.s])
def z2l:=(zis fu).fi (qnv fu) [(z2k fu fu).s]
def zit:Fx wG ⟨.fn 60,[.h wL],[],_,RS.mk (.h (.prod wI wI)) []⟩:=fx [qm9.p,(z2l fu).p] [lb 464 [(0,.h wL),(2,.ptr 32 0),(3,wH)] [(32,.dat (.prod wI wI) 29)]]
def z2m:Nat->(zit fu).L 0:=Fx.lq (qhk fu) (qvl fu) (fun r0=>[r0.s])
def z2n:=(zit fu).fi (qnt fu) [(z2m fu fu).s]
def ziu(fu:Nat):Fx wG ⟨.fn 73,[wS],[],_,RS.mk (wS) []⟩:=fx [rp.p] [lb 464 [(3,.own 32),(4,wH)] [(32,.row .byte 5)]]
def z2o:Nat->(ziu fu).L 0:=Fx.lq (uh fu) (qcz fu) (fun r0=>[r0.s])
def qus:=(ziu fu).fi (pp fu) [(z2o fu fu).s]
def we:EI wG ⟨.fn 63,[wS,wS],[],_,RS.mk (.h .bool) []⟩:=(fx [(qus fu).p]).fi (ei fu)
def ziv:Fx wG ⟨.fn 65,[.h wL,wS],[],_,RS.mk (.own 0) [(0,.row .str 9)]⟩:=fx [(we fu).p] [lb 464 [(0,.h wL),(1,wS),(5,.own 32),(6,wH)] [(32,.row .str 9)]]
def z2u:Nat->(ziv fu).L 0:=Fx.lq (qdf fu) (qwn fu) (fun r0=>[r0.s])
def q6o:=(ziv fu).fi (qii fu) [(z2u fu fu).s]
def ziw(fu:Nat):Fx wG ⟨.fn 153,[wS,wH],[],_,RS.mk (wH) []⟩:=fx [qnb.p] [lb 96 [(0,wS),(1,wH)]]
def z2v:Nat->(ziw fu).L 0:=Fx.lq (qiq fu) (qwt fu) (fun r0=>[r0.s])
def z2w:=(ziw fu).fi (ry fu) [(z2v fu fu).s]
def q6q:EI wG ⟨.fn 162,[.h .byte],[],_,RS.mk (.h .bool) []⟩:=(fx [rp.p,(q6h fu).p]).fi (qdd fu)
def zix:Fx wG ⟨.fn 154,[wS,wH,wS],[],_,RS.mk (wH) []⟩:=fx [(q6q fu).p,(q6h fu).p] [lb 96 [(0,wS),(1,wH),(2,wS)]]
def z2x:Nat->(zix fu).L 0:=Fx.lq (qip fu) (qws fu) (fun r0=>[r0.s])
def z2y:=(zix fu).fi (qdh fu) [(z2x fu fu).s]
def ziy(fu:Nat):Fx wG ⟨.fn 72,[wS,wS,wH],[],_,RS.mk (wH) []⟩:=fx [] [lb 208 [(0,wS),(1,wS),(7,wH)]]
def z2z:Nat->(ziy fu).L 0:=Fx.lq (zi fu) (qnu fu) (fun r0=>[r0.s])
def ziz:=(ziy fu).fi (zh fu) [(z2z fu fu).s]
def qgt(fu:Nat):Fx wG ⟨.fn 205,[wS,wH,wH],[],_,RS.mk (wH) []⟩:=fx [rp.p] [lb 1865 [(0,wS),(1,wH),(2,wH),(7,wH),(8,wH)],lb 3729 [(0,wS),(1,wH),(2,wH),(7,wH),(8,wH),(24,.h .bool)],lb 464 [(0,wS),(1,wH),(2,wH),(7,wH),(8,wH)]]
def z26(r0:(qgt fu).L 2):(qgt fu).L 0:=Fx.jm (qwq fu r0.f) [r0.s]
def z24(r0:(qgt fu).L 2):(qgt fu).L 1:=Fx.jm (qim fu r0.f) [(z26 fu r0).s]
def z23:Nat->(qgt fu).L 2:=Fx.lq (qil fu) (qwp fu) (fun r0=>[(z24 fu r0).s])
def z27:=(qgt fu).fi (qik fu) [(z23 fu fu).s]
def qnc:IF:=⟨.fn 207,[.h (.int .u64)],[],_,RS.mk (wS) []⟩
def z28(s176:EI wG qnc)(fu:Nat):Fx wG qnc:=fx [s176.p]
def z29(s176:EI wG qnc)(fu:Nat):EI wG qnc:=(z28 s176 fu).fi (qof s176.f fu)
def z3a:EI wG qnc := .rc (qij fu) (fun r=>qof r fu) (fun _ _=>rfl) (fun _=>rfl) (fun s176=>z29 s176 fu) (fun _=>rfl) fu
def zi0:EI wG ⟨.fn 163,[wH],[],_,RS.mk (wS) []⟩:=(fx [(z3a fu).p]).fi (wn fu)
def q6t:Fx wG ⟨.fn 155,[wS,wS],[],_,RS.mk (.tup [.h (.prod .str (.prod .str (.prod wI .bool))),.h .bool]) []⟩:=fx [(ziz fu).p,(z27 fu).p,(zi0 fu).p] [lb 254 [(4,.ptr 32 0),(7,wS),(8,.ptr 33 0)] [(32,.dat (.prod .str (.prod .str (.prod wI .bool))) 196),(33,.dat (.prod .str (.prod .str (.prod wI .bool))) 196)],lb 253 [(4,.ptr 32 0),(7,wS),(8,.ptr 33 0),(37,.h .bool)] [(32,.dat (.prod .str (.prod .str (.prod wI .bool))) 196),(33,.dat (.prod .str (.prod .str (.prod wI .bool))) 196)]]
def z3c:(q6t fu).L 0:=Fx.jm (qdg fu)
def z3b:(q6t fu).L 1:=Fx.jm (qin fu) [(z3c fu).s]
def z3d:=(q6t fu).fi (qog fu) [(z3b fu).s]
def qnd(fu:Nat):Fx wG ⟨.fn 165,[wS,wH],[],_,RS.mk (.tup [wH,wH]) []⟩:=fx [rp.p] [lb 32720 [(0,wS),(1,wH),(7,wH),(8,wH),(9,wH),(10,wH)],lb 2044 [(0,wS),(1,wH),(7,wH),(8,wH),(9,wH)],lb 1021 [(0,wS),(1,wH),(7,wH),(8,wH),(9,wH),(43,.h .bool)],lb 1020 [(0,wS),(1,wH),(7,wH),(8,wH),(9,wH)]]
def z3i:Nat->(qnd fu).L 0:=Fx.lq (uj fu) (qod fu) (fun r3=>[r3.s])
def z3h:(qnd fu).L 1:=Fx.jm (q79 fu) [(z3i fu fu).s]
def z3g:(qnd fu).L 2:=Fx.jm (qia fu) [(z3h fu).s]
def z3f:(qnd fu).L 3:=Fx.jm (ui fu) [(z3g fu).s]
def q6u:=(qnd fu).fi (qda fu) [(z3f fu).s]
def q6w:Fx wG ⟨.fn 111,[wH],[],_,RS.mk (wS) []⟩:=fx [rp.p] [lb 28 [(0,wH)],lb 13 [(0,wH),(9,.h .bool)]]
def z3k:q6w.L 0:=Fx.jm qde
def z3j:q6w.L 1:=Fx.jm qoe [(z3k).s]
def q6x:=q6w.fi l7 [(z3j).s]
def zi2:Fx wG ⟨.fn 157,[wS],[],_,RS.mk (wS) []⟩:=fx [(q6u fu).p,q6x.p] [lb 976 [(0,wS),(3,wS),(4,.h .bool),(5,wH)]]
def z3l:Nat->(zi2 fu).L 0:=Fx.lq (qio fu) (qwr fu) (fun r0=>[r0.s])
def z3m:=(zi2 fu).fi (qoh fu) [(z3l fu fu).s]
def zi3:Fx wG ⟨.fn 206,[.h .byte],[],_,RS.mk (wH) []⟩:=fx [(qus fu).p] [lb 208 [(0,.h .byte),(3,wH)]]
def z3n:Nat->(zi3 fu).L 0:=Fx.lq (uf fu) (qcu fu) (fun r0=>[r0.s])
def zi4:=(zi3 fu).fi (ni fu) [(z3n fu fu).s]
def qut:Fx wG ⟨.fn 156,[wS],[],_,RS.mk (wS) []⟩:=fx [(zi4 fu).p] [lb 1865 [(0,wS),(3,wS),(4,wH),(37,.h .bool)],lb 464 [(0,wS),(3,wS),(4,wH)]]
def z3p(r0:(qut fu).L 1):(qut fu).L 0:=Fx.jm (wq fu r0.f) [r0.s]
def z3o:Nat->(qut fu).L 1:=Fx.lq (qdj fu) (qwv fu) (fun r0=>[(z3p fu r0).s])
def z3q:=(qut fu).fi (qoj fu) [(z3o fu fu).s]
def bm:Fx wG ⟨.fn 105,[wS],[],_,RS.mk (.tup [.h (.prod .str (.prod .str wL)),.h .bool]) []⟩:=fx [(z2w fu).p,(z2y fu).p,(we fu).p,(z3d fu).p,(z3m fu).p,(qus fu).p,(z3q fu).p] [lb 137423747722 [(0,wS),(2,.ptr 32 0),(4,wH),(6,.ptr 33 0),(7,.own 34),(8,wS),(9,wS)] [(32,.cells [wS,wS,wN] 60),(33,.cells [wS,wS,wN] 60),(34,.row (.prod .str (.prod .str (.prod wI .bool))) 196)],lb 137423747721 [(0,wS),(2,.ptr 32 0),(4,wH),(6,.ptr 33 0),(7,.own 34),(8,wS),(9,wS),(140,.h .bool)] [(32,.cells [wS,wS,wN] 60),(33,.cells [wS,wS,wN] 60),(34,.row (.prod .str (.prod .str (.prod wI .bool))) 196)],lb 137423747720 [(0,wS),(2,.ptr 32 0),(4,wH),(6,.ptr 33 0),(7,.own 34),(8,wS),(9,wS)] [(32,.cells [wS,wS,wN] 60),(33,.cells [wS,wS,wN] 60),(34,.row (.prod .str (.prod .str (.prod wI .bool))) 196)],lb 268405758 [(0,wS),(2,.ptr 32 0),(4,wH),(6,.ptr 33 0),(7,.own 34),(8,wS),(9,wS)] [(32,.cells [wS,wS,wN] 60),(33,.cells [wS,wS,wN] 60),(34,.row (.prod .str (.prod .str (.prod wI .bool))) 196)],lb 34355936929 [(0,wS),(2,.ptr 32 0),(4,wH),(6,.ptr 33 0),(7,.own 34),(8,wS),(9,wS),(129,.h .bool)] [(32,.cells [wS,wS,wN] 60),(33,.cells [wS,wS,wN] 60),(34,.row (.prod .str (.prod .str (.prod wI .bool))) 196)],lb 34355936928 [(0,wS),(2,.ptr 32 0),(4,wH),(6,.ptr 33 0),(7,.own 34),(8,wS),(9,wS)] [(32,.cells [wS,wS,wN] 60),(33,.cells [wS,wS,wN] 60),(34,.row (.prod .str (.prod .str (.prod wI .bool))) 196)],lb 268405757 [(0,wS),(2,.ptr 32 0),(4,wH),(6,.ptr 33 0),(7,.own 34),(8,wS),(9,wS),(117,.h .bool)] [(32,.cells [wS,wS,wN] 60),(33,.cells [wS,wS,wN] 60),(34,.row (.prod .str (.prod .str (.prod wI .bool))) 196)],lb 33550718 [(0,wS),(2,.ptr 32 0),(4,wH),(6,.ptr 33 0),(7,.own 34),(8,wS)] [(32,.cells [wS,wS,wN] 60),(33,.cells [wS,wS,wN] 60),(34,.row (.prod .str (.prod .str (.prod wI .bool))) 196)],lb 33550717 [(0,wS),(2,.ptr 32 0),(4,wH),(6,.ptr 33 0),(7,.own 34),(8,wS),(102,.h .bool)] [(32,.cells [wS,wS,wN] 60),(33,.cells [wS,wS,wN] 60),(34,.row (.prod .str (.prod .str (.prod wI .bool))) 196)],lb 268423763 [(2,.ptr 32 0),(6,.ptr 33 0),(7,.own 34),(12,wH),(13,.h .bool),(14,wH)] [(32,.cells [wS,wS,wN] 60),(33,.cells [wS,wS,.own 35] 60),(34,.row (.prod .str (.prod .str (.prod wI .bool))) 196),(35,.row wP 97)],lb 1073695187 [(2,.ptr 32 0),(6,.ptr 33 0),(7,.own 34),(12,wH),(13,.h .bool),(15,wH),(16,wH)] [(32,.cells [wS,wS,wN] 60),(33,.cells [wS,wS,.own 35] 60),(34,.row (.prod .str (.prod .str (.prod wI .bool))) 196),(35,.row wP 97)],lb 4397855658579 [(2,.ptr 32 0),(6,.ptr 33 0),(7,.own 34),(12,wH),(15,wH),(17,wS),(18,wH),(19,wH),(20,wH)] [(32,.cells [wS,wS,wN] 60),(33,.cells [wS,wS,.own 35] 60),(34,.row (.prod .str (.prod .str (.prod wI .bool))) 196),(35,.row wP 97)],lb 17591422634313 [(2,.ptr 32 0),(6,.ptr 33 0),(7,.own 34),(12,wH),(15,wH),(17,wS),(18,wH),(19,wH),(20,wH),(283,.h .bool)] [(32,.cells [wS,wS,wN] 60),(33,.cells [wS,wS,.own 35] 60),(34,.row (.prod .str (.prod .str (.prod wI .bool))) 196),(35,.row wP 97)],lb 17179123667 [(2,.ptr 32 0),(6,.ptr 33 0),(7,.own 34),(12,wH),(15,wH),(17,wS),(18,wH)] [(32,.cells [wS,wS,wN] 60),(33,.cells [wS,wS,.own 35] 60),(34,.row (.prod .str (.prod .str (.prod wI .bool))) 196),(35,.row wP 97)],lb 1099463914655 [(2,.ptr 32 0),(6,.ptr 33 0),(7,.own 34),(12,wH),(15,wH),(17,wS),(18,wH),(21,wS)] [(32,.cells [wS,wS,wN] 60),(33,.cells [wS,wS,.own 35] 60),(34,.row (.prod .str (.prod .str (.prod wI .bool))) 196),(35,.row wP 97)],lb 8795711317237 [(2,.ptr 32 0),(6,.ptr 33 0),(7,.own 34),(12,wH),(15,wH),(17,wS),(18,wH),(21,wS)] [(32,.cells [wS,wS,wN] 60),(33,.cells [wS,wS,.own 35] 60),(34,.row (.prod .str (.prod .str (.prod wI .bool))) 196),(35,.row wP 97)],lb 17591422634473 [(2,.ptr 32 0),(6,.ptr 33 0),(7,.own 34),(12,wH),(15,wH),(17,wS),(18,wH),(21,wS),(310,.h .bool)] [(32,.cells [wS,wS,wN] 60),(33,.cells [wS,wS,.own 35] 60),(34,.row (.prod .str (.prod .str (.prod wI .bool))) 196),(35,.row wP 97)],lb 4397855658576 [(2,.ptr 32 0),(6,.ptr 33 0),(7,.own 34),(12,wH),(15,wH),(17,wS),(18,wH),(19,wH),(20,wH)] [(32,.cells [wS,wS,wN] 60),(33,.cells [wS,wS,.own 35] 60),(34,.row (.prod .str (.prod .str (.prod wI .bool))) 196),(35,.row wP 97)],lb 17179123664 [(2,.ptr 32 0),(6,.ptr 33 0),(7,.own 34),(12,wH),(15,wH),(17,wS),(18,wH)] [(32,.cells [wS,wS,wN] 60),(33,.cells [wS,wS,.own 35] 60),(34,.row (.prod .str (.prod .str (.prod wI .bool))) 196),(35,.row wP 97)],lb 1073695184 [(2,.ptr 32 0),(6,.ptr 33 0),(7,.own 34),(12,wH),(13,.h .bool),(15,wH),(16,wH)] [(32,.cells [wS,wS,wN] 60),(33,.cells [wS,wS,.own 35] 60),(34,.row (.prod .str (.prod .str (.prod wI .bool))) 196),(35,.row wP 97)],lb 268423760 [(2,.ptr 32 0),(6,.ptr 33 0),(7,.own 34),(12,wH),(13,.h .bool),(14,wH)] [(32,.cells [wS,wS,wN] 60),(33,.cells [wS,wS,.own 35] 60),(34,.row (.prod .str (.prod .str (.prod wI .bool))) 196),(35,.row wP 97)],lb 1048528 [(2,.ptr 32 0),(6,.ptr 33 0),(7,.own 34),(12,wH)] [(32,.cells [wS,wS,wN] 60),(33,.cells [wS,wS,.own 35] 60),(34,.row (.prod .str (.prod .str (.prod wI .bool))) 196),(35,.row wP 97)],lb 262112 [(0,wS),(2,.ptr 32 0),(4,wH),(6,.ptr 33 0),(7,.own 34)] [(32,.cells [wS,wS,wN] 60),(33,.cells [wS,wS,wN] 60),(34,.row (.prod .str (.prod .str (.prod wI .bool))) 196)],lb 254 [(0,wS),(2,.ptr 32 0),(4,wH),(6,.ptr 33 0)] [(32,.cells [wS,wS,wN] 60),(33,.cells [wS,wS,wN] 60)],lb 253 [(0,wS),(2,.ptr 32 0),(4,wH),(6,.ptr 33 0),(49,.h .bool)] [(32,.cells [wS,wS,wN] 60),(33,.cells [wS,wS,wN] 60)]]
def z30(r2:(bm fu).L 22)(r9:(bm fu).L 5):(bm fu).L 0:=Fx.jm (qhy fu r2.f r9.f) [r9.s]
def z3x(r2:(bm fu).L 22)(r9:(bm fu).L 5):(bm fu).L 1:=Fx.jm (qc3 fu r2.f r9.f) [(z30 fu r2 r9).s]
def z3w(r2:(bm fu).L 22)(r9:(bm fu).L 5):(bm fu).L 2:=Fx.jm (qv5 fu r2.f r9.f) [(z3x fu r2 r9).s]
def zi5(r2:(bm fu).L 22):(bm fu).L 3:=Fx.jm (zu fu r2.f) [r2.s]
def z3t(r2:(bm fu).L 22)(r9:(bm fu).L 5):(bm fu).L 4:=Fx.jm (qc2 fu r2.f r9.f) [(z3w fu r2 r9).s,(zi5 fu r2).s]
def z4f(r2:(bm fu).L 22):Nat->(bm fu).L 5:=Fx.lq (wm fu r2.f) (qn7 fu r2.f) (fun r9=>[(z3t fu r2 r9).s])
def z4d(r2:(bm fu).L 22):(bm fu).L 6:=Fx.jm (qh3 fu r2.f) [(z4f fu r2 fu).s,(zi5 fu r2).s]
def z4b(r2:(bm fu).L 22):(bm fu).L 7:=Fx.jm (qv7 fu r2.f) [(z4d fu r2).s]
def z38(r2:(bm fu).L 22):(bm fu).L 8:=Fx.jm (qh1 fu r2.f) [(z4b fu r2).s]
def z3y(r4:(bm fu).L 21)(r6:(bm fu).L 20):(bm fu).L 9:=Fx.jm (qhx fu r4.f r6.f) [r6.s]
def z3u(r4:(bm fu).L 21)(r8:(bm fu).L 19):(bm fu).L 10:=Fx.jm (qhw fu r4.f r8.f) [r8.s]
def z33(r4:(bm fu).L 21)(r13:(bm fu).L 18)(r17:(bm fu).L 17):(bm fu).L 11:=Fx.jm (qc5 fu r4.f r13.f r17.f) [r17.s]
def z31(r4:(bm fu).L 21)(r13:(bm fu).L 18)(r17:(bm fu).L 17):(bm fu).L 12:=Fx.jm (qhz fu r4.f r13.f r17.f) [(z33 fu r4 r13 r17).s]
def z36(r4:(bm fu).L 21)(r13:(bm fu).L 18):(bm fu).L 13:=Fx.jm (qv6 fu r4.f r13.f) [r13.s]
def zi6(r4:(bm fu).L 21)(r13:(bm fu).L 18):(bm fu).L 14:=Fx.jm (qc6 fu r4.f r13.f) [(z36 fu r4 r13).s]
def z35(r4:(bm fu).L 21)(r13:(bm fu).L 18):(bm fu).L 15:=Fx.jm (qh0 fu r4.f r13.f) [(zi6 fu r4 r13).s]
def z34(r4:(bm fu).L 21)(r13:(bm fu).L 18):(bm fu).L 16:=Fx.jm (rt fu r4.f r13.f) [(z35 fu r4 r13).s]
def z3z(r4:(bm fu).L 21)(r13:(bm fu).L 18):Nat->(bm fu).L 17:=Fx.lq (l5 fu r4.f r13.f) (zq fu r4.f r13.f) (fun r17=>[(z31 fu r4 r13 r17).s,(z34 fu r4 r13).s,(zi6 fu r4 r13).s])
def z3v(r4:(bm fu).L 21):Nat->(bm fu).L 18:=Fx.lq (nj fu r4.f) (zp fu r4.f) (fun r13=>[(z3z fu r4 r13 fu).s,r4.s])
def z4e(r4:(bm fu).L 21):Nat->(bm fu).L 19:=Fx.lq (ru fu r4.f) (qc1 fu r4.f) (fun r8=>[(z3u fu r4 r8).s,r4.s,(z3v fu r4 fu).s])
def z4c(r4:(bm fu).L 21):Nat->(bm fu).L 20:=Fx.lq (qh2 fu r4.f) (qv3 fu r4.f) (fun r6=>[(z3y fu r4 r6).s,(z4e fu r4 fu).s])
def z4a:Nat->(bm fu).L 21:=Fx.lq (ox fu) (qv2 fu) (fun r4=>[(z4c fu r4 fu).s])
def z32:Nat->(bm fu).L 22:=Fx.lq (qc4 fu) (qv1 fu) (fun r2=>[(z38 fu r2).s,(z4a fu fu).s])
def z3s:(bm fu).L 23:=Fx.jm (qv4 fu) [(z32 fu fu).s]
def z3r:(bm fu).L 24:=Fx.jm (zt fu) [(z3s fu).s]
def z4g:=(bm fu).fi (qhv fu) [(z3r fu).s]
end
end
noncomputable section
open Go.Proofs
set_option linter.unusedVariables false
set_option maxRecDepth 100000
set_option maxHeartbeats 2000000
open Tryz
section
variable(fu:Nat)
def zi8:Fx wG ⟨.fn 158,[wS],[],_,RS.mk (.h .bool) []⟩:=fx [(q6q fu).p,rp.p] [lb 208 [(0,wS),(3,wH)]]
def z4h:Nat->(zi8 fu).L 0:=Fx.lq (qic fu) (qwh fu) (fun r0=>[r0.s])
def zi9:=(zi8 fu).fi (zy fu) [(z4h fu fu).s]
def zja:Fx wG ⟨.fn 159,[wS],[],_,RS.mk (.h .bool) []⟩:=fx [(q6u fu).p] [lb 208 [(0,wS),(3,wH)]]
def z4i:Nat->(zja fu).L 0:=Fx.lq (qih fu) (qwm fu) (fun r0=>[r0.s])
def z4j:=(zja fu).fi (qig fu) [(z4i fu fu).s]
def ua:Fx wG ⟨.fn 106,[.h (.prod .str (.prod .str wL))],[],_,RS.mk (.h (.prod wI wI)) []⟩:=fx [(zi9 fu).p,qm9.p,(we fu).p,(z4j fu).p] [lb 500944 [(1,.ptr 32 0),(2,.ptr 33 0),(3,wH),(4,.ptr 34 0),(5,wH)] [(32,.dat (.prod .str (.prod .str wL)) 60),(33,.dat (.prod wI wI) 29),(34,.dat wP 97)],lb 31308 [(1,.ptr 32 0),(2,.ptr 33 0),(3,wH),(4,.ptr 34 0)] [(32,.dat (.prod .str (.prod .str wL)) 60),(33,.dat (.prod wI wI) 29),(34,.dat wP 97)],lb 15653 [(1,.ptr 32 0),(2,.ptr 33 0),(3,wH),(4,.ptr 34 0),(43,.h .bool)] [(32,.dat (.prod .str (.prod .str wL)) 60),(33,.dat (.prod wI wI) 29),(34,.dat wP 97)],lb 976 [(1,.ptr 32 0),(2,.ptr 33 0),(3,wH)] [(32,.dat (.prod .str (.prod .str wL)) 60),(33,.dat (.prod wI wI) 29)],lb 28 [(1,.ptr 32 0),(2,.ptr 33 0)] [(32,.dat (.prod .str (.prod .str wL)) 60),(33,.dat (.prod wI wI) 29)],lb 13 [(1,.ptr 32 0),(2,.ptr 33 0),(15,.h .bool)] [(32,.dat (.prod .str (.prod .str wL)) 60),(33,.dat (.prod wI wI) 29)]]
def z4p(r2:(ua fu).L 3):Nat->(ua fu).L 0:=Fx.lq (qhu fu r2.f) (qvy fu r2.f) (fun r5=>[r5.s,r2.s])
def z4o(r2:(ua fu).L 3):(ua fu).L 1:=Fx.jm (qv0 fu r2.f) [(z4p fu r2 fu).s]
def z4n(r2:(ua fu).L 3):(ua fu).L 2:=Fx.jm (zo fu r2.f) [(z4o fu r2).s]
def z4m:Nat->(ua fu).L 3:=Fx.lq (zn fu) (qvx fu) (fun r2=>[(z4n fu r2).s])
def z4l:(ua fu).L 4:=Fx.jm (qvz fu) [(z4m fu fu).s]
def z4k:(ua fu).L 5:=Fx.jm (qc0 fu) [(z4l fu).s]
def z4q:=(ua fu).fi (qn6 fu) [(z4k fu).s]
def q62:Fx wG ⟨.fn 61,[.h wL],[],_,RS.mk (.tup [.h (.prod .str (.prod .str wL)),.h .bool]) []⟩:=fx [(q6o fu).p,(z4g fu).p,(z4q fu).p] [lb 30 [(2,.ptr 32 0),(4,.own 33)] [(32,.cells [wS,wS,wN] 60),(33,.row .str 9)],lb 29 [(2,.ptr 32 0),(4,.own 33),(18,.h .bool)] [(32,.cells [wS,wS,wN] 60),(33,.row .str 9)]]
def z4s:(q62 fu).L 0:=Fx.jm (qxl fu)
def z4r:(q62 fu).L 1:=Fx.jm (qot fu) [(z4s fu).s]
def quu:=(q62 fu).fi (qab fu) [(z4r fu).s]
def zjb:Fx wG ⟨.fn 62,[.h (.prod .str (.prod .str wL)),wS],[],_,RS.mk (.tup [wS,.h .bool]) []⟩:=fx [(we fu).p] [lb 208 [(1,wS),(2,.ptr 32 0),(6,wH)] [(32,.dat (.prod .str (.prod .str wL)) 60)]]
def z4u:Nat->(zjb fu).L 0:=Fx.lq (qh5 fu) (qv9 fu) (fun r0=>[r0.s])
def q63:=(zjb fu).fi (qc8 fu) [(z4u fu fu).s]
def zjc:EI wG ⟨.fn 108,[.h wB,wH],[],_,RS.mk (.h .bool) []⟩:=(fx).fi qco
def quv(fu:Nat):Fx wG ⟨.fn 66,[.h wB],[],_,RS.mk (.h (.prod wI wI)) []⟩:=fx [zjc.p,qm9.p] [lb 7461 [(0,.h wB),(2,.ptr 32 0),(3,wH),(4,wH),(29,.h .bool)] [(32,.dat (.prod wI wI) 29)],lb 464 [(0,.h wB),(2,.ptr 32 0),(3,wH),(4,wH)] [(32,.dat (.prod wI wI) 29)]]
def z4w(r0:(quv fu).L 1):(quv fu).L 0:=Fx.jm (qol fu r0.f) [r0.s]
def z4v:Nat->(quv fu).L 1:=Fx.lq (qit fu) (qw1 fu) (fun r0=>[r0.s,(z4w fu r0).s])
def z4x:=(quv fu).fi (qw0 fu) [(z4v fu fu).s]
def qux:Fx wG ⟨.fn 67,[.h wL],[],_,RS.mk (.tup [wS,.h .bool]) []⟩:=fx [(quu fu).p,(we fu).p,(q63 fu).p,rp.p] [lb 2000 [(6,wS),(7,.h .bool),(8,wH)],lb 30 [(4,.ptr 32 0)] [(32,.dat (.prod .str (.prod .str wL)) 60)],lb 29 [(4,.ptr 32 0),(21,.h .bool)] [(32,.dat (.prod .str (.prod .str wL)) 60)]]
def z40:Nat->(qux fu).L 0:=Fx.lq (qis fu) (qwy fu) (fun r2=>[r2.s])
def z4z:(qux fu).L 1:=Fx.jm (qwz fu) [(z40 fu fu).s]
def z4y:(qux fu).L 2:=Fx.jm (qir fu) [(z4z fu).s]
def z41:=(qux fu).fi (qok fu) [(z4y fu).s]
def qgx(fu:Nat):Fx wG ⟨.fn 110,[wS,wS],[],_,RS.mk (wH) []⟩:=fx [qnb.p] [lb 226 [(0,wS),(1,wS),(5,wH)],lb 225 [(0,wS),(1,wS),(5,wH),(16,.h .bool)],lb 224 [(0,wS),(1,wS),(5,wH)]]
def z44(r0:(qgx fu).L 2):(qgx fu).L 0:=Fx.jm (qxb fu r0.f) [r0.s]
def z43(r0:(qgx fu).L 2):(qgx fu).L 1:=Fx.jm (qdn fu r0.f) [(z44 fu r0).s]
def z42:Nat->(qgx fu).L 2:=Fx.lq (qdm fu) (qxa fu) (fun r0=>[(z43 fu r0).s])
def z47:=(qgx fu).fi (qw9 fu) [(z42 fu fu).s]
def jp:Fx wG ⟨.fn 68,[.h wB,wS],[],_,RS.mk (.own 0) [(0,.row wB 23)]⟩:=fx [zjc.p,(z47 fu).p] [lb 63650 [(0,.h wB),(1,wS),(5,.own 32),(6,wH),(7,wH),(8,wH)] [(32,.row wB 23)],lb 254716 [(0,.h wB),(1,wS),(5,.own 32),(6,wH),(9,wH),(10,wH)] [(32,.row wB 23)],lb 509429 [(0,.h wB),(1,wS),(5,.own 32),(9,wH),(10,wH)] [(32,.row wB 23)],lb 8150859 [(0,.h wB),(1,wS),(5,.own 32),(6,wH),(9,wH),(10,wH),(11,wH)] [(32,.row wB 23)],lb 31838 [(0,.h wB),(1,wS),(5,.own 32),(6,wH),(7,wH),(8,wH),(9,wH)] [(32,.row wB 23)],lb 63649 [(0,.h wB),(1,wS),(5,.own 32),(6,wH),(7,wH),(8,wH),(26,.h .bool)] [(32,.row wB 23)],lb 63648 [(0,.h wB),(1,wS),(5,.own 32),(6,wH),(7,wH),(8,wH)] [(32,.row wB 23)],lb 992 [(0,.h wB),(1,wS),(5,.own 32),(6,wH),(7,wH)] [(32,.row wB 23)]]
def z5b(r0:(jp fu).L 7)(r1:(jp fu).L 6):(jp fu).L 0:=Fx.jm (qw5 fu r0.f r1.f) [r1.s]
def zje(r0:(jp fu).L 7):(jp fu).L 1:=Fx.jm (qdk fu r0.f) [r0.s]
def zjd(r0:(jp fu).L 7):(jp fu).L 2:=Fx.jm (zz fu r0.f) [(zje fu r0).s]
def z5d(r0:(jp fu).L 7):(jp fu).L 3:=Fx.jm (z6 fu r0.f) [(zjd fu r0).s]
def z5c(r0:(jp fu).L 7):(jp fu).L 4:=Fx.jm (qix fu r0.f) [(z5d fu r0).s,(zjd fu r0).s,(zje fu r0).s]
def z5a(r0:(jp fu).L 7)(r1:(jp fu).L 6):(jp fu).L 5:=Fx.jm (qiw fu r0.f r1.f) [(z5b fu r0 r1).s,(z5c fu r0).s]
def z49(r0:(jp fu).L 7):Nat->(jp fu).L 6:=Fx.lq (qiv fu r0.f) (qw4 fu r0.f) (fun r1=>[(z5a fu r0 r1).s])
def z48:Nat->(jp fu).L 7:=Fx.lq (wt fu) (qw3 fu) (fun r0=>[(z49 fu r0 fu).s])
def z5e:=(jp fu).fi (qw2 fu) [(z48 fu fu).s]
def quy(fu:Nat):Fx wG ⟨.fn 160,[wS],[],_,RS.mk (wS) []⟩:=fx [] [lb 3729 [(0,wS),(3,wS),(4,wH),(20,.h .bool)],lb 464 [(0,wS),(3,wS),(4,wH)]]
def z5g(r0:(quy fu).L 1):(quy fu).L 0:=Fx.jm (zx fu r0.f) [r0.s]
def z5f:Nat->(quy fu).L 1:=Fx.lq (zw fu) (qwc fu) (fun r0=>[(z5g fu r0).s])
def z5h:=(quy fu).fi (qoc fu) [(z5f fu fu).s]
def z5i:EI wG ⟨.fn 161,[.h .byte],[],_,RS.mk (wS) []⟩:=(fx).fi rx
def rq:Fx wG ⟨.fn 107,[.h wP],[],_,RS.mk (wS) []⟩:=fx [(zi9 fu).p,rp.p,(z5h fu).p,z5i.p,(q6q fu).p,(zi0 fu).p] [lb 979 [(1,.ptr 32 0),(3,.h .bool),(4,wH)] [(32,.dat wP 97)],lb 32723 [(1,.ptr 32 0),(5,wS),(6,wS),(7,wH),(8,wH)] [(32,.dat wP 97)],lb 523559 [(1,.ptr 32 0),(5,wS),(6,wS),(7,wH),(8,wH),(9,wS)] [(32,.dat wP 97)],lb 1047116 [(1,.ptr 32 0),(5,wS),(6,wS),(7,wH),(8,wH),(9,wS)] [(32,.dat wP 97)],lb 32720 [(1,.ptr 32 0),(5,wS),(6,wS),(7,wH),(8,wH)] [(32,.dat wP 97)],lb 976 [(1,.ptr 32 0),(3,.h .bool),(4,wH)] [(32,.dat wP 97)]]
def z5k(r0:(rq fu).L 5):(rq fu).L 0:=Fx.jm (qh7 fu r0.f) [r0.s]
def z5o(r2:(rq fu).L 4):(rq fu).L 1:=Fx.jm (qob fu r2.f) [r2.s]
def z5n(r2:(rq fu).L 4):(rq fu).L 2:=Fx.jm (qh9 fu r2.f) [(z5o fu r2).s]
def z5m(r2:(rq fu).L 4):(rq fu).L 3:=Fx.jm (qh8 fu r2.f) [(z5n fu r2).s]
def z5l:Nat->(rq fu).L 4:=Fx.lq (qc9 fu) (qwb fu) (fun r2=>[(z5m fu r2).s])
def z5j:Nat->(rq fu).L 5:=Fx.lq (qh6 fu) (qwa fu) (fun r0=>[(z5k fu r0).s,(z5l fu fu).s])
def z5p:=(rq fu).fi (qoa fu) [(z5j fu fu).s]
def zjh:Fx wG ⟨.fn 64,[.h (.prod .str (.prod .str wL))],[],_,RS.mk (wS) []⟩:=fx [(z5p fu).p] [lb 464 [(1,.ptr 32 0),(3,wS),(4,wH)] [(32,.dat (.prod .str (.prod .str wL)) 60)]]
def z5q:Nat->(zjh fu).L 0:=Fx.lq (qh4 fu) (qv8 fu) (fun r0=>[r0.s])
def z5r:=(zjh fu).fi (qn8 fu) [(z5q fu fu).s]
def qnh:Fx wG ⟨.fn 36,[.h wT,wH],[],_,RS.mk (wH) []⟩:=fx [(z2n fu).p,(quu fu).p,(q63 fu).p,(we fu).p,(z4x fu).p,(z41 fu).p,(z5e fu).p,(z5r fu).p,(q6o fu).p] [lb 7870 [],lb 7869 [(72,.h .bool)],lb 1966 [(2,.ptr 32 0),(6,.ptr 33 0)] [(32,.dat wT 26),(33,.dat (.prod .str (.prod .str wL)) 60)],lb 1965 [(2,.ptr 32 0),(6,.ptr 33 0),(58,.h .bool)] [(32,.dat wT 26),(33,.dat (.prod .str (.prod .str wL)) 60)]]
def z5v:(qnh fu).L 0:=Fx.jm (q8c fu)
def z5u:(qnh fu).L 1:=Fx.jm (qi1 fu) [(z5v fu).s]
def z5t:(qnh fu).L 2:=Fx.jm (qxc fu) [(z5u fu).s]
def z5s:(qnh fu).L 3:=Fx.jm (pq fu) [(z5t fu).s]
def z5w:=(qnh fu).fi (qop fu) [(z5s fu).s]
def q67:Fx wG ⟨.fn 15,[.h wT],[],_,RS.mk (.h (.prod wI wI)) []⟩:=fx [(zin fu).p,qm9.p,(z5w fu).p] [lb 2000 [(2,.ptr 32 0),(3,.h (.list wT)),(4,.h (.list wI)),(6,wH)] [(32,.dat (.prod wI wI) 29)],lb 976 [(2,.ptr 32 0),(3,.h (.list wT)),(4,.h (.list wI)),(5,wH)] [(32,.dat (.prod wI wI) 29)]]
def z5y:Nat->(q67 fu).L 0:=Fx.lq (qi3 fu) (qxe fu) (fun r1=>[r1.s])
def z5x:Nat->(q67 fu).L 1:=Fx.lq (qi2 fu) (qxd fu) (fun r0=>[r0.s,(z5y fu fu).s])
def z5z:=(q67 fu).fi (qoq fu) [(z5x fu fu).s]
def zjj:Fx wG ⟨.fn 37,[.h wT,wS],[],_,RS.mk (.h .bool) []⟩:=fx [(quu fu).p,(we fu).p] [lb 30 [(1,wS),(2,.ptr 32 0),(5,.ptr 33 0)] [(32,.dat wT 26),(33,.dat (.prod .str (.prod .str wL)) 60)]]
def z52:(zjj fu).L 0:=Fx.jm (qw8 fu)
def z54:=(zjj fu).fi (qi0 fu) [(z52 fu).s]
def zjk:Fx wG ⟨.fn 69,[wS],[],_,RS.mk (wH) []⟩:=fx [(we fu).p] [lb 464 [(0,wS),(3,.own 32),(4,wH)] [(32,.row .str 9)]]
def z56:Nat->(zjk fu).L 0:=Fx.lq (qdc fu) (qwf fu) (fun r0=>[r0.s])
def z57:=(zjk fu).fi (qib fu) [(z56 fu fu).s]
def z58:EI wG ⟨.fn 113,[wS],[],_,RS.mk (wH) []⟩:=(fx [(we fu).p]).fi (qiu fu)
def zjl(fu:Nat):Fx wG ⟨.fn 208,[.h .byte],[],_,RS.mk (wH) []⟩:=fx [] [lb 208 [(0,.h .byte),(3,wH)]]
def z59:Nat->(zjl fu).L 0:=Fx.lq (ws fu) (qwx fu) (fun r0=>[r0.s])
def z6a:=(zjl fu).fi (qww fu) [(z59 fu fu).s]
def zjm(fu:Nat):Fx wG ⟨.fn 209,[.h (.list wI)],[],_,RS.mk (wH) []⟩:=fx [] [lb 464 [(0,.h (.list wI)),(3,wH),(4,wH)]]
def z6b:Nat->(zjm fu).L 0:=Fx.lq (qdi fu) (qoi fu) (fun r0=>[r0.s])
def z6c:=(zjm fu).fi (qwu fu) [(z6b fu fu).s]
def lw:Fx wG ⟨.fn 166,[.h wB],[],_,RS.mk (.own 0) [(0,.row .byte 5)]⟩:=fx [(z6a fu).p,(z6c fu).p] [lb 119396 [(0,.h wB),(3,.own 32),(4,wH),(5,wH),(6,wH)] [(32,.row wI 3)],lb 59697 [(0,.h wB),(3,.own 32),(4,wH),(5,wH),(6,wH),(32,.h .bool)] [(32,.row wI 3)],lb 59696 [(0,.h wB),(3,.own 32),(4,wH),(5,wH),(6,wH)] [(32,.row wI 3)],lb 1864 [(0,.h wB),(3,.own 32),(4,wH)] [(32,.row wI 3)],lb 2000 [(3,.h (.list wI)),(7,.own 33),(8,wH)] [(33,.row .byte 5)],lb 465 [(0,.h wB),(3,.own 32),(4,wH),(19,.h .bool)] [(32,.row wI 3)],lb 464 [(0,.h wB),(3,.own 32),(4,wH)] [(32,.row wI 3)]]
def z6j(r0:(lw fu).L 6)(r4:(lw fu).L 2):(lw fu).L 0:=Fx.jm (qvr fu r0.f r4.f) [r4.s]
def z6i(r0:(lw fu).L 6)(r4:(lw fu).L 2):(lw fu).L 1:=Fx.jm (qn3 fu r0.f r4.f) [(z6j fu r0 r4).s,r0.s]
def z6h(r0:(lw fu).L 6):Nat->(lw fu).L 2:=Fx.lq (po fu r0.f) (qhn fu r0.f) (fun r4=>[(z6i fu r0 r4).s])
def z6f(r0:(lw fu).L 6):(lw fu).L 3:=Fx.jm (qvq fu r0.f) [(z6h fu r0 fu).s]
def z6g:Nat->(lw fu).L 4:=Fx.lq (qcw fu) (qvp fu) (fun r3=>[r3.s])
def z6e(r0:(lw fu).L 6):(lw fu).L 5:=Fx.jm (qho fu r0.f) [(z6f fu r0).s,(z6g fu fu).s]
def z6d:Nat->(lw fu).L 6:=Fx.lq (qcv fu) (qn2 fu) (fun r0=>[(z6e fu r0).s])
def z6k:=(lw fu).fi (qvo fu) [(z6d fu fu).s]
def dw:Fx wG ⟨.fn 167,[.h wB],[],_,RS.mk (.own 0) [(0,.row .byte 5)]⟩:=fx [qnb.p,(zi4 fu).p] [lb 29858 [(0,.h wB),(3,.own 32),(4,wH),(5,wH)] [(32,.row .byte 5)],lb 478178 [(0,.h wB),(3,.own 32),(4,wH),(5,wH),(6,wH),(7,wH)] [(32,.row .byte 5)],lb 7651283 [(0,.h wB),(3,.own 32),(5,wH),(6,wH),(7,wH),(8,.h .bool),(9,wH)] [(32,.row .byte 5)],lb 30605129 [(0,.h wB),(3,.own 32),(5,wH),(6,wH),(7,wH),(8,.h .bool),(9,wH),(110,.h .bool)] [(32,.row .byte 5)],lb 7651280 [(0,.h wB),(3,.own 32),(5,wH),(6,wH),(7,wH),(8,.h .bool),(9,wH)] [(32,.row .byte 5)],lb 478204 [(0,.h wB),(3,.own 32),(4,wH),(5,wH),(6,wH),(7,wH),(8,.h .bool)] [(32,.row .byte 5)],lb 239100 [(0,.h wB),(3,.own 32),(4,wH),(5,wH),(6,wH),(7,wH),(8,.h .bool)] [(32,.row .byte 5)],lb 478177 [(0,.h wB),(3,.own 32),(4,wH),(5,wH),(6,wH),(7,wH),(59,.h .bool)] [(32,.row .byte 5)],lb 478176 [(0,.h wB),(3,.own 32),(4,wH),(5,wH),(6,wH),(7,wH)] [(32,.row .byte 5)],lb 14942 [(0,.h wB),(3,.own 32),(4,wH),(5,wH),(6,wH)] [(32,.row .byte 5)],lb 14941 [(0,.h wB),(3,.own 32),(4,wH),(5,wH),(6,wH),(45,.h .bool)] [(32,.row .byte 5)],lb 29857 [(0,.h wB),(3,.own 32),(4,wH),(5,wH),(25,.h .bool)] [(32,.row .byte 5)],lb 29856 [(0,.h wB),(3,.own 32),(4,wH),(5,wH)] [(32,.row .byte 5)],lb 464 [(0,.h wB),(3,.own 32),(4,wH)] [(32,.row .byte 5)]]
def z6s(r0:(dw fu).L 13)(r1:(dw fu).L 12):(dw fu).L 0:=Fx.jm (qvv fu r0.f r1.f) [r1.s]
def z6x(r0:(dw fu).L 13)(r6:(dw fu).L 8):(dw fu).L 1:=Fx.jm (qvw fu r0.f r6.f) [r6.s]
def z6q(r0:(dw fu).L 13)(r11:(dw fu).L 4):(dw fu).L 2:=Fx.jm (qhq fu r0.f r11.f) [r11.s]
def z6p(r0:(dw fu).L 13)(r11:(dw fu).L 4):(dw fu).L 3:=Fx.jm (ug fu r0.f r11.f) [(z6q fu r0 r11).s]
def z6o(r0:(dw fu).L 13):Nat->(dw fu).L 4:=Fx.lq (ow fu r0.f) (qn5 fu r0.f) (fun r11=>[(z6p fu r0 r11).s,r0.s])
def z6n(r0:(dw fu).L 13):(dw fu).L 5:=Fx.jm (qhp fu r0.f) [(z6o fu r0 fu).s]
def z6y(r0:(dw fu).L 13):(dw fu).L 6:=Fx.jm (qht fu r0.f) [(z6n fu r0).s]
def z6w(r0:(dw fu).L 13)(r6:(dw fu).L 8):(dw fu).L 7:=Fx.jm (qcy fu r0.f r6.f) [(z6x fu r0 r6).s,(z6y fu r0).s]
def z6v(r0:(dw fu).L 13):Nat->(dw fu).L 8:=Fx.lq (qhs fu r0.f) (qvu fu r0.f) (fun r6=>[(z6w fu r0 r6).s])
def z6u(r0:(dw fu).L 13):(dw fu).L 9:=Fx.jm (qhr fu r0.f) [(z6v fu r0 fu).s]
def z6t(r0:(dw fu).L 13):(dw fu).L 10:=Fx.jm (zm fu r0.f) [(z6u fu r0).s]
def z6r(r0:(dw fu).L 13)(r1:(dw fu).L 12):(dw fu).L 11:=Fx.jm (zl fu r0.f r1.f) [(z6s fu r0 r1).s,(z6t fu r0).s]
def z6m(r0:(dw fu).L 13):Nat->(dw fu).L 12:=Fx.lq (zk fu r0.f) (qvt fu r0.f) (fun r1=>[(z6r fu r0 r1).s])
def z6l:Nat->(dw fu).L 13:=Fx.lq (qcx fu) (qn4 fu) (fun r0=>[(z6m fu r0 fu).s])
def z6z:=(dw fu).fi (qvs fu) [(z6l fu fu).s]
def z60:EI wG ⟨.fn 114,[.h wB,wH],[],_,RS.mk (.h wB) []⟩:=(fx [(z6k fu).p,(z6z fu).p]).fi (qou fu)
def zjn:Fx wG ⟨.fn 71,[.h wT],[],_,RS.mk (.h wB) []⟩:=fx [(q6o fu).p,(z58 fu).p,(z60 fu).p] [lb 464 [(1,.ptr 32 0),(3,.own 33),(4,wH)] [(32,.dat wT 26),(33,.row .str 9)]]
def z62:Nat->(zjn fu).L 0:=Fx.lq (qiy fu) (qw6 fu) (fun r0=>[r0.s])
def z63:=(zjn fu).fi (qom fu) [(z62 fu fu).s]
def zjo:Fx wG ⟨.fn 112,[wS],[],_,RS.mk (.own 0) [(0,.row wI 3)]⟩:=fx [(q6u fu).p] [lb 464 [(0,wS),(3,.own 32),(4,wH)] [(32,.row wI 3)]]
def z64:Nat->(zjo fu).L 0:=Fx.lq (qdb fu) (qwe fu) (fun r0=>[r0.s])
def z65:=(zjo fu).fi (qwd fu) [(z64 fu fu).s]
def qcm:Fx wG ⟨.fn 70,[wH,.h wB],[],_,RS.mk (wS) []⟩:=fx [(z65 fu).p,q6x.p,rp.p] [lb 7504 [(0,wH),(1,.h wB),(5,wS),(6,wH)],lb 60336 [(5,wS),(8,.own 32),(9,wH)] [(32,.row wI 3)],lb 3865165 [(1,.h wB),(5,wS),(10,wH),(11,wH),(93,.h .bool)],lb 120784 [(1,.h wB),(5,wS),(10,wH)],lb 117 [(0,wH),(1,.h wB),(5,wS),(13,wH),(14,.h .bool)]]
def z68:Nat->(qcm fu).L 0:=Fx.lq (qcp fu) (qvg fu) (fun r1=>[r1.s])
def z69:Nat->(qcm fu).L 1:=Fx.lq (qcq fu) (qvh fu) (fun r2=>[r2.s])
def z7b(r3:(qcm fu).L 3):(qcm fu).L 2:=Fx.jm (qcr fu r3.f) [r3.s]
def z7a:Nat->(qcm fu).L 3:=Fx.lq (zg fu) (qvi fu) (fun r3=>[(z7b fu r3).s])
def z67:(qcm fu).L 4:=Fx.jm (qnr fu) [(z68 fu fu).s,(z69 fu fu).s,(z7a fu fu).s]
def z7c:=(qcm fu).fi (qnq fu) [(z67 fu).s]
def qu0:Fx wG ⟨.fn 38,[.h wT],[],_,RS.mk (wS) []⟩:=fx [(quu fu).p,(q63 fu).p,(z57 fu).p,(z63 fu).p,(z7c fu).p] [lb 16336 [(8,wS),(9,wS),(10,wH)],lb 126 [(1,.ptr 32 0),(7,wH)] [(32,.dat wT 26)],lb 125 [(1,.ptr 32 0),(7,wH),(29,.h .bool)] [(32,.dat wT 26)]]
def z7f:Nat->(qu0 fu).L 0:=Fx.lq (qdr fu) (qxk fu) (fun r2=>[r2.s])
def z7e:(qu0 fu).L 1:=Fx.jm (qi7 fu) [(z7f fu fu).s]
def z7d:(qu0 fu).L 2:=Fx.jm (qdq fu) [(z7e fu).s]
def z7g:=(qu0 fu).fi (qi6 fu) [(z7d fu).s]
def qni(fu:Nat):Fx wG ⟨.fn 74,[wS],[],_,RS.mk (.tup [wS,.h .bool]) []⟩:=fx [rp.p,q6x.p] [lb 8144 [(0,wS),(7,wH),(8,wH)],lb 126 [(0,wS)],lb 125 [(0,wS),(35,.h .bool)],lb 976 [(0,wS),(4,.own 32),(5,.own 33),(6,wH)] [(32,.row .str 9),(33,.row .str 9)]]
def z7k:Nat->(qni fu).L 0:=Fx.lq (qi9 fu) (qxn fu) (fun r3=>[r3.s])
def z7j:(qni fu).L 1:=Fx.jm (qxo fu) [(z7k fu fu).s]
def z7i:(qni fu).L 2:=Fx.jm (qi8 fu) [(z7j fu).s]
def z7h:Nat->(qni fu).L 3:=Fx.lq (qac fu) (qow fu) (fun r0=>[r0.s,(z7i fu).s])
def z7l:=(qni fu).fi (qov fu) [(z7h fu fu).s]
def kz:Fx wG ⟨.fn 39,[wS],[],_,RS.mk (wS) []⟩:=fx [(ziz fu).p,(z7l fu).p,(qus fu).p] [lb 1910178 [(0,wS),(3,wS),(5,wH),(6,wS)],lb 955102 [(0,wS),(3,wS),(5,wH)],lb 955101 [(0,wS),(3,wS),(5,wH),(67,.h .bool)],lb 1910177 [(0,wS),(3,wS),(5,wH),(6,wS),(46,.h .bool)],lb 1910176 [(0,wS),(3,wS),(5,wH),(6,wS)],lb 3732 [(0,wS),(3,wS),(4,wH)],lb 464 [(0,wS),(3,wS),(4,wH)]]
def z7q(r0:(kz fu).L 6)(r1:(kz fu).L 4):(kz fu).L 0:=Fx.jm (qxj fu r0.f r1.f) [r1.s]
def z7s(r0:(kz fu).L 6):(kz fu).L 1:=Fx.jm (qos fu r0.f) [r0.s]
def z7r(r0:(kz fu).L 6):(kz fu).L 2:=Fx.jm (qaa fu r0.f) [(z7s fu r0).s]
def z7p(r0:(kz fu).L 6)(r1:(kz fu).L 4):(kz fu).L 3:=Fx.jm (wu fu r0.f r1.f) [(z7q fu r0 r1).s,(z7r fu r0).s]
def z7n(r0:(kz fu).L 6):Nat->(kz fu).L 4:=Fx.lq (qdo fu r0.f) (qxi fu r0.f) (fun r1=>[(z7p fu r0 r1).s])
def z7o(r0:(kz fu).L 6):(kz fu).L 5:=Fx.jm (qdp fu r0.f) [r0.s]
def z7m:Nat->(kz fu).L 6:=Fx.lq (z8 fu) (qxh fu) (fun r0=>[(z7n fu r0 fu).s,(z7o fu r0).s])
def z7t:=(kz fu).fi (z7 fu) [(z7m fu fu).s]
def q7h:Fx wG ⟨.fn 16,[.h wT],[],_,RS.mk (wS) []⟩:=fx [(zin fu).p,(z54 fu).p,(z7g fu).p,(z7t fu).p] [lb 976 [(3,.h (.list wT)),(6,wH)],lb 464 [(3,.h (.list wT)),(5,wH)]]
def z7v:Nat->(q7h fu).L 0:=Fx.lq (qi5 fu) (qxg fu) (fun r1=>[r1.s])
def z7u:Nat->(q7h fu).L 1:=Fx.lq (qi4 fu) (qxf fu) (fun r0=>[r0.s,(z7v fu fu).s])
def z7w:=(q7h fu).fi (qor fu) [(z7u fu fu).s]
def z7x:EI wG ⟨.fn 6,[.h wT],[],_,RS.mk (.tup [wS,.h (.prod wI wI)]) []⟩:=(fx [(z5z fu).p,(z7w fu).p]).fi (qxm fu)
def q7i:IF:=⟨.fn 3,[.h wT],[],_,RS.mk (.h .bool) []⟩
def z7y:Fx wG q7i:=fx [(z1y fu).p,(zij fu).p,(z7x fu).p]
def z7z:EI wG q7i:=(z7y fu).fi (qds fu)
def zkq:(q7i.e (qds fu)).Sound wG:=(z7z fu).h
end
end
end Go.Sym
