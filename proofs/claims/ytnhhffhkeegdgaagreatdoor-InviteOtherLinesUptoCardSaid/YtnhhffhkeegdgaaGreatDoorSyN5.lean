/- What the claim rests on, part 5: gathered texts. -/
import Derived.Shelf.LaysC
import Derived.Shelf.LaysM
import Derived.Shelf.SlGeneric
import Derived.Ground.NamesProg
import Derived.Test.YtnhhffhkeegdgaaGreatDoorProg
import Derived.Below
import Derived.Tactics
import Derived.Tactics2
import Derived.Laws.AppendOwn
import Derived.Shelf.Strconv.Itoa4
import Derived.Shelf.Strconv.AtoiAll
import Derived.Shelf.Strconv.ErrVarAll
import Derived.Shelf.Strings.BuilderCap
import Derived.Shelf.Unicode.DecodeAny
import Derived.Laws.DeepStrings4
import Derived.Deep.LoopGhost
import Derived.Deep.DeepCutAuto
import Derived.Deep.DeepFit
import Derived.Deep.DeepMust
import Derived.Shelf.Unicode.ValidAny
import Derived.Shelf.Strings.Count
import Derived.Deep.OwnRows
import Derived.Laws.CopyRow
import Derived.Laws.IdiomStrings
import Derived.Laws.CopyOwn
import Derived.Lib.SlBytesConst
import Derived.Test.YtnhhffhkeegdgaaGreatDoorRows
import Derived.Defers
import Derived.Laws.Pointers
import Derived.Laws.LoneSync
import Derived.RegionTactic
import Derived.RegionCalls
import Derived.ChangeAlike
import Derived.Laws.NewBlocks
import Derived.Laws.ByValue
import Derived.Shelf.Strings.Repeat
import Derived.Shelf.Strings.Replace
import Derived.Shelf.Strings.BuilderK
import Derived.Shelf.Strings.OnBuilder
import Derived.Shelf.Strings.Search2
import Derived.Shelf.Lays2
import Derived.Ground.Names2Prog
import Derived.Shelf.Sort.Plain
import Derived.Shelf.Slices.In.SortNone
import Derived.Shelf.Slices.CompactI
import Derived.Recover
import Derived.Test.YtnhhffhkeegdgaaGreatDoorSyN4
set_option maxRecDepth 100000
set_option linter.defProp false
set_option linter.unusedSimpArgs false
set_option linter.unusedVariables false
namespace Go.Proofs
open Go.Sym(oB)
open Go.Shelf
def Tryz.lfn{α:Type}{a:Option α}{b c:α}(h:a=some b)(e:b=c:=by kernel_rfl):a=some c:=h.trans (congrArg some e)
def Tryz.uniR:Go.Shelf.Ren:=⟨fun|99=>229|105=>173|129=>209|138=>210|143=>132|154=>151|155=>93|156=>118|165=>174|166=>29|167=>294|169=>32|170=>31|171=>63|172=>156|195=>256|196=>76|197=>211|205=>305|206=>265|212=>228|217=>232|218=>257|219=>183|224=>234|225=>233|240=>69|241=>230|243=>114|244=>213|245=>214|246=>170|247=>259|259=>131|260=>258|263=>278|264=>279|266=>287|267=>235|276=>120|277=>280|279=>260|280=>261|281=>262|282=>263|283=>221|284=>222|285=>223|286=>224|287=>303|314=>288|316=>304|317=>268|318=>269|319=>270|320=>271|321=>330|322=>331|337=>306|338=>307|n=>n,fun|0=>0|2=>2|3=>3|4=>4|5=>5|9=>9|12=>12|20=>20|21=>21|31=>64|37=>61|46=>176|51=>210|53=>132|70=>60|72=>63|75=>67|76=>68|80=>72|85=>270|105=>245|109=>255|119=>172|127=>105|138=>174|139=>175|143=>347|145=>349|146=>294|148=>296|164=>155|167=>269|168=>272|171=>249|173=>251|175=>313|210=>316|212=>279|213=>280|232=>350|233=>351|n=>n,fun|1=>2|3=>0|4=>1|15=>4|16=>5|17=>3|18=>6|19=>7|n=>n⟩
abbrev Tryz.laysM171_ren:Go.Shelf.Ren:=Tryz.uniR
def Tryz.laysM171:Go.Proofs.LaysM.n171 Tryz.prog Tryz.laysM171_ren:={
 mixed:=oB
 f129:=Tryz.lfn Tryz.func209
 f171:=Tryz.lfn Tryz.func63
 f243:=Tryz.lfn Tryz.func114
 f246:=Tryz.lfn Tryz.func170
 f283:=Tryz.lfn Tryz.func221
 f284:=Tryz.lfn Tryz.func222
 f285:=Tryz.lfn Tryz.func223
 f286:=Tryz.lfn Tryz.func224
 f317:=Tryz.lfn Tryz.func268
 f318:=Tryz.lfn Tryz.func269
 f319:=Tryz.lfn Tryz.func270
 f320:=Tryz.lfn Tryz.func271
 f337:=Tryz.lfn Tryz.func306
 f338:=Tryz.lfn Tryz.func307
 t0:=Tryz.underlying0
 a0:=Tryz.isAgg0
 z0:=Tryz.sizeOf0
 v0:=Tryz.zeroValue0
 t2:=Tryz.underlying2
 a2:=Tryz.isAgg2
 z2:=Tryz.sizeOf2
 v2:=Tryz.zeroValue2
 t3:=Tryz.underlying3
 a3:=Tryz.isAgg3
 z3:=Tryz.sizeOf3
 v3:=Tryz.zeroValue3
 t4:=Tryz.underlying4
 a4:=Tryz.isAgg4
 z4:=Tryz.sizeOf4
 v4:=Tryz.zeroValue4
 t5:=Tryz.underlying5
 a5:=Tryz.isAgg5
 z5:=Tryz.sizeOf5
 v5:=Tryz.zeroValue5
 t9:=Tryz.underlying9
 a9:=Tryz.isAgg9
 z9:=Tryz.sizeOf9
 v9:=Tryz.zeroValue9
 t20:=Tryz.underlying20
 a20:=Tryz.isAgg20
 z20:=Tryz.sizeOf20
 v20:=Tryz.zeroValue20
 t37:=Tryz.underlying61
 a37:=Tryz.isAgg61
 z37:=Tryz.sizeOf61
 v37:=Tryz.zeroValue61
 t46:=Tryz.underlying176
 a46:=Tryz.isAgg176
 z46:=Tryz.sizeOf176
 v46:=Tryz.zeroValue176
 t51:=Tryz.underlying210
 a51:=Tryz.isAgg210
 z51:=Tryz.sizeOf210
 v51:=Tryz.zeroValue210
 t53:=Tryz.underlying132
 a53:=Tryz.isAgg132
 z53:=Tryz.sizeOf132
 v53:=Tryz.zeroValue132
 t171:=Tryz.underlying249
 a171:=Tryz.isAgg249
 z171:=Tryz.sizeOf249
 v171:=Tryz.zeroValue249
 t173:=Tryz.underlying251
 a173:=Tryz.isAgg251
 z173:=Tryz.sizeOf251
 v173:=Tryz.zeroValue251
 t212:=Tryz.underlying279
 a212:=Tryz.isAgg279
 z212:=Tryz.sizeOf279
 v212:=Tryz.zeroValue279
 t213:=Tryz.underlying280
 a213:=Tryz.isAgg280
 z213:=Tryz.sizeOf280
 t232:=Tryz.underlying350
 a232:=Tryz.isAgg350
 z232:=Tryz.sizeOf350
 v232:=Tryz.zeroValue350
 t233:=Tryz.underlying351
 a233:=Tryz.isAgg351
 z233:=Tryz.sizeOf351
 v233:=Tryz.zeroValue351
 g17:=oB
 g18:=oB
 g19:=oB
 i0:=oB
 i2:=oB
 i3:=oB
 i4:=oB
 i5:=oB
 i9:=oB
 i20:=oB
 i37:=oB
 i46:=oB
 i51:=oB
 i53:=oB
 i171:=oB
 i173:=oB
 i212:=oB
 i232:=oB
 i233:=oB
 m17:=oB
 m18:=oB
 m19:=by kernel_rfl }
abbrev Tryz.laysC172_ren:Go.Shelf.Ren:=Tryz.uniR
def Tryz.laysC172:Go.Proofs.LaysC.n172 Tryz.prog Tryz.laysC172_ren:={ Tryz.laysM171 with
 f172:=Tryz.lfn Tryz.func156
 f205:=Tryz.lfn Tryz.func305
 f244:=Tryz.lfn Tryz.func213
 f245:=Tryz.lfn Tryz.func214
 f247:=Tryz.lfn Tryz.func259
 f279:=Tryz.lfn Tryz.func260
 f280:=Tryz.lfn Tryz.func261
 f281:=Tryz.lfn Tryz.func262
 f282:=Tryz.lfn Tryz.func263
 f287:=Tryz.lfn Tryz.func303
 f316:=Tryz.lfn Tryz.func304
 f321:=Tryz.lfn Tryz.func330
 f322:=Tryz.lfn Tryz.func331
 t21:=Tryz.underlying21
 a21:=Tryz.isAgg21
 z21:=Tryz.sizeOf21
 v21:=Tryz.zeroValue21
 t75:=Tryz.underlying67
 a75:=Tryz.isAgg67
 z75:=Tryz.sizeOf67
 v75:=Tryz.zeroValue67
 t76:=Tryz.underlying68
 a76:=Tryz.isAgg68
 z76:=Tryz.sizeOf68
 v76:=Tryz.zeroValue68
 t85:=Tryz.underlying270
 a85:=Tryz.isAgg270
 z85:=Tryz.sizeOf270
 v85:=Tryz.zeroValue270
 t127:=Tryz.underlying105
 a127:=Tryz.isAgg105
 z127:=Tryz.sizeOf105
 v127:=Tryz.zeroValue105
 t143:=Tryz.underlying347
 a143:=Tryz.isAgg347
 z143:=Tryz.sizeOf347
 v143:=Tryz.zeroValue347
 t145:=Tryz.underlying349
 a145:=Tryz.isAgg349
 z145:=Tryz.sizeOf349
 v145:=Tryz.zeroValue349
 t167:=Tryz.underlying269
 a167:=Tryz.isAgg269
 z167:=Tryz.sizeOf269
 v167:=Tryz.zeroValue269
 t168:=Tryz.underlying272
 a168:=Tryz.isAgg272
 z168:=Tryz.sizeOf272
 v168:=Tryz.zeroValue272
 t175:=Tryz.underlying313
 a175:=Tryz.isAgg313
 z175:=Tryz.sizeOf313
 v175:=Tryz.zeroValue313
 t210:=Tryz.underlying316
 a210:=Tryz.isAgg316
 z210:=Tryz.sizeOf316
 v210:=Tryz.zeroValue316
 g15:=oB
 g16:=oB
 t80:=Tryz.underlying72
 a80:=Tryz.isAgg72
 z80:=Tryz.sizeOf72
 v80:=Tryz.zeroValue72
 i21:=oB
 i75:=oB
 i76:=oB
 i80:=oB
 i85:=oB
 i127:=oB
 i143:=oB
 i145:=oB
 i167:=oB
 i168:=oB
 i175:=oB
 i210:=oB
 m15:=oB
 m16:=oB
 c0:=oB
 c2:=oB
 c3:=oB
 c4:=oB
 c5:=oB
 c9:=oB
 c20:=oB
 c21:=oB
 c37:=oB
 c46:=oB
 c51:=oB
 c53:=oB
 c75:=oB
 c76:=oB
 c80:=oB
 c85:=oB
 c127:=oB
 c143:=oB
 c145:=oB
 c167:=oB
 c168:=oB
 c171:=oB
 c173:=oB
 c175:=oB
 c210:=oB
 c212:=oB
 c213:=oB
 c232:=oB
 c233:=by kernel_rfl }
abbrev Tryz.lays138_ren:Go.Shelf.Ren:=Tryz.uniR
def Tryz.lays138:Go.Proofs.Lays.n138 Tryz.prog Tryz.lays138_ren:={ Tryz.laysM171 with
 f138:=Tryz.lfn Tryz.func210
 f143:=Tryz.lfn Tryz.func132
 f195:=Tryz.lfn Tryz.func256
 f217:=Tryz.lfn Tryz.func232
 f218:=Tryz.lfn Tryz.func257
 f219:=Tryz.lfn Tryz.func183
 f224:=Tryz.lfn Tryz.func234
 f225:=Tryz.lfn Tryz.func233
 f266:=Tryz.lfn Tryz.func287
 f267:=Tryz.lfn Tryz.func235
 f314:=Tryz.lfn Tryz.func288
 t146:=Tryz.underlying294
 a146:=Tryz.isAgg294
 z146:=Tryz.sizeOf294
 v146:=Tryz.zeroValue294
 g1:=by kernel_rfl }
abbrev Tryz.lays165_ren:Go.Shelf.Ren:=Tryz.uniR
def Tryz.lays165:Go.Proofs.Lays.n165 Tryz.prog Tryz.lays165_ren:={ Tryz.laysM171 with
 f165:=Tryz.lfn Tryz.func174
 f240:=Tryz.lfn Tryz.func69
 f241:=Tryz.lfn Tryz.func230
 f276:=Tryz.lfn Tryz.func120
 f277:=Tryz.lfn Tryz.func280
 t70:=Tryz.underlying60
 a70:=Tryz.isAgg60
 z70:=Tryz.sizeOf60
 v70:=Tryz.zeroValue60
 t72:=Tryz.underlying63
 a72:=Tryz.isAgg63
 z72:=Tryz.sizeOf63
 v72:=Tryz.zeroValue63
 t164:=Tryz.underlying155
 a164:=Tryz.isAgg155
 z164:=Tryz.sizeOf155
 v164:=Tryz.zeroValue155 }
abbrev Tryz.lays169_ren:Go.Shelf.Ren:=Tryz.uniR
def Tryz.lays169:Go.Proofs.Lays.n169 Tryz.prog Tryz.lays169_ren:={ Tryz.laysM171,Tryz.lays165,Tryz.laysC172 with
 f169:=Tryz.lfn Tryz.func32 }
abbrev Tryz.lays196_ren:Go.Shelf.Ren:=Tryz.uniR
def Tryz.lays196:Go.Proofs.Lays.n196 Tryz.prog Tryz.lays196_ren:={ Tryz.laysM171 with
 f196:=Tryz.lfn Tryz.func76
 f259:=Tryz.lfn Tryz.func131
 t12:=Tryz.underlying12
 a12:=Tryz.isAgg12
 z12:=Tryz.sizeOf12
 v12:=Tryz.zeroValue12
 t119:=Tryz.underlying172
 a119:=Tryz.isAgg172
 z119:=Tryz.sizeOf172
 t138:=Tryz.underlying174
 a138:=Tryz.isAgg174
 z138:=Tryz.sizeOf174
 v138:=Tryz.zeroValue174
 t139:=Tryz.underlying175
 a139:=Tryz.isAgg175
 z139:=Tryz.sizeOf175
 v139:=Tryz.zeroValue175
 g3:=oB
 g4:=by kernel_rfl }
abbrev Tryz.lays197_ren:Go.Shelf.Ren:=Tryz.uniR
def Tryz.lays197:Go.Proofs.Lays.n197 Tryz.prog Tryz.lays197_ren:={ Tryz.laysM171,Tryz.laysC172,Tryz.lays196 with
 f197:=Tryz.lfn Tryz.func211
 f260:=Tryz.lfn Tryz.func258
 t105:=Tryz.underlying245
 a105:=Tryz.isAgg245
 z105:=Tryz.sizeOf245
 v105:=Tryz.zeroValue245 }
abbrev Tryz.lays105_ren:Go.Shelf.Ren:=Tryz.uniR
def Tryz.lays105:Go.Proofs.Lays.n105 Tryz.prog Tryz.lays105_ren:={ Tryz.laysM171,Tryz.lays165,Tryz.lays169,Tryz.laysC172,Tryz.lays138 with
 f99:=Tryz.lfn Tryz.func229
 f105:=Tryz.lfn Tryz.func173
 f166:=Tryz.lfn Tryz.func29
 f170:=Tryz.lfn Tryz.func31
 f206:=Tryz.lfn Tryz.func265
 f212:=Tryz.lfn Tryz.func228
 f263:=Tryz.lfn Tryz.func278
 f264:=Tryz.lfn Tryz.func279
 t109:=Tryz.underlying255
 a109:=Tryz.isAgg255
 z109:=Tryz.sizeOf255
 v109:=Tryz.zeroValue255
 t148:=Tryz.underlying296
 a148:=Tryz.isAgg296
 z148:=Tryz.sizeOf296
 v148:=Tryz.zeroValue296 }
abbrev Tryz.lays155_ren:Go.Shelf.Ren:=Tryz.uniR
def Tryz.lays155:Go.Proofs.Lays.n155 Tryz.prog Tryz.lays155_ren:={ Tryz.laysM171,Tryz.lays138,Tryz.lays165,Tryz.lays105,Tryz.lays169,Tryz.lays197,Tryz.laysC172,Tryz.lays196 with
 f154:=Tryz.lfn Tryz.func151
 f155:=Tryz.lfn Tryz.func93 }
abbrev Tryz.lays156_ren:Go.Shelf.Ren:=Tryz.uniR
def Tryz.lays156:Go.Proofs.Lays.n156 Tryz.prog Tryz.lays156_ren:={ Tryz.laysM171,Tryz.lays165,Tryz.lays105,Tryz.lays169,Tryz.laysC172 with
 f156:=Tryz.lfn Tryz.func118
 t31:=Tryz.underlying64
 a31:=Tryz.isAgg64
 z31:=Tryz.sizeOf64
 v31:=Tryz.zeroValue64 }
abbrev Tryz.lays219_ren:Go.Shelf.Ren:=Tryz.uniR
def Tryz.lays219:Go.Proofs.Lays.n219 Tryz.prog Tryz.lays219_ren:={ Tryz.laysM171,Tryz.lays138 with }
end Go.Proofs
namespace Go.Sym
open Go.RowKit
variable[LC]
def ci.data{P:Program}{f:FuncId}{xs:List AV}{r:AV}
  (h:∀(w:World)(G:Gh)(vs:List Value),b8 G [] w->am xs G vs->Calls P f vs.toArray w fun e w'=>∃v,e = .returned v/\aj r G v/\db w w'):ci P f xs [] r []:=by
 intro w G vs hm hr;refine(h w G vs hm hr).mono ?_;rintro e w' ⟨v,rfl,hv,hs⟩
 refine⟨v,G,rfl,?_,hv⟩;exact(we hm).extend (new:=[]) (Gh.le.refl G) hs (fun _ _ _ h => .inl h) (fun b o v hv=>by
  have hc:=hm.agree b o v hv;have hlt:=World.block_lt_of_cell? _ _ hc;rw[World.cell?_of_block (w:=w) (hs.block b hlt (fun h=>h))];exact hc) hm.one (fun n bx h=>by cases h) (fun n bx h=>by cases h) (fun n m bx bx' b h=>by cases h)
def db.of_below{w w':World}(h:Below w.heap.size w w'):db w w':=⟨h.os,h.tape,h.output,h.size,fun k hk _=>h.block k hk⟩
def db.refl(w:World):db w w:=⟨rfl,rfl,rfl,wF _,fun _ _ _=>rfl⟩
def ci.fresh{P:Program}{f:FuncId}{xs:List AV}{τ:Ty}{l:List τ.den}{E:TypeId}
  (h:∀(w:World)(G:Gh)(vs:List Value),b8 G [] w->am xs G vs->Calls P f vs.toArray w fun e w'=>∃ad c us,e = .returned (.slice ad l.length c)/\iq w' E τ.sz ad l.length c us/\am (l.flatMap τ.enc) G.data us/\(∀b,dt ad=some b->w.heap.size<=b)/\db w w') :
  ci P f xs [] (.own 0) [(0,.row τ l E)]:=by
 intro w G vs hm hr;refine(h w G vs hm hr).mono ?_;rintro e w' ⟨ad,c,us,rfl,hrow,hus,hb,hs⟩
 let G':Gh:={ imm:=G.imm,box:=fun _=>none,own:=fun m=>bif Nat.beq m 0 then some (ad,l.length,c) else none }
 have hself:(G'.own 0)=some (ad,l.length,c):=rfl;have hag:∀b o v,G.imm b o=some v->w'.cell? ⟨b,o,none⟩=some v:=fun b o v hv=>by
  have hc:=hm.agree b o v hv;have hlt:=World.block_lt_of_cell? _ _ hc;rw[World.cell?_of_block (w:=w) (hs.block b hlt (fun h=>h))];exact hc
 have hlt:∀b o v,G.imm b o=some v->b<w.heap.size:=fun b o v hv=>World.block_lt_of_cell? _ _ (hm.agree b o v hv)
 have hlk:∀m b,ae [(0,ag.row τ l E)] m=some b->m=0/\b = .row τ l E:=fun m b hh=>by
  simp[ae]at hh;cases hb:Nat.beq 0 m
  ·rw[hb]at hh;cases hh
  ·rw[hb]at hh;simp at hh;exact⟨(qN hb).symm,hh.symm⟩
 have hat:G'.at 0 (.row τ l E)=dt ad:=by
  simp[Gh.at,hself];cases ad<;>rfl
 refine⟨.slice ad l.length c,G',rfl,⟨⟨hag,hm.one,fun m b hh => ?_,fun m m' b b' c' h1 h2 _ _ => ?_,LC.mono (fun _ _ _ h=>h) (fun b o v h=>hs.block b (hlt b o v h) fun h=>h) hm.tab⟩,⟨hs.os,hs.tape,hs.output,hs.size,fun k hk _=>hs.block k hk fun h=>h⟩,fun _ _ _ h=>h,fun _ _ _ h => .inl h,fun m b c' h1 h2 => ?_,fun _ _ _ h=>(by cases h),fun _ _ _ h=>(by cases h)⟩,ad,l.length,c,hself,rfl⟩
 ·obtain⟨rfl,rfl⟩:=hlk m b hh;refine cm.row hself hrow (am.data_le (fun _ _ _ h=>h) hus) fun b hb' o => ?_
  cases hq:G.imm b o with|none=>rfl|some v=>have:=hlt b o v hq;have:=hb b hb';omega
 ·obtain⟨rfl,_⟩:=hlk m b h1;obtain⟨rfl,_⟩:=hlk m' b' h2;rfl
 ·obtain⟨rfl,rfl⟩:=hlk m b h1;rw[hat]at h2;exact .inl (hb c' h2)
end Go.Sym
namespace Go.Sym
open Go.Proofs Go.RowKit Go.Sort
open Go.Proofs.Tryz
variable[LC]
def db.below{w w':World}(h:db w w'):Below w.heap.size w w':=⟨h.os,h.tape,h.output,h.size,fun k hk=>h.block k hk (fun h=>h)⟩
def zrh{G:Gh}{w:World}(hm:b8 G [] w)(hg:LC.glob 3=some ⟨.int .u64,Lib.pow10Tab⟩)(hs:(3,20)∈LC.sizes):∃t fr,w.heap[3]? = some (.cells (Lib.pow10Tab.map fun z=>Value.int .u64 z).toArray t fr):=by
 obtain⟨_,cs,t,fr,hh,hz⟩:=hm.tab.2.2.2 _ hs;refine⟨t,fr,hh.trans ?_⟩;congr 2;apply Array.ext
 ·rw[hz];simp[Lib.pow10Tab]
 ·intro j h1 h2;have hj:j<Lib.pow10Tab.length:=by simpa using h2
  have h3:=hm.agree _ _ _ (hm.tab.1 _ _ _ hg j _ (List.getElem?_eq_getElem hj));rw[show j*(Ty.int .u64).sz=j from Nat.mul_one j]at h3
  simp only[World.cell?,hh]at h3;rw[Array.getElem?_eq_getElem h1]at h3;simp only[List.getElem_toArray,List.getElem_map];exact qJ h3
def zo2{G:Gh}{w:World}(hm:b8 G [] w)(hg:LC.glob 3=some ⟨.int .u64,Lib.pow10Tab⟩)(hs:(3,20)∈LC.sizes)(n:Int)(h0 : -9223372036854775808<=n)(h1:n<=9223372036854775807) :
  Calls Tryz.prog 63 #[.int .i64 n] w fun e w'=>e = .returned (.string ⟨(Lib.itoa n).toArray⟩)/\db w w':=
 (Any.strconv_Itoa Tryz.laysM171 n h0 h1 w (by
  unfold Lib.TabIs World.var?;obtain⟨t,fr,hh⟩:=zrh hm hg hs;rw[show Tryz.prog.globalNamed _=some 3 by kernel_rfl,qB,hh])).mono fun e w'⟨he,k,os,hw⟩=>⟨he,by
   subst hw;refine⟨rfl,rfl,rfl,by simp[grow],fun j hj _ => ?_⟩
   show(w.heap++os)[j]? = _;rw[Array.getElem?_append_left hj]⟩
def qfb:IF:=⟨.fn 63,[.h (.int .i64)],[],_,RS.mk (.h .str) []⟩
def qkj(hg:LC.glob 3=some ⟨.int .u64,Lib.pow10Tab⟩)(hs:(3,20)∈LC.sizes):(qfb.e jc).Sound Tryz.prog:=fun d d' r h=>by
 have h:jc d.1=some r:=h;unfold jc at h;cases hd:decide (-9223372036854775808<=(show Int from d.1)/\(show Int from d.1)<=9223372036854775807)<;>rw[hd]at h<;>simp only[qT,qF,reduceCtorEq]at h
 have h:=qJ h;subst h;have hd:=of_decide_eq_true hd;refine⟨call63,ci.data fun w G vs hm hr => ?_⟩
 match vs,hr with
 |[v],⟨h1,_⟩=>
  have h1:v = .int .i64 d.1:=h1;subst h1;exact(zo2 hm hg hs _ hd.1 hd.2).mono fun e w'⟨he,hw⟩=>⟨_,he,rfl,hw⟩
end Go.Sym
namespace Go.Sym
open Go.Proofs Go.RowKit Go.Sort
variable[LC]
def db.trans{w w1 w2:World}(h:db w w1)(k:db w1 w2):db w w2:=
 ⟨k.os.trans h.os,k.tape.trans h.tape,k.output.trans h.output,Nat.le_trans h.size k.size,fun j hj _=>(k.block j (Nat.lt_of_lt_of_le hj h.size) (fun h=>h)).trans (h.block j hj (fun h=>h))⟩
end Go.Sym
set_option linter.unusedVariables false
namespace Go.Proofs.ToValid
open Go.Shelf Go.RowKit Go.Lib Go.Sym
def bx:Builder.Extra Tryz.prog Tryz.uniR:={
 sizeBuilder:=oB
 liesBuilder:=oB
 t5:=Tryz.laysM171.t5
 a5:=Tryz.laysM171.a5
 z5:=Tryz.laysM171.z5
 v5:=Tryz.laysM171.v5
 infoByte:=oB
 cellsByte:=oB
 sizeByte:=oB
 neB5:=by decide }
def decC(s:ByteArray)(w:World)(hT:Lib.Utf8Tabs 0 1 w) :
  Calls Tryz.prog 211 #[.string s] w fun e w'=>e = .returned (.tuple #[.int .i32 (Lib.decodeGo s).1,.int .i64 (Lib.decodeGo s).2])/\Below w.heap.size w w':=
 Any.utf8_DecodeRuneInString Tryz.lays197 s w hT
end Go.Proofs.ToValid
namespace Go.Sym
open Go.Proofs Go.RowKit
open Go.Proofs.Tryz
variable[LC]
def qem(t:List UInt8):Bool:=(List.range 256).all fun c=>match t[c]? with|some x=>Nat.beq x.toNat (Lib.firstT c)|none=>false
def qen(t:List (UInt8×UInt8)):Bool:=(List.range 16).all fun c=>match t[c]? with|some x=>Nat.beq x.1.toNat (Lib.accLo c)&&Nat.beq x.2.toNat (Lib.accHi c)|none=>false
def zfn{G:Gh}{w:World}(hm:b8 G [] w){t0:List UInt8}{t1:List (UInt8×UInt8)}(h0:LC.glob 0=some ⟨.byte,t0⟩)(h1:LC.glob 1=some ⟨.prod .byte .byte,t1⟩)(e0:qem t0=true)(e1:qen t1=true):Lib.Utf8Tabs 0 1 w:=by
 refine⟨fun c hc => ?_,fun i hi => ?_⟩
 ·have h:=List.all_eq_true.1 e0 c (List.mem_range.2 hc)
  cases hx:t0[c]? with
  |none=>rw[hx]at h;cases h
  |some x=>
   rw[hx]at h;have ha:G.imm 0 (c*1)=some (.int .u8 x.toNat):=hm.tab.1 _ _ _ h0 c x hx;rw[Nat.mul_one]at ha;rw[hm.agree _ _ _ ha,qN h]
 ·have h:=List.all_eq_true.1 e1 i (List.mem_range.2 hi)
  cases hx:t1[i]? with
  |none=>rw[hx]at h;cases h
  |some x=>
   rw[hx]at h;simp only[qA]at h;have ha:G.imm 1 (i*2)=some (.int .u8 x.1.toNat)/\G.imm 1 (i*2+1)=some (.int .u8 x.2.toNat):=hm.tab.1 _ _ _ h1 i x hx;rw[Nat.mul_comm]at ha;exact⟨by rw[hm.agree _ _ _ ha.1,qN h.1],by rw[hm.agree _ _ _ ha.2,qN h.2]⟩
def zu1{G:Gh}{w:World}(hm:b8 G [] w){t0:List UInt8}{t1:List (UInt8×UInt8)}(h0:LC.glob 0=some ⟨.byte,t0⟩)(h1:LC.glob 1=some ⟨.prod .byte .byte,t1⟩)(e0:qem t0=true)(e1:qen t1=true)(s:Bs)(d1:s.length<=9223372036854775807) :
  Calls Tryz.prog 76 #[.string ⟨s.toArray⟩] w fun e w'=>e = .returned (.bool (Lib.validD s))/\db w w':=by
 refine(Any.utf8_ValidString Tryz.lays196 ⟨s.toArray⟩ w (by rw[kj];exact d1) (zfn hm h0 h1 e0 e1)).mono ?_
 rintro e w' ⟨rfl,hw⟩
 exact⟨rfl,db.of_below hw⟩
def qll:IF:=⟨.fn 76,[.h .str],[],_,RS.mk (.h .bool) []⟩
def qrm{t0:List UInt8}{t1:List (UInt8×UInt8)}(h0:LC.glob 0=some ⟨.byte,t0⟩)(h1:LC.glob 1=some ⟨.prod .byte .byte,t1⟩)(e0:qem t0=true)(e1:qen t1=true):(qll.e jp).Sound Tryz.prog:=fun d d' r h=>by
 obtain⟨s,_⟩:=d;have h:jp s=some r:=h;unfold jp at h;cases hd:decide (List.length (α:=UInt8) s<=9223372036854775807)<;>rw[hd]at h<;>simp only[qT,qF,reduceCtorEq]at h
 have h:=qJ h;subst h;have d1:=of_decide_eq_true hd;refine⟨call76,ci.data fun w G vs hm hr => ?_⟩
 match vs,hr with
 |[u],⟨h1',_⟩=>
  have h1':u = .string ⟨s.toArray⟩:=h1';subst h1';exact(zu1 hm h0 h1 e0 e1 s d1).mono fun e w'⟨he,hw⟩=>⟨_,he,rfl,hw⟩
end Go.Sym
namespace Go.Sym
open Go.RowKit
variable[LC]
section
variable{P:Program}{z5m:World}{z5g:Gh}{z5j:List (Nat×ag)}{G:Gh}{s:St}{a:Act}{w:World}
def ai.start{G:Gh}{hp:List (Nat×ag)}{w:World}{N:NM}(hm:b8 G hp w)(h:∀n b,ae hp n=some b->au N n=some n/\d9 (au N) b=b)(hN:∀n,ae hp n=none->bf N n=none)(k:Nat) :
  ai w (G.view N) hp (G.view N) { n:=k,fr:=[],hp:=hp,nx:=64,df:=[] } { tmps:=Array.replicate k undef,defers:=[] } w:=by
 refine⟨⟨[],rfl,rfl⟩,oC,fun i x hx=>(by cases hx),fun m _ hl => ?_,we (hm.only h)⟩
 have:=hN m hl;simp[Gh.view,this]
end
end Go.Sym
set_option linter.unusedVariables false
namespace Go.Proofs.Repl
open Go.Shelf Go.RowKit Go.Lib Go.Sym
def rv(a b:UInt8)(ga gb ca cb:Nat)(c:UInt8):Value:=if c=a then .slice (some ⟨ga,0,none⟩) 2 ca else if c=b then .slice (some ⟨gb,0,none⟩) 2 cb else .slice none 0 0
structure mh(R:Nat)(a b a1 a2 b1 b2:UInt8)(w:World):Prop where
 ex:∃ga gb gt ca cb ct,(∀c:UInt8,w.cell? ⟨R,c.toNat,none⟩=some (rv a b ga gb ca cb c))/\w.cell? ⟨R,256,none⟩=some (.slice (some ⟨gt,0,none⟩) 2 ct) /\
  w.cell? ⟨gt,0,none⟩=some (.string ⟨#[b]⟩)/\w.cell? ⟨gt,1,none⟩=some (.string ⟨#[a]⟩) /\
  w.cell? ⟨ga,0,none⟩=some (.int .u8 a1.toNat)/\w.cell? ⟨ga,1,none⟩=some (.int .u8 a2.toNat)/\w.cell? ⟨gb,0,none⟩=some (.int .u8 b1.toNat)/\w.cell? ⟨gb,1,none⟩=some (.int .u8 b2.toNat)
def mh.below{R:Nat}{a b a1 a2 b1 b2:UInt8}{w w':World}(h:mh R a b a1 a2 b1 b2 w)(hb:Below w.heap.size w w'):mh R a b a1 a2 b1 b2 w':=by
 have k:∀{p:Addr}{v:Value},w.cell? p=some v->w'.cell? p=some v:=fun{p v} hc=>(hb.cell (World.block_lt_of_cell? _ _ hc)).trans hc
 obtain⟨ga,gb,gt,ca,cb,ct,h1,h2,h3,h4,h5,h6,h7,h8⟩:=h.ex;exact⟨ga,gb,gt,ca,cb,ct,fun c=>k (h1 c),k h2,k h3,k h4,k h5,k h6,k h7,k h8⟩
def q8y(s:ByteArray)(c:UInt8)(w:World) :
  Calls Tryz.prog 210 #[.string s,.string ⟨#[c]⟩] w fun e w'=>e = .returned (.int .i64 (Lib.countByte s.data.toList c))/\w'=w:=
 Any.strings_Count_one Tryz.lays138 s c w
def zsu{w:World}{g:Nat}{t:TypeId}{N:Nat}{f:Nat->Value}{cur:Array Value}(hg:w.heap[g]? = some (.cells cur t (0,0)))(hz:cur.size=N)(hc:∀i,i<N->cur[i]? = some (f i)){j:Nat}(hj:j+2<=N)(v1 v2:Value) :
  (w.setRow g (cur.toList.take j++[v1,v2]++cur.toList.drop (j+2)).toArray).rowIs g t N (fun i=>if i=j then v1 else if i=j+1 then v2 else f i):=by
 have hl:cur.toList.length=N:=by simpa using hz
 refine⟨_,setRow_heap w g cur _ t _ hg,oE,fun i hi => ?_⟩
 simp only[List.getElem?_toArray];rw[qS];by_cases h1:i<j
 ·rw[List.getElem?_append_left oE,List.getElem?_take,qX h1,qW oA,qW oA,← hc i hi];simp
 ·rw[List.getElem?_append_right oE,show(cur.toList.take j).length=j by simp;omega]
  by_cases h2:i=j
  ·subst h2;simp
  ·by_cases h3:i=j+1
   ·subst h3;rw[qW h2,qX rfl,show j+1-j=1 by omega];rfl
   ·rw[qW h2,qW h3,List.getElem?_append_right oE,List.getElem?_drop,← hc i hi]
    simp;congr 1;omega
def qxf(b o n:Nat):(⟨b,o,none⟩:Addr).add n=⟨b,o+n,none⟩:=by unfold Addr.add;split<;>simp_all
def q8x{w:World}{G ga j M c:Nat}{f:Nat->Value}{x1 x2:UInt8}(hrow:w.rowIs G 5 M f)(hj:j+2<=M)(h0:w.cell? ⟨ga,0,none⟩=some (.int .u8 x1.toNat))(h1:w.cell? ⟨ga,1,none⟩=some (.int .u8 x2.toNat)) :
  ∃ROW,(Builtin.copy_ #[61,61] 3 #[.slice (some ⟨G,j,none⟩) (M-j) (M-j),.slice (some ⟨ga,0,none⟩) 2 c]).run Tryz.prog w = .ok (.int .i64 2) (w.setRow G ROW) /\
   (w.setRow G ROW).rowIs G 5 M (fun i=>if i=j then .int .u8 x1.toNat else if i=j+1 then .int .u8 x2.toNat else f i):=by
 obtain⟨cur,k1,k2,k3⟩:=hrow;refine⟨_,?_,zsu k1 k2 k3 hj _ _⟩;exact run_copy_row (P:=Tryz.prog) w 61 61 3 5 G j (M-j) (M-j) ⟨ga,0,none⟩ 2 c cur 5 [.int .u8 x1.toNat,.int .u8 x2.toNat] Tryz.underlying61 oB k1
  (by show 2=Nat.min 2 (M-j);exact(Nat.min_eq_left oA).symm)
  (fun i v hv=>by
   rw[qxf]
   match i,hv with
   |0,hv=>cases hv;exact h0
   |1,hv=>cases hv;exact h1
   | i+2,hv=>cases hv)
  (by show j+2<=cur.size;omega) (fun v hv=>by
   rcases List.mem_cons.1 hv with rfl|hv
   ·rfl
   ·rcases List.mem_cons.1 hv with rfl|hv
    ·rfl
    ·cases hv)
def bv(l:Bs)(j:Nat):Value := .int .u8 (l.getD j 0).toNat
def q8g(l m:Bs)(j:Nat)(h:j<l.length):bv (l++m) j=bv l j:=by unfold bv;rw[List.getD_eq_getElem?_getD,List.getD_eq_getElem?_getD,List.getElem?_append_left h]
def q8f(l m:Bs)(c:UInt8):bv (l++c::m) l.length = .int .u8 c.toNat:=by unfold bv;rw[List.getD_eq_getElem?_getD,List.getElem?_append_right (wF _),Nat.sub_self];rfl
def zli(l m:Bs)(c d:UInt8):bv (l++c::d::m) (l.length+1) = .int .u8 d.toNat:=by unfold bv;rw[List.getD_eq_getElem?_getD,List.getElem?_append_right oA,show l.length+1-l.length=1 by omega];rfl
def qjr(l:Bs)(j:Nat)(h:l.length<=j:=by omega):bv l j = .int .u8 0:=by unfold bv;rw[List.getD_eq_getElem?_getD,List.getElem?_eq_none h];rfl
def q8h(l:Bs)(c d:UInt8)(i:Nat):(if i=l.length then Value.int .u8 c.toNat else if i=l.length+1 then .int .u8 d.toNat else bv l i)=bv (l++[c,d]) i:=by
 by_cases h:i<l.length
 ·rw[qW oA,qW oA,q8g _ _ _ h]
 ·by_cases h1:i=l.length
  ·subst h1;rw[qX rfl,q8f]
  ·by_cases h2:i=l.length+1
   ·subst h2;rw[qW h1,qX rfl,zli]
   ·rw[qW h1,qW h2,qjr _ _,qjr _ _ oE]
def zlj(l:Bs)(c:UInt8)(i:Nat):(if i=l.length then Value.int .u8 c.toNat else bv l i)=bv (l++[c]) i:=by
 by_cases h:i<l.length
 ·rw[qW oA,q8g _ _ _ h]
 ·by_cases h1:i=l.length
  ·subst h1;rw[qX rfl,q8f]
  ·rw[qW h1,qjr _ _,qjr _ _ oE]
def vI2(p:Nat):Value.int .i64 ((p:Int)+2) = .int .i64 ((p+2:Nat):Int):=by rw[Int.natCast_add];rfl
def vI1(p:Nat):Value.int .i64 ((p:Int)+1) = .int .i64 ((p+1:Nat):Int):=by rw[Int.natCast_add];rfl
def zfv(n:Nat)(h:n<=4000000:=by omega):wrap64 (n:Int)=(n:Int):=by unfold wrap64;omega
def zp6(p:Addr)(n c:Nat)(w:World):(binOp .neq 61 (.slice (some p) n c) (.slice none 0 0)).run Tryz.prog w = .ok (.bool true) w:=oB
def zp5(w:World):(binOp .neq 61 (.slice none 0 0) (.slice none 0 0)).run Tryz.prog w = .ok (.bool false) w:=oB
def znj(p:Addr)(n c:Nat)(w:World):(binOp .eql 61 (.slice (some p) n c) (.slice none 0 0)).run Tryz.prog w = .ok (.bool false) w:=oB
def zni(w:World):(binOp .eql 61 (.slice none 0 0) (.slice none 0 0)).run Tryz.prog w = .ok (.bool true) w:=oB
set_option maxHeartbeats 4000000 in
set_option maxRecDepth 1000000 in
def zlf(R:Nat)(a b a1 a2 b1 b2:UInt8)(s:ByteArray)(w:World)(hab:a≠b)(hs:s.size<=1000000)(hB:mh R a b a1 a2 b1 b2 w) :
  Calls Tryz.prog 400 #[.pointer (some ⟨R,0,none⟩),.string s] w fun e w'=>e = .returned (.string ⟨(ei a b [a1,a2] [b1,b2] s.data.toList).toArray⟩)/\Below w.heap.size w w':=by
 obtain⟨ga,gb,gt,ca,cb,ct,-,hT,ht0,ht1,-⟩:=hB.ex;obtain⟨L,hL⟩:∃L,s.data.toList=L:=⟨_,rfl⟩;have ac:L.length=s.size:=by rw[← hL];exact(Lib.size_eq s).symm
 rw[hL];have HB:Aside (mh R a b a1 a2 b1 b2 w):=hB;clear hB;have cBc:=fun w=>q8y s b w
 have cAc:=fun w=>q8y s a w
 rw[hL]at cBc cAc;obtain⟨Z,hZ⟩:∃Z,ic a b L=Z:=⟨_,rfl⟩;have HZ:Aside (ic a b L=Z):=hZ;have hZ2:Z<=2000000:=by
  rw[← hZ];unfold ic;have h1:=List.count_le_length (a:=a) (l:=L);have h2:=List.count_le_length (a:=b) (l:=L);omega
 clear hZ;obtain⟨M,hM⟩:∃M,s.size+Z=M:=⟨_,rfl⟩;have HM:Aside (s.size+Z=M):=hM;have hMb:M<=3000000:=oA
 clear hM;have hn1:=zp6;have hn2:=zp5
 go_enter Tryz.func400,Tryz.ntmps400
 go_upto_if 26 with(fail)
 go_cut [5,6] (fun s5 s6 wx=>s5 = .int .i64 (M:Nat)/\s6 = .bool (decide (0<Z))/\Below w.heap.size w wx)
 case first=>
  obtain⟨X,hX⟩:∃X,L.count b=X:=⟨_,rfl⟩;obtain⟨Y,hY⟩:∃Y,L.count a=Y:=⟨_,rfl⟩;have HXY:Aside (Z=Y+X):=by show Z=Y+X;rw[← HZ.out];unfold ic;rw[hX,hY]
  have hXl:X<=s.size:=by rw[← hX,← ac];exact List.count_le_length
  have hYl:Y<=s.size:=by rw[← hY,← ac];exact List.count_le_length
  have cBc:∀w,Calls Tryz.prog 210 #[.string s,.string ⟨#[b]⟩] w fun e w'=>e = .returned (.int .i64 (X:Nat))/\w'=w:=fun w=>by rw[← hX];exact cBc w
  have cAc:∀w,Calls Tryz.prog 210 #[.string s,.string ⟨#[a]⟩] w fun e w'=>e = .returned (.int .i64 (Y:Nat))/\w'=w:=fun w=>by rw[← hY];exact cAc w
  clear hX hY
  go_wp2
  ·rename_i h16;clear h16
   go_loopg [5,6,32] 2 (fun gk s5 s6 s32 wx=>Below w.heap.size w wx/\((s32 = .int .i64 0/\s5 = .int .i64 (s.size:Nat)/\s6 = .bool false/\gk=2)\/(s32 = .int .i64 1/\s5 = .int .i64 ((s.size+X:Nat):Int)/\s6 = .bool (decide (0<X))/\gk=1)\/(s32 = .int .i64 2/\s5 = .int .i64 ((s.size+(Y+X):Nat):Int)/\s6 = .bool (decide (0<Y+X))/\gk=0)))
   case atStart=>exact⟨Below.refl _ _,Or.inl ⟨rfl,rfl,rfl,rfl⟩⟩
   case round=>
    obtain⟨hbw,h⟩:=hrel;have ht0':wr.cell? ⟨gt,0,none⟩=some (.string ⟨#[b]⟩):=(hbw.cell (World.block_lt_of_cell? _ _ ht0)).trans ht0;have ht1':wr.cell? ⟨gt,1,none⟩=some (.string ⟨#[a]⟩):=(hbw.cell (World.block_lt_of_cell? _ _ ht1)).trans ht1;clear ht0 ht1;rcases h with⟨rfl,rfl,rfl,rfl⟩|⟨rfl,rfl,rfl,rfl⟩|⟨rfl,rfl,rfl,rfl⟩
    ·have cX:=cBc wr;by_cases h0:X=0
     ·subst h0
      go_wp2_with (go_at_call 210;go_must (refine cX.mono ?_;rintro e W1 ⟨rfl,rfl⟩))
      go_roundg 1
      case measure=>omega
      case rel=>exact⟨hbw,Or.inr (Or.inl ⟨rfl,rfl,rfl,rfl⟩)⟩
     ·have hz:¬((X:Int)=0):=oA
      obtain⟨ga',gb',gt',ca',cb',ct',hR,-⟩:=(HB.out.below hbw).ex;have hRb:wr.cell? ⟨R,b.toNat,none⟩=some (.slice (some ⟨gb',0,none⟩) 2 cb'):=by rw[hR b];unfold rv;rw[qW (fun h=>hab h.symm),qX rfl]
      clear hR;have g0:∀h,(⟨#[b]⟩:ByteArray)[0]'h=b:=fun _=>rfl
      have g1:(b.toNat:Int)<256:=by have:=b.toNat_lt;omega
      go_wp2_with (go_at_call 210;go_must (refine cX.mono ?_;rintro e W1 ⟨rfl,rfl⟩))
      go_region
      all_goals go_wp2
      go_roundg 1
      case measure=>omega
      case rel=>exact⟨hbw.drew,Or.inr (Or.inl ⟨rfl,congrArg _ oA,by rw[decide_eq_true (Nat.pos_of_ne_zero h0)],rfl⟩)⟩
    ·have cX:=cAc wr;by_cases h0:Y=0
     ·subst h0
      go_wp2_with (go_at_call 210;go_must (refine cX.mono ?_;rintro e W1 ⟨rfl,rfl⟩))
      go_roundg 0
      case measure=>omega
      case rel=>exact⟨hbw,Or.inr (Or.inr ⟨rfl,congrArg _ oA,by rw[wO],rfl⟩)⟩
     ·have hz:¬((Y:Int)=0):=oA
      obtain⟨ga',gb',gt',ca',cb',ct',hR,-⟩:=(HB.out.below hbw).ex;have hRb:wr.cell? ⟨R,a.toNat,none⟩=some (.slice (some ⟨ga',0,none⟩) 2 ca'):=by rw[hR a];unfold rv;rw[qX rfl]
      clear hR;have g0:∀h,(⟨#[a]⟩:ByteArray)[0]'h=a:=fun _=>rfl
      have g1:(a.toNat:Int)<256:=by have:=a.toNat_lt;omega
      go_wp2_with (go_at_call 210;go_must (refine cX.mono ?_;rintro e W1 ⟨rfl,rfl⟩))
      go_region
      all_goals go_wp2
      go_roundg 0
      case measure=>omega
      case rel=>exact⟨hbw.drew,Or.inr (Or.inr ⟨rfl,congrArg _ oA,by rw[decide_eq_true (show 0<Y+X by omega)],rfl⟩)⟩
    ·go_wp2
     go_meet
     case rel=>exact⟨by rw[← HM.out,HXY.out],by rw[HXY.out],hbw⟩
  ·rename_i h16;clear h16
   go_loopg [5,6,10] s.size (fun gk s5 s6 s10 wx=>wx=w/\∃k C:Nat,s10 = .int .i64 k/\s5 = .int .i64 ((s.size+C:Nat):Int)/\s6 = .bool (decide (0<C))/\k<=s.size/\s.size<=k+gk/\Aside (ic a b (L.take k)=C)/\C<=2000000)
   case atStart=>exact⟨rfl,0,0,rfl,rfl,rfl,Nat.zero_le _,oA,rfl,oA⟩
   case round=>
    obtain⟨rfl,k,C,rfl,rfl,rfl,hk,hgk,HC,hC⟩:=hrel;by_cases hk2:k<s.size
    ·obtain⟨g,rfl⟩:∃g,gk=g+1:=⟨gk-1,oA⟩
     obtain⟨c,hc⟩:∃c,s[k]'hk2=c:=⟨_,rfl⟩;have hstep:Aside (ic a b (L.take (k+1))=C+(if c=a then 1 else if c=b then 1 else 0)):=by
      have h1:k<L.length:=by rw[ac];exact hk2
      have h2:L[k]'h1=c:=by subst hL;exact hc
      show _=_;rw[ze0 L k h1,qyg,HC.out,qyh hab,h2]
     have hC3:Aside (ic a b (L.take (k+1))<=2000000):=by
      show _<=_;unfold ic;have h1:=List.count_le_length (a:=a) (l:=L.take (k+1));have h2:=List.count_le_length (a:=b) (l:=L.take (k+1));rw[List.length_take]at h1 h2;omega
     obtain⟨ga',gb',gt',ca',cb',ct',hR,-⟩:=HB.out.ex;have hRc:=hR c;unfold rv at hRc;clear hR;have g1:(c.toNat:Int)<256:=by have:=c.toNat_lt;omega
     by_cases h1:c=a
     ·rw[qX h1]at hRc;rw[qX h1]at hstep;clear h1
      go_wp2
      go_roundg g
      case measure=>omega
      case rel=>exact⟨rfl,k+1,C+1,congrArg _ oA,congrArg _ oA,by rw[decide_eq_true (Nat.succ_pos C)],oA,oA,hstep,by have:=hC3.out;rw[hstep.out]at this;exact this⟩
     ·rw[qW h1]at hRc;rw[qW h1]at hstep;by_cases h2:c=b
      ·rw[qX h2]at hRc;rw[qX h2]at hstep;clear h1 h2
       go_wp2
       go_roundg g
       case measure=>omega
       case rel=>exact⟨rfl,k+1,C+1,congrArg _ oA,congrArg _ oA,by rw[decide_eq_true (Nat.succ_pos C)],oA,oA,hstep,by have:=hC3.out;rw[hstep.out]at this;exact this⟩
      ·rw[qW h2]at hRc;rw[qW h2]at hstep;clear h1 h2
       go_wp2
       go_roundg g
       case measure=>omega
       case rel=>exact⟨rfl,k+1,C,congrArg _ oA,congrArg _ oA,rfl,oA,oA,hstep,hC⟩
    ·obtain rfl:k=s.size:=oA
     have HC2:C=Z:=by rw[← HC.out,← ac,List.take_length,HZ.out]
     subst HC2
     go_wp2
     go_meet
     case rel=>exact⟨by rw[HM.out],rfl,Below.refl _ _⟩
 case rest=>
  obtain⟨rfl,hs6,hbw⟩:=hcut;cases h0:decide (0<Z)<;>rw[h0]at hs6<;>subst hs6
  ·have hz0:=of_decide_eq_false h0;have hid:=q9r hab [a1,a2] [b1,b2] L (by rw[HZ.out];omega)
   clear h0 hz0;have HI:Aside (ei a b [a1,a2] [b1,b2] L=L):=hid;clear hid
   go_wp2
   go_ret
   exact⟨by rw[HI.out,← hL];rfl,hbw⟩
  ·clear h0;have hmk:∀w:World,(Instr.makeSlice 61 (.int .i64 (M:Int)) (.int .i64 (M:Int))).run Tryz.prog w = .ok (.slice (some ⟨w.heap.size,0,none⟩) M M) (w.alloc (.cells (madeCells #[.int .u8 0] M) 5)):=fun w=>
    run_make_row' (P:=Tryz.prog) 61 5 (.int .u8 0) 1 Tryz.underlying61 oB rfl .i64 .i64 M oA oA w
   go_wp2
   obtain⟨G,hG⟩:∃G,wc.heap.size=G:=⟨_,rfl⟩;have hrow0:=World.rowIs_made wc (.int .u8 0) M 5;have hGle:w.heap.size<=G:=by rw[← hG];exact hbw.size
   have hbw1:=hbw.alloc hbw.size (Obj.cells (madeCells #[.int .u8 0] M) 5);rw[hG]at hrow0 ⊢;have hLM:Aside (∀k,(ei a b [a1,a2] [b1,b2] (L.take k)).length<=M):=fun k=>by
    have h1:ei a b [a1,a2] [b1,b2] L=ei a b [a1,a2] [b1,b2] (L.take k)++ei a b [a1,a2] [b1,b2] (L.drop k):=by rw[← qj1,List.take_append_drop]
    have h2:=congrArg List.length h1;rw[qe2 hab,ac,HZ.out,HM.out,qM]at h2;omega
   go_loopg [13,14] s.size (fun gk s13 s14 wx=>∃k j:Nat,s13 = .int .i64 j/\s14 = .int .i64 k/\k<=s.size/\s.size<=k+gk/\j<=M/\Aside ((ei a b [a1,a2] [b1,b2] (L.take k)).length=j)/\Aside (wx.rowIs G 5 M (bv (ei a b [a1,a2] [b1,b2] (L.take k))))/\Below w.heap.size w wx)
   case atStart=>exact⟨0,0,rfl,rfl,Nat.zero_le _,oA,Nat.zero_le _,rfl,hrow0.congr (fun i _=>(qjr [] i (Nat.zero_le _)).symm),hbw1⟩
   case round=>
    obtain⟨k,j,rfl,rfl,hk,hgk,hjM,HJ,hrow,hbx⟩:=hrel;clear hrow0 hbw1;by_cases hk2:k<s.size
    ·obtain⟨g,rfl⟩:∃g,gk=g+1:=⟨gk-1,oA⟩
     have HG:Aside (s.size<=k+1+g):=by show _<=_;omega
     clear hgk hk;obtain⟨c,hc⟩:∃c,s[k]'hk2=c:=⟨_,rfl⟩;have hk1:k<L.length:=by rw[ac];exact hk2
     have hLk:L[k]'hk1=c:=by subst hL;exact hc
     have hstep:Aside (ei a b [a1,a2] [b1,b2] (L.take (k+1))=ei a b [a1,a2] [b1,b2] (L.take k)++tw a b [a1,a2] [b1,b2] c):=by
      show _=_;rw[ze0 L k hk1,qj1,hLk];show _++(tw a b [a1,a2] [b1,b2] c++[])=_;rw[List.append_nil]
     have hfit:Aside (j+(tw a b [a1,a2] [b1,b2] c).length<=M):=by
      have:=hLM.out (k+1);rw[hstep.out,qM,HJ.out]at this;exact this
     clear hLk hk1;obtain⟨ga',gb',gt',ca',cb',ct',hR,hT',ht0',ht1',ha0,ha1,hb0,hb1⟩:=(HB.out.below hbx).ex;have hRc:=hR c;unfold rv at hRc;clear hR hT' ht0' ht1';have g1:(c.toNat:Int)<256:=by have:=c.toNat_lt;omega
     unfold tw at hstep hfit;by_cases h1:c=a
     ·rw[qX h1]at hRc hstep hfit;have hf2:j+2<=M:=hfit.out;clear h1;have hMj:¬M=j:=oA
      obtain⟨ROW,hcp,hnew⟩:=q8x (w:=wr.drew) (c:=ca') hrow.out.drew hf2 (by rw[World.cell?_drew];exact ha0) (by rw[World.cell?_drew];exact ha1)
      have HN:Aside (_):=hnew;have HW:Aside (wrap64 ((j:Int)+2)=(j:Int)+2):=by have:=zfv (j+2);rw[Int.natCast_add]at this;exact this
      clear hnew
      go_wp2
      go_region
      all_goals go_wp2
      go_roundg g
      case measure=>exact Nat.lt_succ_self _
      case rel=>exact⟨k+1,j+2,by first|exact vI2 j|exact(congrArg (Value.int .i64) HW.out).trans (vI2 j),vI1 k,hk2,HG.out,hf2,by show _=_;rw[hstep.out,qM,HJ.out];rfl,World.rowIs.congr HN.out (fun i _=>by rw[hstep.out,← q8h,HJ.out]),below_setRow hbx.drew hGle _⟩
     ·rw[qW h1]at hRc hstep hfit;by_cases h2:c=b
      ·rw[qX h2]at hRc hstep hfit;have hf2:j+2<=M:=hfit.out;clear h1 h2;have hMj:¬M=j:=oA
       obtain⟨ROW,hcp,hnew⟩:=q8x (w:=wr.drew) (c:=cb') hrow.out.drew hf2 (by rw[World.cell?_drew];exact hb0) (by rw[World.cell?_drew];exact hb1)
       have HN:Aside (_):=hnew;have HW:Aside (wrap64 ((j:Int)+2)=(j:Int)+2):=by have:=zfv (j+2);rw[Int.natCast_add]at this;exact this
       clear hnew
       go_wp2
       go_region
       all_goals go_wp2
       go_roundg g
       case measure=>exact Nat.lt_succ_self _
       case rel=>exact⟨k+1,j+2,by first|exact vI2 j|exact(congrArg (Value.int .i64) HW.out).trans (vI2 j),vI1 k,hk2,HG.out,hf2,by show _=_;rw[hstep.out,qM,HJ.out];rfl,World.rowIs.congr HN.out (fun i _=>by rw[hstep.out,← q8h,HJ.out]),below_setRow hbx.drew hGle _⟩
      ·rw[qW h2]at hRc hstep hfit;have hf1:j+1<=M:=hfit.out;clear h1 h2;have hcell:wr.cell? ⟨G,j,none⟩=some (bv (ei a b [a1,a2] [b1,b2] (L.take k)) j):=hrow.out.cell oA
       have hfroz:wr.frozen? ⟨G,j,none⟩=false:=hrow.out.frozen j
       go_wp2
       go_roundg g
       case measure=>exact Nat.lt_succ_self _
       case rel=>exact⟨k+1,j+1,vI1 j,vI1 k,hk2,HG.out,hf1,by show _=_;rw[hstep.out,qM,HJ.out];rfl,World.rowIs.congr (World.rowIs.set hrow.out j _) (fun i _=>by rw[hstep.out,← zlj,HJ.out]),hbx.setCell hGle _⟩
    ·obtain rfl:k=s.size:=oA
     have HT:Aside (L.take s.size=L):=by show _=_;rw[← ac,List.take_length]
     have HE:Aside (∃l,l=ei a b [a1,a2] [b1,b2] L/\l.length=M):=⟨_,rfl,by rw[qe2 hab,ac,HZ.out,HM.out]⟩
     obtain⟨E,hE,hEl⟩:=HE.out;have hcv:(convert 61 9 (.slice (some ⟨G,0,none⟩) M M)).run Tryz.prog wr = .ok (.string ⟨E.toArray⟩) wr:=by
      have h:=run_convert_bytes_back (P:=Tryz.prog) wr 61 9 5 ⟨G,0,none⟩ M E Tryz.underlying61 Tryz.underlying5 Tryz.underlying9 (fun i hi=>by
       rw[qxf,wO,hrow.out.cell oA,HT.out,← hE]
       unfold bv;rw[List.getD_eq_getElem?_getD,List.getElem?_eq_getElem hi];rfl)
      rw[hEl]at h;exact h
     have HEq:Aside (E=ei a b [a1,a2] [b1,b2] L):=hE;clear hE hEl
     go_wp2
     go_ret
     exact⟨by rw[← HEq.out];rfl,hbx⟩
end Go.Proofs.Repl
set_option linter.unusedVariables false
namespace Go.Proofs.Repl
open Go.Shelf Go.RowKit Go.Lib Go.Sym
def zon:(Tryz.prog.info? 9).map (fun i=>(i.zero,i.size,i.bytes))=some (some (Value.string ⟨#[]⟩),1,16):=oB
def mk2(w:World):(Instr.makeSlice 64 (.int .i64 0) (.int .i64 2)).run Tryz.prog w = .ok (.slice (some ⟨w.heap.size,0,none⟩) 0 2) (w.alloc (.cells #[.string ⟨#[]⟩,.string ⟨#[]⟩] 9)):=by
 obtain⟨i,hi,hzz⟩:=Option.map_eq_some_iff.1 zon;simp only[qP]at hzz;obtain⟨hz,hs,hb⟩:=hzz;have h:=run_make (P:=Tryz.prog) w 64 9 i (.string ⟨#[]⟩) Tryz.underlying64 hi hz .i64 .i64 0 2 oD oD (by rw[hb];decide) oD
 rw[hs,show madeCells (Value.string ⟨#[]⟩).cells (Int.toNat 2*1)=#[.string ⟨#[]⟩,.string ⟨#[]⟩] from oB]at h
 exact h
def zr(V:Value)(j:Nat):Value:=if j=256 then V else .slice none 0 0
def z1(b:UInt8)(g c:Nat)(V:Value)(j:Nat):Value:=if j=b.toNat then .slice (some ⟨g,0,none⟩) 2 c else zr V j
def z49:Tryz.zeroCells292.toList.length=257:=oB
def z45:Tryz.zeroCells292.toList.all (fun v=>v.oneCell')=true:=oB
def nd:Option Value->Bool|some (.slice none n c)=>Nat.beq n 0&&Nat.beq c 0|_=>false
def zow{v:Option Value}(h:nd v=true):v=some (.slice none 0 0):=by
 unfold nd at h;split at h
 ·simp only[qA]at h;rw[qN h.1,qN h.2]
 ·cases h
def z47:(List.range 257).all (fun j=>nd Tryz.zeroCells292.toList[j]?)=true:=oB
def ztr(w:World)(T:Nat):∃ROW,(storeCells ⟨w.heap.size,0,none⟩ (Tryz.zeroCells292.toList.set 256 (.slice (some ⟨T,0,none⟩) 0 2))).run Tryz.prog (w.alloc (.cells Tryz.zeroCells292 292)) = .ok () ((w.alloc (.cells Tryz.zeroCells292 292)).setRow w.heap.size ROW) /\
  ((w.alloc (.cells Tryz.zeroCells292 292)).setRow w.heap.size ROW).rowIs w.heap.size 292 257 (zr (.slice (some ⟨T,0,none⟩) 0 2)):=by
 have hnew:(w.alloc (.cells Tryz.zeroCells292 292)).heap[w.heap.size]? = some (.cells Tryz.zeroCells292 292):=heap_alloc_new w _;have hz:=z49;have h:=run_storeCells_at Tryz.prog w.heap.size 0 292 (Tryz.zeroCells292.toList.set 256 (.slice (some ⟨T,0,none⟩) 0 2)) 0 _ _ hnew (by rw[List.length_set,hz,← Array.length_toList,hz];decide) (fun v hv=>by
  rcases List.mem_or_eq_of_mem_set hv with hv|rfl
  ·exact List.all_eq_true.1 z45 v hv
  ·rfl)
 refine⟨_,h,?_⟩;refine⟨_,setRow_heap _ _ _ _ _ _ hnew,?_,fun i hi => ?_⟩
 ·simp only[List.size_toArray,qM,List.length_set,List.length_take,List.length_drop,hz];decide
 ·rw[List.getElem?_toArray,List.length_set,hz,List.drop_eq_nil_of_le (by rw[hz];decide),List.append_nil]
  show([]++_)[i]? = _;rw[List.nil_append,List.getElem?_set];unfold zr;by_cases h2:256=i
  ·subst h2;rw[qX rfl,qX rfl,hz];rfl
  ·rw[qW h2,qW (fun e=>h2 e.symm)]
   exact zow (List.all_eq_true.1 z47 i (List.mem_range.2 hi))
def qei(w:World)(x y:UInt8):Obj := .cells (bytesRow ⟨#[x,y]⟩ (grownCap w 2 0 5)) 5 ((bytesRow ⟨#[x,y]⟩ (grownCap w 2 0 5)).size,(bytesRow ⟨#[x,y]⟩ (grownCap w 2 0 5)).size+1)
def qeg(w:World):Nat:=grownCap w 2 0 5
def cv2(w:World)(x y:UInt8):(convert 9 61 (.string ⟨#[x,y]⟩)).run Tryz.prog w = .ok (.slice (some ⟨w.heap.size,0,none⟩) 2 (qeg w)) (w.drew.alloc (qei w x y)):=
 run_bytes_of_string (P:=Tryz.prog) w 9 61 5 ⟨#[x,y]⟩ Tryz.underlying9 Tryz.underlying61 Tryz.underlying5
def zlg(w W:World)(x y:UInt8):(W.alloc (qei w x y)).cell? ⟨W.heap.size,0,none⟩=some (.int .u8 x.toNat)/\(W.alloc (qei w x y)).cell? ⟨W.heap.size,1,none⟩=some (.int .u8 y.toNat):=by
 unfold qei;rw[World.cell?_alloc_mark,World.cell?_alloc_mark];exact⟨bytesRow_at ⟨#[x,y]⟩ _ 0 (by show 0<2;decide),bytesRow_at ⟨#[x,y]⟩ _ 1 (by show 1<2;decide)⟩
def cv1(w:World)(x:UInt8):(convert 61 9 (.slice (some ⟨w.heap.size,0,none⟩) 1 1)).run Tryz.prog (w.alloc (.cells #[.int .u8 x.toNat] 5)) = .ok (.string ⟨#[x]⟩) (w.alloc (.cells #[.int .u8 x.toNat] 5)):=
 run_convert_bytes_back (P:=Tryz.prog) _ 61 9 5 ⟨w.heap.size,0,none⟩ 1 [x] Tryz.underlying61 Tryz.underlying5 Tryz.underlying9 (fun i hi=>by
  have:i=0:=by simpa using hi
  subst this;rw[qxf];show World.cell? _ ⟨w.heap.size,0,none⟩=_;unfold World.cell?;rw[show(w.alloc (.cells #[.int .u8 (x.toNat:Int)] 5)).heap[w.heap.size]? = _ from heap_alloc_new w _]
  rfl)
def w4(wr:World)(T k n:Nat)(c:UInt8):World:=(((wr.alloc (.cells #[.int .u8 c.toNat] 5)).alloc (.cells #[.string ⟨#[c]⟩] 9)).setCell ⟨T,k,none⟩ (.string ⟨#[c]⟩)).setCell ⟨T+1,256,none⟩ (.slice (some ⟨T,0,none⟩) n 2)
def w5(wr:World)(T k n:Nat)(c x y:UInt8):World:=(((w4 wr T k n c).alloc (qei (w4 wr T k n c) x y)).setCell ⟨T+1,c.toNat,none⟩ (.slice (some ⟨wr.heap.size+1+1,0,none⟩) 2 (qeg (w4 wr T k n c)))).drew
def zes(wr:World)(T k n:Nat)(c x y:UInt8)(hT:T+2<=wr.heap.size){f h:Nat->Value}(hR:wr.rowIs (T+1) 292 257 f)(hTr:wr.rowIs T 9 2 h) :
  (w5 wr T k n c x y).rowIs (T+1) 292 257 (fun j=>if j=c.toNat then .slice (some ⟨wr.heap.size+1+1,0,none⟩) 2 (qeg (w4 wr T k n c)) else if j=256 then .slice (some ⟨T,0,none⟩) n 2 else f j)/\(w5 wr T k n c x y).rowIs T 9 2 (fun i=>if i=k then .string ⟨#[c]⟩ else h i) /\
   (w5 wr T k n c x y).cell? ⟨wr.heap.size+1+1,0,none⟩=some (.int .u8 x.toNat)/\(w5 wr T k n c x y).cell? ⟨wr.heap.size+1+1,1,none⟩=some (.int .u8 y.toNat)/\(∀p:Addr,T+2<=p.block->p.block<wr.heap.size->(w5 wr T k n c x y).cell? p=wr.cell? p)/\Below T wr (w5 wr T k n c x y)/\T+2<=(w5 wr T k n c x y).heap.size:=by
 unfold w5;generalize hWb:qei (w4 wr T k n c) x y=B;generalize (Value.slice (some ⟨wr.heap.size+1+1,0,none⟩) 2 (qeg (w4 wr T k n c)))=V3;have hbc0:=fun W=>zlg (w4 wr T k n c) W x y
 rw[hWb]at hbc0;unfold w4;clear hWb;generalize (Obj.cells #[.int .u8 c.toNat] 5)=o1;generalize (Obj.cells #[.string ⟨#[c]⟩] 9)=o2;generalize (Value.string ⟨#[c]⟩)=S;generalize (Value.slice (some ⟨T,0,none⟩) n 2)=V2;have hsz:((((wr.alloc o1).alloc o2).setCell ⟨T,k,none⟩ S).setCell ⟨T+1,256,none⟩ V2).heap.size=wr.heap.size+1+1:=by simp[World.setCell]
 have hbc:=hbc0 ((((wr.alloc o1).alloc o2).setCell ⟨T,k,none⟩ S).setCell ⟨T+1,256,none⟩ V2);rw[hsz]at hbc;refine⟨?_,?_,?_,?_,fun p h1 h2 => ?_,?_,?_⟩
 ·exact(((((hR.alloc o1).alloc o2).setOther (a:=⟨T,k,none⟩) oC S).set 256 V2).alloc _).set _ V3
 ·exact(((((hTr.alloc o1).alloc o2).set k S).setOther (a:=⟨T+1,256,none⟩) oC V2).alloc _).setOther (a:=⟨T+1,c.toNat,none⟩) oC V3
 ·rw[World.cell?_drew,World.cell?_setCell_other _ _ _ _ (by intro h;have:=congrArg Addr.block h;simp at this;omega)];exact hbc.1
 ·rw[World.cell?_drew,World.cell?_setCell_other _ _ _ _ (by intro h;have:=congrArg Addr.block h;simp at this;omega)];exact hbc.2
 ·refine World.cell?_of_block (w:=wr) ?_;show(World.setCell _ _ _).heap[p.block]? = _;rw[Below.heap_setCell _ _ _ _ oE,Below.heap_alloc _ _ _ (by rw[hsz];omega),Below.heap_setCell _ _ _ _ oE,Below.heap_setCell _ _ _ _ oE,Below.heap_alloc _ _ _ oE,Below.heap_alloc _ _ _ h2]
 ·have hsz2:wr.heap.size+1+1=((((wr.alloc o1).alloc o2).setCell ⟨T,k,none⟩ S).setCell ⟨T+1,256,none⟩ V2).heap.size:=hsz.symm;exact(((((((Below.refl T wr).alloc oA o1).alloc oE o2).setCell (p:=⟨T,k,none⟩) (wF _) S).setCell (p:=⟨T+1,256,none⟩) (Nat.le_succ _) V2).alloc oA _).setCell (p:=⟨T+1,c.toNat,none⟩) (Nat.le_succ _) V3).drew
 ·show _<=(World.setCell _ _ _).heap.size;simp[World.setCell];omega
set_option maxHeartbeats 4000000 in
set_option maxRecDepth 1000000 in
def zk8(q ro cap:Nat)(a b a1 a2 b1 b2:UInt8)(w:World)(hab:a≠b)
  (hc:w.cell? ⟨q,4,none⟩=some (.slice (some ⟨ro,0,none⟩) 4 cap)) (h0:w.cell? ⟨ro,0,none⟩=some (.string ⟨#[a]⟩)) (h1:w.cell? ⟨ro,1,none⟩=some (.string ⟨#[a1,a2]⟩)) (h2:w.cell? ⟨ro,2,none⟩=some (.string ⟨#[b]⟩)) (h3:w.cell? ⟨ro,3,none⟩=some (.string ⟨#[b1,b2]⟩)) :
  Calls Tryz.prog 227 #[.pointer (some ⟨q,0,none⟩)] w fun e w'=>∃R,e = .returned (.iface 293 (.pointer (some ⟨R,0,none⟩)))/\mh R a b a1 a2 b1 b2 w'/\Below w.heap.size w w':=by
 go_enter Tryz.func227,Tryz.ntmps227
 go_wp2
 go_loopg [4,5] 2 (fun gk s4 s5 wx=>wx=w/\((s5 = .int .i64 0/\s4 = .bool true/\gk=2)\/(s5 = .int .i64 2/\s4 = .bool false/\gk=1)\/(s5 = .int .i64 4/\s4 = .bool false/\gk=0)))
 case atStart=>exact⟨rfl,Or.inl ⟨rfl,rfl,rfl⟩⟩
 case round=>
  obtain⟨rfl,⟨rfl,rfl,rfl⟩|⟨rfl,rfl,rfl⟩|⟨rfl,rfl,rfl⟩⟩:=hrel
  ·go_wp2
   go_roundg 1
   case measure=>exact Nat.lt_succ_self _
   case rel=>exact⟨rfl,Or.inr (Or.inl ⟨rfl,rfl,rfl⟩)⟩
  ·go_wp2
   go_roundg 0
   case measure=>exact Nat.lt_succ_self _
   case rel=>exact⟨rfl,Or.inr (Or.inr ⟨rfl,rfl,rfl⟩)⟩
  ·have hmk:=mk2;obtain⟨W1,hW1⟩:∃W1,wr.alloc (.cells #[.string ⟨#[]⟩,.string ⟨#[]⟩] 9)=W1:=⟨_,rfl⟩;have hz1:W1.heap.size=wr.heap.size+1:=by rw[← hW1];simp
   have hT1:W1.rowIs wr.heap.size 9 2 (fun _ => .string ⟨#[]⟩):=by rw[← hW1];exact World.rowIs_alloc wr _ _ _ (fun i hi=>by match i,hi with|0,_=>rfl|1,_=>rfl)
   have hb1:Below wr.heap.size wr W1:=by rw[← hW1];exact(Below.refl _ _).alloc (wF _) _
   obtain⟨ROW,hst,hrow⟩:=ztr W1 wr.heap.size;rw[hz1]at hst hrow;have hT2:=(hT1.alloc (.cells Tryz.zeroCells292 292)).of_block (setRow_other (W1.alloc (.cells Tryz.zeroCells292 292)) (wr.heap.size+1) wr.heap.size ROW oA)
   have hb2:=below_setRow (hb1.alloc hb1.size (.cells Tryz.zeroCells292 292)) (Nat.le_succ wr.heap.size) ROW;obtain⟨W2,hW2⟩:∃W2,(W1.alloc (.cells Tryz.zeroCells292 292)).setRow (wr.heap.size+1) ROW=W2:=⟨_,rfl⟩;rw[hW2]at hst hrow hT2 hb2;have HB2:Aside (W2.rowIs (wr.heap.size+1) 292 257 (zr (.slice (some ⟨wr.heap.size,0,none⟩) 0 2))/\W2.rowIs wr.heap.size 9 2 (fun _ => .string ⟨#[]⟩)/\Below wr.heap.size wr W2):=⟨hrow,hT2,hb2⟩
   clear hrow hT2 hb2 hT1 hb1 hW2
   go_wp2
   obtain⟨T,hT⟩:∃T,wr.heap.size=T:=⟨_,rfl⟩;rw[hT]at HB2 ⊢;have hS:Aside (wr.heap.size=T):=hT;clear hst hmk hz1 hW1 hT
   go_loopg [12] 2 (fun gk s12 wx=>Below T wr wx/\T+2<=wx.heap.size/\(
    (s12 = .int .i64 2/\gk=2/\Aside (wx.rowIs (T+1) 292 257 (zr (.slice (some ⟨T,0,none⟩) 0 2))/\wx.rowIs T 9 2 (fun _ => .string ⟨#[]⟩))) \/
    (s12 = .int .i64 0/\gk=1/\∃gb cb,T+2<=gb/\gb<wx.heap.size/\Aside (wx.rowIs (T+1) 292 257 (fun j=>if j=b.toNat then .slice (some ⟨gb,0,none⟩) 2 cb else if j=256 then .slice (some ⟨T,0,none⟩) 1 2 else .slice none 0 0)/\wx.rowIs T 9 2 (fun i=>if i=0 then .string ⟨#[b]⟩ else .string ⟨#[]⟩)/\wx.cell? ⟨gb,0,none⟩=some (.int .u8 b1.toNat)/\wx.cell? ⟨gb,1,none⟩=some (.int .u8 b2.toNat))) \/
    (s12 = .int .i64 (-2)/\gk=0/\Aside (mh (T+1) a b a1 a2 b1 b2 wx))))
   case atStart=>exact⟨HB2.out.2.2,by have:=HB2.out.1.lt;omega,Or.inl ⟨rfl,rfl,HB2.out.1,HB2.out.2.1⟩⟩
   case round=>
    obtain⟨hbx,hsz,h⟩:=hrel;have k0:=(hbx.cell (p:=⟨ro,0,none⟩) (by rw[← hS.out];exact World.block_lt_of_cell? _ _ h0)).trans h0
    have k1:=(hbx.cell (p:=⟨ro,1,none⟩) (by rw[← hS.out];exact World.block_lt_of_cell? _ _ h1)).trans h1
    have k2:=(hbx.cell (p:=⟨ro,2,none⟩) (by rw[← hS.out];exact World.block_lt_of_cell? _ _ h2)).trans h2
    have k3:=(hbx.cell (p:=⟨ro,3,none⟩) (by rw[← hS.out];exact World.block_lt_of_cell? _ _ h3)).trans h3
    clear h0 h1 h2 h3 hc HB2;have e1:=znj;have e2:=zni;have e3:=cv1;have e4:=cv2;rcases h with⟨rfl,rfl,hr⟩|⟨rfl,rfl,gb,cb,hgb,hgs,hr⟩|⟨rfl,rfl,hr⟩
    ·have g0:∀h,(⟨#[b]⟩:ByteArray)[0]'h=b:=fun _=>rfl
     have g1:(b.toNat:Int)<256:=by have:=b.toNat_lt;omega
     have g2:b.toNat<256:=b.toNat_lt;have hRb:wr.cell? ⟨T+1,b.toNat,none⟩=some (.slice none 0 0):=by
      rw[hr.out.1.cell oA];unfold zr;rw[qW (by have:=b.toNat_lt;omega)]
     have hR2:wr.cell? ⟨T+1,256,none⟩=some (.slice (some ⟨T,0,none⟩) 0 2):=by rw[hr.out.1.cell oD];rfl
     have hT0:∀o1 o2,((wr.alloc o1).alloc o2).cell? ⟨T,0,none⟩=some (.string ⟨#[]⟩):=fun o1 o2=>((hr.out.2.alloc o1).alloc o2).cell oD
     have hTf:∀o1 o2,((wr.alloc o1).alloc o2).frozen? ⟨T,0,none⟩=false:=fun o1 o2=>((hr.out.2.alloc o1).alloc o2).frozen _
     have hR3:∀o1 o2,((wr.alloc o1).alloc o2).cell? ⟨T+1,256,none⟩=some (.slice (some ⟨T,0,none⟩) 0 2):=fun o1 o2=>by rw[((hr.out.1.alloc o1).alloc o2).cell oD];rfl
     have hRf:∀o1 o2,((wr.alloc o1).alloc o2).frozen? ⟨T+1,256,none⟩=false:=fun o1 o2=>((hr.out.1.alloc o1).alloc o2).frozen _
     have hR4:∀o1 o2 v1 v2 o3,(((((wr.alloc o1).alloc o2).setCell ⟨T,0,none⟩ v1).setCell ⟨T+1,256,none⟩ v2).alloc o3).cell? ⟨T+1,b.toNat,none⟩=some (.slice none 0 0):=fun o1 o2 v1 v2 o3=>by
      rw[((((((hr.out.1.alloc o1).alloc o2).setOther (a:=⟨T,0,none⟩) oC v1).set 256 v2)).alloc o3).cell oA]
      rw[qW oA];unfold zr;rw[qW (by have:=b.toNat_lt;omega)]
     have hRg:∀o1 o2 v1 v2 o3,(((((wr.alloc o1).alloc o2).setCell ⟨T,0,none⟩ v1).setCell ⟨T+1,256,none⟩ v2).alloc o3).frozen? ⟨T+1,b.toNat,none⟩=false:=fun o1 o2 v1 v2 o3=>
      ((((((hr.out.1.alloc o1).alloc o2).setOther (a:=⟨T,0,none⟩) oC v1).set 256 v2)).alloc o3).frozen _
     clear g2
     go_wp2
     go_roundg 1
     case measure=>exact Nat.lt_succ_self _
     case rel=>
      have HS:=zes wr T 0 1 b b1 b2 hsz hr.out.1 hr.out.2;obtain⟨q1,q2,q3,q4,q5,q6,q7⟩:=HS;have q8:=World.block_lt_of_cell? _ _ q3;refine⟨hbx.trans q6,q7,Or.inr (Or.inl ⟨rfl,rfl,wr.heap.size+1+1,qeg (w4 wr T 0 1 b),oA,q8,(?_:_/\_/\_/\_)⟩)⟩
      refine⟨q1.congr (fun j _ => ?_),q2,q3,q4⟩
      ·show(if _ then _ else if _ then _ else zr _ j)=_
       unfold zr;by_cases h1:j=b.toNat
       ·rw[qX h1,qX h1]
       ·by_cases h2:j=256
        ·rw[qW h1,qX h2,qW h1,qX h2]
        ·rw[qW h1,qW h2,qW h2,qW h1,qW h2]
    ·have g0:∀h,(⟨#[a]⟩:ByteArray)[0]'h=a:=fun _=>rfl
     have g1:(a.toNat:Int)<256:=by have:=a.toNat_lt;omega
     have g2:a.toNat<256:=a.toNat_lt;have hne:¬a.toNat=b.toNat:=fun h=>hab (UInt8.toNat_inj.1 h)
     have HNE:Aside (¬a.toNat=b.toNat):=hne;have hRb:wr.cell? ⟨T+1,a.toNat,none⟩=some (.slice none 0 0):=by
      rw[hr.out.1.cell oA];rw[qW oA,qW oA]
     have hR2:wr.cell? ⟨T+1,256,none⟩=some (.slice (some ⟨T,0,none⟩) 1 2):=by rw[hr.out.1.cell oD];rw[qW (by have:=b.toNat_lt;omega),qX rfl]
     have hT0:∀o1 o2,((wr.alloc o1).alloc o2).cell? ⟨T,1,none⟩=some (.string ⟨#[]⟩):=fun o1 o2=>((hr.out.2.1.alloc o1).alloc o2).cell oD
     have hTf:∀o1 o2,((wr.alloc o1).alloc o2).frozen? ⟨T,1,none⟩=false:=fun o1 o2=>((hr.out.2.1.alloc o1).alloc o2).frozen _
     have hR3:∀o1 o2,((wr.alloc o1).alloc o2).cell? ⟨T+1,256,none⟩=some (.slice (some ⟨T,0,none⟩) 1 2):=fun o1 o2=>by rw[((hr.out.1.alloc o1).alloc o2).cell oD];rw[qW (by have:=b.toNat_lt;omega),qX rfl]
     have hRf:∀o1 o2,((wr.alloc o1).alloc o2).frozen? ⟨T+1,256,none⟩=false:=fun o1 o2=>((hr.out.1.alloc o1).alloc o2).frozen _
     have hR4:∀o1 o2 v1 v2 o3,(((((wr.alloc o1).alloc o2).setCell ⟨T,1,none⟩ v1).setCell ⟨T+1,256,none⟩ v2).alloc o3).cell? ⟨T+1,a.toNat,none⟩=some (.slice none 0 0):=fun o1 o2 v1 v2 o3=>by
      rw[((((((hr.out.1.alloc o1).alloc o2).setOther (a:=⟨T,1,none⟩) oC v1).set 256 v2)).alloc o3).cell oA]
      rw[qW oA];rw[qW oA,qW oA]
     have hRg:∀o1 o2 v1 v2 o3,(((((wr.alloc o1).alloc o2).setCell ⟨T,1,none⟩ v1).setCell ⟨T+1,256,none⟩ v2).alloc o3).frozen? ⟨T+1,a.toNat,none⟩=false:=fun o1 o2 v1 v2 o3=>
      ((((((hr.out.1.alloc o1).alloc o2).setOther (a:=⟨T,1,none⟩) oC v1).set 256 v2)).alloc o3).frozen _
     clear g2 hne
     go_wp2
     go_roundg 0
     case measure=>exact Nat.lt_succ_self _
     case rel=>
      have HS:=zes wr T 1 2 a a1 a2 hsz hr.out.1 hr.out.2.1;obtain⟨q1,q2,q3,q4,q5,q6,q7⟩:=HS;have hgbR:=(q5 ⟨gb,0,none⟩ hgb hgs).trans hr.out.2.2.1;have hgbS:=(q5 ⟨gb,1,none⟩ hgb hgs).trans hr.out.2.2.2;have hB:mh (T+1) a b a1 a2 b1 b2 (w5 wr T 1 2 a a1 a2):=by
       refine⟨wr.heap.size+1+1,gb,T,qeg (w4 wr T 1 2 a),cb,2,fun d => ?_,?_,?_,?_,q3,q4,hgbR,hgbS⟩
       ·rw[q1.cell (by have:=d.toNat_lt;omega)]
        unfold rv;by_cases h1:d=a
        ·rw[qX (congrArg _ h1),qX h1]
        ·rw[qW (fun h=>h1 (UInt8.toNat_inj.1 h)),qW h1,qW (by have:=d.toNat_lt;omega)]
         by_cases h2:d=b
         ·rw[qX (congrArg _ h2),qX h2]
         ·rw[qW (fun h=>h2 (UInt8.toNat_inj.1 h)),qW h2,qW (by have:=d.toNat_lt;omega)]
       ·rw[q1.cell oD,qW (by have:=a.toNat_lt;omega),qX rfl]
       ·rw[q2.cell oD];rfl
       ·rw[q2.cell oD];rfl
      exact⟨hbx.trans q6,q7,Or.inr (Or.inr ⟨rfl,rfl,hB⟩)⟩
    ·go_wp2
     go_ret
     exact⟨T+1,rfl,hr.out,by rw[hS.out];exact hbx⟩
end Go.Proofs.Repl
namespace Go.Proofs.YtnhhffhkeegdgaaGreatDoor.Once
open Go.Sym(oB)
def disable(w:World):(callFunc 332 #[]).run Tryz.prog w = .ok (.value (.tuple #[])) w:=run_call_mark0 Tryz.func332 oB oB oB .disable oB w
def enable(w:World):(callFunc 334 #[]).run Tryz.prog w = .ok (.value (.tuple #[])) w:=run_call_mark0 Tryz.func334 oB oB oB .enable oB w
def acquire(a:Addr)(w:World):(callFunc 335 #[.pointer (some a)]).run Tryz.prog w = .ok (.value (.tuple #[])) w:=run_call_marked Tryz.func335 oB oB oB .acquire oB a w
def releaseMerge(a:Addr)(w:World):(callFunc 337 #[.pointer (some a)]).run Tryz.prog w = .ok (.value (.tuple #[])) w:=run_call_marked Tryz.func337 oB oB oB .releaseMerge oB a w
set_option maxHeartbeats 1600000 in
def zt2(a:Addr)(x:Value)(u:FrameMode)(w:World)(hc:w.cell? a=some x)(hz:w.frozen? a=false) :
  CallsD Tryz.prog 275 #[.pointer (some a),.bool true] u w fun e u' w'=>u'=u/\(e = .returned (.tuple #[])/\w'=w.drew.setCell a (.int .u32 1)):=by
 have hc':w.drew.cell? a=some x:=by go_simp
 have hz':w.drew.frozen? a=false:=by go_simp
 have hst:=run_call_store (P:=Tryz.prog) Tryz.func310 oB oB oB oB (k := .u32) (y:=1) hc' hz'
 go_enter_d Tryz.func275,Tryz.ntmps275
 go_wp2
 go_region_calls
 all_goals (go_end0;exact⟨rfl,rfl⟩)
set_option maxHeartbeats 1600000 in
def zuz(a:Addr)(u:FrameMode)(w:World)(hc:w.cell? a=some (.int .i32 1))(hz:w.frozen? a=false) :
  CallsD Tryz.prog 274 #[.pointer (some a)] u w fun e u' w'=>u'=u/\(e = .returned (.tuple #[])/\w'=w.setCell a (.int .i32 0)):=by
 have hd:=disable;have he:=enable;have hr:=releaseMerge;have hadd:=run_call_add (P:=Tryz.prog) Tryz.func338 oB oB oB .i32 oB (y := -1) (s:=0) hc hz (by simp[go_sem];rfl)
 have hcv:=run_convert_to_unsafe (P:=Tryz.prog) (src:=352) (dst:=155) Tryz.underlying352 Tryz.underlying155 oB hc
 go_enter_d Tryz.func274,Tryz.ntmps274
 go_wp2
 go_end0
 go_wp2
 go_end0
 exact⟨rfl,rfl⟩
set_option maxHeartbeats 1600000 in
def zps(a:Addr)(w:World)(hc:w.cell? a=some (.int .i32 0))(hz:w.frozen? a=false) :
  Calls Tryz.prog 273 #[.pointer (some a)] w fun e w'=>e = .returned (.tuple #[])/\w'=w.setCell a (.int .i32 1):=by
 have hd:=disable;have he:=enable;have ha:=acquire;have hcas:=run_call_cas_hit (P:=Tryz.prog) Tryz.func333 oB oB oB .i32 oB (y:=1) hc hz
 have hc':(w.setCell a (.int .i32 1)).cell? a=some (.int .i32 1):=World.cell?_setCell_same w a _ hc;have hcv:=run_convert_to_unsafe (P:=Tryz.prog) (src:=352) (dst:=155) Tryz.underlying352 Tryz.underlying155 oB hc'
 go_enter Tryz.func273,Tryz.ntmps273
 go_wp2
 first|go_end0|(simp only[Exit.inBlock,Exit.then];refine bodyPost_ret (results_none rfl _ _ _) rfl ?_)|refine bodyPost_ret (results_none rfl _ _ _) rfl ?_
 go_wp2
 go_end0
 exact⟨rfl,rfl⟩
end Go.Proofs.YtnhhffhkeegdgaaGreatDoor.Once
namespace Go.Proofs.YtnhhffhkeegdgaaGreatDoor.Once
open Go.Sym(oB oC)
set_option maxHeartbeats 1600000 in
def ztk(b:Nat)(w:World)(R:World->Prop)
  (h0:w.cell? ⟨b,0,none⟩=some (.int .u32 0)) (h1:w.cell? ⟨b,0+1,none⟩=some (.int .i32 0)) (f0:w.frozen? ⟨b,0,none⟩=false) (f1:w.frozen? ⟨b,0+1,none⟩=false)
  (hf:Calls Tryz.prog 172 #[.pointer (some ⟨b,0,none⟩)] (w.setCell ⟨b,0+1,none⟩ (.int .i32 1)) fun e w'=>e = .returned (.tuple #[])/\R w')
  (hR:∀w',R w'->w'.cell? ⟨b,0,none⟩=some (.int .u32 0)/\w'.frozen? ⟨b,0,none⟩=false/\w'.cell? ⟨b,0+1,none⟩=some (.int .i32 1)/\w'.frozen? ⟨b,0+1,none⟩=false) :
  Calls Tryz.prog 226 #[.pointer (some ⟨b,0,none⟩),.func (.func 172) #[.pointer (some ⟨b,0,none⟩)] #[]] w fun e w'=>e = .returned (.tuple #[])/\∃w1,R w1/\w'=(w1.drew.setCell ⟨b,0,none⟩ (.int .u32 1)).setCell ⟨b,0+1,none⟩ (.int .i32 0):=by
 have hl:=run_call_load (P:=Tryz.prog) Tryz.func272 oB oB oB .u32 oB (w:=w.setCell ⟨b,0+1,none⟩ (.int .i32 1)) (a:=⟨b,0,none⟩) (x:=0) ((World.cell?_setCell_other _ ⟨b,0+1,none⟩ ⟨b,0,none⟩ _ oC).trans h0)
 have hnot:∀(x:Bool)(w:World),(Op.unary .not (.bool x)).run Tryz.prog w = .ok (.bool (!x)) w:=fun _ _=>rfl
 go_enter_defers Tryz.func226,Tryz.ntmps226
 go_wp2_with (first|(go_at_call 273;refine(zps ⟨b,0+1,none⟩ _ (by go_simp) (by go_simp)).mono ?_;rintro e w' ⟨rfl,rfl⟩)|(go_at_call 225;go_in)|(go_at_call 172;refine hf.mono ?_;rintro e w' ⟨rfl,hw⟩))
 obtain⟨r0,rf0,r1,rf1⟩:=hR w' hw
 first|go_end0|skip
 first|go_wp2|skip
 refine leaves_cons (f:=275) (args:=#[.pointer (some ⟨b,0,none⟩),.bool true]) oC (by simp[go_sem]) ?_
 refine(zt2 ⟨b,0,none⟩ (.int .u32 0) .returning _ r0 rf0).mono ?_;rintro e u' w'' ⟨rfl,rfl,rfl⟩
 refine leaves_cons (f:=274) (args:=#[.pointer (some ⟨b,0+1,none⟩)]) (by simp[settle]) (by simp[go_sem]) ?_
 have r1':(w'.drew.setCell ⟨b,0,none⟩ (.int .u32 1)).cell? ⟨b,0+1,none⟩=some (.int .i32 1):=by
  refine(World.cell?_setCell_other _ ⟨b,0,none⟩ ⟨b,0+1,none⟩ _ oC).trans ?_
  rw[World.cell?_drew];exact r1
 refine(zuz ⟨b,0+1,none⟩ _ _ r1' (by simp[rf1])).mono ?_
 rintro e u' w'' ⟨rfl,rfl,rfl⟩
 simp[Leaves,settle,results,Tryz.results226];exact⟨w',hw,rfl⟩
set_option maxHeartbeats 1600000 in
def zm1(b:Nat)(w:World)(R:World->Prop)
  (h0:w.cell? ⟨b,0,none⟩=some (.int .u32 0)) (h1:w.cell? ⟨b,0+1,none⟩=some (.int .i32 0)) (f0:w.frozen? ⟨b,0,none⟩=false) (f1:w.frozen? ⟨b,0+1,none⟩=false)
  (hf:Calls Tryz.prog 172 #[.pointer (some ⟨b,0,none⟩)] (w.setCell ⟨b,0+1,none⟩ (.int .i32 1)) fun e w'=>e = .returned (.tuple #[])/\R w')
  (hR:∀w',R w'->w'.cell? ⟨b,0,none⟩=some (.int .u32 0)/\w'.frozen? ⟨b,0,none⟩=false/\w'.cell? ⟨b,0+1,none⟩=some (.int .i32 1)/\w'.frozen? ⟨b,0+1,none⟩=false) :
  Calls Tryz.prog 171 #[.pointer (some ⟨b,0,none⟩),.func (.func 172) #[.pointer (some ⟨b,0,none⟩)] #[]] w fun e w'=>e = .returned (.tuple #[])/\∃w1,R w1/\w'=(w1.drew.setCell ⟨b,0,none⟩ (.int .u32 1)).setCell ⟨b,0+1,none⟩ (.int .i32 0):=by
 have hl:=run_call_load (P:=Tryz.prog) Tryz.func272 oB oB oB .u32 oB h0
 have hnot:∀(x:Bool)(w:World),(Op.unary .not (.bool x)).run Tryz.prog w = .ok (.bool (!x)) w:=fun _ _=>rfl
 go_enter Tryz.func171,Tryz.ntmps171
 go_wp2_with (first|(go_at_call 225;go_in)|(go_at_call 226;refine(ztk b w R h0 h1 f0 f1 hf hR).mono ?_;rintro e w' ⟨rfl,w1,hw1,rfl⟩))
 go_end0
 exact⟨rfl,w1,hw1,rfl⟩
end Go.Proofs.YtnhhffhkeegdgaaGreatDoor.Once
namespace Go.Proofs.YtnhhffhkeegdgaaGreatDoor.Once
open Go.Sym(oC)
set_option maxHeartbeats 1600000 in
def replaceS_first(b:Nat)(s:ByteArray)(w:World)(R:World->Prop)(Q:Value->World->Prop)
  (h0:w.cell? ⟨b,0,none⟩=some (.int .u32 0)) (h1:w.cell? ⟨b,0+1,none⟩=some (.int .i32 0)) (f0:w.frozen? ⟨b,0,none⟩=false) (f1:w.frozen? ⟨b,0+1,none⟩=false)
  (hf:Calls Tryz.prog 172 #[.pointer (some ⟨b,0,none⟩)] (w.setCell ⟨b,0+1,none⟩ (.int .i32 1)) fun e w'=>e = .returned (.tuple #[])/\R w')
  (hR:∀w',R w'->w'.cell? ⟨b,0,none⟩=some (.int .u32 0)/\w'.frozen? ⟨b,0,none⟩=false/\w'.cell? ⟨b,0+1,none⟩=some (.int .i32 1)/\w'.frozen? ⟨b,0+1,none⟩=false)
  (hg:∀w',R w'->∃g,w'.cell? ⟨b,3,none⟩=some (.iface 293 (.pointer (some ⟨g,0,none⟩))) /\
   Calls Tryz.prog 400 #[.pointer (some ⟨g,0,none⟩),.string s] ((w'.drew.setCell ⟨b,0,none⟩ (.int .u32 1)).setCell ⟨b,0+1,none⟩ (.int .i32 0)) fun e w''=>∃v,e = .returned v/\Q v w'') :
  Calls Tryz.prog 116 #[.pointer (some ⟨b,0,none⟩),.string s] w fun e w'=>∃v,e = .returned v/\Q v w':=by
 have hme : ∀ (g : Nat) (w : World), (method 511 293 (.pointer (some ⟨g, 0, none⟩)) "Replace").run Tryz.prog w = .ok (400, .pointer (some ⟨g, 0, none⟩)) w := fun _ _ => by kernel_rfl
 go_enter Tryz.func116,Tryz.ntmps116
 go_wp2_with (first|(go_at_call 171;refine(zm1 b w R h0 h1 f0 f1 hf hR).mono ?_;rintro e w' ⟨rfl,w1,hw1,rfl⟩;obtain⟨g,hg1,hg2⟩:=hg w1 hw1;have hc3:((w1.drew.setCell ⟨b,0,none⟩ (.int .u32 1)).setCell ⟨b,0+1,none⟩ (.int .i32 0)).cell? ⟨b,3,none⟩=some (.iface 293 (.pointer (some ⟨g,0,none⟩))):=((World.cell?_setCell_other _ ⟨b,0+1,none⟩ ⟨b,3,none⟩ _ oC).trans ((World.cell?_setCell_other _ ⟨b,0,none⟩ ⟨b,3,none⟩ _ oC).trans (by rw[World.cell?_drew];exact hg1))))|(go_at_call 400;refine hg2.mono ?_;rintro e w' ⟨v,rfl,hq⟩))
 go_ret
 exact⟨_,rfl,hq⟩
end Go.Proofs.YtnhhffhkeegdgaaGreatDoor.Once
namespace Go.Sym
open Go.RowKit
variable[LC]
def b8.blocks_none{G:Gh}{hp:List (Nat×ag)}{w:World}(hm:b8 G hp w){b:Nat}(h:oz G hp b)(o:Nat):G.imm b o=none:=by
 obtain⟨n,bx,hl,ha⟩:=h;have hb:=hm.holds n bx hl
 cases bx with
 |cells cs T=>obtain⟨B,vs,h1,_,_,_,h5⟩:=hb;simp only[Gh.at,h1,qI]at ha;subst ha;exact h5 o
 |row τ l E=>
  obtain⟨a,c,h1,h2⟩:=hb;rcases h2 with⟨rfl,_⟩|⟨g,vs,fz,rfl,_,_,_,_,_,_,_,h9⟩
  ·simp only[Gh.at,h1]at ha;cases ha
  ·simp only[Gh.at,h1,qI]at ha;subst ha;exact h9 o
 |loop st pe f m fr ps tag D=>obtain⟨B,tmps,DB,h1,_,_,_,_,h5⟩:=hb;simp only[Gh.at,h1,qI]at ha;subst ha;exact h5 o
 |dfr=>obtain⟨B,h1,_,h5⟩:=hb;simp only[Gh.at,h1,qI]at ha;subst ha;exact h5 o
 |it s p=>obtain⟨B,h1,_,h5⟩:=hb;simp only[Gh.at,h1,qI]at ha;subst ha;exact h5 o
 |dead=>cases ha
def ci.gone{P:Program}{f:FuncId}{xs:List AV}{hp:List (Nat×ag)}{r:AV}
  (h:∀(w:World)(G:Gh)(vs:List Value),b8 G hp w->am xs G vs->Calls P f vs.toArray w fun e w'=>∃v,e = .returned v/\aj r G v/\bw (oz G hp) w w'):ci P f xs hp r []:=by
 intro w G vs hm hr;refine(h w G vs hm hr).mono ?_;rintro e w' ⟨v,rfl,hv,hs⟩
 have hblk:∀b o v,G.imm b o=some v->w'.heap[b]? = w.heap[b]? := fun b o v hv=>hs.block b (World.block_lt_of_cell? _ _ (hm.agree b o v hv)) fun hb=>by
  rw[hm.blocks_none hb o]at hv;cases hv
 refine⟨v,G,rfl,⟨⟨fun b o v hv=>by rw[World.cell?_of_block (w:=w) (hblk b o v hv)];exact hm.agree b o v hv,hm.one,fun n bx h=>(by cases h),fun n m bx bx' b h=>(by cases h),LC.mono (fun _ _ _ h=>h) hblk hm.tab⟩,hs,fun _ _ _ h=>h,fun _ _ _ h => .inl h,fun n bx b h=>(by cases h),fun _ _ _ _ h=>h,fun _ _ _ _ h=>h⟩,hv⟩
end Go.Sym
set_option linter.unusedVariables false
namespace Go.Proofs.Repl
open Go.Shelf Go.RowKit Go.Lib Go.Sym
def mh.setCell{R q n:Nat}{u:Int}{a b a1 a2 b1 b2:UInt8}{w:World}(h:mh R a b a1 a2 b1 b2 w)(hq:w.cell? ⟨q,0,none⟩=some (.int .u32 u))(v:Value):mh R a b a1 a2 b1 b2 (w.setCell ⟨q,n,none⟩ v):=by
 obtain⟨ga,gb,gt,ca,cb,ct,h1,h2,h3,h4,h5,h6,h7,h8⟩:=h.ex;have kR:¬R=q:=fun e=>by
  have:=h1 0;subst e;rw[show(0:UInt8).toNat=0 from rfl,hq]at this
  unfold rv at this;split at this
  ·cases this
  ·split at this<;>cases this
 have kt:¬gt=q:=fun e=>by subst e;rw[hq]at h3;cases h3
 have ka:¬ga=q:=fun e=>by subst e;rw[hq]at h5;cases h5
 have kb:¬gb=q:=fun e=>by subst e;rw[hq]at h7;cases h7
 have k:∀{p:Nat}{o:Nat}{x:Value},¬p=q->w.cell? ⟨p,o,none⟩=some x->(w.setCell ⟨q,n,none⟩ v).cell? ⟨p,o,none⟩=some x:=fun{p o x} hp hx=>by
  rw[World.cell?_of_block (w:=w) (Below.heap_setCell w ⟨q,n,none⟩ v p hp)];exact hx
 exact⟨ga,gb,gt,ca,cb,ct,fun c=>k kR (h1 c),k kR h2,k kt h3,k kt h4,k ka h5,k ka h6,k kb h7,k kb h8⟩
structure Once(q:Nat)(w w':World):Prop where
 bel:bw (fun k=>k=q) w w'
 c0:w'.cell? ⟨q,0,none⟩=some (.int .u32 0)
 c1:w'.cell? ⟨q,0+1,none⟩=some (.int .i32 1)
 f0:w'.frozen? ⟨q,0,none⟩=false
 f1:w'.frozen? ⟨q,0+1,none⟩=false
def zk3(S:Nat->Prop)(w:World):bw S w w.drew:=⟨rfl,rfl,rfl,wF _,fun _ _ _=>rfl⟩
def qx1{S:Nat->Prop}{w w':World}(h:Below w.heap.size w w'):bw S w w':=⟨h.os,h.tape,h.output,h.size,fun k hk _=>h.block k hk⟩
def qjo{q:Nat}{w w':World}(h:bw (fun k=>k=q) w w')(n:Nat)(v:Value):bw (fun k=>k=q) w (w'.setCell ⟨q,n,none⟩ v):=
 ⟨h.os,h.tape,h.output,by simp[World.setCell];exact h.size,fun k hk hn=>(Below.heap_setCell w' ⟨q,n,none⟩ v k hn).trans (h.block k hk hn)⟩
def qx2{S:Nat->Prop}{a b c:World}(h:bw S a b)(k:bw S b c):bw S a c:=
 ⟨k.os.trans h.os,k.tape.trans h.tape,k.output.trans h.output,Nat.le_trans h.size k.size,fun i hi hn=>(k.block i (Nat.lt_of_lt_of_le hi h.size) hn).trans (h.block i hi hn)⟩
set_option maxHeartbeats 1600000 in
def zlc(q ro cap:Nat)(v3:Value)(a b a1 a2 b1 b2:UInt8)(w:World)(hab:a≠b)
  (c0:w.cell? ⟨q,0,none⟩=some (.int .u32 0)) (c1:w.cell? ⟨q,0+1,none⟩=some (.int .i32 1)) (hf:∀j,w.frozen? ⟨q,j,none⟩=false) (c3:w.cell? ⟨q,3,none⟩=some v3)
  (hc:w.cell? ⟨q,4,none⟩=some (.slice (some ⟨ro,0,none⟩) 4 cap)) (h0:w.cell? ⟨ro,0,none⟩=some (.string ⟨#[a]⟩)) (h1:w.cell? ⟨ro,1,none⟩=some (.string ⟨#[a1,a2]⟩)) (h2:w.cell? ⟨ro,2,none⟩=some (.string ⟨#[b]⟩)) (h3:w.cell? ⟨ro,3,none⟩=some (.string ⟨#[b1,b2]⟩)) :
  Calls Tryz.prog 172 #[.pointer (some ⟨q,0,none⟩)] w fun e w'=>e = .returned (.tuple #[])/\Once q w w'/\∃R,w'.cell? ⟨q,3,none⟩=some (.iface 293 (.pointer (some ⟨R,0,none⟩)))/\mh R a b a1 a2 b1 b2 w':=by
 have hqlt:q<w.heap.size:=World.block_lt_of_cell? _ _ c0;have hB:=zk8 q ro cap a b a1 a2 b1 b2 w hab hc h0 h1 h2 h3
 go_enter Tryz.func172,Tryz.ntmps172
 go_wp2_with (go_at_call 227;go_must (refine hB.mono ?_;rintro e W ⟨R,rfl,hBu,hbe⟩;have k0:∀{j:Nat}{v:Value},w.cell? ⟨q,j,none⟩=some v->W.cell? ⟨q,j,none⟩=some v:=(fun hj=>(hbe.cell (World.block_lt_of_cell? _ _ hj)).trans hj);have kf:∀j,W.frozen? ⟨q,j,none⟩=false:=(fun j=>(hbe.frozen (p:=⟨q,j,none⟩) hqlt).trans (hf j));have d0:=k0 c0;have d1:=k0 c1;have d3:=k0 c3;have d4:=k0 hc;clear hB hf k0))
 have d0':(W.setCell ⟨q,3,none⟩ (.iface 293 (.pointer (some ⟨R,0,none⟩)))).cell? ⟨q,0,none⟩=some (.int .u32 0):=by rw[World.cell?_setCell_other _ _ _ _ oC];exact d0
 have d1':(W.setCell ⟨q,3,none⟩ (.iface 293 (.pointer (some ⟨R,0,none⟩)))).cell? ⟨q,0+1,none⟩=some (.int .i32 1):=by rw[World.cell?_setCell_other _ _ _ _ oC];exact d1
 have d3':=World.cell?_setCell_same W ⟨q,3,none⟩ (.iface 293 (.pointer (some ⟨R,0,none⟩))) d3
 go_end0
 refine⟨rfl,⟨qjo (qjo (qx1 hbe) 3 _) 4 _,?_,?_,?_,?_⟩,R,?_,(hBu.setCell d0 _).setCell d0' _⟩
 ·rw[World.cell?_setCell_other _ _ _ _ oC];exact d0'
 ·rw[World.cell?_setCell_other _ _ _ _ oC];exact d1'
 ·simp[kf]
 ·simp[kf]
 ·rw[World.cell?_setCell_other _ _ _ _ oC];exact d3'
def replS(q ro cap:Nat)(v3:Value)(a b a1 a2 b1 b2:UInt8)(s:ByteArray)(w:World)(hab:a≠b)(hs:s.size<=1000000)
  (c0:w.cell? ⟨q,0,none⟩=some (.int .u32 0)) (c1:w.cell? ⟨q,0+1,none⟩=some (.int .i32 0)) (hf:∀j,w.frozen? ⟨q,j,none⟩=false) (c3:w.cell? ⟨q,3,none⟩=some v3)
  (hc:w.cell? ⟨q,4,none⟩=some (.slice (some ⟨ro,0,none⟩) 4 cap)) (h0:w.cell? ⟨ro,0,none⟩=some (.string ⟨#[a]⟩)) (h1:w.cell? ⟨ro,1,none⟩=some (.string ⟨#[a1,a2]⟩)) (h2:w.cell? ⟨ro,2,none⟩=some (.string ⟨#[b]⟩)) (h3:w.cell? ⟨ro,3,none⟩=some (.string ⟨#[b1,b2]⟩)) :
  Calls Tryz.prog 116 #[.pointer (some ⟨q,0,none⟩),.string s] w fun e w'=>∃v,e = .returned v/\v = .string ⟨(ei a b [a1,a2] [b1,b2] s.data.toList).toArray⟩/\bw (fun k=>k=q) w w':=by
 have hne:¬ro=q:=fun e=>by subst e;rw[c0]at h0;cases h0
 have k:∀{p:Addr}{x:Value},p≠⟨q,0+1,none⟩->w.cell? p=some x->(w.setCell ⟨q,0+1,none⟩ (.int .i32 1)).cell? p=some x:=fun{p x} hp hx=>by
  rw[World.cell?_setCell_other _ _ _ _ (fun e=>hp e.symm)];exact hx
 have kb:bw (fun k=>k=q) w (w.setCell ⟨q,0+1,none⟩ (.int .i32 1)):=qjo (qx1 (Below.refl _ _)) _ _
 refine Go.Proofs.YtnhhffhkeegdgaaGreatDoor.Once.replaceS_first q s w (fun w'=>Once q (w.setCell ⟨q,0+1,none⟩ (.int .i32 1)) w'/\∃R,w'.cell? ⟨q,3,none⟩=some (.iface 293 (.pointer (some ⟨R,0,none⟩)))/\mh R a b a1 a2 b1 b2 w') (fun v w'=>v = .string ⟨(ei a b [a1,a2] [b1,b2] s.data.toList).toArray⟩/\bw (fun k=>k=q) w w') c0 c1 (hf _) (hf _) ?_ ?_ ?_
 ·exact zlc q ro cap v3 a b a1 a2 b1 b2 _ hab (k oC c0) (World.cell?_setCell_same w _ _ c1) (fun j=>by simp[hf]) (k oC c3) (k oC hc) (k (by intro h;exact hne (congrArg Addr.block h)) h0) (k (by intro h;exact hne (congrArg Addr.block h)) h1) (k (by intro h;exact hne (congrArg Addr.block h)) h2) (k (by intro h;exact hne (congrArg Addr.block h)) h3)
 ·rintro w' ⟨ho,_⟩
  exact⟨ho.c0,ho.f0,ho.c1,ho.f1⟩
 ·rintro w' ⟨ho,R,hR,hBu⟩
  refine⟨R,hR,?_⟩;have e0:w'.drew.cell? ⟨q,0,none⟩=some (.int .u32 0):=by rw[World.cell?_drew];exact ho.c0
  have e1:=World.cell?_setCell_same w'.drew ⟨q,0,none⟩ (.int .u32 1) e0;have hB2:mh R a b a1 a2 b1 b2 ((w'.drew.setCell ⟨q,0,none⟩ (.int .u32 1)).setCell ⟨q,0+1,none⟩ (.int .i32 0)):=
   ((hBu.below (Below.refl _ w').drew).setCell e0 _).setCell e1 _
  have hBel:bw (fun k=>k=q) w ((w'.drew.setCell ⟨q,0,none⟩ (.int .u32 1)).setCell ⟨q,0+1,none⟩ (.int .i32 0)):=
   qjo (qjo (qx2 (qx2 kb ho.bel) (zk3 _ _)) 0 _) (0+1) _
  refine(zlf R a b a1 a2 b1 b2 s _ hab hs hB2).mono ?_;rintro e w2 ⟨rfl,hb2⟩
  exact⟨_,rfl,rfl,qx2 hBel (qx1 hb2)⟩
end Go.Proofs.Repl
namespace Go.Sym
open Go.Proofs Go.RowKit
variable[LC]
def zsl(a b a1 a2 b1 b2:UInt8)(s:Bs)(p2:Int)(hab:a≠b)(hs:s.length<=1000000) :
  ci Tryz.prog 116 [.ptr 0 0,.str s] [(0,.cells [.int .u32 0,.int .i32 0,.int .u32 p2,.val .nilIface,.own 1] 222),(1,.row .str [[a],[a1,a2],[b],[b1,b2]] 9)] (.str (ei a b [a1,a2] [b1,b2] s)) []:=by
 refine ci.gone fun w G vs hm hr => ?_
 match vs,hr with
 |[v1,v2],hr=>
 obtain⟨⟨q,hG,rfl⟩,r2,_⟩:=hr;have r2:v2 = .string ⟨s.toArray⟩:=r2;subst r2;obtain⟨B,cs,g1,g2,g3,g4,g5⟩:=hm.holds 0 _ rfl;rw[show G.box 0=some q from hG]at g1
 cases g1
 obtain⟨ad,c,us,o1,o2,o3,o4⟩:=(hm.holds 1 (.row .str [[a],[a1,a2],[b],[b1,b2]] 9) rfl).rowAt;obtain⟨u0,c0,x0⟩:=ki g3 (i:=0) rfl;obtain⟨u1,c1,x1⟩:=ki g3 (i:=1) rfl;obtain⟨u3,c3,x3⟩:=ki g3 (i:=3) rfl;obtain⟨u4,c4,x4⟩:=ki g3 (i:=4) rfl;have x0:u0 = .int .u32 0:=x0;have x1:u1 = .int .i32 0:=x1;obtain⟨ad',n',c',x5,x4⟩:=x4;rw[o1]at x5;cases x5
 subst x0 x1 x4;have k:∀{i:Nat}{v:Value},cs.toList[i]? = some v->w.cell? ⟨q,i,none⟩=some v:=fun{i v} h=>cell_of_heap g2 h
 obtain⟨ho1,ho2⟩:=o2;rcases ho2 with⟨_,h0,_⟩|⟨g,vr,fz,rfl,e1,_,e3,e4,e5,e6,_⟩
 ·cases h0
 ·have hus:us=[.string ⟨#[a]⟩,.string ⟨#[a1,a2]⟩,.string ⟨#[b]⟩,.string ⟨#[b1,b2]⟩]:=by
   match us,o3 with
   |[y0,y1,y2,y3],⟨z0,z1,z2,z3,_⟩=>
    have z0:y0 = .string ⟨#[a]⟩:=z0;have z1:y1 = .string ⟨#[a1,a2]⟩:=z1;have z2:y2 = .string ⟨#[b]⟩:=z2;have z3:y3 = .string ⟨#[b1,b2]⟩:=z3;rw[z0,z1,z2,z3]
  have kr:∀{i:Nat}{v:Value},us[i]? = some v->w.cell? ⟨g,i,none⟩=some v:=fun{i v} h=>by
   rw[← e6,List.getElem?_take]at h;split at h
   ·exact cell_of_heap e1 h
   ·cases h
  subst hus;refine(Go.Proofs.Repl.replS q g c u3 a b a1 a2 b1 b2 ⟨s.toArray⟩ w hab (by rw[kj];exact hs) (k c0) (k c1) (fun j=>by simp[World.frozen?,g2]) (k c3) (k c4) (kr (i:=0) rfl) (kr (i:=1) rfl) (kr (i:=2) rfl) (kr (i:=3) rfl)).mono ?_
  rintro e w' ⟨v,rfl,rfl,hb⟩
  refine⟨_,rfl,rfl,⟨hb.os,hb.tape,hb.output,hb.size,fun k hk hn=>hb.block k hk (fun e=>hn ?_)⟩⟩
  subst e;exact⟨0,_,rfl,hG⟩
def q1i:IF:=⟨.fn 116,[.ptr 0 0,.h .str],[(0,.cells [.h (.int .u32),.h (.int .i32),.h (.int .u32),.c .nilIface,.own 1] 222),(1,.row .str 9)],_,RS.mk (.h .str) []⟩
def zdl:(q1i.e sw).Sound Tryz.prog:=fun d d' r h=>by
 obtain⟨_,s,_⟩:=d;obtain⟨⟨p0,p1,p2,_,_,_⟩,on,_⟩:=d';have h:sw s p0 p1 p2 on=some r:=h;obtain⟨a,a1,a2,b,b1,b2,rfl,rfl,rfl,hab,hs,rfl⟩:=zsm h;exact⟨Tryz.call116,zsl a b a1 a2 b1 b2 s p2 hab hs⟩
end Go.Sym
namespace Go.Sym
open Go.Proofs Go.RowKit
open Go.Proofs.Tryz
variable[LC]
def q76:Builder.Extra Tryz.prog Tryz.lays105_ren:={
 sizeBuilder:=oB
 liesBuilder:=oB
 t5:=Tryz.lays105.t5
 a5:=Tryz.lays105.a5
 z5:=Tryz.lays105.z5
 v5:=Tryz.lays105.v5
 infoByte:=oB
 cellsByte:=oB
 sizeByte:=oB
 neB5:=by decide }
def zsh{w:World}(s:Bs)(n:Int)(d1:0<=n)(d2:n<=9223372036854775807)(d3:s.length*n.toNat<=140737488355328) :
  Calls Tryz.prog 173 #[.string ⟨s.toArray⟩,.int .i64 n] w fun e w'=>e = .returned (.string ⟨(Lib.repeatL s n.toNat).toArray⟩)/\db w w':=by
 have hn:n=((n.toNat:Nat):Int):=oA
 have key:=Any.strings_Repeat Tryz.lays105 q76 ⟨s.toArray⟩ n.toNat w oA (by rw[kj];exact d3)
 rw[← hn]at key;exact key.mono fun e w'⟨he,hw⟩=>⟨he,db.of_below hw⟩
def zdj:IF:=⟨.fn 173,[.h .str,.h (.int .i64)],[],_,RS.mk (.h .str) []⟩
def zsi:(zdj.e qdu).Sound Tryz.prog:=fun d d' r h=>by
 obtain⟨s,n,_⟩:=d;have h:qdu s n=some r:=h;unfold qdu at h;cases hd:decide (0<=(show Int from n)/\(show Int from n)<=9223372036854775807/\List.length (α:=UInt8) s*(show Int from n).toNat<=140737488355328)<;>rw[hd]at h<;>simp only[qT,qF,reduceCtorEq]at h
 have h:=qJ h;subst h;obtain⟨d1,d2,d3⟩:=of_decide_eq_true hd;refine⟨call173,ci.data fun w G vs hm hr => ?_⟩
 match vs,hr with
 |[u,v],⟨h1,h2,_⟩=>
  have h1:u = .string ⟨s.toArray⟩:=h1;have h2:v = .int .i64 n:=h2;subst h1 h2;exact(zsh s n d1 d2 d3).mono fun e w'⟨he,hw⟩=>⟨_,he,rfl,hw⟩
def zk6:Builder.Extra Tryz.prog Tryz.lays155_ren:={
 sizeBuilder:=oB
 liesBuilder:=oB
 t5:=Tryz.lays155.t5
 a5:=Tryz.lays155.a5
 z5:=Tryz.lays155.z5
 v5:=Tryz.lays155.v5
 infoByte:=oB
 cellsByte:=oB
 sizeByte:=oB
 neB5:=by decide }
def zsk{G:Gh}{w:World}(hm:b8 G [] w)(hi:2∈LC.ints)(s o n:Bs)(d1:1<=o.length)(d2:s.length<4294967281)(d3:s.length+s.length*n.length<=140737488355328) :
  Calls Tryz.prog 93 #[.string ⟨s.toArray⟩,.string ⟨o.toArray⟩,.string ⟨n.toArray⟩] w fun e w'=>e = .returned (.string ⟨(Lib.replaceAll s o n).toArray⟩)/\db w w':=by
 obtain⟨k,hk⟩:=hm.tab.2.1 _ hi;have hk:=hm.agree _ _ _ hk;have hc:Lib.countB ⟨s.toArray⟩ ⟨o.toArray⟩<=s.length:=by
  have:=Lib.countB_mul_le (⟨o.toArray⟩:ByteArray) (by rw[kj];exact d1) _ (⟨s.toArray⟩:ByteArray) (wF _)
  rw[kj,kj]at this;exact Nat.le_trans (Nat.le_mul_of_pos_right _ d1) this
 exact(Any.strings_ReplaceAll Tryz.lays155 zk6 ⟨s.toArray⟩ ⟨o.toArray⟩ ⟨n.toArray⟩ k w (by rw[kj];exact d2) hk (by rw[kj];exact d1) (by
  rw[kj,kj];exact Nat.le_trans (Nat.add_le_add_left (Nat.mul_le_mul_right _ hc) _) d3)).mono fun e w'⟨he,hw⟩=>⟨he,db.of_below hw⟩
def q1h:IF:=⟨.fn 93,[.h .str,.h .str,.h .str],[],_,RS.mk (.h .str) []⟩
def zdk(hi:2∈LC.ints):(q1h.e np).Sound Tryz.prog:=fun d d' r h=>by
 obtain⟨s,o,n,_⟩:=d;have h:np s o n=some r:=h;unfold np at h;cases hd:decide (1<=List.length (α:=UInt8) o/\List.length (α:=UInt8) s<4294967281/\List.length (α:=UInt8) s+List.length (α:=UInt8) s*List.length (α:=UInt8) n<=140737488355328)<;>rw[hd]at h<;>simp only[qT,qF,reduceCtorEq]at h
 have h:=qJ h;subst h;obtain⟨d1,d2,d3⟩:=of_decide_eq_true hd;refine⟨call93,ci.data fun w G vs hm hr => ?_⟩
 match vs,hr with
 |[u,v,x],⟨h1,h2,h3,_⟩=>
  have h1:u = .string ⟨s.toArray⟩:=h1;have h2:v = .string ⟨o.toArray⟩:=h2;have h3:x = .string ⟨n.toArray⟩:=h3;subst h1 h2 h3;exact(zsk hm hi s o n d1 d2 d3).mono fun e w'⟨he,hw⟩=>⟨_,he,rfl,hw⟩
end Go.Sym
namespace Go.Sym
open Go.Proofs Go.RowKit Go.Shelf
def bw.refl(S:Nat->Prop)(w:World):bw S w w:=⟨rfl,rfl,rfl,wF _,fun _ _ _=>rfl⟩
def bw.drew(S:Nat->Prop)(w:World):bw S w w.drew:=⟨rfl,rfl,rfl,wF _,fun _ _ _=>rfl⟩
def bw.freeze{S:Nat->Prop}(w:World)(p:Addr)(n:Nat)(h:S p.block):bw S w (w.drew.freeze p n):=by
 unfold World.freeze;split
 ·exact bw.drew S w
 ·exact⟨rfl,rfl,rfl,oC,fun k hk hS=>by
   simp[Array.getElem?_modify];rw[qW (fun e=>hS (by rw[← e];exact h))];rfl⟩
def bw.drew_alloc(S:Nat->Prop)(w:World)(o:Obj):bw S w (w.drew.alloc o):=⟨rfl,rfl,rfl,oC,fun k hk _=>Below.heap_alloc w.drew _ k hk⟩
def q8j{G:Gh}:∀{l:List UInt8}{us:List Value},am (l.flatMap Ty.byte.enc) G us->us=Lib.byteCells l
 |[],[],_=>rfl|c::l,u::us,⟨h1,h2⟩=>by
  have h1:u = .int .u8 c.toNat:=h1;rw[h1,q8j (l:=l) h2];rfl
 |[],_::_,h=>h.elim|_::_,[],h=>h.elim
section
variable{P:Program}{ρ:Ren}
set_option maxHeartbeats 2000000 in
def zt3(L:Lays.n169 P ρ)(X:Builder.Extra P ρ)(b:Nat)(p:Value)(l:List UInt8)(g cap:Nat)(w:World)(hbk:w.heap[b]? = some (.cells #[p,.slice (some ⟨g,0,none⟩) l.length cap] (ρ.t 72) (0,0)))
  (cur:Array Value) (fz:Nat×Nat) (hg:w.heap[g]? = some (.cells cur (ρ.t 5) fz)) (hnc:l.length<=cap) (hcm:cap<=maxLen) (hcs:cur.size=cap*1) (htake:cur.toList.take (l.length*1)=Lib.byteCells l) (h0:l≠[]) :
  Calls P (ρ.f 169) #[.pointer (some ⟨b,0,none⟩)] w fun e w'=>e = .returned (.string ⟨l.toArray⟩)/\bw (fun k=>k=g) w w':=by
 have lj:l.length≠0:=by simpa using h0
 have c1:w.drew.cell? ⟨b,1,none⟩=some (.slice (some ⟨g,0,none⟩) l.length cap):=by
  have:w.drew.heap[b]? = some (.cells #[p,.slice (some ⟨g,0,none⟩) l.length cap] (ρ.t 72) (0,0)):=hbk;rw[Lib.cell_of_heap this];rfl
 have hSD:(Builtin.unsafeSliceData_ #[(ρ.t 37)] (ρ.t 127) #[.slice (some ⟨g,0,none⟩) l.length cap]).run P w.drew = .ok (.pointer (some ⟨g,0,none⟩)) w.drew:=
  Lib.run_unsafeSliceData_row _ _ _ _ _ _ oA
 have hUS:(Builtin.unsafeString_ #[(ρ.t 127),(ρ.t 3)] (ρ.t 9) #[.pointer (some ⟨g,0,none⟩),.int .i64 l.length]).run P w.drew = .ok (.string ⟨l.toArray⟩) (w.drew.freeze ⟨g,0,none⟩ l.length):=by
  refine Lib.run_unsafeString_row w.drew (ρ.t 127) (ρ.t 3) (ρ.t 9) (ρ.t 5) L.t127 X.cellsByte g cur.size (by have hg':w.drew.heap[g]? = some (.cells cur (ρ.t 5) fz):=hg;simp[World.shape?,hg']) l h0 oA (by unfold maxLen at hcm;omega) ?_
  intro j x hx;have hj:(cur.toList.take (l.length*1))[j]? = some (.int .u8 x.toNat):=by rw[htake];simp[Lib.byteCells,hx]
  have hj2:cur[j]? = some (.int .u8 x.toNat):=by
   rw[List.getElem?_take]at hj;split at hj
   ·simpa using hj
   ·cases hj
  have hg':w.drew.heap[g]? = some (.cells cur (ρ.t 5) fz):=hg;by_cases hj0:j=0
  ·subst hj0;simp[World.cell?,Addr.add,hg',hj2]
  ·simp[World.cell?,Addr.add,hj0,hg',hj2]
 have mixed:=L.mixed;have t72:=L.t72;have a72:=L.a72;have z72:=L.z72;have v72:=L.v72;have u72:=run_underlying L.t72;have t70:=L.t70;have a70:=L.a70;have z70:=L.z70;have v70:=L.v70;have u70:=run_underlying L.t70;have t37:=L.t37;have a37:=L.a37;have z37:=L.z37;have v37:=L.v37;have u37:=run_underlying L.t37;have t127:=L.t127;have a127:=L.a127;have z127:=L.z127;have v127:=L.v127;have u127:=run_underlying L.t127;have t3:=L.t3;have a3:=L.a3;have z3:=L.z3;have v3:=L.v3;have u3:=run_underlying L.t3;have t9:=L.t9;have a9:=L.a9;have z9:=L.z9;have v9:=L.v9;have u9:=run_underlying L.t9;have t5:=X.t5;have a5:=X.a5;have z5:=X.z5;have v5:=X.v5;have u5:=run_underlying X.t5;clear hcs htake hnc hcm hg
 go_enter L.f169,Body.n169_ntmps ρ
 go_wp2
 go_region_o
 all_goals (go_wp2;go_ret;exact⟨rfl,bw.freeze w ⟨g,0,none⟩ _ rfl⟩)
set_option maxHeartbeats 2000000 in
def zt4(L:Lays.n169 P ρ)(X:Builder.Extra P ρ)(b:Nat)(p:Value)(w:World)(hbk:w.heap[b]? = some (.cells #[p,.slice none 0 0] (ρ.t 72) (0,0))) :
  Calls P (ρ.f 169) #[.pointer (some ⟨b,0,none⟩)] w fun e w'=>e = .returned (.string ⟨#[]⟩)/\bw (fun _=>False) w w':=by
 have hUS:=Any.unsafeString_none L X;have c1:w.drew.cell? ⟨b,1,none⟩=some (.slice none 0 0):=by
  have:w.drew.heap[b]? = some (.cells #[p,.slice none 0 0] (ρ.t 72) (0,0)):=hbk;rw[Lib.cell_of_heap this];rfl
 have hSD:(Builtin.unsafeSliceData_ #[(ρ.t 37)] (ρ.t 127) #[.slice none 0 0]).run P w.drew = .ok (.pointer none) w.drew:=rfl;have mixed:=L.mixed;have t72:=L.t72;have a72:=L.a72;have z72:=L.z72;have v72:=L.v72;have u72:=run_underlying L.t72;have t70:=L.t70;have a70:=L.a70;have z70:=L.z70;have v70:=L.v70;have u70:=run_underlying L.t70;have t37:=L.t37;have a37:=L.a37;have z37:=L.z37;have v37:=L.v37;have u37:=run_underlying L.t37;have t127:=L.t127;have a127:=L.a127;have z127:=L.z127;have v127:=L.v127;have u127:=run_underlying L.t127;have t3:=L.t3;have a3:=L.a3;have z3:=L.z3;have v3:=L.v3;have u3:=run_underlying L.t3;have t9:=L.t9;have a9:=L.a9;have z9:=L.z9;have v9:=L.v9;have u9:=run_underlying L.t9;have t5:=X.t5;have a5:=X.a5;have z5:=X.z5;have v5:=X.v5;have u5:=run_underlying X.t5
 go_enter L.f169,Body.n169_ntmps ρ
 go_wp2
 go_region_o
 all_goals (go_wp2;go_ret;exact⟨rfl,bw.drew _ w⟩)
set_option maxHeartbeats 2000000 in
def zt5(L:Lays.n169 P ρ)(X:Builder.Extra P ρ)(b g:Nat)(p:Value)(cur:Array Value)(w:World)(hbk:w.heap[b]? = some (.cells #[p,.slice (some ⟨g,0,none⟩) 0 0] (ρ.t 72) (0,0)))(fz:Nat×Nat)(hg:w.heap[g]? = some (.cells cur (ρ.t 5) fz)) :
  Calls P (ρ.f 169) #[.pointer (some ⟨b,0,none⟩)] w fun e w'=>e = .returned (.string ⟨#[]⟩)/\bw (fun _=>False) w w':=by
 have hUS:=Any.unsafeString_none L X;have hlt:b<w.heap.size:=by
  rcases Nat.lt_or_ge b w.heap.size with h'|h'
  ·exact h'
  ·simp[Array.getElem?_eq_none h']at hbk
 have c1:w.drew.cell? ⟨b,1,none⟩=some (.slice (some ⟨g,0,none⟩) 0 0):=by
  have:w.drew.heap[b]? = some (.cells #[p,.slice (some ⟨g,0,none⟩) 0 0] (ρ.t 72) (0,0)):=hbk;rw[Lib.cell_of_heap this];rfl
 have hSD:(Builtin.unsafeSliceData_ #[(ρ.t 37)] (ρ.t 127) #[.slice (some ⟨g,0,none⟩) 0 0]).run P w.drew = .ok (.pointer (some ⟨w.drew.heap.size,0,none⟩)) (w.drew.alloc (.view ⟨g,0,none⟩ (ρ.t 5))):=
  Lib.run_unsafeSliceData_zero w.drew _ _ (ρ.t 5) L.t127 ⟨g,0,none⟩ 0 ((ρ.t 5),cur.size) (by have hg':w.drew.heap[g]? = some (.cells cur (ρ.t 5) fz):=hg;simp[World.shape?,hg'])
 have c2:(w.drew.alloc (.view ⟨g,0,none⟩ (ρ.t 5))).cell? ⟨b,1,none⟩=some (.slice (some ⟨g,0,none⟩) 0 0):=by
  have:(w.drew.alloc (.view ⟨g,0,none⟩ (ρ.t 5))).heap[b]? = _:=(Lib.alloc_old w.drew _ b hlt).trans hbk;rw[Lib.cell_of_heap this];rfl
 have c3:(w.alloc (.view ⟨g,0,none⟩ (ρ.t 5))).drew.cell? ⟨b,1,none⟩=some (.slice (some ⟨g,0,none⟩) 0 0):=c2;have c0:w.cell? ⟨b,1,none⟩=some (.slice (some ⟨g,0,none⟩) 0 0):=c1;have mixed:=L.mixed;have t72:=L.t72;have a72:=L.a72;have z72:=L.z72;have v72:=L.v72;have u72:=run_underlying L.t72;have t70:=L.t70;have a70:=L.a70;have z70:=L.z70;have v70:=L.v70;have u70:=run_underlying L.t70;have t37:=L.t37;have a37:=L.a37;have z37:=L.z37;have v37:=L.v37;have u37:=run_underlying L.t37;have t127:=L.t127;have a127:=L.a127;have z127:=L.z127;have v127:=L.v127;have u127:=run_underlying L.t127;have t3:=L.t3;have a3:=L.a3;have z3:=L.z3;have v3:=L.v3;have u3:=run_underlying L.t3;have t9:=L.t9;have a9:=L.a9;have z9:=L.z9;have v9:=L.v9;have u9:=run_underlying L.t9;have t5:=X.t5;have a5:=X.a5;have z5:=X.z5;have v5:=X.v5;have u5:=run_underlying X.t5
 go_enter L.f169,Body.n169_ntmps ρ
 go_wp2
 go_region_o
 all_goals (go_wp2;go_ret;exact⟨rfl,bw.drew_alloc _ w _⟩)
set_option maxHeartbeats 2000000 in
def zt6(L:Lays.n169 P ρ)(X:Builder.Extra P ρ)(b g cap:Nat)(p:Value)(w:World)(hc0:cap≠0)(hbk:w.heap[b]? = some (.cells #[p,.slice (some ⟨g,0,none⟩) 0 cap] (ρ.t 72) (0,0))) :
  Calls P (ρ.f 169) #[.pointer (some ⟨b,0,none⟩)] w fun e w'=>e = .returned (.string ⟨#[]⟩)/\bw (fun _=>False) w w':=by
 have hUS:=Any.unsafeString_none L X;have c1:w.drew.cell? ⟨b,1,none⟩=some (.slice (some ⟨g,0,none⟩) 0 cap):=by
  have:w.drew.heap[b]? = some (.cells #[p,.slice (some ⟨g,0,none⟩) 0 cap] (ρ.t 72) (0,0)):=hbk;rw[Lib.cell_of_heap this];rfl
 have hSD:(Builtin.unsafeSliceData_ #[(ρ.t 37)] (ρ.t 127) #[.slice (some ⟨g,0,none⟩) 0 cap]).run P w.drew = .ok (.pointer (some ⟨g,0,none⟩)) w.drew:=
  Lib.run_unsafeSliceData_row _ _ _ _ _ _ hc0
 clear hc0;have mixed:=L.mixed;have t72:=L.t72;have a72:=L.a72;have z72:=L.z72;have v72:=L.v72;have u72:=run_underlying L.t72;have t70:=L.t70;have a70:=L.a70;have z70:=L.z70;have v70:=L.v70;have u70:=run_underlying L.t70;have t37:=L.t37;have a37:=L.a37;have z37:=L.z37;have v37:=L.v37;have u37:=run_underlying L.t37;have t127:=L.t127;have a127:=L.a127;have z127:=L.z127;have v127:=L.v127;have u127:=run_underlying L.t127;have t3:=L.t3;have a3:=L.a3;have z3:=L.z3;have v3:=L.v3;have u3:=run_underlying L.t3;have t9:=L.t9;have a9:=L.a9;have z9:=L.z9;have v9:=L.v9;have u9:=run_underlying L.t9;have t5:=X.t5;have a5:=X.a5;have z5:=X.z5;have v5:=X.v5;have u5:=run_underlying X.t5
 go_enter L.f169,Body.n169_ntmps ρ
 go_wp2
 go_region_o
 all_goals (go_wp2;go_ret;exact⟨rfl,bw.drew _ w⟩)
end
open Go.Proofs.Tryz
variable[LC]
def zk4{q:Nat}(w:World)(n:Nat)(v:Value):bw (fun k=>k=q) w (w.setCell ⟨q,n,none⟩ v):=
 ⟨rfl,rfl,rfl,by simp[World.setCell],fun k hk hS=>by simp only[World.setCell,Array.getElem?_modify];rw[qW (fun e=>hS e.symm)]⟩
def bw.mono{S S':Nat->Prop}{w w':World}(h:bw S w w')(hS:∀k,S k->S' k):bw S' w w':=⟨h.os,h.tape,h.output,h.size,fun k hk hn=>h.block k hk fun q=>hn (hS k q)⟩
def Fin.same{z5m w:World}{z5g G:Gh}{z5j hp hp':List (Nat×ag)}(hf:Fin z5m z5g z5j G hp' w)(h:∀n,ae hp n=ae hp' n):Fin z5m z5g z5j G hp w:=
 ⟨⟨hf.mem.agree,hf.mem.one,fun n bx hl=>hf.mem.holds n bx (by rw[← h];exact hl),fun n m bx bx' b h1 h2=>hf.mem.apart n m bx bx' b (by rw[← h];exact h1) (by rw[← h];exact h2),hf.mem.tab⟩,
  hf.bel,hf.imm_le,hf.imm_new,fun n bx b hl=>hf.base n bx b (by rw[← h];exact hl),hf.keep,hf.keepOwn⟩
abbrev bxB:List (Nat×bj):=[(0,.cells [.pn 0,.own 1] 63),(1,.row .byte 5)]
def qo5:IF:=⟨.fn 69,[.ptr 0 0],bxB,_,RS.mk (.tup []) bxB⟩
def qox:IF:=⟨.fn 32,[.ptr 0 0],bxB,_,RS.mk (.h .str) []⟩
abbrev bxh(l:Bs):List (Nat×ag):=[(0,.cells [.pn 0,.own 1] 63),(1,.row .byte l 5)]
def q8i{G:Gh}{w:World}{l:Bs}{vs:List Value}(hm:b8 G (bxh l) w)(hr:am [AV.ptr 0 0] G vs) :
  ∃B p ad c,vs=[.pointer (some ⟨B,0,none⟩)]/\G.box 0=some B/\G.own 1=some (ad,l.length,c)/\(p = .pointer none\/p = .pointer (some ⟨B,0,none⟩)) /\
   w.heap[B]? = some (.cells #[p,.slice ad l.length c] 63 (0,0))/\(∀o,G.imm B o=none):=by
 match vs,hr with
 |[v],⟨⟨B,h1,h2⟩,_⟩=>
  obtain⟨B',arr,k1,k2,k3,_,k5⟩:=hm.holds 0 _ rfl;rw[h1]at k1;injection k1 with k1;subst k1
  match arr,k2,k3 with
  |⟨[]⟩,_,h=>exact h.elim|⟨[_]⟩,_,h=>exact h.2.elim|⟨_::_::_::_⟩,_,h=>exact h.2.2.elim|⟨[p,x]⟩,k2,⟨⟨B2,q1,q2⟩,⟨a,n,c,q3,q4⟩,_⟩=>
   rw[h1]at q1;injection q1 with q1;subst q1
   obtain⟨a',c',r1,_⟩:=hm.holds 1 _ rfl;rw[r1]at q3;simp only[qI,qP]at q3;obtain⟨rfl,rfl,rfl⟩:=q3;subst q4 h2;exact⟨B,p,a',c',rfl,h1,r1,q2,k2,k5⟩
def qyj:(qo5.e p8).Sound Tryz.prog:=fun d d' r h=>by
 obtain⟨d0,l,_⟩:=d';have h:p8 l=some r:=h;have h:=qJ h;subst h;refine⟨call69,?_⟩;show ci _ _ [.ptr 0 0] (bxh l) (.tup []) (bxh l);intro w G vs hm hr;obtain⟨B,p,ad,c,rfl,h1,h2,h3,h4,h5⟩:=q8i hm hr;rcases h3 with rfl|rfl
 ·refine(Any.Builder_copyCheck_fresh { Tryz.lays165 with } ToValid.bx.toX72 B w (by rw[Lib.cell_of_heap h4];rfl) (by have q:w.shape? B=some (63,2):=by{ simp[World.shape?,h4] };exact q) (Lib.frozen_of_heap h4 0)).mono ?_
  rintro e w' ⟨rfl,rfl⟩
  refine⟨_,G,rfl,?_,#[],rfl,trivial⟩;refine((we hm).update (n:=0) (bx := .cells [.pn 0,.own 1] 63) (bx' := .cells [.pn 0,.own 1] 63) (B:=B) rfl h1 h1 (zk4 w 0 _) ?_ h5).same (fun n => ?_)
  ·exact⟨B,#[.pointer (some ⟨B,0,none⟩),.slice ad l.length c],h1,by simp[World.setCell,Array.getElem?_modify,h4];rfl,⟨⟨B,h1,.inr rfl⟩,⟨ad,l.length,c,h2,rfl⟩,trivial⟩,by intro v hv;simp at hv;rcases hv with rfl|rfl<;>rfl,h5⟩
  ·cases n<;>rfl
 ·refine(Any.Builder_copyCheck_used { Tryz.lays165 with } ToValid.bx.toX72 B w (by rw[Lib.cell_of_heap h4];rfl)).mono ?_
  rintro e w' ⟨rfl,rfl⟩
  exact⟨_,G,rfl,we hm,#[],rfl,trivial⟩
def qx7:(qox.e ve).Sound Tryz.prog:=fun d d' r h=>by
 obtain⟨d0,l,_⟩:=d';have h:ve l=some r:=h;have h:=qJ h;subst h;refine⟨call32,ci.gone fun w G vs hm hr => ?_⟩
 have hm:b8 G (bxh l) w:=hm;obtain⟨B,p,ad,c,rfl,h1,h2,h3,h4,h5⟩:=q8i hm hr;obtain⟨a',c',k1,k2⟩:=hm.holds 1 _ rfl;rw[h2]at k1;simp only[qI,qP]at k1;obtain⟨rfl,-,rfl⟩:=k1;rcases k2 with⟨rfl,rfl,rfl⟩|⟨g,cs,fz,rfl,hg,_,hnc,hcm,hcs,hrep,_,_⟩
 ·refine(zt4 Tryz.lays169 ToValid.bx B p w h4).mono ?_;rintro e w' ⟨rfl,hb⟩
  exact⟨_,rfl,rfl,hb.mono fun _ q=>q.elim⟩
 ·by_cases h0:l=[]
  ·subst h0;by_cases hc0:c=0
   ·subst hc0;refine(zt5 Tryz.lays169 ToValid.bx B g p cs w h4 fz hg).mono ?_;rintro e w' ⟨rfl,hb⟩
    exact⟨_,rfl,rfl,hb.mono fun _ q=>q.elim⟩
   ·refine(zt6 Tryz.lays169 ToValid.bx B g c p w hc0 h4).mono ?_;rintro e w' ⟨rfl,hb⟩
    exact⟨_,rfl,rfl,hb.mono fun _ q=>q.elim⟩
  ·refine(zt3 Tryz.lays169 ToValid.bx B p l g c w h4 cs fz hg hnc hcm hcs (q8j hrep) h0).mono ?_;rintro e w' ⟨rfl,hb⟩
   refine⟨_,rfl,rfl,hb.mono fun k q => ?_⟩
   subst q;exact⟨1,.row .byte l 5,rfl,by simp only[Gh.at,h2]⟩
end Go.Sym
namespace Go.Sym
open Go.Proofs Go.RowKit
open Go.Proofs.Tryz
variable[LC]
def q77:Builder.Extra Tryz.prog Tryz.lays156_ren:=q76
def zo6{G:Gh}{w:World}(hm:b8 G [] w){l:List Bs}{u:Value}(sep:Bs)(hu:aj (.sl .str l) G u)(d1:l.length<=140737488355328)(d2:(Lib.join l sep).length<=140737488355328) :
  Calls Tryz.prog 118 #[u,.string ⟨sep.toArray⟩] w fun e w'=>e = .returned (.string ⟨(Lib.join l sep).toArray⟩)/\db w w':=by
 obtain⟨p,c,rfl,hc,hp⟩:nu 1 (Ty.str.At G.imm) l u:=hu;by_cases hl:l=[]
 ·subst hl;exact(Any.strings_Join_none Tryz.lays156 q77 p c ⟨sep.toArray⟩ w).mono fun e w'⟨he,hw⟩=>⟨he,hw▸db.refl _⟩
 ·rcases hp with h|⟨g,o,rfl,hcells⟩
  ·exact absurd h hl
  have e:(l.map fun s:Bs=>(⟨s.toArray⟩:ByteArray)).map (·.data.toList)=l:=by
   rw[List.map_map];exact(List.map_congr_left fun s _=>rfl).trans (List.map_id l)
  have hcl:∀(j:Nat) x,(l.map fun s:Bs=>(⟨s.toArray⟩:ByteArray))[j]? = some x->w.cell? ⟨g,o+j,none⟩=some (.string x):=fun j x hx=>by
   rw[List.getElem?_map]at hx;obtain⟨s,hs,rfl⟩:=Option.map_eq_some_iff.1 hx;have h1:G.imm g (o+j*1)=some (.string ⟨s.toArray⟩):=hcells j s hs;rw[Nat.mul_one]at h1;exact hm.agree _ _ _ h1
  have hlt:g<w.heap.size:=by
   obtain⟨x,t,rfl⟩:=List.exists_cons_of_ne_nil hl;exact World.block_lt_of_cell? _ _ (hcl 0 ⟨x.toArray⟩ rfl)
  have key:=Any.strings_Join Tryz.lays156 q77 g o c (l.map fun s:Bs=>(⟨s.toArray⟩:ByteArray)) ⟨sep.toArray⟩ w hcl hlt (by rw[wC];exact d1) (by rw[wC];exact hc) (by rw[e];exact d2)
  rw[e,wC]at key;exact key.mono fun e w'⟨he,hw⟩=>⟨he,db.of_below hw⟩
def qbi:IF:=⟨.fn 118,[.h (.list .str),.h .str],[],_,RS.mk (.h .str) []⟩
def qfe:(qbi.e fw).Sound Tryz.prog:=fun d d' r h=>by
 obtain⟨l,s,_⟩:=d;have h:fw l s=some r:=h;unfold fw at h;cases hd:decide (List.length (α:=Bs) l<=140737488355328/\List.length (Lib.join l s)<=140737488355328)<;>rw[hd]at h<;>simp only[qT,qF,reduceCtorEq]at h
 have h:=qJ h;subst h;obtain⟨d1,d2⟩:=of_decide_eq_true hd;refine⟨call118,ci.data fun w G vs hm hr => ?_⟩
 match vs,hr with
 |[u,v],⟨h1,h2,_⟩=>
  have h2:v = .string ⟨s.toArray⟩:=h2;subst h2;exact(zo6 hm s h1 d1 d2).mono fun e w'⟨he,hw⟩=>⟨_,he,rfl,hw⟩
def szl(a:Bs)(h:a.length<4294967281):(⟨a.toArray⟩:ByteArray).size<4294967281:=by rw[kj];exact h
def q1y:IF:=⟨.fn 183,[.h .str,.h .str],[],_,RS.mk (.h (.int .i64)) []⟩
def zee(hi:2∈LC.ints):(q1y.e ju).Sound Tryz.prog:=fun d d' r h=>by
 obtain⟨a,b,_⟩:=d;have h:ju a b=some r:=h;unfold ju at h;cases hd:decide (List.length (α:=UInt8) a<4294967281)<;>rw[hd]at h<;>simp only[qT,qF,reduceCtorEq]at h
 have h:=qJ h;subst h;have hd:=of_decide_eq_true hd;refine⟨call183,ci.data fun w G vs hm hr => ?_⟩
 match vs,hr with
 |[u,v],⟨h1,h2,_⟩=>
  have h1:u = .string ⟨a.toArray⟩:=h1;have h2:v = .string ⟨b.toArray⟩:=h2;subst h1 h2;obtain⟨k,hk⟩:=hm.tab.2.1 _ hi;have hk:=hm.agree _ _ _ hk;exact(Any.stringslite_Index Tryz.lays219 ⟨a.toArray⟩ ⟨b.toArray⟩ k w (szl a hd) hk).mono fun e w'⟨he,hw⟩=>⟨_,he,rfl,hw▸db.refl _⟩
def zmt(s:Bs):Lib.decodeGo ⟨s.toArray⟩=qev s:=by
 unfold Lib.decodeGo qev
 cases s with|nil=>rfl|cons c s=>rw[qW (by simp[ByteArray.size]),qW oC,← Lib.decodeL_drop];rfl
def zmu{G:Gh}{w:World}(hm:b8 G [] w){t0:List UInt8}{t1:List (UInt8×UInt8)}(h0:LC.glob 0=some ⟨.byte,t0⟩)(h1:LC.glob 1=some ⟨.prod .byte .byte,t1⟩)(e0:qem t0=true)(e1:qen t1=true)(s:Bs) :
  Calls Tryz.prog 211 #[.string ⟨s.toArray⟩] w fun e w'=>e = .returned (.tuple #[.int .i32 (qev s).1,.int .i64 (qev s).2])/\db w w':=by
 have k:=ToValid.decC ⟨s.toArray⟩ w (zfn hm h0 h1 e0 e1);rw[zmt]at k;exact k.mono fun e w'⟨he,hw⟩=>⟨he,db.of_below hw⟩
def wm:IF:=⟨.fn 211,[.h .str],[],_,RS.mk (.tup [.h (.int .i32),.h (.int .i64)]) []⟩
def yl{t0:List UInt8}{t1:List (UInt8×UInt8)}(h0:LC.glob 0=some ⟨.byte,t0⟩)(h1:LC.glob 1=some ⟨.prod .byte .byte,t1⟩)(e0:qem t0=true)(e1:qen t1=true):(wm.e g9).Sound Tryz.prog:=fun d d' r h=>by
 obtain⟨s,_⟩:=d;have h:g9 s=some r:=h;unfold g9 at h;have h:=qJ h;subst h;refine⟨call211,ci.data fun w G vs hm hr => ?_⟩
 match vs,hr with
 |[u],⟨h1',_⟩=>
  have h1':u = .string ⟨s.toArray⟩:=h1';subst h1';exact(zmu hm h0 h1 e0 e1 s).mono fun e w'⟨he,hw⟩=>⟨_,he,⟨_,rfl,rfl,rfl,trivial⟩,hw⟩
end Go.Sym
namespace Go.Sym
open Go.Proofs Go.RowKit Go.Sort
open Go.Proofs.Tryz
variable[LC]
def qxu:IF:=⟨.fn 156,[.h .str],[],_,.two (RS.mk (.tup [.h (.int .i64),.c .nilIface]) []) (RS.mk (.tup [.h (.int .i64),.ifc 272 .u]) [])⟩
def q70(h1:4∈LC.ifs)(h2:5∈LC.ifs):(qxu.e vd).Sound Tryz.prog:=fun d d' r h=>by
 obtain⟨s,_⟩:=d;have h:vd s=some r:=h;unfold vd at h;cases hd:decide (List.length (α:=UInt8) s<=281474976710656)<;>rw[hd]at h<;>simp only[qT,qF,reduceCtorEq]at h
 have hl:List.length (α:=UInt8) s<=281474976710656:=of_decide_eq_true hd;have h:=qJ h;subst h;have hsz:(⟨List.toArray (α:=UInt8) s⟩:ByteArray).size=List.length (α:=UInt8) s:=kj s;have hdt:(⟨List.toArray (α:=UInt8) s⟩:ByteArray).data.toList=s:=by simp;rfl
 cases hA:Lib.atoiAll s with
 |ok v=>
  have e0:wb s = .inl v:=by unfold wb;rw[hA]
  rw[e0];refine⟨call156,ci.data fun w G vs hm hr => ?_⟩
  match vs,hr with
  |[u],⟨e1,_⟩=>
   have e1:u = .string ⟨List.toArray s⟩:=e1;subst e1;refine(Any.strconv_Atoi_ok Tryz.laysC172 ⟨List.toArray (α:=UInt8) s⟩ oA v (by rw[hdt];exact hA) w).mono fun e w'⟨he,hw⟩=>⟨_,he,⟨_,rfl,rfl,rfl,trivial⟩,?_⟩
   rcases hw with rfl|⟨t,rfl⟩
   ·exact db.refl _
   ·refine⟨rfl,rfl,rfl,?_,fun j hj _ => ?_⟩
    ·simp[Lib.bytesWorld,World.freeze]
    ·show((w.heap.push _).modify w.heap.size _)[j]? = _;rw[Array.getElem?_modify,qW oA,Array.getElem?_push_lt oA]
     exact(Array.getElem?_eq_getElem hj).symm
 |range=>
  have e0:wb s = .inr (Lib.atoiSat s):=by unfold wb;rw[hA]
  rw[e0];refine⟨call156,ci.data fun w G vs hm hr => ?_⟩
  match vs,hr with
  |[u],⟨e1,_⟩=>
   have e1:u = .string ⟨List.toArray s⟩:=e1;subst e1;obtain⟨te,pe,hv⟩:=hm.tab.2.2.1 _ h2;exact(Any.strconv_Atoi_range Tryz.laysC172 ⟨List.toArray (α:=UInt8) s⟩ oA (by rw[hdt];exact hA) _ w (hm.agree _ _ _ hv) (.inr ⟨_,_,rfl⟩)).mono fun e w'⟨N,he,_,_,hw⟩=>⟨_,he,⟨_,rfl,by rw[hdt];rfl,⟨_,rfl,trivial⟩,trivial⟩,db.of_below hw⟩
 |_=>
  have e0:wb s = .inr 0:=by unfold wb;rw[hA]
  rw[e0];refine⟨call156,ci.data fun w G vs hm hr => ?_⟩
  match vs,hr with
  |[u],⟨e1,_⟩=>
   have e1:u = .string ⟨List.toArray s⟩:=e1;subst e1;obtain⟨te,pe,hv⟩:=hm.tab.2.2.1 _ h1;exact(Any.strconv_Atoi_syntax Tryz.laysC172 ⟨List.toArray (α:=UInt8) s⟩ oA (by rw[hdt];exact hA) _ w (hm.agree _ _ _ hv) (.inr ⟨_,_,rfl⟩)).mono fun e w'⟨N,he,_,_,hw⟩=>⟨_,he,⟨_,rfl,rfl,⟨_,rfl,trivial⟩,trivial⟩,db.of_below hw⟩
end Go.Sym
namespace Go.Proofs
open Go.Sym(oB)
open Go.Shelf
def Tryz.lays189_ren:Go.Shelf.Ren:=⟨fun|189=>88|125=>150|257=>149|128=>208|129=>209|294=>200|295=>201|296=>202|297=>203|298=>204|299=>205|216=>163|300=>206|301=>207|328=>251|329=>252|330=>253|331=>254|332=>255|215=>219|343=>302|n=>n,fun|28=>33|3=>3|46=>176|0=>0|51=>210|53=>132|4=>4|183=>238|182=>237|131=>143|5=>5|9=>9|218=>263|222=>267|228=>311|229=>95|n=>n,fun|n=>n⟩
def Tryz.lays189:Go.Proofs.Lays.n189 Tryz.prog Tryz.lays189_ren:={
 mixed:=oB
 f125:=Tryz.func150.trans (congrArg some oB)
 f128:=Tryz.func208.trans (congrArg some oB)
 f129:=Tryz.func209.trans (congrArg some oB)
 f189:=Tryz.func88.trans (congrArg some oB)
 f215:=Tryz.func219.trans (congrArg some oB)
 f216:=Tryz.func163.trans (congrArg some oB)
 f257:=Tryz.func149.trans (congrArg some oB)
 f294:=Tryz.func200.trans (congrArg some oB)
 f295:=Tryz.func201.trans (congrArg some oB)
 f296:=Tryz.func202.trans (congrArg some oB)
 f297:=Tryz.func203.trans (congrArg some oB)
 f298:=Tryz.func204.trans (congrArg some oB)
 f299:=Tryz.func205.trans (congrArg some oB)
 f300:=Tryz.func206.trans (congrArg some oB)
 f301:=Tryz.func207.trans (congrArg some oB)
 f328:=Tryz.func251.trans (congrArg some oB)
 f329:=Tryz.func252.trans (congrArg some oB)
 f330:=Tryz.func253.trans (congrArg some oB)
 f331:=Tryz.func254.trans (congrArg some oB)
 f332:=Tryz.func255.trans (congrArg some oB)
 f343:=Tryz.func302.trans (congrArg some oB)
 t0:=Tryz.underlying0
 a0:=Tryz.isAgg0
 z0:=Tryz.sizeOf0
 v0:=Tryz.zeroValue0
 t3:=Tryz.underlying3
 a3:=Tryz.isAgg3
 z3:=Tryz.sizeOf3
 v3:=Tryz.zeroValue3
 t4:=Tryz.underlying4
 a4:=Tryz.isAgg4
 z4:=Tryz.sizeOf4
 v4:=Tryz.zeroValue4
 t5:=Tryz.underlying5
 a5:=Tryz.isAgg5
 z5:=Tryz.sizeOf5
 v5:=Tryz.zeroValue5
 t9:=Tryz.underlying9
 a9:=Tryz.isAgg9
 z9:=Tryz.sizeOf9
 v9:=Tryz.zeroValue9
 t28:=Tryz.underlying33
 a28:=Tryz.isAgg33
 z28:=Tryz.sizeOf33
 v28:=Tryz.zeroValue33
 t46:=Tryz.underlying176
 a46:=Tryz.isAgg176
 z46:=Tryz.sizeOf176
 v46:=Tryz.zeroValue176
 t51:=Tryz.underlying210
 a51:=Tryz.isAgg210
 z51:=Tryz.sizeOf210
 v51:=Tryz.zeroValue210
 t53:=Tryz.underlying132
 a53:=Tryz.isAgg132
 z53:=Tryz.sizeOf132
 v53:=Tryz.zeroValue132
 t131:=Tryz.underlying143
 a131:=Tryz.isAgg143
 z131:=Tryz.sizeOf143
 v131:=Tryz.zeroValue143
 t182:=Tryz.underlying237
 a182:=Tryz.isAgg237
 z182:=Tryz.sizeOf237
 v182:=Tryz.zeroValue237
 t183:=Tryz.underlying238
 a183:=Tryz.isAgg238
 z183:=Tryz.sizeOf238
 v183:=Tryz.zeroValue238
 t218:=Tryz.underlying263
 a218:=Tryz.isAgg263
 z218:=Tryz.sizeOf263
 v218:=Tryz.zeroValue263
 t222:=Tryz.underlying267
 a222:=Tryz.isAgg267
 z222:=Tryz.sizeOf267
 v222:=Tryz.zeroValue267
 t228:=Tryz.underlying311
 a228:=Tryz.isAgg311
 z228:=Tryz.sizeOf311
 v228:=Tryz.zeroValue311
 t229:=Tryz.underlying95
 a229:=Tryz.isAgg95
 z229:=Tryz.sizeOf95
 v229:=Tryz.zeroValue95 }
def Tryz.laysNm220_ren:Go.Shelf.Ren:=⟨fun|20=>108|n=>n,fun|22=>33|3=>3|4=>4|0=>0|n=>n,fun|n=>n⟩
def Tryz.laysNm220:Go.Proofs.Lays2.n20 Tryz.prog Tryz.laysNm220_ren:={
 mixed:=oB
 f20:=Tryz.func108.trans (congrArg some oB)
 t0:=Tryz.underlying0
 a0:=Tryz.isAgg0
 z0:=Tryz.sizeOf0
 v0:=Tryz.zeroValue0
 t3:=Tryz.underlying3
 a3:=Tryz.isAgg3
 z3:=Tryz.sizeOf3
 v3:=Tryz.zeroValue3
 t4:=Tryz.underlying4
 a4:=Tryz.isAgg4
 z4:=Tryz.sizeOf4
 v4:=Tryz.zeroValue4
 t22:=Tryz.underlying33
 a22:=Tryz.isAgg33
 z22:=Tryz.sizeOf33
 v22:=Tryz.zeroValue33
 i3:=by kernel_rfl }
end Go.Proofs
namespace Go.Sym
open Go.RowKit
def cm.cv{L L':LC}(h:LC.Same L L'){G:Gh}{w:World}{n:Nat}{bx:ag}(k:@cm L G w n bx):@cm L' G w n bx:=by
 cases bx with
 |loop st pe f m fr ps tag D=>
  obtain⟨B,tmps,DB,h1,h2,⟨asn,bo,h3,h4⟩,h5⟩:=k;exact⟨B,tmps,DB,h1,h2,⟨asn,bo,by rw[h.lc];exact h3,h4⟩,h5⟩
 |_=>exact k
def LC.tab_cv{L L':LC}(h:LC.Same L L'){m:Nat->Nat->Option Value}{w:World}(k:@LC.tab L m w):@LC.tab L' m w:=by
 unfold LC.tab at k ⊢;rw[h.glob,h.ints,h.ifs,h.sizes];exact k
def b8.cv{L L':LC}(h:LC.Same L L'){G:Gh}{hp:List (Nat×ag)}{w:World}(k:@b8 L G hp w):@b8 L' G hp w:=
 @b8.mk L' _ _ _ (@b8.agree L _ _ _ k) (@b8.one L _ _ _ k) (fun n bx hb=>cm.cv h (@b8.holds L _ _ _ k n bx hb)) (@b8.apart L _ _ _ k) (LC.tab_cv h (@b8.tab L _ _ _ k))
def Fin.cv{L L':LC}(h:LC.Same L L'){z5m:World}{z5g:Gh}{z5j:List (Nat×ag)}{G:Gh}{hp:List (Nat×ag)}{w:World}(k:@Fin L z5m z5g z5j G hp w):@Fin L' z5m z5g z5j G hp w:=
 @Fin.mk L' _ _ _ _ _ _ (b8.cv h (@Fin.mem L _ _ _ _ _ _ k)) (@Fin.bel L _ _ _ _ _ _ k) (@Fin.imm_le L _ _ _ _ _ _ k) (@Fin.imm_new L _ _ _ _ _ _ k) (@Fin.base L _ _ _ _ _ _ k) (@Fin.keep L _ _ _ _ _ _ k) (@Fin.keepOwn L _ _ _ _ _ _ k)
def LC.Same.symm{L L':LC}(h:LC.Same L L'):LC.Same L' L:=⟨h.lc.symm,h.glob.symm,h.ints.symm,h.ifs.symm,h.sizes.symm⟩
def kv.cv{L L':LC}(h:LC.Same L L'){z5m:World}{z5g:Gh}{z5j:List (Nat×ag)}{r:AV}{hp:List (Nat×ag)}{e:Ending}{w:World}(k:@kv L z5m z5g z5j r hp e w):@kv L' z5m z5g z5j r hp e w:=by
 obtain⟨v,G,h1,h2,h3⟩:=k;exact⟨v,G,h1,Fin.cv h h2,h3⟩
def ci.cv{L L':LC}(h:LC.Same L L'){P:Program}{f:FuncId}{xs:List AV}{hp:List (Nat×ag)}{r:AV}{hp':List (Nat×ag)}(k:@ci L P f xs hp r hp'):@ci L' P f xs hp r hp':=
 fun w G vs hm hr=>(k w G vs (b8.cv h.symm hm) hr).mono fun _ _ q=>kv.cv h q
def cf.Sound.cv{L L':LC}(h:LC.Same L L'){P:Program}{e:cf}(k:@cf.Sound L P e):@cf.Sound L' P e:=by
 intro d d' r hr;have:=k d d' r hr
 cases hk:e.key with
 |fn f=>rw[hk]at this;exact⟨this.1,ci.cv h this.2⟩|yld m=>
  rw[hk]at this;intro w G vs B hm hrs hB;obtain⟨lp,h1,h2⟩:=this w G vs B (b8.cv h.symm hm) hrs hB;exact⟨lp,h1,fun c cs=>by
   obtain⟨h3,v,w',h4,h5⟩:=h2 c cs;exact⟨h3,v,w',kv.cv h h4,h5⟩⟩
 |ext f=>rw[hk]at this;exact fun w G vs hm hrs=>this w G vs (b8.cv h.symm hm) hrs
 |thr f ks=>
  rw[hk]at this;refine⟨this.1,?_⟩;have h2:=this.2
  cases hm:lr (e.out.res r).1 with
  |none=>rw[hm]at h2;exact ci.cv h h2|some x=>
   rw[hm]at h2;exact fun w G vs hmm hrs=>(h2 w G vs (b8.cv h.symm hmm) hrs).mono fun _ _⟨q1,G',q2⟩=>⟨q1,G',Fin.cv h q2⟩
def EP.cv{L L':LC}{P:Program}(x:@EP L P)(h:LC.Same L L':=by exact⟨rfl,rfl,rfl,rfl,rfl⟩):@EP L' P:=@EP.mk L' P (@EP.e L P x) (cf.Sound.cv h (@EP.h L P x))
end Go.Sym
namespace Go.Proofs
open Go.Shelf
open Go.Sort Go.RowKit in
def Tryz.slices_Sort_int(blk off cap:Nat)(zs:List Int)(w:World)(hH:Holds (Value.int .i64) w blk off zs.toArray)(hblk:blk<w.heap.size)(hsz:zs.length<4611686018427387904) :
  Calls Tryz.prog 88 #[.slice (some ⟨blk,off,none⟩) zs.length cap] w fun e w'=>
   e = .returned (.tuple #[])/\∃n os,w'=grow (putRow (Value.int .i64) (Sort.ahead w n) blk off (zs.mergeSort fun x y=>decide (x<=y)).toArray) os:=Any.slices_Sort_int Tryz.lays189 blk off cap zs w hH hblk hsz
def Tryz.slices_Sort_int_none(p:Option Addr)(cap:Nat)(w:World) :
  Calls Tryz.prog 88 #[.slice p 0 cap] w fun e w'=>e = .returned (.tuple #[])/\w'=w:=Any.slices_Sort_int_none Tryz.lays189 p cap w
open Go.RowKit Go.Lib Go.Sort in
def Tryz.slices_Compact_int(blk off cap:Nat)(zs:List Int)(w:World)(hH:Holds (Value.int .i64) w blk off zs.toArray)(hsz:zs.length<=9223372036854775807)(hcap:zs.length<=cap) :
  Calls Tryz.prog 108 #[.slice (some ⟨blk,off,none⟩) zs.length cap] w fun e w'=>e = .returned (.slice (some ⟨blk,off,none⟩) (Lib.compact zs).length cap)/\∃q,w'=putRow (Value.int .i64) (Sort.ahead w q) blk off (Lib.compact zs++List.replicate (zs.length-(Lib.compact zs).length) 0).toArray:=Any.slices_Compact_int Tryz.laysNm220 blk off cap zs w hH hsz hcap
open Go.RowKit Go.Lib Go.Sort in
def Tryz.slices_Compact_int_empty(a:Option Addr)(cap:Nat)(w:World) :
  Calls Tryz.prog 108 #[.slice a 0 cap] w fun e w'=>e = .returned (.slice a 0 cap)/\w'=w:=Any.slices_Compact_int_empty Tryz.laysNm220 a cap w
end Go.Proofs
namespace Go.Sym
open Go.Proofs Go.Sort Go.RowKit
open Go.Proofs.Tryz
variable[LC]
def ci.inPlace{P:Program}{f:FuncId}{τ:Ty}{l l':List τ.den}{E:TypeId}(ac:l'.length=l.length)(h:∀(w:World)(G:Gh)(ad:Option Addr)(c:Nat)(us:List Value),iq w E τ.sz ad l.length c us->am (l.flatMap τ.enc) G.data us ->
  Calls P f #[.slice ad l.length c] w fun e w'=>e = .returned (.tuple #[])/\∃us',iq w' E τ.sz ad l.length c us'/\am (l'.flatMap τ.enc) G.data us'/\bw (fun b=>dt ad=some b) w w') :
  ci P f [.own 0] [(0,.row τ l E)] (.tup []) [(0,.row τ l' E)]:=by
 intro w G vs hm hreps;have hl:ae [(0,ag.row τ l E)] 0=some (.row τ l E):=rfl;obtain⟨ad,c,us,h1,h3,h4,h5⟩:=(hm.holds 0 _ hl).rowAt
 match vs,hreps with
 |[v],hreps=>
  obtain⟨⟨a',n',c',q1,rfl⟩,_⟩:=hreps;rw[h1]at q1;simp only[qI,qP]at q1;obtain⟨rfl,rfl,rfl⟩:=q1;refine(h w G ad c us h3 h4).mono ?_;rintro e w' ⟨rfl,us',r1,r2,r3⟩
  refine⟨_,G,rfl,?_,#[],rfl,trivial⟩;have hself:=we hm;have hbox:cm G w' 0 (.row τ l' E):=cm.row (by rw[ac];exact h1) (by rw[ac];exact r1) r2 (fun b hb=>h5 b hb)
  cases had:dt ad with
  |none=>
   have hst:db w w':=⟨r3.os,r3.tape,r3.output,r3.size,fun k hk _=>r3.block k hk (fun e=>by rw[had]at e;cases e)⟩
   have hf:=hself.extend (new:=[]) (Gh.le.refl G) hst (fun _ _ _ h => .inl h) (fun b o v hv=>by
    have hc:=hm.agree b o v hv;have hlt:=World.block_lt_of_cell? _ _ hc;rw[World.cell?_of_block (w:=w) (hst.block b hlt (fun h=>h))];exact hc) hm.one (fun n bx h=>by cases h) (fun n bx h=>by cases h) (fun n m bx bx' b h=>by cases h)
   have hlk:∀m b,ae [(0,ag.row τ l' E)] m=some b->m=0/\b = .row τ l' E:=fun m b hh=>by
    simp only[ae]at hh;cases hb:Nat.beq 0 m
    ·rw[hb]at hh;cases hh
    ·rw[hb]at hh;simp only[qT,qI]at hh;exact⟨(qN hb).symm,hh.symm⟩
   have hat:G.at 0 (.row τ l' E)=none:=by
    simp only[Gh.at,h1]
    cases ad with|none=>rfl|some a=>cases had
   refine⟨⟨hf.mem.agree,hf.mem.one,fun m b hh => ?_,fun m m' b b' c h1 h2 h3 _ => ?_,hf.mem.tab⟩,hf.bel,hf.imm_le,hf.imm_new,fun m b c h1 h2 => ?_,hf.keep,hf.keepOwn⟩
   ·obtain⟨rfl,rfl⟩:=hlk m b hh;exact hbox
   ·obtain⟨rfl,_⟩:=hlk m b h1;obtain⟨rfl,_⟩:=hlk m' b' h2;rfl
   ·obtain⟨rfl,rfl⟩:=hlk m b h1;rw[hat]at h2;cases h2
  |some B=>
   have hat:∀l:List τ.den,G.at 0 (.row τ l E)=some B:=fun l=>by
    simp only[Gh.at,h1]
    cases ad with
    |none=>cases had
    |some a=>exact had
   have hf:=hself.update (bx' := .row τ l' E) hl (hat l) (hat l') ⟨r3.os,r3.tape,r3.output,r3.size,fun k hk hne=>r3.block k hk (fun e=>by rw[had]at e;injection e with e;exact hne e.symm)⟩ hbox (h5 B had)
   have hlk:∀m b,ae [(0,ag.row τ l' E)] m=some b->ae (um [(0,ag.row τ l E)] 0 (.row τ l' E)) m=some b:=fun m b hh=>by
    simp only[ae]at hh;simp only[um,ae];cases hb:Nat.beq 0 m
    ·rw[hb]at hh;cases hh
    ·rw[hb]at hh;exact hh
   exact⟨⟨hf.mem.agree,hf.mem.one,fun m b hh=>hf.mem.holds m b (hlk m b hh),fun m m' b b' c h1 h2 h3 h4=>hf.mem.apart m m' b b' c (hlk _ _ h1) (hlk _ _ h2) h3 h4,hf.mem.tab⟩,hf.bel,hf.imm_le,hf.imm_new,fun m b c h1 h2=>hf.base m b c (hlk _ _ h1) h2,hf.keep,hf.keepOwn⟩
 |[],hreps=>exact hreps.elim|_::_::_,hreps=>exact hreps.2.elim
def zrm(w:World)(n g:Nat)(d:Array Int)(os:Array Obj)(k:Nat)(hk:k<w.heap.size)(hne:k≠g):(grow (putRow (Value.int .i64) (Sort.ahead w n) g 0 d) os).heap[k]? = w.heap[k]? := by
 show((w.heap.modify g (onCells (putCells (Value.int .i64) 0 d)))++os)[k]? = _;rw[Array.getElem?_append_left (by simpa using hk),Array.getElem?_modify,qW oA]
def zrn(w:World)(n g:Nat)(d:Array Int)(os:Array Obj){cur:Array Value}{e:TypeId}{fr:Nat×Nat}(hh:w.heap[g]? = some (.cells cur e fr)) :
  (grow (putRow (Value.int .i64) (Sort.ahead w n) g 0 d) os).heap[g]? = some (.cells (putCells (Value.int .i64) 0 d cur) e fr):=by
 have hg:g<w.heap.size:=(Array.getElem?_eq_some_iff.1 hh).1;show((w.heap.modify g (onCells (putCells (Value.int .i64) 0 d)))++os)[g]? = _;rw[Array.getElem?_append_left (by simpa using hg),Array.getElem?_modify,qX rfl,hh]
 rfl
def zc9(zs:List Int)(cur:Array Value)(h:zs.length<=cur.size):(putCells (Value.int .i64) 0 zs.toArray cur).toList.take zs.length=zs.map (Value.int .i64):=by
 apply List.ext_getElem?;intro j;rw[List.getElem?_take,List.getElem?_map];by_cases hj:j<zs.length
 ·rw[qX hj,Array.getElem?_toList];unfold putCells;rw[Array.getElem?_mapIdx,Array.getElem?_eq_getElem oA]
  simp[hj]
 ·rw[qW hj,List.getElem?_eq_none oA];rfl
def zro(w:World)(n g:Nat)(d:Array Int)(os:Array Obj):w.heap.size<=(grow (putRow (Value.int .i64) (Sort.ahead w n) g 0 d) os).heap.size:=by
 show w.heap.size<=((w.heap.modify g (onCells (putCells (Value.int .i64) 0 d)))++os).size;simp
def zc8(zs:List Int)(cur:Array Value)(v:Value)(hv:v∈(putCells (Value.int .i64) 0 zs.toArray cur).toList):v∈cur.toList\/∃n,v = .int .i64 n:=by
 unfold putCells at hv;rw[Array.mem_toList_iff,Array.mem_mapIdx]at hv;obtain⟨j,hj,rfl⟩:=hv;split
 ·exact .inr ⟨_,rfl⟩
 ·exact .inl oC
def qzf:∀(l:List Int),List.flatMap (β:=AV) (Ty.int .i64).enc l=l.map (AV.int .i64)
 |[]=>rfl|c::b=>congrArg (AV.int .i64 c::·) (qzf b)
def q1l{G:Gh}:∀{l:List Int}{us:List Value},am (l.map (AV.int .i64)) G us->us=l.map (Value.int .i64)
 |[],[],_=>rfl|c::b,u::us,h=>by
  have h1:u = .int .i64 c:=h.1;rw[List.map_cons,← q1l h.2,h1]
 |[],_::_,h=>h.elim|_::_,[],h=>h.elim
def q1m{G:Gh}:∀(l:List Int),am (l.map (AV.int .i64)) G (l.map (Value.int .i64))|[]=>trivial|_::b=>⟨rfl,q1m b⟩
def zeg(l:List Int):(jk l).length=l.length:=List.length_mergeSort l
def zak{w:World}{g c:Nat}{vs:Array Value}{fz:Nat×Nat}{E:TypeId}{l:List Int}{us:List Value}(h2:w.heap[g]? = some (.cells vs E fz))(h3:fz=(0,0)\/vs.size<=fz.1)(h4:l.length<=c)(h6:vs.size=c)(h7:vs.toList.take l.length=us)(hus:us=l.map (Value.int .i64)):Holds (Value.int .i64) w g 0 l.toArray:=by
 intro j hj;have hj':j<l.length:=by simpa using hj
 have hjv:j<vs.size:=oA
 refine⟨?_,?_⟩
 ·have hc:(vs.toList.take l.length)[j]? = some (.int .i64 l[j]):=by
   rw[h7,hus,List.getElem?_map,List.getElem?_eq_getElem hj'];rfl
  rw[List.getElem?_take,qX hj']at hc;simp only[World.cell?,h2,wO];simpa [hj'] using hc
 ·simp only[World.frozen?,h2];rcases h3 with rfl|h3
  ·simp
  ·simp;omega
def z5d(l:List Int)(ac:l.length<=aw):ci Tryz.prog 88 [.own 0] [(0,.row (.int .i64) l 3)] (.tup []) [(0,.row (.int .i64) (jk l) 3)]:=by
 unfold aw at ac;refine ci.inPlace (τ := .int .i64) (l:=l) (l':=jk l) (zeg l) (fun w G ad c us hrow hreps => ?_)
 rw[qzf]at hreps ⊢;have hus:=q1l hreps;obtain⟨hul,hrow⟩:=hrow;rcases hrow with⟨rfl,h2,rfl⟩|⟨g,vs,fz,rfl,h2,h3,h4,h5,h6,h7,h8⟩
 ·have hl:l=[]:=List.eq_nil_of_length_eq_zero h2;subst hl;refine(Tryz.slices_Sort_int_none none 0 w).mono ?_;rintro e w' ⟨rfl,rfl⟩
  exact⟨rfl,us,⟨hul,.inl ⟨rfl,rfl,rfl⟩⟩,by rw[hus];simp[jk,am],⟨rfl,rfl,rfl,wF _,fun _ _ _=>rfl⟩⟩
 ·by_cases hne:l=[]
  ·subst hne;refine(Tryz.slices_Sort_int_none (some ⟨g,0,none⟩) c w).mono ?_;rintro e w' ⟨rfl,rfl⟩
   exact⟨rfl,us,⟨hul,.inr ⟨g,vs,fz,rfl,h2,h3,h4,h5,h6,h7,h8⟩⟩,by rw[hus];simp[jk,am],⟨rfl,rfl,rfl,wF _,fun _ _ _=>rfl⟩⟩
  ·have hlt:g<w.heap.size:=(Array.getElem?_eq_some_iff.1 h2).1;simp only[Ty.sz,Nat.mul_one]at h6 h7;have hH:=zak h2 h3 h4 h6 h7 hus;refine(Tryz.slices_Sort_int g 0 c l w hH hlt oA).mono ?_
   rintro e w' ⟨rfl,n,os,rfl⟩
   have hl:=zeg l;refine⟨rfl,(jk l).map (Value.int .i64),⟨by show((jk l).map (Value.int .i64)).length=List.length (α:=Int) l*1;rw[wC,hl,Nat.mul_one],.inr ⟨g,putCells (Value.int .i64) 0 (jk l).toArray vs,fz,rfl,zrn w n g _ os h2,?_,h4,h5,?_,?_,?_⟩⟩,q1m _,⟨rfl,rfl,rfl,zro w n g _ os,fun k hk hne=>zrm w n g _ os k hk (fun e=>hne (by subst e;rfl))⟩⟩
   ·have:(putCells (Value.int .i64) 0 (jk l).toArray vs).size=vs.size:=by unfold putCells;rw[Array.size_mapIdx]
    rw[this];exact h3
   ·unfold putCells;rw[Array.size_mapIdx];show vs.size=c*1;omega
   ·show List.take (List.length (α:=Int) l*1) _=_;rw[Nat.mul_one,← hl];exact zc9 _ vs (by rw[hl];have h4':List.length (α:=Int) l<=c:=h4;omega)
   ·intro v hv;rcases zc8 _ _ _ hv with h|⟨m,rfl⟩
    ·exact h8 v h
    ·rfl
def qvl(r:(List Int)->Option qwv):cf:={ key := .fn 88,args:=[.own 0],hp:=[(0,.row (.int .i64) 3)],R:=qwv,F:=fun _ d'=>r d'.1,out := .one (α:=List Int) (.tup []) [(0,.row (.int .i64) 3)] (fun r=>((),(r,()))) (fun y=>y.2.1) (fun _=>rfl) }
def q5u:(qvl vl).Sound Tryz.prog:=fun d d' r h=>by
 refine⟨call88,?_⟩;have h:(bif decide (List.length (α:=Int) d'.1<=aw) then some (jk d'.1) else none)=some r:=h
 cases hd:decide (List.length (α:=Int) d'.1<=aw)<;>rw[hd]at h
 ·cases h
 have h:=qJ h;subst h;exact z5d d'.1 (of_decide_eq_true hd)
def zl9(l:List Int):(kw l).length<=l.length:=by
 unfold kw Lib.compact Lib.compactUpTo;rw[wC];exact Nat.le_trans (List.length_filter_le _ _) oC
def Fin.sub{z5m:World}{z5g:Gh}{z5j:List (Nat×ag)}{G:Gh}{hp l:List (Nat×ag)}{w:World}(hf:Fin z5m z5g z5j G hp w)(h:∀m b,ae l m=some b->ae hp m=some b):Fin z5m z5g z5j G l w:=
 ⟨⟨hf.mem.agree,hf.mem.one,fun m b hh=>hf.mem.holds m b (h m b hh),fun m m' b b' c h1 h2 h3 h4=>hf.mem.apart m m' b b' c (h _ _ h1) (h _ _ h2) h3 h4,hf.mem.tab⟩,hf.bel,hf.imm_le,hf.imm_new,fun m b c h1 h2=>hf.base m b c (h _ _ h1) h2,hf.keep,hf.keepOwn⟩
def ci.shorter{P:Program}{f:FuncId}{τ:Ty}{l l':List τ.den}{E:TypeId}(h:∀(w:World)(G:Gh)(ad:Option Addr)(c:Nat)(us:List Value),iq w E τ.sz ad l.length c us->am (l.flatMap τ.enc) G.data us ->
  Calls P f #[.slice ad l.length c] w fun e w'=>e = .returned (.slice ad l'.length c)/\∃us',iq w' E τ.sz ad l'.length c us'/\am (l'.flatMap τ.enc) G.data us'/\bw (fun b=>dt ad=some b) w w') :
  ci P f [.own 0] [(0,.row τ l E)] (.own 1) [(0,.dead),(1,.row τ l' E)]:=by
 intro w G vs hm hreps;have hl:ae [(0,ag.row τ l E)] 0=some (.row τ l E):=rfl;have hlk:∀m b,ae [(0,ag.row τ l E)] m=some b->m=0/\b = .row τ l E:=fun m b hh=>by
  simp only[ae]at hh;cases hb:Nat.beq 0 m
  ·rw[hb]at hh;cases hh
  ·rw[hb]at hh;simp only[qT,qI]at hh;exact⟨(qN hb).symm,hh.symm⟩
 have hin:∀n b,ae [(0,ag.row τ l E)] n=some b->au [(0,0)] n=some n/\d9 (au [(0,0)]) b=b:=fun n b hh=>by
  obtain⟨rfl,rfl⟩:=hlk n b hh;exact⟨rfl,rfl⟩
 have hm':=hm.only hin;obtain⟨ad,c,us,h1,h3,h4,h5⟩:=(hm'.holds 0 _ hl).rowAt;have h1':G.own 0=some (ad,l.length,c):=h1
 match vs,hreps with
 |[v],hreps=>
  obtain⟨⟨a',n',c',q1,rfl⟩,_⟩:=hreps;rw[h1']at q1;simp only[qI,qP]at q1;obtain⟨rfl,rfl,rfl⟩:=q1;refine(h w (G.view [(0,0)]) ad c us h3 h4).mono ?_;rintro e w' ⟨rfl,us',r1,r2,r3⟩
  have hf:=(we hm').take (k:=0) (k':=1) hl h1 rfl rfl h5 r3 (.inl rfl) r1 r2;refine⟨_,_,rfl,(hf.sub fun m b hh => ?_).only hin,ad,l'.length,c,Gh.addOwn_self,rfl⟩
  simp only[ae]at hh ⊢;cases hb:Nat.beq 0 m
  ·rw[hb]at hh;cases hb1:Nat.beq 1 m
   ·rw[hb1]at hh;cases hh
   ·rw[hb1]at hh;exact hh
  ·rw[hb]at hh;have:=qN hb;subst this;exact hh
 |[],hreps=>exact hreps.elim|_::_::_,hreps=>exact hreps.2.elim
def zju(w:World)(n g:Nat)(d:Array Int)(k:Nat)(hne:k≠g):(putRow (Value.int .i64) (Sort.ahead w n) g 0 d).heap[k]? = w.heap[k]? := by
 show(w.heap.modify g (onCells (putCells (Value.int .i64) 0 d)))[k]? = _;rw[Array.getElem?_modify,qW oA]
def zjv(w:World)(n g:Nat)(d:Array Int){cur:Array Value}{e:TypeId}{fr:Nat×Nat}(hh:w.heap[g]? = some (.cells cur e fr)) :
  (putRow (Value.int .i64) (Sort.ahead w n) g 0 d).heap[g]? = some (.cells (putCells (Value.int .i64) 0 d cur) e fr):=by
 show(w.heap.modify g (onCells (putCells (Value.int .i64) 0 d)))[g]? = _;rw[Array.getElem?_modify,qX rfl,hh];rfl
def zma(l:List Int)(ac:l.length<=aw):ci Tryz.prog 108 [.own 0] [(0,.row (.int .i64) l 3)] (.own 1) [(0,.dead),(1,.row (.int .i64) (kw l) 3)]:=by
 unfold aw at ac;refine ci.shorter (τ := .int .i64) (l:=l) (l':=kw l) (fun w G ad c us hrow hreps => ?_)
 rw[qzf]at hreps ⊢;have hus:=q1l hreps;obtain⟨hul,hrow⟩:=hrow;have hle:=zl9 l;by_cases hne:l=[]
 ·subst hne;have hc:kw []=[]:=List.eq_nil_of_length_eq_zero (by simpa using hle)
  rw[hc];refine(Tryz.slices_Compact_int_empty ad c w).mono ?_;rintro e w' ⟨rfl,rfl⟩
  exact⟨rfl,us,⟨hul,hrow⟩,by rw[hus];trivial,⟨rfl,rfl,rfl,wF _,fun _ _ _=>rfl⟩⟩
 ·rcases hrow with⟨rfl,h2,rfl⟩|⟨g,vs,fz,rfl,h2,h3,h4,h5,h6,h7,h8⟩
  ·exact absurd (List.eq_nil_of_length_eq_zero h2) hne
  ·have h4':l.length<=c:=h4;have h6':vs.size=c:=by have:vs.size=c*1:=h6;omega
   have h7':vs.toList.take l.length=us:=by have:vs.toList.take (l.length*1)=us:=h7;rwa [Nat.mul_one]at this
   have hH:=zak h2 h3 h4' h6' h7' hus;refine(Tryz.slices_Compact_int g 0 c l w hH oA h4').mono ?_
   rintro e w' ⟨rfl,q,rfl⟩
   obtain⟨d,hd⟩:∃d,d=kw l++List.replicate (l.length-(kw l).length) 0:=⟨_,rfl⟩;have hdl:d.length=l.length:=by rw[hd];simp;omega
   rw[show Lib.compact l++List.replicate (l.length-(Lib.compact l).length) 0=d from hd.symm]
   refine⟨rfl,(kw l).map (Value.int .i64),⟨by show((kw l).map (Value.int .i64)).length=(kw l).length*1;simp,.inr ⟨g,putCells (Value.int .i64) 0 d.toArray vs,fz,rfl,zjv w q g _ h2,?_,?_,h5,?_,?_,?_⟩⟩,q1m _,⟨rfl,rfl,rfl,?_,fun k _ hne=>zju w q g _ k (fun e=>hne (by subst e;rfl))⟩⟩
   ·have:(putCells (Value.int .i64) 0 d.toArray vs).size=vs.size:=by unfold putCells;rw[Array.size_mapIdx]
    rw[this];exact h3
   ·exact Nat.le_trans hle h4'
   ·unfold putCells;rw[Array.size_mapIdx];show vs.size=c*1;omega
   ·show List.take ((kw l).length*1) _=_;rw[Nat.mul_one];have e1:=zc9 d vs (by rw[hdl];omega)
    have e2:List.take (kw l).length (List.take d.length (putCells (Value.int .i64) 0 d.toArray vs).toList)=List.take (kw l).length (putCells (Value.int .i64) 0 d.toArray vs).toList:=by
     rw[List.take_take,Nat.min_eq_left oA]
    rw[← e2,e1,hd,List.map_append,List.take_append_of_le_length oC,List.take_of_length_le oC]
   ·intro v hv;rcases zc8 _ _ _ hv with h|⟨m,rfl⟩
    ·exact h8 v h
    ·rfl
   ·show w.heap.size<=(w.heap.modify g _).size;simp
def q5n(r:(List Int)->Option qwu):cf:={ key := .fn 108,args:=[.own 0],hp:=[(0,.row (.int .i64) 3)],R:=qwu,F:=fun _ d'=>r d'.1,out := .one (α:=List Int) (.own 1) [(0,.dead),(1,.row (.int .i64) 3)] (fun r=>((),((),(r,())))) (fun y=>y.2.2.1) (fun _=>rfl) }
def zik:(q5n qvc).Sound Tryz.prog:=fun d d' r h=>by
 refine⟨call108,?_⟩;have h:(bif decide (List.length (α:=Int) d'.1<=aw) then some (kw d'.1) else none)=some r:=h
 cases hd:decide (List.length (α:=Int) d'.1<=aw)<;>rw[hd]at h
 ·cases h
 have h:=qJ h;subst h;exact zma d'.1 (of_decide_eq_true hd)
end Go.Sym
namespace Go.Sym
open Go.RowKit
def ztz{P:Program}{b:Frame}{a:Act}{k:List Item}{cs:List Frame}{w:World}{ops:Array Oper}{i:Nat}{rest:List Nat}{o:Oper}{c:Call}{dd:Deferred}(ho:ops[i]? = some o)(hg:o.guard=none)(hop:o.op = .defer c)(hdst:o.dst=none)(hro:b.roundOf=none)(hres:(resolve a.eval c o.type).run P w = .ok dd w) :
  step P (lone (b.atR a (.inRegion ops (i::rest)::k)) cs w) = .next (lone (b.atR { a with defers:=dd::a.defers } (.inRegion ops rest::k)) cs w):=by
 have hw:Region.wanted o (yielded ops a.tmps)=true:=by simp[Region.wanted,hg]
 have hg':=stepGR_op (P:=P) (b:=b) (a:=a) (k:=k) (cs:=cs) (w:=w) (rest:=rest) ho hw;rw[hro,Oper.semAt_none]at hg';have hr':(execOp a.eval o).run P w = .ok (.defer dd) w:=by
  obtain⟨dst,op,ty,pos,after,guard⟩:=o;simp only at hop;subst hop;simp[execOp,hres]
 have hfin:({ b.atR a (.inRegion ops (i::rest)::k) with defers:=dd::a.defers }:Frame).finish undef=b.atR { a with defers:=dd::a.defers } (.inRegion ops rest::k):=by
  have:=Frame.finish_atR b { a with defers:=dd::a.defers } ops i rest k undef
  rw[ho]at this;simp only[qB,hdst]at this;exact this
 refine step_lone_go ?_;rw[hg'];simp only[stepG.apply,Sem.runT_eq,hr',GStep.bare_after];exact congrArg (fun fr=>GStep.go { frame:=fr,callers:=cs,status := .running,dying:=none } w) hfin
section
variable[LC]
def Fin.wild{z5m:World}{z5g:Gh}{z5j:List (Nat×ag)}{G:Gh}{hp:List (Nat×ag)}{w w':World}(hf:Fin z5m z5g z5j G hp w){S:Nat->Prop}(hw:bw S w w')(hS:∀b,S b->(∀o,G.imm b o=none)/\(z5m.heap.size<=b\/oz z5g z5j b)):Fin z5m z5g z5j G [] w':=by
 have hlt:∀b o v,G.imm b o=some v->w'.heap[b]? = w.heap[b]? := fun b o v h=>by
  refine hw.block b (World.block_lt_of_cell? _ _ (hf.mem.agree b o v h)) fun hs => ?_
  rw[(hS b hs).1 o]at h;cases h
 refine⟨⟨fun b o v h => ?_,hf.mem.one,fun n bx h=>(by cases h),fun n m bx bx' b h=>(by cases h),LC.mono (fun _ _ _ h=>h) hlt hf.mem.tab⟩,⟨hw.os.trans hf.bel.os,hw.tape.trans hf.bel.tape,hw.output.trans hf.bel.output,Nat.le_trans hf.bel.size hw.size,fun k hk hb => ?_⟩,hf.imm_le,hf.imm_new,fun n bx b h=>(by cases h),hf.keep,hf.keepOwn⟩
 ·rw[World.cell?_of_block (w:=w) (hlt b o v h)];exact hf.mem.agree b o v h
 ·rw[hw.block k (Nat.lt_of_lt_of_le hk hf.bel.size) fun hs => ?_]
  ·exact hf.bel.block k hk hb
  ·rcases (hS k hs).2 with h|h
   ·omega
   ·exact hb h
def ai.fresh_start{G:Gh}{hp:List (Nat×ag)}{w:World}{names:List (Nat×Nat)}(hm:b8 (G.view names) hp w)(hN:∀m,64<=m->bf names m=none){n:Nat}{fr:List (Nat×AV)}{tmps:Array Value}(hsz:tmps.size=n)(hfr:∀i x,ae fr i=some x->∃v,tmps[i]? = some v/\aj x (G.view names) v) :
  ai w (G.view names) hp (G.view names) { n:=n,fr:=fr,hp:=hp,nx:=64,df:=[] } { tmps:=tmps,defers:=[] } w:=
 ⟨⟨[],rfl,rfl⟩,hsz,hfr,fun m hm' _=>by simp[Gh.view,hN m hm'],we hm⟩
end
def zdm{x:AV}{G:Gh}{vs:Array Value}(h:am [x] G vs.toList):∃u,vs=#[u]/\aj x G u:=by
 obtain⟨l⟩:=vs
 match l,h with|[u],h=>exact⟨u,rfl,h.1⟩|[],h=>exact h.elim|_::_::_,h=>exact h.2.elim
def zsn{x y:AV}{G:Gh}{vs:Array Value}(h:am [x,y] G vs.toList):∃u v,vs=#[u,v]:=by
 obtain⟨l⟩:=vs
 match l,h with|[u,v],h=>exact⟨u,v,rfl⟩|[],h=>exact h.elim|[_],h=>exact h.2.elim|_::_::_::_,h=>exact h.2.2.elim
def qx3{w:World}{a:Addr}{v:Value}:bw (fun b=>b=a.block) w (w.setCell a v):=
 ⟨rfl,rfl,rfl,by simp[World.setCell],fun k _ hne=>by
  simp only[World.setCell,Array.getElem?_modify];rw[qW (fun e=>hne e.symm)]⟩
def q75{w:World}{o:Obj}:bw (fun _=>False) w (w.alloc o):=
 ⟨rfl,rfl,rfl,by rw[World.size_alloc];omega,fun k hk _=>by
  show(w.heap.push o)[k]? = _;rw[Array.getElem?_push,qW oA]⟩
def bw.wide{S T:Nat->Prop}{w w':World}(h:bw S w w')(k:∀b,S b->T b):bw T w w':=⟨h.os,h.tape,h.output,h.size,fun b hb hT=>h.block b hb (fun hs=>hT (k b hs))⟩
def bw.tr{S:Nat->Prop}{w w1 w2:World}(h:bw S w w1)(k:bw S w1 w2):bw S w w2:=⟨k.os.trans h.os,k.tape.trans h.tape,k.output.trans h.output,Nat.le_trans h.size k.size,fun b hb hS=>(k.block b (Nat.lt_of_lt_of_le hb h.size) hS).trans (h.block b hb hS)⟩
end Go.Sym
namespace Go.Sym
noncomputable section
open Go.Proofs
set_option linter.unusedVariables false
set_option maxRecDepth 100000
set_option maxHeartbeats 2000000
open Tryz
abbrev wT : Ty := .tree (.prod (.list (.prod .str .str)) (.list .byte))
abbrev wL : Ty := .list (.prod .str .str)
abbrev wP : Ty := .prod .str .str
abbrev wH : Pt := .h (.int .i64)
abbrev wI : Ty := .int .i64
abbrev wB : Ty := .list .byte
abbrev wN : Pt := .c .nilS
abbrev wS : Pt := .h .str
abbrev wG : Program := Tryz.prog
section
variable(fu:Nat)
def qzk:Nat->Option ((τ:Ty)×List τ.den)|0=>some ⟨.byte,q14⟩|1=>some ⟨.prod .byte .byte,q15⟩|3=>some ⟨.int .u64,zub⟩|_=>none
abbrev zk(f:Nat)(p:List Nat):Option (Code×Code):=some (wh 0 (sub (wg (pc wG f)) p),wh 1 (sub (wg (pc wG f)) p))
def zpc:Nat->Option (Code×Code)|0=>zk 295 [0,1,0,1]|1=>zk 327 [0,1,0,1,1,1,1]|2=>zk 192 [0,1,0,1,1,1,1,1,1,1]|3=>zk 298 [0,1,0,1,1]|4=>zk 141 [0,1,0,1,1]|5=>zk 15 [0,1,0,1,1,1,1]|6=>zk 102 [0,1,0,1,1,1]|7=>zk 56 [0,1,0,1,1,1,1,1,1,1]|_=>none
instance[HB]:LC:=⟨zpc,qzk,[2],[4,5],[(0,256),(1,32),(3,20)],HB.b⟩
def qw4:wG.follows .mixedOrders=true:=oB
def etys:List (Nat×Ty):=[(3,.int .i64),(5,.byte),(9,.str),(21,.int .i32),(37,.prod .str (.prod wI (.prod wI (.prod .str (.prod .str (.prod .str (.prod (.list (.prod .str wI)) (.prod .str (.prod (.prod wI (.prod wI (.prod wI (.prod wI (.prod wI (.prod wI wI)))))) (.prod wI (.prod wI (.prod wI (.prod wI (.prod wI (.prod .bool (.prod (.list wI) (.prod (.list wI) (.list wI)))))))))))))))))),(77,.prod .str wI),(112,.prod .str (.prod .bool (.list (.prod .str wP)))),(114,.prod .str wP),(157,.list (.prod .byte .str)),(163,.prod .byte .str),(261,.prod .str .bool)]
abbrev fx{i:IF}(calls:List (EP wG):=[])(ls:List LB:=[])(sub:Bool:=false)(tags:List (List Nat×Nat):=[])(ht:∀p t,ob p tags=some t->∀g ps x y,Sym.sub (wg (pc wG (qbc i.key))) p = .rangeFunc g ps x y->LC.lc t=some (x,y):=by exact gd)(hf:wG.funcs[qbc i.key]? = some (pc wG (qbc i.key)):=by kernel_rfl):Fx wG i:=Fx.at etys qw4 (qbc i.key) calls ls sub tags ht hf
abbrev fy{i:IF}(f:FuncId)(calls:List (EP wG):=[])(ls:List LB:=[])(sub:Bool:=false)(tags:List (List Nat×Nat):=[])(ht:∀p t,ob p tags=some t->∀g ps x y,Sym.sub (wg (pc wG f)) p = .rangeFunc g ps x y->LC.lc t=some (x,y):=by exact gd)(hf:wG.funcs[f]? = some (pc wG f):=by kernel_rfl):Fx wG i:=Fx.at etys qw4 f calls ls sub tags ht hf
def zif:(qts 257 qml).Sound wG:=zie func257 oB oB oB oB
def zih:(qtt 287 xw).Sound wG:=zig func287 oB oB oB oB
def zij:(qtu 371 xw).Sound wG:=zii func371 oB oB oB oB
def x0s:EI wG ⟨.fn 61,[],[],_,RS.mk (.h (.prod wI (.prod wI (.prod wI (.prod wI (.prod .bool (.prod (.list wI) (.prod (.list wI) (.list wI))))))))) []⟩:=(fx).fi q4t
def x1s:EI wG ⟨.fn 24,[],[],_,RS.mk (.h (.prod .str (.prod wI (.prod wI (.prod .str (.prod .str (.prod .str (.prod (.list (.prod .str wI)) (.prod .str (.prod (.prod wI (.prod wI (.prod wI (.prod wI (.prod wI (.prod wI wI)))))) (.prod wI (.prod wI (.prod wI (.prod wI (.prod wI (.prod .bool (.prod (.list wI) (.prod (.list wI) (.list wI))))))))))))))))))) []⟩:=(fx [x0s.p]).fi qg0
def fq:EI wG ⟨.fn 26,[wH,wH],[],_,RS.mk (.h (.prod wI wI)) []⟩:=(fx).fi bc
def x3s:EI wG ⟨.fn 41,[.h .byte],[],_,RS.mk (.h .bool) []⟩:=(fx).fi qmw
def x4(fu:Nat):Fx wG ⟨.fn 40,[wS,.fn 41 []],[],_,RS.mk (.h .bool) []⟩:=fx [x3s.p] [lb 104 [(0,wS),(1,.fn 41 []),(7,wH),(8,wH)]]
def z16:Nat->(x4 fu).L 0:=Fx.lq (qhh fu) (qth fu) (fun r0=>[r0.s])
def x4s:=(x4 fu).fi (qtg fu) [(z16 fu fu).s]
def pb:LC.glob 0=some ⟨.byte,q14⟩:=rfl
def ox:LC.glob 1=some ⟨.prod .byte .byte,q15⟩:=rfl
def pa:qem q14=true:=oB
def ow:qen q15=true:=oB
def xf:EI wG ⟨.fn 132,[wS,wS],[],_,RS.mk (wH) []⟩:=(fx [⟨q1y.e ju,zee oD⟩]).fi eu
def x6s:EI wG ⟨.fn 77,[wS,wS],[],_,RS.mk (.h .bool) []⟩:=(fx [xf.p]).fi qnj
def x7s:EI wG ⟨.fn 42,[wS],[],_,RS.mk (wH) []⟩:=(fx [⟨qll.e jp,qrm pb ox pa ow⟩,x6s.p]).fi qav
def x8s:EI wG ⟨.fn 289,[.h .byte],[],_,RS.mk (.h .bool) []⟩:=(fx).fi qhk
def x9s:EI wG ⟨.thr 137 [],[.ptr 0 0],[(0,.dat (.prod .str wI) 182)],_,RS.mk (.tup [.u,.ifc 179 (.agg [wH])]) [(0,.dead)]⟩:=(fx).ft ml
def x10(fu:Nat):Fx wG ⟨.thr 290 [],[.ptr 0 0],[(0,.dat (.prod .str wI) 182)],_,.two (RS.mk (.tup [.u,.ifc 179 (.agg [wH])]) [(0,.dead)]) (RS.mk (.tup []) [(0,.dat (.prod .str wI) 182)])⟩:=fx [x9s.p] [lb 194 [(0,.ptr 0 0),(2,wH)] [(0,.dat (.prod .str wI) 182)],lb 192 [(0,.ptr 0 0),(2,wH)] [(0,.dat (.prod .str wI) 182)]]
def zv4(r0:(x10 fu).L 1):(x10 fu).L 0:=Fx.jm (qsz fu r0.f) [r0.s]
def zv3:Nat->(x10 fu).L 1:=Fx.lq (qaf fu) (qsy fu) (fun r0=>[(zv4 fu r0).s])
def zv5:=(x10 fu).ft (q4u fu) [(zv3 fu fu).s]
def x11:Fx wG ⟨.thr 236 [],[.ptr 0 0],[(0,.dat (.prod .str wI) 182)],_,.two (RS.mk (.tup [.u,.ifc 179 (.agg [wH])]) [(0,.dead)]) (RS.mk (.tup []) [(0,.dat (.prod .str wI) 182)])⟩:=fx [x8s.p,(zv5 fu).p] [lb 16 [(0,.ptr 0 0)] [(0,.dat (.prod .str wI) 182)]]
def zwm:Nat->(x11 fu).L 0:=Fx.lq (qc1 fu) (qs9 fu) (fun r0=>[r0.s])
def zwn:=(x11 fu).ft (qs8 fu) [(zwm fu fu).s]
def x12(fu:Nat):Fx wG ⟨.thr 237 [],[.ptr 0 0],[(0,.dat (.prod .str wI) 182)],_,.two (RS.mk (.tup [.u,.ifc 179 (.agg [wH])]) [(0,.dead)]) (RS.mk (wS) [(0,.dat (.prod .str wI) 182)])⟩:=fx [x9s.p] [lb 123357 [(0,.ptr 0 0),(3,.own 32)] [(0,.dat (.prod .str wI) 182),(32,.row .byte 5)],lb 962 [(0,.ptr 0 0),(3,.own 32)] [(0,.dat (.prod .str wI) 182),(32,.row .byte 5)],lb 960 [(0,.ptr 0 0),(3,.own 32)] [(0,.dat (.prod .str wI) 182),(32,.row .byte 5)]]
def zw7(r0:(x12 fu).L 2):(x12 fu).L 0:=Fx.jm (qs7 fu r0.f) [r0.s]
def zw6(r0:(x12 fu).L 2):(x12 fu).L 1:=Fx.jm (qs6 fu r0.f) [(zw7 fu r0).s,r0.s]
def zw5:Nat->(x12 fu).L 2:=Fx.lq (qc0 fu) (qs5 fu) (fun r0=>[(zw6 fu r0).s])
def zw8:=(x12 fu).ft (qs4 fu) [(zw5 fu fu).s]
def zxi:EI wG ⟨.fn 232,[wS,.h .byte],[],_,RS.mk (wH) []⟩:=(fx [⟨qtt 287 xw,zih⟩]).fi q5h
def zge:EI wG ⟨.fn 238,[wS,.h .byte],[],_,RS.mk (wH) []⟩:=(fx [zxi.p]).fi qdt
def qry:EI wG ⟨.fn 144,[.h .byte],[],_,RS.mk (.h .bool) []⟩:=(fx).fi qhn
def zgq:EI wG ⟨.fn 193,[.h .byte],[],_,RS.mk (.h .bool) []⟩:=(fx [qry.p,zge.p]).fi uy
def x17:Fx wG ⟨.thr 184 [],[.ptr 0 0],[(0,.dat (.prod .str wI) 182)],_,.two (RS.mk (.tup [.u,.ifc 179 (.agg [wH])]) [(0,.dead)]) (.two (RS.mk (.c .nilIface) [(0,.dat (.prod .str wI) 182)]) (.two (RS.mk (.ifc 261 (.agg [wS,.h .bool])) [(0,.dat (.prod .str wI) 182)]) (RS.mk (.ifc 186 (.h .byte)) [(0,.dat (.prod .str wI) 182)])))⟩:=fx [(zwn fu).p,(zw8 fu).p,zge.p,zgq.p,x9s.p] [lb 8162 [(0,.ptr 0 0),(4,wH)] [(0,.dat (.prod .str wI) 182)],lb 8161 [(0,.ptr 0 0),(4,wH),(81,.h .bool)] [(0,.dat (.prod .str wI) 182)],lb 8160 [(0,.ptr 0 0),(4,wH)] [(0,.dat (.prod .str wI) 182)]]
def zzi(r0:(x17 fu).L 2):(x17 fu).L 0:=Fx.jm (qs3 fu r0.f) [r0.s]
def zzh(r0:(x17 fu).L 2):(x17 fu).L 1:=Fx.jm (qcz fu r0.f) [(zzi fu r0).s]
def zzg:Nat->(x17 fu).L 2:=Fx.lq (qcy fu) (qs2 fu) (fun r0=>[(zzh fu r0).s])
def qr4:=(x17 fu).ft (qah fu) [(zzg fu fu).s]
def q3l:EI wG ⟨.thr 134 [],[.ptr 0 0],[(0,.dat (.prod .str wI) 182)],_,.two (RS.mk (.tup [.u,.ifc 179 (.agg [wH])]) [(0,.dead)]) (.two (RS.mk (.c .nilIface) [(0,.dat (.prod .str wI) 182)]) (.two (RS.mk (.ifc 261 (.agg [wS,.h .bool])) [(0,.dat (.prod .str wI) 182)]) (RS.mk (.ifc 186 (.h .byte)) [(0,.dat (.prod .str wI) 182)])))⟩:=(fx [(qr4 fu).p]).ft (vc fu)
def x19:Fx wG ⟨.thr 185 [],[.ptr 0 0],[(0,.dat (.prod .str wI) 182)],_,.two (RS.mk (.tup [.u,.ifc 179 (.agg [wH])]) [(0,.dead)]) (RS.mk (.own 1) [(0,.dat (.prod .str wI) 182),(1,.row (.prod .str .bool) 261)])⟩:=fx [(q3l fu).p,(qr4 fu).p] [lb 112 [(0,.ptr 0 0),(3,.own 32)] [(0,.dat (.prod .str wI) 182),(32,.row (.prod .str .bool) 261)]]
def z0e:Nat->(x19 fu).L 0:=Fx.lq (qhb fu) (qtb fu) (fun r0=>[r0.s])
def zgy:=(x19 fu).ft (qha fu) [(z0e fu fu).s]
def qr6:EI wG ⟨.thr 136 [],[.ptr 0 0,.h .byte],[(0,.dat (.prod .str wI) 182)],_,.two (RS.mk (.tup [.u,.ifc 179 (.agg [wH])]) [(0,.dead)]) (RS.mk (.h .bool) [(0,.dat (.prod .str wI) 182)])⟩:=(fx [(q3l fu).p,(qr4 fu).p]).ft (vb fu)
def z0x:EI wG ⟨.fn 320,[.h .byte],[],_,RS.mk (.h .bool) []⟩:=(fx).fi xp
def x22(fu:Nat):Fx wG ⟨.fn 40,[wS,.fn 320 []],[],_,RS.mk (.h .bool) []⟩:=fx [z0x.p] [lb 104 [(0,wS),(1,.fn 320 []),(7,wH),(8,wH)]]
def z0y:Nat->(x22 fu).L 0:=Fx.lq (qc2 fu) (qti fu) (fun r0=>[r0.s])
def z0z:=(x22 fu).fi (qmh fu) [(z0y fu fu).s]
def zg8:EI wG ⟨.fn 291,[wS],[],_,RS.mk (.h .bool) []⟩:=(fx [(z0z fu).p]).fi (va fu)
def z00:EI wG ⟨.fn 152,[wS,wS,wH],[],_,RS.mk (.fn 212 [.ptr 0 0,.ptr 1 0,.ptr 2 0]) [(0,.cells [wS] 9),(1,.cells [wS] 9),(2,.cells [wH] 3)]⟩:=(fx).fi qdv
def qgh:EI wG ⟨.fn 94,[wS,wS],[],_,RS.mk (.fn 212 [.ptr 0 0,.ptr 1 0,.ptr 2 0]) [(0,.cells [wS] 9),(1,.cells [wS] 9),(2,.cells [wH] 3)]⟩:=(fx [z00.p]).fi nq
def x26(fu:Nat):Fx wG ⟨.fn 40,[wS,.fn 193 []],[],_,RS.mk (.h .bool) []⟩:=fx [zgq.p] [lb 104 [(0,wS),(1,.fn 193 []),(7,wH),(8,wH)]]
def z09:Nat->(x26 fu).L 0:=Fx.lq (qc3 fu) (qtj fu) (fun r0=>[r0.s])
def zhb:=(x26 fu).fi (qhi fu) [(z09 fu fu).s]
def z1a:EI wG ⟨.yld 0,[wS],[(0,.loop .ready none 295 17 [(3,.ptr 1 0),(4,.ptr 2 0)] [8] 0 3),(1,.cells [.fn 193 []] 81),(2,.cells [.h .bool] 4),(3,.dfr)],_,.two (RS.mk (.c (.bool false)) [(0,.loop .done (some .ret) 295 17 [(3,.ptr 1 0),(4,.ptr 2 0)] [8] 0 3),(1,.cells [.fn 193 []] 81),(2,.cells [.h .bool] 4),(3,.dfr)]) (RS.mk (.c (.bool true)) [(0,.loop .ready none 295 17 [(3,.ptr 1 0),(4,.ptr 2 0)] [8] 0 3),(1,.cells [.fn 193 []] 81),(2,.cells [.h .bool] 4),(3,.dfr)])⟩:=(fy 295 [(zhb fu).p] [] false [([0,1,0,1],0)] (g7 rfl gd)).fo (xq fu) [] 0 [0,1,0,1]
def x28:Fx wG ⟨.fn 212,[.yld 0,.ptr 1 0,.ptr 2 0,.ptr 3 0],[(0,.loop .ready none 295 17 [(3,.ptr 4 0),(4,.ptr 5 0)] [8] 0 6),(1,.cells [wS] 9),(2,.cells [wS] 9),(3,.cells [wH] 3),(4,.cells [.fn 193 []] 81),(5,.cells [.h .bool] 4),(6,.dfr)],_,.two (RS.mk (.tup []) [(0,.loop .done (some .ret) 295 17 [(3,.ptr 4 0),(4,.ptr 5 0)] [8] 0 6),(1,.cells [wS] 9),(2,.cells [wS] 9),(3,.cells [wH] 3),(4,.cells [.fn 193 []] 81),(5,.cells [.h .bool] 4),(6,.dfr)]) (RS.mk (.tup []) [(0,.loop .ready none 295 17 [(3,.ptr 4 0),(4,.ptr 5 0)] [8] 0 6),(1,.cells [wS] 9),(2,.cells [wS] 9),(3,.cells [wH] 3),(4,.cells [.fn 193 []] 81),(5,.cells [.h .bool] 4),(6,.dfr)])⟩:=fx [⟨wm.e g9,yl pb ox pa ow⟩,(z1a fu).p,xf.p] [lb 320 [(0,.yld 0),(2,.ptr 2 0)] [(0,.loop .ready none 295 17 [(3,.ptr 4 0),(4,.ptr 5 0)] [8] 0 6),(1,.cells [wS] 9),(2,.cells [wS] 9),(3,.cells [wH] 3),(4,.cells [.fn 193 []] 81),(5,.cells [.h .bool] 4),(6,.dfr)],lb 96 [(0,.yld 0),(1,.ptr 1 0),(2,.ptr 2 0),(3,.ptr 3 0)] [(0,.loop .ready none 295 17 [(3,.ptr 4 0),(4,.ptr 5 0)] [8] 0 6),(1,.cells [wS] 9),(2,.cells [wS] 9),(3,.cells [wH] 3),(4,.cells [.fn 193 []] 81),(5,.cells [.h .bool] 4),(6,.dfr)]]
def z1b:Nat->(x28 fu).L 0:=Fx.lq (qvs fu) (q51 fu) (fun r0=>[r0.s])
def z1c:Nat->(x28 fu).L 1:=Fx.lq (qim fu) (q52 fu) (fun r1=>[r1.s])
def z1d:=(x28 fu).fi (qnn fu) [(z1b fu fu).s,(z1c fu fu).s]
def z1e:EI wG ⟨.fn 295,[wS,.fn 193 []],[],_,RS.mk (.h .bool) []⟩:=(fx [qgh.p,(z1d fu).p] [] false [([0,1,0,1],0)] (g7 rfl gd)).fi (qmd fu)
def zhc:EI wG ⟨.fn 244,[wS],[],_,RS.mk (.h .bool) []⟩:=(fx [(z1e fu).p]).fi (xm fu)
def q30:EI wG ⟨.thr 188 [],[.ptr 0 0,.h .byte],[(0,.dat (.prod .str wI) 182)],_,.two (RS.mk (.tup [.u,.ifc 179 (.agg [wH])]) [(0,.dead)]) (RS.mk (.tup []) [(0,.dat (.prod .str wI) 182)])⟩:=(fx [(qr6 fu).p,x9s.p]).ft (qcx fu)
def z1f:EI wG ⟨.fn 321,[.h .byte],[],_,RS.mk (.h .bool) []⟩:=(fx [qry.p]).fi xj
def x33(fu:Nat):Fx wG ⟨.fn 40,[wS,.fn 321 []],[],_,RS.mk (.h .bool) []⟩:=fx [z1f.p] [lb 104 [(0,wS),(1,.fn 321 []),(7,wH),(8,wH)]]
def z1g:Nat->(x33 fu).L 0:=Fx.lq (qc4 fu) (qtk fu) (fun r0=>[r0.s])
def z1h:=(x33 fu).fi (qmi fu) [(z1g fu fu).s]
def z1i:EI wG ⟨.yld 0,[wS],[(0,.loop .ready none 295 17 [(3,.ptr 1 0),(4,.ptr 2 0)] [8] 0 3),(1,.cells [.fn 321 []] 81),(2,.cells [.h .bool] 4),(3,.dfr)],_,.two (RS.mk (.c (.bool false)) [(0,.loop .done (some .ret) 295 17 [(3,.ptr 1 0),(4,.ptr 2 0)] [8] 0 3),(1,.cells [.fn 321 []] 81),(2,.cells [.h .bool] 4),(3,.dfr)]) (RS.mk (.c (.bool true)) [(0,.loop .ready none 295 17 [(3,.ptr 1 0),(4,.ptr 2 0)] [8] 0 3),(1,.cells [.fn 321 []] 81),(2,.cells [.h .bool] 4),(3,.dfr)])⟩:=(fy 295 [(z1h fu).p] [] false [([0,1,0,1],0)] (g7 rfl gd)).fo (xt fu) [] 0 [0,1,0,1]
def x35:Fx wG ⟨.fn 212,[.yld 0,.ptr 1 0,.ptr 2 0,.ptr 3 0],[(0,.loop .ready none 295 17 [(3,.ptr 4 0),(4,.ptr 5 0)] [8] 0 6),(1,.cells [wS] 9),(2,.cells [wS] 9),(3,.cells [wH] 3),(4,.cells [.fn 321 []] 81),(5,.cells [.h .bool] 4),(6,.dfr)],_,.two (RS.mk (.tup []) [(0,.loop .done (some .ret) 295 17 [(3,.ptr 4 0),(4,.ptr 5 0)] [8] 0 6),(1,.cells [wS] 9),(2,.cells [wS] 9),(3,.cells [wH] 3),(4,.cells [.fn 321 []] 81),(5,.cells [.h .bool] 4),(6,.dfr)]) (RS.mk (.tup []) [(0,.loop .ready none 295 17 [(3,.ptr 4 0),(4,.ptr 5 0)] [8] 0 6),(1,.cells [wS] 9),(2,.cells [wS] 9),(3,.cells [wH] 3),(4,.cells [.fn 321 []] 81),(5,.cells [.h .bool] 4),(6,.dfr)])⟩:=fx [⟨wm.e g9,yl pb ox pa ow⟩,(z1i fu).p,xf.p] [lb 320 [(0,.yld 0),(2,.ptr 2 0)] [(0,.loop .ready none 295 17 [(3,.ptr 4 0),(4,.ptr 5 0)] [8] 0 6),(1,.cells [wS] 9),(2,.cells [wS] 9),(3,.cells [wH] 3),(4,.cells [.fn 321 []] 81),(5,.cells [.h .bool] 4),(6,.dfr)],lb 96 [(0,.yld 0),(1,.ptr 1 0),(2,.ptr 2 0),(3,.ptr 3 0)] [(0,.loop .ready none 295 17 [(3,.ptr 4 0),(4,.ptr 5 0)] [8] 0 6),(1,.cells [wS] 9),(2,.cells [wS] 9),(3,.cells [wH] 3),(4,.cells [.fn 321 []] 81),(5,.cells [.h .bool] 4),(6,.dfr)]]
def z1j:Nat->(x35 fu).L 0:=Fx.lq (qvt fu) (q53 fu) (fun r0=>[r0.s])
def z1k:Nat->(x35 fu).L 1:=Fx.lq (qin fu) (q54 fu) (fun r1=>[r1.s])
def z1l:=(x35 fu).fi (qno fu) [(z1j fu fu).s,(z1k fu fu).s]
def z1m:EI wG ⟨.fn 295,[wS,.fn 321 []],[],_,RS.mk (.h .bool) []⟩:=(fx [qgh.p,(z1l fu).p] [] false [([0,1,0,1],0)] (g7 rfl gd)).fi (qme fu)
def zhe:EI wG ⟨.fn 292,[wS],[],_,RS.mk (.h .bool) []⟩:=(fx [(z1m fu).p]).fi (uz fu)
def x38:Fx wG ⟨.thr 239 [],[.ptr 0 0,.own 1],[(0,.dat (.prod .str wI) 182),(1,.row (.prod .str .bool) 261)],_,.two (RS.mk (.tup [.u,.ifc 179 (.agg [wH])]) [(0,.dead),(1,.dead)]) (RS.mk (.h (.prod .str wP)) [(0,.dat (.prod .str wI) 182),(1,.row (.prod .str .bool) 261)])⟩:=fx [(zg8 fu).p,(zhc fu).p,x9s.p,(q30 fu).p,(qr4 fu).p,(zhe fu).p] [lb 14 [(0,.ptr 0 0),(1,.own 1),(4,.ptr 32 0)] [(0,.dat (.prod .str wI) 182),(1,.row (.prod .str .bool) 261),(32,.dat (.prod .str wP) 114)],lb 13 [(0,.ptr 0 0),(1,.own 1),(4,.ptr 32 0),(32,.h .bool)] [(0,.dat (.prod .str wI) 182),(1,.row (.prod .str .bool) 261),(32,.dat (.prod .str wP) 114)]]
def z1o:(x38 fu).L 0:=Fx.jm (qta fu)
def z1n:(x38 fu).L 1:=Fx.jm (xu fu) [(z1o fu).s]
def z1p:=(x38 fu).ft (qg9 fu) [(z1n fu).s]
def zhf:EI wG ⟨.fn 265,[wS,wS],[],_,RS.mk (.h .bool) []⟩:=(fx).fi qdb
def zhg:EI wG ⟨.fn 229,[wS,wS],[],_,RS.mk (.h .bool) []⟩:=(fx [zhf.p]).fi qds
def x41(fu:Nat):Fx wG ⟨.fn 256,[wS],[],_,RS.mk (wH) []⟩:=fx [] [lb 104 [(2,wH),(4,.ptr 32 0)] [(32,.it)]]
def z1r:Nat->(x41 fu).L 0:=Fx.lq (qv5 fu) (q6a fu) (fun r0=>[r0.s])
def zhi:=(x41 fu).fi (qv4 fu) [(z1r fu fu).s]
def x42:Fx wG ⟨.fn 264,[wS,wH],[],_,RS.mk (.own 0) [(0,.row .str 9)]⟩:=fx [(zhi fu).p,⟨wm.e g9,yl pb ox pa ow⟩] [lb 2000 [(0,wS),(1,wH),(6,.own 32),(7,wH)] [(32,.row .str 9)],lb 30 [(0,wS),(1,wH)],lb 29 [(0,wS),(1,wH),(5,wH),(18,.h .bool)]]
def z1u:Nat->(x42 fu).L 0:=Fx.lq (qvr fu) (q50 fu) (fun r2=>[r2.s])
def z1t:(x42 fu).L 1:=Fx.jm (qvq fu) [(z1u fu fu).s]
def z1s:(x42 fu).L 2:=Fx.jm (qvp fu) [(z1t fu).s]
def z1v:=(x42 fu).fi (q5z fu) [(z1s fu).s]
def x43:Fx wG ⟨.fn 210,[wS,wS],[],_,RS.mk (wH) []⟩:=fx [(zhi fu).p,⟨qts 257 qml,zif⟩,xf.p] [lb 496 [(0,wS),(1,wS),(5,wH)]]
def z1w:Nat->(x43 fu).L 0:=Fx.lq (qvo fu) (q5w fu) (fun r0=>[r0.s])
def z1x:=(x43 fu).fi (qnk fu) [(z1w fu fu).s]
def x44:Fx wG ⟨.fn 215,[wS,wS,wH,wH],[],_,RS.mk (.h (.list .str)) []⟩:=fx [(z1v fu).p,(z1x fu).p,xf.p] [lb 16352 [(0,wS),(1,wS),(2,wH),(3,wH),(9,.own 32),(10,wH)] [(32,.row .str 9)],lb 62 [(0,wS),(1,wS),(2,wH),(3,wH)]]
def z1z:Nat->(x44 fu).L 0:=Fx.lq (sx fu) (qik fu) (fun r1=>[r1.s])
def z1y:(x44 fu).L 1:=Fx.jm (qil fu) [(z1z fu fu).s]
def zhk:=(x44 fu).fi (qij fu) [(z1y fu).s]
def z10:EI wG ⟨.fn 322,[wS,wS,wH],[],_,RS.mk (.h (.list .str)) []⟩:=(fx [(zhk fu).p]).fi (qnm fu)
def fv:EI wG ⟨.fn 33,[],[],_,RS.mk (.h (.prod wI wI)) []⟩:=(fx).fi cw
def z11:EI wG ⟨.fn 361,[.h wB,.h .byte],[],_,RS.mk (wH) []⟩:=(fx [⟨qtu 371 xw,zij⟩]).fi q4w
def x48(fu:Nat):Fx wG ⟨.fn 341,[.h wB],[],_,RS.mk (.tup [.own 0,.h (.prod wI wI)]) [(0,.row .byte 5)]⟩:=fx [fq.p,fv.p,z11.p] [lb 1000 [(3,.ptr 32 0),(4,.own 33),(5,wH),(6,wH),(14,.h wB),(15,wH),(16,wH)] [(32,.dat (.prod wI wI) 25),(33,.row .byte 5)]]
def z13:Nat->(x48 fu).L 0:=Fx.lq (qhd fu) (qtd fu) (fun r0=>[r0.s])
def z14:=(x48 fu).fi (qmg fu) [(z13 fu fu).s]
def z15:EI wG ⟨.fn 353,[.h wB],[],_,RS.mk (.fn 370 [.ptr 0 0]) [(0,.cells [.h wB] 61)]⟩:=(fx).fi qte
def z18:EI wG ⟨.yld 0,[.agg [.h .byte,.h .byte,.h .byte,.h .byte]],[(0,.loop .ready none 327 31 [(4,.ptr 1 0),(5,.ptr 2 0)] [13] 1 3),(1,.cells [.own 4] 61),(2,.cells [wH] 3),(3,.dfr),(4,.row .byte 5)],_,RS.mk (.c (.bool true)) [(0,.loop .ready none 327 31 [(4,.ptr 1 0),(5,.ptr 2 0)] [13] 1 3),(1,.cells [.own 5] 61),(2,.cells [wH] 3),(3,.dfr),(4,.dead),(5,.row .byte 5)]⟩:=(fy 327 [] [] false [([0,1,0,1,1,1,1],1)] (g7 rfl gd)).fo io [] 0 [0,1,0,1,1,1,1]
def z8(fu:Nat):Fx wG ⟨.fn 370,[.yld 0,.ptr 1 0],[(0,.loop .ready none 327 31 [(4,.ptr 2 0),(5,.ptr 3 0)] [13] 1 4),(1,.cells [.h wB] 61),(2,.cells [.own 5] 61),(3,.cells [wH] 3),(4,.dfr),(5,.row .byte 5)],_,RS.mk (.tup []) [(0,.loop .ready none 327 31 [(4,.ptr 2 0),(5,.ptr 3 0)] [13] 1 4),(1,.cells [.h wB] 61),(2,.cells [.own 6] 61),(3,.cells [wH] 3),(4,.dfr),(5,.dead),(6,.row .byte 5)]⟩:=fx [z18.p] [lb 9639 [(0,.yld 0),(1,.ptr 1 0),(3,wH),(4,wH),(14,.c (.int .i64 2))] [(0,.loop .ready none 327 31 [(4,.ptr 2 0),(5,.ptr 3 0)] [13] 1 4),(1,.cells [.h wB] 61),(2,.cells [.own 32] 61),(3,.cells [wH] 3),(4,.dfr),(5,.dead),(32,.row .byte 5)],lb 9639 [(0,.yld 0),(1,.ptr 1 0),(3,wH),(4,wH),(14,.c (.int .i64 1))] [(0,.loop .ready none 327 31 [(4,.ptr 2 0),(5,.ptr 3 0)] [13] 1 4),(1,.cells [.h wB] 61),(2,.cells [.own 32] 61),(3,.cells [wH] 3),(4,.dfr),(5,.dead),(32,.row .byte 5)],lb 9639 [(0,.yld 0),(1,.ptr 1 0),(3,wH),(4,wH),(14,.c (.int .i64 0))] [(0,.loop .ready none 327 31 [(4,.ptr 2 0),(5,.ptr 3 0)] [13] 1 4),(1,.cells [.h wB] 61),(2,.cells [.own 32] 61),(3,.cells [wH] 3),(4,.dfr),(5,.dead),(32,.row .byte 5)],lb 16 [(0,.yld 0),(1,.ptr 1 0)] [(0,.loop .ready none 327 31 [(4,.ptr 2 0),(5,.ptr 3 0)] [13] 1 4),(1,.cells [.h wB] 61),(2,.cells [.own 32] 61),(3,.cells [wH] 3),(4,.dfr),(5,.dead),(32,.row .byte 5)]]
def z2c(r0:(z8 fu).L 3):(z8 fu).L 0:=Fx.jm (qhg fu r0.f) [r0.s]
def z2b(r0:(z8 fu).L 3):(z8 fu).L 1:=Fx.jm (qhf fu r0.f) [(z2c fu r0).s]
def z2a(r0:(z8 fu).L 3):(z8 fu).L 2:=Fx.jm (qhe fu r0.f) [(z2b fu r0).s]
def z19:Nat->(z8 fu).L 3:=Fx.lq (vf fu) (qtf fu) (fun r0=>[(z2a fu r0).s])
def z2d:=(z8 fu).fi (q4v fu) [(z19 fu fu).s]
def z2e:EI wG ⟨.fn 327,[.h wB],[],_,RS.mk (.tup [.own 0,.h (.prod wI wI)]) [(0,.row .byte 5)]⟩:=(fx [fq.p,z15.p,(z2d fu).p,fv.p] [] false [([0,1,0,1,1,1,1],1)] (g7 rfl gd)).fi (qtc fu)
def zhm:EI wG ⟨.fn 300,[.h wB],[],_,RS.mk (wS) []⟩:=(fx [(z2e fu).p,⟨q1h.e np,zdk oD⟩]).fi (qiy fu)
def x54:Fx wG ⟨.fn 362,[.h .byte],[],_,RS.mk (.tup [.h .byte,.h .bool]) []⟩:=fx [] [lb 103 [(0,.h .byte),(13,.h .bool)],lb 25 [(0,.h .byte),(4,.h .bool)]]
def z2g:x54.L 0:=Fx.jm qtq
def z2f:x54.L 1:=Fx.jm qtp [(z2g).s]
def z2h:=x54.fi qc5 [(z2f).s]
def z2i:EI wG ⟨.fn 342,[wS],[],_,RS.mk (.tup [.h .byte,.h .bool]) []⟩:=(fx [z2h.p]).fi qmk
def x56:Fx wG ⟨.fn 323,[wS,wS],[],_,RS.mk (.tup [.own 0,.h .bool]) [(0,.row .byte 5)]⟩:=fx [(z14 fu).p,(zhm fu).p,z2i.p] [lb 7055647 [(1,wS),(8,.own 32),(9,wH),(65,.h .bool)] [(32,.row .byte 5)],lb 55120 [(1,wS),(8,.own 32),(9,wH)] [(32,.row .byte 5)],lb 215 [(1,wS),(27,.h .bool)],lb 53 [(1,wS),(12,wS),(13,.h .bool)]]
def z2m(r2:(x56 fu).L 1):(x56 fu).L 0:=Fx.jm (qix fu r2.f) [r2.s]
def z2l:Nat->(x56 fu).L 1:=Fx.lq (qdz fu) (qv9 fu) (fun r2=>[r2.s,(z2m fu r2).s])
def z2k:(x56 fu).L 2:=Fx.jm (qiw fu) [(z2l fu fu).s]
def z2j:(x56 fu).L 3:=Fx.jm (qiv fu) [(z2k fu).s]
def z2n:=(x56 fu).fi (qnu fu) [(z2j fu).s]
def z2o:EI wG ⟨.fn 346,[wS,.h (.int .i32)],[],_,RS.mk (.agg [wS,.fn 365 [.ptr 0 0],.fn 366 [.ptr 0 0]]) [(0,.cells [.h (.int .i32)] 21)]⟩:=(fx).fi qmn
def x58(fu:Nat):Fx wG ⟨.fn 369,[wS],[],_,RS.mk (wS) []⟩:=fx [] [lb 232 [(3,.own 32),(8,.own 32),(9,wH),(10,wH)] [(32,.row .byte 5)]]
def z2p:Nat->(x58 fu).L 0:=Fx.lq (vg fu) (qc6 fu) (fun r0=>[r0.s])
def z2q:=(x58 fu).fi (qai fu) [(z2p fu fu).s]
def z2r:EI wG ⟨.fn 352,[wS,wS],[],_,RS.mk (.h .bool) []⟩:=(fx [(z2q fu).p]).fi (xv fu)
def zhp:EI wG ⟨.fn 326,[wS],[],_,.two (RS.mk (.tup [.agg [wS,.fn 365 [.ptr 0 0],.fn 366 [.ptr 0 0]],.h .bool]) [(0,.cells [.h (.int .i32)] 21)]) (.two (RS.mk (.tup [.agg [wS,.fn 347 [],.fn 348 []],.h .bool]) []) (.two (RS.mk (.tup [.agg [wS,.fn 350 [],.fn 351 []],.h .bool]) []) (RS.mk (.tup [.agg [wS,.c .nilFunc,.c .nilFunc],.h .bool]) [])))⟩:=(fx [z2o.p,(z2r fu).p]).fi (xx fu)
def x61(fu:Nat):Fx wG ⟨.fn 365,[.h wB,.ptr 0 0],[(0,.cells [.h (.int .i32)] 21)],_,RS.mk (.own 1) [(0,.cells [.h (.int .i32)] 21),(1,.row (.int .i32) 21)]⟩:=fx [] [lb 232 [(1,.ptr 0 0),(4,.own 32),(8,.h wB),(9,wH),(10,wH)] [(0,.cells [.h (.int .i32)] 21),(32,.row (.int .i32) 21)]]
def z2s:Nat->(x61 fu).L 0:=Fx.lq (qho fu) (qt2 fu) (fun r0=>[r0.s])
def z2t:=(x61 fu).fi (qt1 fu) [(z2s fu fu).s]
def z2u:EI wG ⟨.fn 347,[.h wB],[],_,RS.mk (.own 0) [(0,.row (.int .i32) 21)]⟩:=(fx).fi qt0
def z2v:EI wG ⟨.fn 368,[wH,.ptr 0 0],[(0,.cells [.h wB] 61)],_,RS.mk (.h (.int .i32)) [(0,.cells [.h wB] 61)]⟩:=(fx).fi qhp
def x64(fu:Nat):Fx wG ⟨.fn 350,[.h wB],[],_,RS.mk (.own 0) [(0,.row (.int .i32) 21)]⟩:=fx [z2v.p] [lb 62620 [(1,.ptr 32 0),(3,.own 33),(4,.fn 368 [.ptr 32 0]),(5,wH),(6,.h (.int .i32))] [(32,.cells [.h wB] 61),(33,.row (.int .i32) 21)],lb 250475 [(1,.ptr 32 0),(3,.own 33),(4,.fn 368 [.ptr 32 0]),(5,wH),(6,.h (.int .i32)),(7,.h (.int .i32)),(48,.h .bool)] [(32,.cells [.h wB] 61),(33,.row (.int .i32) 21)],lb 31309 [(1,.ptr 32 0),(3,.own 33),(4,.fn 368 [.ptr 32 0]),(5,wH),(6,.h (.int .i32)),(38,.h .bool)] [(32,.cells [.h wB] 61),(33,.row (.int .i32) 21)],lb 976 [(1,.ptr 32 0),(3,.own 33),(4,.fn 368 [.ptr 32 0]),(5,wH)] [(32,.cells [.h wB] 61),(33,.row (.int .i32) 21)]]
def zhr(r0:(x64 fu).L 3):(x64 fu).L 0:=Fx.jm (qaj fu r0.f) [r0.s]
def z2y(r0:(x64 fu).L 3):(x64 fu).L 1:=Fx.jm (qhq fu r0.f) [(zhr fu r0).s]
def z2x(r0:(x64 fu).L 3):(x64 fu).L 2:=Fx.jm (qc7 fu r0.f) [(z2y fu r0).s,(zhr fu r0).s]
def z2w:Nat->(x64 fu).L 3:=Fx.lq (xy fu) (qt4 fu) (fun r0=>[(z2x fu r0).s])
def z2z:=(x64 fu).fi (qt3 fu) [(z2w fu fu).s]
def z23:EI wG ⟨.fn 324,[wS,.h wB],[],_,RS.mk (.tup [wS,.h (.prod wI wI)]) []⟩:=(fx [fq.p,(zhp fu).p,(z2t fu).p,fv.p,z2u.p,(z2z fu).p]).fi (qmm fu)
def kp:EI wG ⟨.fn 27,[.h (.prod wI wI)],[],_,RS.mk (.h .bool) []⟩:=(fx).fi eh
def x67:Fx wG ⟨.fn 293,[wS],[],_,RS.mk (.tup [wS,wH,.h .bool]) []⟩:=fx [zhg.p,(z10 fu).p,(z2n fu).p,(z23 fu).p,kp.p] [lb 62 [(5,.h (.list .str))],lb 61 [(5,.h (.list .str)),(28,.h .bool)]]
def z25:(x67 fu).L 0:=Fx.jm (qwd fu)
def z24:(x67 fu).L 1:=Fx.jm (qiz fu) [(z25 fu).s]
def z26:=(x67 fu).fi (qnv fu) [(z24 fu).s]
def zhs:EI wG ⟨.fn 294,[.ptr 0 0,.h .byte],[(0,.cells [.pn 0,.own 1] 63),(1,.row .byte 5)],_,RS.mk (.c .nilIface) [(0,.cells [.pn 0,.own 2] 63),(1,.dead),(2,.row .byte 5)]⟩:=(fx [⟨qo5.e p8,qyj⟩]).fi qdr
def zht:EI wG ⟨.fn 29,[.ptr 0 0,wS],[(0,.cells [.pn 0,.own 1] 63),(1,.row .byte 5)],_,RS.mk (.tup [wH,.c .nilIface]) [(0,.cells [.pn 0,.own 2] 63),(1,.dead),(2,.row .byte 5)]⟩:=(fx [⟨qo5.e p8,qyj⟩]).fi xz
def x70:Fx wG ⟨.fn 241,[wS],[],_,RS.mk (.tup [wS,.h (.prod wI wI)]) []⟩:=fx [fq.p,(z26 fu).p,zhs.p,zht.p,⟨qox.e ve,qx7⟩,fv.p,x8s.p] [lb 256342 [(0,wS),(3,.ptr 32 0),(4,.ptr 33 0),(5,wH),(6,wH)] [(32,.dat (.prod wI wI) 25),(33,.cells [.pn 33,.own 34] 63),(34,.row .byte 5)],lb 256341 [(0,wS),(3,.ptr 32 0),(4,.ptr 33 0),(5,wH),(6,wH),(42,.h .bool)] [(32,.dat (.prod wI wI) 25),(33,.cells [.pn 33,.own 34] 63),(34,.row .byte 5)],lb 256340 [(0,wS),(3,.ptr 32 0),(4,.ptr 33 0),(5,wH),(6,wH)] [(32,.dat (.prod wI wI) 25),(33,.cells [.pn 33,.own 34] 63),(34,.row .byte 5)],lb 2000 [(0,wS),(3,.ptr 32 0),(4,.ptr 33 0),(5,wH),(6,wH)] [(32,.dat (.prod wI wI) 25),(33,.cells [.pn 33,.own 34] 63),(34,.row .byte 5)]]
def z3b(r0:(x70 fu).L 3):(x70 fu).L 0:=Fx.jm (qiu fu r0.f) [r0.s]
def z3a(r0:(x70 fu).L 3):(x70 fu).L 1:=Fx.jm (qit fu r0.f) [(z3b fu r0).s]
def z29(r0:(x70 fu).L 3):(x70 fu).L 2:=Fx.jm (qis fu r0.f) [(z3a fu r0).s]
def z27:Nat->(x70 fu).L 3:=Fx.lq (x9 fu) (qv7 fu) (fun r0=>[(z29 fu r0).s,r0.s])
def z3c:=(x70 fu).fi (qnt fu) [(z27 fu fu).s]
def z3d:EI wG ⟨.fn 240,[.ptr 0 0,.ptr 1 0],[(0,.cells [.own 2] 64),(1,.cells [.own 3] 64),(2,.row .str 9),(3,.row .str 9)],_,RS.mk (.tup []) [(0,.cells [.own 4] 64),(1,.cells [.own 5] 64),(2,.dead),(3,.dead),(4,.row .str 9),(5,.row .str 9)]⟩:=(fx [⟨qbi.e fw,qfe⟩,(z3c fu).p]).fi (qg5 fu)
def x72:Fx wG ⟨.fn 187,[.h (.list (.prod .str .bool))],[],_,RS.mk (wS) []⟩:=fx [(z3d fu).p,⟨qbi.e fw,qfe⟩] [lb 488 [(3,.ptr 32 0),(4,.ptr 33 0),(5,.fn 240 [.ptr 33 0,.ptr 32 0]),(9,.h (.list (.prod .str .bool))),(10,wH),(11,wH)] [(32,.cells [.own 34] 64),(33,.cells [.own 35] 64),(34,.row .str 9),(35,.row .str 9)]]
def z3e:Nat->(x72 fu).L 0:=Fx.lq (qg6 fu) (qsw fu) (fun r0=>[r0.s])
def zhw:=(x72 fu).fi (qcv fu) [(z3e fu fu).s]
def z3f:EI wG ⟨.thr 186 [],[.ptr 0 0,.own 1],[(0,.dat (.prod .str wI) 182),(1,.row (.prod .str .bool) 261)],_,.two (RS.mk (.tup [.u,.ifc 179 (.agg [wH])]) [(0,.dead),(1,.dead)]) (RS.mk (.h (.prod .str wP)) [(0,.dat (.prod .str wI) 182),(1,.row (.prod .str .bool) 261)])⟩:=(fx [(qr6 fu).p,(z1p fu).p,(zgy fu).p,(zhw fu).p,(q30 fu).p]).ft (qg7 fu)
def x74:Fx wG ⟨.thr 135 [],[.ptr 0 0],[(0,.dat (.prod .str wI) 182)],_,.two (RS.mk (.tup [.u,.ifc 179 (.agg [wH])]) [(0,.dead)]) (RS.mk (.h (.prod .str (.prod .bool (.list (.prod .str wP))))) [(0,.dat (.prod .str wI) 182)])⟩:=fx [(zgy fu).p,(qr6 fu).p,(z3f fu).p,(zhw fu).p,x9s.p,(q30 fu).p] [lb 2032 [(0,.ptr 0 0),(2,.ptr 32 0),(4,.ptr 33 0)] [(0,.dat (.prod .str wI) 182),(32,.cells [wS,.h .bool,wN] 112),(33,.cells [wS,.c (.bool true),.own 34] 112),(34,.row (.prod .str wP) 114)],lb 252 [(0,.ptr 0 0),(2,.ptr 32 0),(4,.ptr 33 0)] [(0,.dat (.prod .str wI) 182),(32,.cells [wS,.h .bool,wN] 112),(33,.cells [wS,.c (.bool true),wN] 112)]]
def z3h:Nat->(x74 fu).L 0:=Fx.lq (qg8 fu) (qs0 fu) (fun r1=>[r1.s])
def z3g:(x74 fu).L 1:=Fx.jm (qs1 fu) [(z3h fu fu).s]
def z3i:=(x74 fu).ft (qag fu) [(z3g fu).s]
def zhx:EI wG ⟨.fn 242,[wS],[],_,RS.mk (wH) []⟩:=(fx [⟨qll.e jp,qrm pb ox pa ow⟩]).fi sj
def z3j:EI wG ⟨.fn 243,[.h (.prod .str wP)],[],_,RS.mk (.h (.prod wI wI)) []⟩:=(fx [zhx.p,fq.p,(zg8 fu).p,(zhe fu).p,fv.p]).fi (xi fu)
def x77:Fx wG ⟨.fn 189,[.h (.prod .str (.prod .bool (.list (.prod .str wP))))],[],_,RS.mk (wH) []⟩:=fx [zhx.p,(z3j fu).p,kp.p] [lb 488 [(31,.h (.list (.prod .str wP))),(32,wH),(33,wH)],lb 60 [(1,.ptr 32 0)] [(32,.dat (.prod .str (.prod .bool (.list (.prod .str wP)))) 112)],lb 29 [(1,.ptr 32 0),(29,.h .bool)] [(32,.dat (.prod .str (.prod .bool (.list (.prod .str wP)))) 112)]]
def z3m:Nat->(x77 fu).L 0:=Fx.lq (sk fu) (qcu fu) (fun r2=>[r2.s])
def z3l:(x77 fu).L 1:=Fx.jm (qg4 fu) [(z3m fu fu).s]
def z3k:(x77 fu).L 2:=Fx.jm (ot fu) [(z3l fu).s]
def z3n:=(x77 fu).fi (xn fu) [(z3k fu).s]
def x78:Fx wG ⟨.fn 138,[.h (.list (.prod .str (.prod .bool (.list (.prod .str wP)))))],[],_,RS.mk (.h (.prod wI wI)) []⟩:=fx [fq.p,(z3n fu).p,fv.p] [lb 1000 [(2,.ptr 32 0),(29,.h (.list (.prod .str (.prod .bool (.list (.prod .str wP)))))),(30,wH),(31,wH)] [(32,.dat (.prod wI wI) 25)],lb 124 [(0,.h (.list (.prod .str (.prod .bool (.list (.prod .str wP)))))),(2,.ptr 32 0)] [(32,.dat (.prod wI wI) 25)],lb 61 [(0,.h (.list (.prod .str (.prod .bool (.list (.prod .str wP)))))),(2,.ptr 32 0),(27,.h .bool)] [(32,.dat (.prod wI wI) 25)],lb 232 [(0,.h (.list (.prod .str (.prod .bool (.list (.prod .str wP)))))),(2,.ptr 32 0),(3,wH),(9,.h (.list (.prod .str (.prod .bool (.list (.prod .str wP)))))),(10,wH),(11,wH)] [(32,.dat (.prod wI wI) 25)]]
def z3r:Nat->(x78 fu).L 0:=Fx.lq (si fu) (qcp fu) (fun r3=>[r3.s])
def z3q:(x78 fu).L 1:=Fx.jm (qg1 fu) [(z3r fu fu).s]
def z3p:(x78 fu).L 2:=Fx.jm (sh fu) [(z3q fu).s]
def z3o:Nat->(x78 fu).L 3:=Fx.lq (sf fu) (qco fu) (fun r0=>[r0.s,(z3p fu).s])
def zhy:=(x78 fu).fi (qcn fu) [(z3o fu fu).s]
def q4j:IF:=⟨.thr 78 [(2,2),(3,3)],[],[(1,.cells [wS] 9),(2,.cells [wN] 106),(3,.cells [wH,wH] 25)],_,.two (RS.mk (.tup [.u,.ifc 179 (.agg [wH])]) [(1,.cells [wS] 9),(2,.cells [.u] 106),(3,.cells [.u,.u] 25)]) (RS.mk (.tup [.h (.list (.prod .str (.prod .bool (.list (.prod .str wP))))),.h (.prod wI wI)]) [(1,.dead),(2,.dead),(3,.dead)])⟩
def z3u:List (EP wG):=[(q3l fu).p,(z3i fu).p,(zhy fu).p,kp.p,fq.p,fv.p,(qr6 fu).p,x9s.p]
section
variable[iHB:HB]
abbrev fxb{i:IF}(calls:List (EP wG):=[])(ls:List LB:=[])(hf:wG.funcs[qbc i.key]? = some (pc wG (qbc i.key)):=by kernel_rfl):Fx wG i:=Fx.at etys qw4 (qbc i.key) calls ls false [] gd hf
def x79:Fx wG q4j:=fxb ((z3u fu).map fun x=>EP.cv x) [lb 252 [(2,.ptr 2 0),(3,.ptr 3 0)] [(1,.cells [wS] 9),(2,.cells [.own 32] 106),(3,.dat (.prod wI wI) 25),(32,.row (.prod .str (.prod .bool (.list (.prod .str wP)))) 112)],lb 16032 [(2,.ptr 2 0),(3,.ptr 3 0),(4,.ptr 32 0)] [(1,.cells [wS] 9),(2,.cells [.own 33] 106),(3,.dat (.prod wI wI) 25),(32,.dat (.prod .str wI) 182),(33,.row (.prod .str (.prod .bool (.list (.prod .str wP)))) 112)],lb 30 [(1,.ptr 1 0),(2,.ptr 2 0),(3,.ptr 3 0)] [(1,.cells [wS] 9),(2,.cells [wN] 106),(3,.dat (.prod wI wI) 25)]]
def zhz:(x79 fu).L 0:=Fx.jm (qg3 fu)
def z3w:Nat->(x79 fu).L 1:=Fx.lq (qae fu) (qsu fu) (fun r2=>[r2.s,(zhz fu).s])
def z3v:(x79 fu).L 2:=Fx.jm (qcr fu) [(zhz fu).s,(z3w fu fu).s]
end
def x80(fu:Nat):Fx wG ⟨.fn 78,[wS],[],_,RS.mk (.tup [.h (.list (.prod .str (.prod .bool (.list (.prod .str wP))))),.h (.prod wI wI)]) []⟩:=fx [fq.p] [lb 14 [(1,.ptr 32 0),(2,.ptr 33 0),(3,.ptr 34 0)] [(32,.cells [wS] 9),(33,.cells [wN] 106),(34,.dat (.prod wI wI) 25)]]
def znt(c a:Int)(w:World):Calls wG 26 #[.int .i64 c,.int .i64 a] w fun e w'=>e = .returned (.agg #[.int .i64 c,.int .i64 a])/\w'=w.alloc (.cells #[.int .i64 c,.int .i64 a] 25):=by
 go_enter func26,Tryz.ntmps26
 go_wp2
 simp[bodyPost,results,Tryz.results26,go_sem]
def zln(p q r:Addr)(w:World) :
  CallsD wG 133 #[.pointer (some p),.pointer (some q),.pointer (some r)] .returning w fun e u' w'=>e = .returned (.tuple #[])/\u' = .returning/\w'=w:=by
 have hnil:∀w:World,(binOp BinOp.eql 20 .nilIface .nilIface).run wG w = .ok (.bool true) w:=fun _=>oB
 refine callsD_of_wpS func133 rfl fun z5i cs hu => ?_
 apply wpS_seq;apply wpS_region;simp[wpOpsS,go_sem,recoverD,hu,Tryz.ntmps133,Exit.thenS];refine wpS_of_wp ?_;apply wp_block;apply wp_seq;apply wp_region;simp[wpOps,go_sem,hnil,Exit.then,Oper.upon]
 repeat refine Or.inl ?_
 refine wp_cond_true ?_ ?_
 ·simp[Act.eval]
 apply wp_region;simp[wpOps,go_sem,Exit.inBlock,bodyPostS,results,Tryz.results133,Oper.upon]
 repeat refine Or.inl ?_
 cases z5i
 simp_all
def zlo(B1 B2 B3:Nat)(s:Bs)(n:Int)(x y z:Value)(w:World)(h1:w.cell? ⟨B1,0,none⟩=some (.string ⟨s.toArray⟩))(h2:w.heap[B2]? = some (.cells #[x] 106 (0,0)))(h3:w.heap[B3]? = some (.cells #[y,z] 25 (0,0)))(hne:B2≠B3) :
  CallsD wG 133 #[.pointer (some ⟨B1,0,none⟩),.pointer (some ⟨B2,0,none⟩),.pointer (some ⟨B3,0,none⟩)] (.panicking [{ v:=wv 179 n,recovered:=false }]) w fun e u' w'=>e = .returned (.tuple #[])/\u' = .panicking [{ v:=wv 179 n,recovered:=true }] /\
   w'=((((w.alloc (.cells #[.int .i64 n] 179)).alloc (.cells #[.int .i64 11,.int .i64 (if(s.length:Int)<n then s.length else n)] 25)).setCell ⟨B2,0,none⟩ (.slice none 0 0)).setCell ⟨B3,0,none⟩ (.int .i64 11)).setCell ⟨B3,1,none⟩ (.int .i64 (if(s.length:Int)<n then s.length else n)):=by
 have hnil:∀(t:TypeId)(v:Value)(w:World),(binOp BinOp.eql 20 (.iface t v) .nilIface).run wG w = .ok (.bool false) w:=fun t v w=>by
  have hu:wG.underlying 20=some (.interface #[]):=oB
  have q:∀d,(Op.equalIn (d+1) 20 (.iface t v) .nilIface).run wG w = .ok false w:=fun d=>by simp[Op.equalIn,bm hu]
  have e:(Op.equal 20 (.iface t v) .nilIface).run wG w = .ok false w:=q 9999;simp[binOp,e]
 have hta:∀w:World,(Instr.typeAssert (.iface 179 (.agg #[.int .i64 n])) 20 179 true).run wG w = .ok (.tuple #[.agg #[.int .i64 n],.bool true]) w:=fun w=>by
  have hs:(match wG.underlying 179 with|some (.struct _)=>true|_=>false)=true:=oB
  cases hd:wG.underlying 179 with
  |none=>rw[hd]at hs;cases hs
  |some d=>
   rw[hd]at hs;cases d<;>first
    |(simp[Instr.typeAssert,underlying,hd];done)
    |cases hs
 refine callsD_of_wpS func133 rfl fun z5i cs hu => ?_
 apply wpS_seq;apply wpS_region;simp[wpOpsS,go_sem,recoverD,hu,Tryz.ntmps133,Exit.thenS];refine wpS_of_wp ?_;apply wp_block;apply wp_seq;apply wp_region;simp[wpOps,go_sem,wv,hnil,Exit.then,Oper.upon]
 repeat refine Or.inl ?_
 refine wp_cond_false ?_ ?_
 ·simp[Act.eval]
 apply wp_seq;apply wp_region;simp[wpOps,go_sem,hta,Exit.then,Oper.upon]
 repeat refine Or.inl ?_
 refine wp_cond_true ?_ ?_
 ·simp[Act.eval]
 apply wp_seq;apply wp_region;simp[wpOps,go_sem,Exit.then,Oper.upon]
 repeat refine Or.inl ?_
 have g1:w.heap[B1]? ≠ none:=fun e=>by simp[World.cell?,e]at h1
 have l1:B1<w.heap.size:=by
  rcases Nat.lt_or_ge B1 w.heap.size with h|h
  ·exact h
  ·exact absurd (Array.getElem?_eq_none h) g1
 have l2:B2<w.heap.size:=(Array.getElem?_eq_some_iff.1 h2).1;have l3:B3<w.heap.size:=(Array.getElem?_eq_some_iff.1 h3).1;apply wp_region;have hb:∀(w:World)(o:Obj)(B:Nat),B<w.heap.size->(w.alloc o).heap[B]? = w.heap[B]? := fun w o B h=>by
  show(w.heap.push o)[B]? = _;rw[Array.getElem?_push,qW oA]
 have c1:(w.alloc (.cells #[.int .i64 n] 179)).cell? ⟨B1,0,none⟩=some (.string ⟨s.toArray⟩):=by
  rw[World.cell?_of_block (w:=w) (hb w _ B1 l1)];exact h1
 have hmin:∀(a b:Int)(w:World),(Builtin.min_ #[3,3] 3 #[.int .i64 a,.int .i64 b]).run wG w = .ok (.int .i64 (if b<a then b else a)) w:=fun a b w=>by
  simp[Builtin.min_,Builtin.min2]
 simp[wpOps,go_sem,Exit.then,Oper.upon,c1,hmin]
 repeat refine Or.inl ?_
 refine(znt _ _ _).mono ?_;rintro e w' ⟨rfl,rfl⟩
 generalize hw2:(w.alloc (Obj.cells #[Value.int IntKind.i64 n] 179)).alloc (Obj.cells #[Value.int IntKind.i64 11,Value.int IntKind.i64 (if(s.length:Int)<n then(s.length:Int) else n)] 25)=w2
 have e2:w2.heap[B2]? = some (.cells #[x] 106 (0,0)):=by
  rw[← hw2,hb _ _ _ (by rw[World.size_alloc];omega),hb _ _ _ l2];exact h2
 have e3:w2.heap[B3]? = some (.cells #[y,z] 25 (0,0)):=by
  rw[← hw2,hb _ _ _ (by rw[World.size_alloc];omega),hb _ _ _ l3];exact h3
 have d2:w2.cell? ⟨B2,0,none⟩=some x:=by simp[World.cell?,e2]
 have f2:w2.frozen? ⟨B2,0,none⟩=false:=by simp[World.frozen?,e2]
 generalize hw3:w2.setCell ⟨B2,0,none⟩ (.slice none 0 0)=w3;have e3':w3.heap[B3]? = some (.cells #[y,z] 25 (0,0)):=by
  rw[← hw3];simp only[World.setCell,Array.getElem?_modify];rw[qW hne];exact e3
 have d3:w3.cell? ⟨B3,0,none⟩=some y:=by simp[World.cell?,e3']
 have f3:w3.frozen? ⟨B3,0,none⟩=false:=by simp[World.frozen?,e3']
 generalize hw4:w3.setCell ⟨B3,0,none⟩ (.int .i64 11)=w4;have e4:w4.heap[B3]? = some (.cells #[.int .i64 11,z] 25 (0,0)):=by
  rw[← hw4];simp[World.setCell,Array.getElem?_modify,e3']
 have d4:w4.cell? ⟨B3,1,none⟩=some z:=by simp[World.cell?,e4]
 have f4:w4.frozen? ⟨B3,1,none⟩=false:=by simp[World.frozen?,e4]
 simp[wpOps,go_sem,Exit.then,Oper.upon,d2,f2,hw3,storeCells,d3,f3,hw4,d4,f4,Addr.add]
 repeat refine Or.inl ?_
 refine⟨rfl,_,rfl,.tuple #[],?_,rfl,rfl,rfl⟩;simp[results,Tryz.results133]
def iz(p:List Nat):Code:=sub (wg (pc wG 78)) p
def gh(i:Nat):Oper:=match iz [0,1,1] with|.region _ ops _=>ops[i]?.getD default|_=>default
def zq5:iz [0,1,1] = .region 3 #[gh 0,gh 1] false:=oB
def zq7:iz [1,1,1] = .seq (iz [0,1,1,1]) (iz [1,1,1,1]):=oB
def zqz:(gh 0).op = .makeFunc (.func 133) #[] #[.tmp 1,.tmp 2,.tmp 3]:=oB
def zq0:(gh 0).dst=some 10:=oB
def zq1:(gh 0).guard=none:=oB
def zq2:(gh 1).op = .defer { callee := .value (.tmp 10),args:=#[],argTypes:=#[] }:=oB
def zq3:(gh 1).dst=none:=oB
def zq4:(gh 1).guard=none:=oB
def zqw:dw (kg (x80 fu).body (kl 0 (x80 fu).ls).1)=[.code (iz [0,1,1]),.code (iz [1,1,1])]:=oB
def zq9[HB](fu:Nat):dw (kg (x79 fu).body (kl 2 (x79 fu).ls).1)=[.code (iz [0,1,1,1]),.code (iz [1,1,1,1])]:=oB
def po(B1 B2 B3:Nat):Deferred:={ target := .fn (.func 133) #[.pointer (some ⟨B1,0,none⟩),.pointer (some ⟨B2,0,none⟩),.pointer (some ⟨B3,0,none⟩)],args:=#[] }
def zqv{b:Frame}{a:Act}{k:List Item}{cs:List Frame}{w:World}{B1 B2 B3:Nat}(hro:b.roundOf=none)(hk:b.kind = .normal)(hsz:10<a.tmps.size)(h1:a.tmps[1]? = some (.pointer (some ⟨B1,0,none⟩)))(h2:a.tmps[2]? = some (.pointer (some ⟨B2,0,none⟩)))(h3:a.tmps[3]? = some (.pointer (some ⟨B3,0,none⟩))) :
  ∃v,Steps wG (lone (b.atR a (.code (iz [0,1,1])::k)) cs w) (lone (b.atR { tmps:=a.tmps.setIfInBounds 10 v,defers:=po B1 B2 B3::a.defers } k) cs w):=by
 refine⟨.func (.func 133) #[] #[.pointer (some ⟨B1,0,none⟩),.pointer (some ⟨B2,0,none⟩),.pointer (some ⟨B3,0,none⟩)],?_⟩;rw[zq5];have e:∀t v,a.tmps[t]? = some v->a.eval (.tmp t)=v:=fun t v h=>by
  show a.tmps.getD t undef=v;rw[Array.getD_eq_getD_getElem?,h];rfl
 have s0:∀(rest:List Nat),step wG (lone (b.atR a (.inRegion #[gh 0,gh 1] (0::rest)::k)) cs w) = .next (lone (b.atR { tmps:=a.tmps.setIfInBounds 10 (.func (.func 133) #[] #[.pointer (some ⟨B1,0,none⟩),.pointer (some ⟨B2,0,none⟩),.pointer (some ⟨B3,0,none⟩)]),defers:=a.defers } (.inRegion #[gh 0,gh 1] rest::k)) cs w):=by
  intro rest;have ho:(#[gh 0,gh 1]:Array Oper)[0]? = some (gh 0):=rfl;have hw:Region.wanted (gh 0) (yielded #[gh 0,gh 1] a.tmps)=true:=by simp[Region.wanted,zq1]
  have hg:=stepGR_op (P:=wG) (b:=b) (a:=a) (k:=k) (cs:=cs) (w:=w) (rest:=rest) ho hw;rw[hro,Oper.semAt_none]at hg;have hr:(execOp a.eval (gh 0)).run wG w = .ok (.value (.func (.func 133) #[] #[.pointer (some ⟨B1,0,none⟩),.pointer (some ⟨B2,0,none⟩),.pointer (some ⟨B3,0,none⟩)])) w:=by
   simp[execOp,zqz,Instr.makeFunc,e 1 _ h1,e 2 _ h2,e 3 _ h3]
  have hfin:=Frame.finish_atR b a #[gh 0,gh 1] 0 rest k (.func (.func 133) #[] #[.pointer (some ⟨B1,0,none⟩),.pointer (some ⟨B2,0,none⟩),.pointer (some ⟨B3,0,none⟩)]);rw[ho]at hfin;simp only[qB,zq0]at hfin;refine step_lone_go ?_;rw[hg];simp[stepG.apply,hr];rw[hfin];rfl
 refine(Steps.one stepR_region).trans ?_;show Steps wG (lone (b.atR a (.inRegion #[gh 0,gh 1] [0,1]::k)) cs w) _;refine(Steps.one (s0 [1])).trans ((Steps.one (ztz (i:=1) rfl zq4 zq2 zq3 hro (dd:=po B1 B2 B3) ?_)).trans (.one stepR_region_end));have e10:({ tmps:=a.tmps.setIfInBounds 10 (.func (.func 133) #[] #[.pointer (some ⟨B1,0,none⟩),.pointer (some ⟨B2,0,none⟩),.pointer (some ⟨B3,0,none⟩)]),defers:=a.defers }:Act).eval (.tmp 10) = .func (.func 133) #[] #[.pointer (some ⟨B1,0,none⟩),.pointer (some ⟨B2,0,none⟩),.pointer (some ⟨B3,0,none⟩)]:=by
  show(a.tmps.setIfInBounds 10 _).getD 10 undef=_;rw[Array.getD_eq_getD_getElem?,Array.getElem?_setIfInBounds_self_of_lt hsz];rfl
 simp[resolve,e10,Deferred.ofValue,po]
abbrev jt:List (Nat×Nat):=[(1,32),(2,33),(3,34)]
abbrev PTy:Ty := .list (.prod .str (.prod .bool (.list (.prod .str wP))))
def zct(B1 B2 B3:Nat)(w':World):(invoke (.fn (.func 133) #[.pointer (some ⟨B1,0,none⟩),.pointer (some ⟨B2,0,none⟩),.pointer (some ⟨B3,0,none⟩)]) #[]).run wG w' = .ok (.enter 133 #[.pointer (some ⟨B1,0,none⟩),.pointer (some ⟨B2,0,none⟩),.pointer (some ⟨B3,0,none⟩)]) w':=by
 simp[go_sem]
def zq6{S:Bs}{f0:Int×Int}{z5m:World}{z5g G G':Gh}{a:Act}{w w':World}{s:St}(hhp:s.hp=[(32,.cells [.str S] 9),(33,.cells [.val (.slice none 0 0)] 106),(34,.cells [.int .i64 f0.1,.int .i64 f0.2] 25)])(hnx:s.nx=64)(hrel:ai z5m z5g [] G s a w)
  {x:Machine} {cs:List Frame} {fr:Frame} {B1 B2 B3:Nat} {v:Value} {fn':Func} {l:List (Bs×Bool×List (Bs×Bs×Bs))} {f1 f2:Int}
  (hs:Steps wG x (lone fr cs w')) (hfn:fr.fn=78) (hmode:fr.mode = .returning) (hdef:fr.defers=[po B1 B2 B3]) (hkind:fr.kind = .normal) (hfn':wG.funcs[fr.fn]? = some fn') (hres:(results fn' fr.tmps).run wG w' = .ok v w')
  (hf:Fin w (G.view jt) [(1,.cells [.str S] 9),(2,.cells [.val (.slice none 0 0)] 106),(3,.cells [.int .i64 f0.1,.int .i64 f0.2] 25)] G' [(1,.dead),(2,.dead),(3,.dead)] w')
  (hrep:aj (.tup [.sl (.prod .str (.prod .bool (.list (.prod .str wP)))) l,.agg [.int .i64 f1,.int .i64 f2]]) G' v) :
  py wG none 78 x cs (fun v w'=>∃G',Fin z5m z5g [] G' [] w'/\aj (.tup [.sl (.prod .str (.prod .bool (.list (.prod .str wP)))) l,.agg [.int .i64 f1,.int .i64 f2]]) G' v):=by
 have hL:Leaves wG fn' fr.tmps (fun e w''=>e = .returned v/\w''=w') [po B1 B2 B3] .returning w':=by
  refine leaves_cons (f:=133) oC (zct B1 B2 B3 w') ((zln _ _ _ w').mono ?_)
  rintro e u' w'' ⟨rfl,rfl,rfl⟩
  exact⟨v,hres,rfl,rfl⟩
 obtain⟨e,w'',fr',⟨rfl,rfl⟩,hc,hfn2,hl⟩:=leaves_steps [po B1 B2 B3] .returning w' fr cs hmode hdef rfl hfn' hkind hL;obtain⟨m1,m2,m3,fn3,m4,m5⟩:=hl;refine⟨v,w'',fr',?_,hs.trans hc,hfn2.trans hfn,m1,m2,m3,fn3,m4,m5⟩;obtain⟨n,fr0,hp,nx,df⟩:=s;simp only at hhp hnx;subst hhp hnx;obtain⟨G2,v2,e2,h2,_,hR⟩:=qks (r := .tup [.sl (.prod .str (.prod .bool (.list (.prod .str wP)))) l,.agg [.int .i64 f1,.int .i64 f2]]) (names:=jt) (e := .returned v) hrel (k:=64) (by rfl) (by rfl) (wF _) (hpv:=[(1,.cells [.str S] 9),(2,.cells [.val (.slice none 0 0)] 106),(3,.cells [.int .i64 f0.1,.int .i64 f0.2] 25)]) (by rfl) (hp:=[(1,.cells [.str S] 9),(2,.cells [.val (.slice none 0 0)] 106),(3,.cells [.int .i64 f0.1,.int .i64 f0.2] 25)]) (hp':=[(1,.dead),(2,.dead),(3,.dead)]) (by rfl) (by simp[aq,AV.ren,AV.rens,nh]) ⟨v,G',rfl,hf,hrep⟩
 cases e2
 exact⟨G2,(ia.less hR.lt (s':={ n:=43,fr:=[],hp:=[],nx:=64,df:=df }) rfl (fun _ _ h=>by cases h) (fun _ _ h=>by cases h)).fin,h2⟩
def zq8{S:Bs}{f0:Int×Int}{z5m:World}{z5g G G':Gh}{a:Act}{w w':World}{s:St}(hhp:s.hp=[(32,.cells [.str S] 9),(33,.cells [.val (.slice none 0 0)] 106),(34,.cells [.int .i64 f0.1,.int .i64 f0.2] 25)])(hnx:s.nx=64)(hrel:ai z5m z5g [] G s a w)
  {x:Machine} {cs:List Frame} {fr:Frame} {B1 B2 B3:Nat} {n:Int} {S':Bs} (g1:G.box 32=some B1) (g2:G.box 33=some B2) (g3:G.box 34=some B3)
  (hs:Steps wG x (lone fr cs w')) (hfn:fr.fn=78) (hmode:fr.mode = .panicking [{ v:=wv 179 n,recovered:=false }]) (hdef:fr.defers=[po B1 B2 B3]) (hkind:fr.kind = .normal)
  (t2:fr.tmps[2]? = some (.pointer (some ⟨B2,0,none⟩))) (t3:fr.tmps[3]? = some (.pointer (some ⟨B3,0,none⟩)))
  (hf:Fin w (G.view jt) [(1,.cells [.str S] 9),(2,.cells [.val (.slice none 0 0)] 106),(3,.cells [.int .i64 f0.1,.int .i64 f0.2] 25)] G' [(1,.cells [.str S'] 9),(2,.cells [.undef] 106),(3,.cells [.undef,.undef] 25)] w') :
  py wG none 78 x cs (fun v w'=>∃G',Fin z5m z5g [] G' [] w'/\aj (.tup [.sl (.prod .str (.prod .bool (.list (.prod .str wP)))) [],.agg [.int .i64 11,.int .i64 (if(S'.length:Int)<n then(S'.length:Int) else n)]]) G' v):=by
 obtain⟨C1,vs1,c1,h1,r1,_⟩:=hf.mem.holds 1 _ rfl;obtain⟨C2,vs2,c2,h2,r2,_⟩:=hf.mem.holds 2 _ rfl;obtain⟨C3,vs3,c3,h3,r3,_⟩:=hf.mem.holds 3 _ rfl;have e1:C1=B1:=by
  have:=hf.keep 1 _ B1 rfl (show(G.view jt).box 1=some B1 from g1)
  rw[c1]at this;exact qJ this
 have e2:C2=B2:=by
  have:=hf.keep 2 _ B2 rfl (show(G.view jt).box 2=some B2 from g2)
  rw[c2]at this;exact qJ this
 have e3:C3=B3:=by
  have:=hf.keep 3 _ B3 rfl (show(G.view jt).box 3=some B3 from g3)
  rw[c3]at this;exact qJ this
 subst e1 e2 e3;have hne:C2≠C3:=fun e=>by
  have:=hf.mem.apart 2 3 _ _ C2 rfl rfl c2 (by rw[e];exact c3)
  omega
 obtain⟨u1,rfl,q1⟩:=zdm r1;simp only[aj]at q1;subst q1;obtain⟨u2,rfl,_⟩:=zdm r2;obtain⟨y3,z3,rfl⟩:=zsn r3;have d1:w'.cell? ⟨C1,0,none⟩=some (.string ⟨S'.toArray⟩):=by simp[World.cell?,h1]
 generalize hm:(if(S'.length:Int)<n then(S'.length:Int) else n)=m
 have hcw:=zlo C1 C2 C3 S' n u2 y3 z3 w' d1 h2 h3 hne;rw[hm]at hcw;generalize hw1:(w'.alloc (.cells #[.int .i64 n] 179)).alloc (.cells #[.int .i64 11,.int .i64 m] 25)=w1 at hcw;have b1:bw (fun b=>b=C2\/b=C3) w' w1:=by
  rw[← hw1];exact(q75.wide fun _ h=>h.elim).tr (q75.wide fun _ h=>h.elim)
 have l2:C2<w'.heap.size:=(Array.getElem?_eq_some_iff.1 h2).1;have l3:C3<w'.heap.size:=(Array.getElem?_eq_some_iff.1 h3).1;have hb:∀(w:World)(o:Obj)(B:Nat),B<w.heap.size->(w.alloc o).heap[B]? = w.heap[B]? := fun w o B h=>by
  show(w.heap.push o)[B]? = _;rw[Array.getElem?_push,qW oA]
 have k2:w1.heap[C2]? = some (.cells #[u2] 106 (0,0)):=by
  rw[← hw1,hb _ _ _ (by rw[World.size_alloc];omega),hb _ _ _ l2];exact h2
 have k3:w1.heap[C3]? = some (.cells #[y3,z3] 25 (0,0)):=by
  rw[← hw1,hb _ _ _ (by rw[World.size_alloc];omega),hb _ _ _ l3];exact h3
 generalize hw4:((w1.setCell ⟨C2,0,none⟩ (.slice none 0 0)).setCell ⟨C3,0,none⟩ (.int .i64 11)).setCell ⟨C3,1,none⟩ (.int .i64 m)=w4 at hcw;have b4:bw (fun b=>b=C2\/b=C3) w' w4:=by
  rw[← hw4];exact((b1.tr (qx3.wide fun _ h => .inl h)).tr (qx3.wide fun _ h => .inr h)).tr (qx3.wide fun _ h => .inr h)
 have j2:w4.heap[C2]? = some (.cells #[.slice none 0 0] 106 (0,0)):=by
  rw[← hw4];simp[World.setCell,Array.getElem?_modify,k2,(Ne.symm hne:¬C3=C2)]
 have j3:w4.heap[C3]? = some (.cells #[.int .i64 11,.int .i64 m] 25 (0,0)):=by
  rw[← hw4];simp[World.setCell,Array.getElem?_modify,k3,hne]
 have i2:w4.cell? ⟨C2,0,none⟩=some (.slice none 0 0):=by simp[World.cell?,j2]
 have i3:w4.cell? ⟨C3,0,none⟩=some (.int .i64 11):=by simp[World.cell?,j3]
 have i4:w4.cell? ⟨C3,1,none⟩=some (.int .i64 m):=by simp[World.cell?,j3]
 have hres:(results f78 fr.tmps).run wG w4 = .ok (.tuple #[.slice none 0 0,.agg #[.int .i64 11,.int .i64 m]]) w4:=by
  simp[results,Tryz.results78,go_sem,t2,t3,i2,i3,i4]
 have hL:Leaves wG f78 fr.tmps (fun e w''=>e = .returned (.tuple #[.slice none 0 0,.agg #[.int .i64 11,.int .i64 m]])/\w''=w4) [po C1 C2 C3] (.panicking [{ v:=wv 179 n,recovered:=false }]) w':=by
  refine leaves_cons (f:=133) oC (zct C1 C2 C3 w') (hcw.mono ?_)
  rintro e u' w'' ⟨rfl,rfl,rfl⟩
  exact⟨_,hres,rfl,rfl⟩
 obtain⟨e,w'',fr',⟨rfl,rfl⟩,hc,hfn2,hl⟩:=leaves_steps [po C1 C2 C3] _ w' fr cs hmode hdef rfl (by rw[hfn];exact func78) hkind hL
 obtain⟨m1,m2,m3,fn3,m4,m5⟩:=hl;refine⟨_,w'',fr',?_,hs.trans hc,hfn2.trans hfn,m1,m2,m3,fn3,m4,m5⟩;obtain⟨nn,fr0,hp,nx,df⟩:=s;simp only at hhp hnx;subst hhp hnx;obtain⟨G2,v2,_,_,hle,hR⟩:=qks (r := .undef) (names:=jt) (e := .returned undef) hrel (k:=64) (by rfl) (by rfl) (wF _) (hpv:=[(1,.cells [.str S] 9),(2,.cells [.val (.slice none 0 0)] 106),(3,.cells [.int .i64 f0.1,.int .i64 f0.2] 25)]) (by rfl) (hp:=[(1,.cells [.str S] 9),(2,.cells [.val (.slice none 0 0)] 106),(3,.cells [.int .i64 f0.1,.int .i64 f0.2] 25)]) (hp':=[(1,.cells [.str S'] 9),(2,.cells [.undef] 106),(3,.cells [.undef,.undef] 25)]) (by rfl) (by simp[aq,AV.ren,AV.rens,nh]) ⟨undef,G',rfl,hf,trivial⟩
 have o2:G2.box 33=some C2:=hle.box _ _ g2;have o3:G2.box 34=some C3:=hle.box _ _ g3;refine⟨G2,hR.fin.wild b4 fun b hb => ?_,_,rfl,⟨none,0,rfl,oC,.inl rfl⟩,⟨_,rfl,rfl,rfl,trivial⟩,trivial⟩
 rcases hb with rfl|rfl
 ·obtain⟨B,vs,p1,_,_,_,p5⟩:=hR.fin.mem.holds 33 (.cells [.undef] 106) rfl;rw[o2]at p1;cases p1;exact⟨p5,hR.fin.base 33 (.cells [.undef] 106) _ rfl o2⟩
 ·obtain⟨B,vs,p1,_,_,_,p5⟩:=hR.fin.mem.holds 34 (.cells [.undef,.undef] 25) rfl;rw[o3]at p1;cases p1;exact⟨p5,hR.fin.base 34 (.cells [.undef,.undef] 25) _ rfl o3⟩
def zqu{S:Bs}{f0:Int×Int}{r:qwp}(hr:qcq fu S f0=some r){z5m:World}{z5g G:Gh}{a:Act}{w:World}
  (hrel:ai z5m z5g [] G { n:=43,fr:=[(1,.ptr 32 0),(2,.ptr 33 0),(3,.ptr 34 0)],hp:=[(32,.cells [.str S] 9),(33,.cells [.val (.slice none 0 0)] 106),(34,.cells [.int .i64 f0.1,.int .i64 f0.2] 25)],nx:=64,df:=[] } a w)
  {b:Frame} (cs:List Frame) (hb:b.fn=78) (hkd:b.kind = .normal) (hro:b.roundOf=none) :
  py wG none 78 (lone (b.atR a.bs [.code (iz [0,1,1]),.code (iz [1,1,1])]) cs w) cs (fun v w'=>∃G',Fin z5m z5g [] G' [] w'/\aj (.tup [.sl (.prod .str (.prod .bool (.list (.prod .str wP)))) r.1,.agg [.int .i64 r.2.1,.int .i64 r.2.2]]) G' v):=by
 obtain⟨v1,t1,B1,g1,rfl⟩:=hrel.frame 1 _ rfl;obtain⟨v2,t2,B2,g2,rfl⟩:=hrel.frame 2 _ rfl;obtain⟨v3,t3,B3,g3,rfl⟩:=hrel.frame 3 _ rfl;have hd0:a.defers=[]:=by
  obtain⟨bs,e1,e2⟩:=hrel.defers;have:bs=[]:=by cases bs with|nil=>rfl|cons _ _=>simp at e2
  rw[e1,this];rfl
 have hsz:a.tmps.size=43:=hrel.size;have habs:a.bs=a:=by
  obtain⟨tm,df⟩:=a;show({ tmps:=tm,defers:=df++[] }:Act)=_;rw[List.append_nil]
 rw[habs];obtain⟨cl,hstep⟩:=zqv (k:=[.code (iz [1,1,1])]) (cs:=cs) (w:=w) hro hkd oA t1 t2 t3
 rw[hd0]at hstep;have hstep2:Steps wG (lone (b.atR a [.code (iz [0,1,1]),.code (iz [1,1,1])]) cs w) (lone (b.atR { tmps:=a.tmps.setIfInBounds 10 cl,defers:=[po B1 B2 B3] } [.code (iz [0,1,1,1]),.code (iz [1,1,1,1])]) cs w):=by
  refine hstep.trans (.one ?_);rw[zq7];exact stepR_seq
 refine py.head hstep2 ?_
 -- what is known of the body behind
 unfold qcq at hr
 cases hz:qcr fu S f0 with
 |none=>
  rw[show qg2 fu S f0.1 f0.2=qcr fu S f0 from rfl,hz]at hr;cases hr
 |some z=>
 rw[show qg2 fu S f0.1 f0.2=qcr fu S f0 from rfl,hz]at hr
 have hr:az z (fun a2=>some (([]:PTy.den),((11:Int),if(a2.2.length:Int)<a2.1 then(a2.2.length:Int) else a2.1))) (fun b3=>some b3)=some r:=hr
 have hv:gx (au jt) [(32,.cells [.str S] 9),(33,.cells [.val (.slice none 0 0)] 106),(34,.cells [.int .i64 f0.1,.int .i64 f0.2] 25)] jt=some [(1,.cells [.str S] 9),(2,.cells [.val (.slice none 0 0)] 106),(3,.cells [.int .i64 f0.1,.int .i64 f0.2] 25)]:=rfl;have hdist:dn jt=true:=rfl;have hm:b8 (G.view jt) [(1,.cells [.str S] 9),(2,.cells [.val (.slice none 0 0)] 106),(3,.cells [.int .i64 f0.1,.int .i64 f0.2] 25)] w:=hrel.fin.mem.view hv (ym hdist)
 let hb:HB:=⟨[po B1 B2 B3]⟩
 have hsame:LC.Same (@instLCOfHB instHB) (@instLCOfHB hb):=⟨rfl,rfl,rfl,rfl,rfl⟩;have hm':=b8.cv hsame hm;have nb:∀(k m:Nat),k≠m->Nat.beq k m=false:=fun k m h=>by
  cases hq:Nat.beq k m
  ·rfl
  ·exact absurd (qN hq) h
 have hset:∀i v,i≠10->a.tmps[i]? = some v->(a.tmps.setIfInBounds 10 cl)[i]? = some v:=fun i v hi h=>by
  rw[Array.getElem?_setIfInBounds,qW (fun e=>hi e.symm)];exact h
 have hrel':=@ai.fresh_start (@instLCOfHB hb) G _ w jt hm' (fun m hm=>by
  simp only[jt,bf,nb 1 m oA,nb 2 m oA,nb 3 m oA,qF]) 43 [(1,.ptr 1 0),(2,.ptr 2 0),(3,.ptr 3 0)] (a.tmps.setIfInBounds 10 cl) (by simpa using hsz) (fun i x hx=>by
  by_cases e1:i=1
  ·subst e1;cases hx;exact⟨_,hset 1 _ oA t1,B1,g1,rfl⟩
  by_cases e2:i=2
  ·subst e2;cases hx;exact⟨_,hset 2 _ oA t2,B2,g2,rfl⟩
  by_cases e3:i=3
  ·subst e3;cases hx;exact⟨_,hset 3 _ oA t3,B3,g3,rfl⟩
  simp only[ae,nb 1 i (fun e=>e1 e.symm),nb 2 i (fun e=>e2 e.symm),nb 3 i (fun e=>e3 e.symm),qF]at hx
  cases hx)
 have hgo:=(z3v (iHB:=hb) fu).h ((S,()),((),()),((f0.1,(f0.2,())),())) (((),(),(),()),((S,()),((),()),(f0,()))) z hz w (G.view jt) (G.view jt) _ w hrel' b cs ‹b.fn=78› hkd hro;rw[hro]at hgo;have hs0:∀y,Steps wG (lone (b.atR (@Act.bs (@instLCOfHB hb) { tmps:=a.tmps.setIfInBounds 10 cl,defers:=[] }) (dw (kg (x79 (iHB:=hb) fu).body (kl 2 (x79 (iHB:=hb) fu).ls).1))) cs w) y->Steps wG (lone (b.atR { tmps:=a.tmps.setIfInBounds 10 cl,defers:=[po B1 B2 B3] } [.code (iz [0,1,1,1]),.code (iz [1,1,1,1])]) cs w) y:=fun y hs=>by
  rw[← @zq9 hb fu];exact hs
 cases z with
 |inr y=>
  obtain⟨l,f1,f2⟩:=y;have hr:some (l,(f1,f2))=some r:=hr;have hr:=qJ hr;subst hr;rcases hgo with⟨_,v,w',fr,⟨G',hf,hrep⟩,hs,hfn,hmode,hdef,hkind,fn',hfn',hres⟩|⟨chain,w',fr,aT,hT,_⟩
  ·exact zq6 rfl rfl hrel (hs0 _ hs) hfn hmode hdef hkind hfn' hres (Fin.cv hsame.symm hf) hrep
  ·obtain⟨t,n',hm0,_⟩:@ThT (@instLCOfHB hb) [(2,2),(3,3)] _ _ q4j.out w (G.view jt) (.inr (l,f1,f2)) chain aT w':=hT;cases hm0
 |inl y=>
  obtain⟨n,S'⟩:=y;have hr:=qJ (show some (([]:PTy.den),((11:Int),if(List.length S':Int)<n then(List.length S':Int) else n))=some r from hr);subst hr
  rcases hgo with⟨hnm,_⟩|⟨chain,w',fr,aT,hT,hs,hfn,hmode,hkind,hdef,htm⟩
  ·cases (show some (179,n)=none from hnm)
  ·obtain⟨t,n',hm0,rfl,hd1,hks,G',hf⟩:@ThT (@instLCOfHB hb) [(2,2),(3,3)] _ _ q4j.out w (G.view jt) (.inl (n,S')) chain aT w':=hT;cases (show some (179,n)=some (t,n') from hm0)
   obtain⟨C2,q1,q2⟩:=hks (2,2) oC
   obtain⟨C3,q3,q4⟩:=hks (3,3) oC
   have e2:=q2 _ B2 rfl g2;have e3:=q4 _ B3 rfl g3;subst e2 e3;exact zq8 rfl rfl hrel g1 g2 g3 (hs0 _ hs) hfn hmode (by rw[hdef,hd1];rfl) hkind (by rw[htm];exact q1) (by rw[htm];exact q3) (Fin.cv hsame.symm hf)
def zqx(d':f8 ([]:List (Nat×bj))):nr (x80 fu).cx ((x80 fu).cx.TT (bp [] d') (RS.mk (.tup [.h PTy,.h (.prod wI wI)]) [])) (bp [] d') (RS.mk (.tup [.h PTy,.h (.prod wI wI)]) []) (x80 fu).body ((kl 0 (x80 fu).ls).lab (qcq fu)):=by
 intro d r hr z5m z5g G a w hrel b cs hb hkd hrd;have hro:b.roundOf=none:=hrd;refine .inl ⟨trivial,?_⟩;obtain⟨⟨u1,u2,u3,u4⟩,⟨⟨S,u5⟩,⟨⟨u6,u7⟩,⟨f0,u8⟩⟩⟩⟩:=d;have h:=zqu fu (S:=S) (f0:=f0) (r:=r) hr hrel cs hb hkd hro;rw[← zqw fu,← hro]at h;exact h
def z3y:(x80 fu).L 0:=⟨qcq fu,zqx fu⟩
def z3z:=(x80 fu).fi (ql8 fu) [(z3y fu).s]
end
end
noncomputable section
open Go.Proofs
set_option linter.unusedVariables false
set_option maxRecDepth 100000
set_option maxHeartbeats 2000000
open Tryz
section
variable(fu:Nat)
def zh0:EI wG ⟨.fn 115,[.own 0],[(0,.row .str 9)],_,RS.mk (.ptr 1 0) [(0,.dead),(1,.cells [.h (.int .u32),.h (.int .i32),.h (.int .u32),.c .nilIface,.own 2] 222),(2,.row .str 9)]⟩:=(fx [] [] true).fi qii
def zh1:EI wG ⟨.fn 194,[wS],[],_,RS.mk (wS) []⟩:=(fx [zh0.p,⟨q1i.e sw,zdl⟩]).fi qcw
def z30:EI wG ⟨.fn 190,[.h (.prod .str wP)],[],_,RS.mk (wS) []⟩:=(fx [(zhc fu).p,zh1.p]).fi (qhc fu)
def zh2:EI wG ⟨.fn 245,[wS,wS],[],_,RS.mk (.h .bool) []⟩:=(fx).fi qul
def z32:EI wG ⟨.fn 296,[wS,wS],[],_,RS.mk (.h .bool) []⟩:=(fx [zh2.p]).fi q5x
def x86(fu:Nat):Fx wG ⟨.fn 246,[wS],[],_,RS.mk (.h .bool) []⟩:=fx [zhg.p,z32.p,x6s.p] [lb 423 [(0,wS),(5,wH),(6,wH)],lb 3379 [(0,wS),(5,wH),(6,wH),(18,.h .bool)],lb 104 [(0,wS),(5,wH),(6,wH)]]
def z35(r0:(x86 fu).L 2):(x86 fu).L 0:=Fx.jm (q6h fu r0.f) [r0.s]
def z34(r0:(x86 fu).L 2):(x86 fu).L 1:=Fx.jm (qwc fu r0.f) [(z35 fu r0).s]
def z33:Nat->(x86 fu).L 2:=Fx.lq (qwb fu) (q6g fu) (fun r0=>[(z34 fu r0).s])
def z36:=(x86 fu).fi (q6f fu) [(z33 fu fu).s]
def x87(fu:Nat):Fx wG ⟨.fn 247,[wS],[],_,RS.mk (wS) []⟩:=fx [] [lb 232 [(3,wS),(7,.ptr 32 0)] [(32,.it)]]
def z38:Nat->(x87 fu).L 0:=Fx.lq (qtv fu) (q4y fu) (fun r0=>[r0.s])
def z39:=(x87 fu).fi (q4x fu) [(z38 fu fu).s]
def z4a:EI wG ⟨.fn 248,[wS,wS],[],_,RS.mk (.fn 297 [.ptr 0 0,.ptr 1 0]) [(0,.cells [wS] 9),(1,.cells [wS] 9)]⟩:=(fx).fi q6i
def z4b:EI wG ⟨.fn 325,[wS],[],_,RS.mk (.fn 343 [.ptr 0 0]) [(0,.cells [wS] 9)]⟩:=(fx).fi q5d
def x90(fu:Nat):Fx wG ⟨.fn 372,[.h (.int .i32),.h (.list (.prod (.int .i32) (.prod (.int .i32) wI)))],[],_,RS.mk (.tup [wH,.h .bool]) []⟩:=fx [] [lb 104 [(0,.h (.int .i32)),(8,.h (.list (.prod (.int .i32) (.prod (.int .i32) wI)))),(9,wH),(10,wH)]]
def z4c:Nat->(x90 fu).L 0:=Fx.lq (quh fu) (q5c fu) (fun r0=>[r0.s])
def z4d:=(x90 fu).fi (q5b fu) [(z4c fu fu).s]
def z4e:EI wG ⟨.fn 363,[.h (.int .i32)],[],_,RS.mk (wH) []⟩:=(fx [(z4d fu).p]).fi (qua fu)
def z4f:EI wG ⟨.fn 344,[wS],[],_,RS.mk (.h (.prod wI (.prod .bool wI))) []⟩:=(fx [⟨wm.e g9,yl pb ox pa ow⟩,(z4e fu).p]).fi (qug fu)
def z4g:EI wG ⟨.fn 364,[wH],[],_,RS.mk (.h .bool) []⟩:=(fx).fi qub
def x94:Fx wG ⟨.fn 345,[.h (.prod wI (.prod .bool wI)),.h (.prod wI (.prod .bool wI)),wH],[],_,RS.mk (.h .bool) []⟩:=fx [z4g.p] [lb 30 [(3,.ptr 32 0),(4,.ptr 33 0)] [(32,.dat (.prod wI (.prod .bool wI)) 365),(33,.dat (.prod wI (.prod .bool wI)) 365)],lb 3711 [(2,wH),(3,.ptr 32 0),(4,.ptr 33 0),(35,.h .bool)] [(32,.dat (.prod wI (.prod .bool wI)) 365),(33,.dat (.prod wI (.prod .bool wI)) 365)],lb 927 [(2,wH),(3,.ptr 32 0),(4,.ptr 33 0),(24,.h .bool)] [(32,.dat (.prod wI (.prod .bool wI)) 365),(33,.dat (.prod wI (.prod .bool wI)) 365)],lb 231 [(2,wH),(3,.ptr 32 0),(4,.ptr 33 0),(7,.fn 364 []),(15,.h .bool)] [(32,.dat (.prod wI (.prod .bool wI)) 365),(33,.dat (.prod wI (.prod .bool wI)) 365)],lb 57 [(2,wH),(3,.ptr 32 0),(4,.ptr 33 0),(7,.fn 364 []),(8,.h .bool)] [(32,.dat (.prod wI (.prod .bool wI)) 365),(33,.dat (.prod wI (.prod .bool wI)) 365)]]
def z4l:x94.L 0:=Fx.jm q5a
def z4k:x94.L 1:=Fx.jm quf [(z4l).s]
def z4j:x94.L 2:=Fx.jm que [(z4k).s]
def z4i:x94.L 3:=Fx.jm qud [(z4j).s]
def z4h:x94.L 4:=Fx.jm quc [(z4i).s]
def z4m:=x94.fi q49 [(z4h).s]
def z4n:EI wG ⟨.yld 0,[wS],[(0,.loop .ready none 298 13 [(3,.ptr 1 0)] [7] 3 2),(1,.cells [.own 3] 64),(2,.dfr),(3,.row .str 9)],_,RS.mk (.c (.bool true)) [(0,.loop .ready none 298 13 [(3,.ptr 1 0)] [7] 3 2),(1,.cells [.own 4] 64),(2,.dfr),(3,.dead),(4,.row .str 9)]⟩:=(fy 298 [] [] false [([0,1,0,1,1],3)] (g7 rfl gd)).fo qt9 [] 0 [0,1,0,1,1]
def x96:Fx wG ⟨.fn 343,[.yld 0,.ptr 1 0],[(0,.loop .ready none 298 13 [(3,.ptr 2 0)] [7] 3 3),(1,.cells [wS] 9),(2,.cells [.own 4] 64),(3,.dfr),(4,.row .str 9)],_,RS.mk (.tup []) [(0,.loop .ready none 298 13 [(3,.ptr 2 0)] [7] 3 3),(1,.cells [wS] 9),(2,.cells [.own 5] 64),(3,.dfr),(4,.dead),(5,.row .str 9)]⟩:=fx [(z4f fu).p,z4m.p,z4n.p] [lb 77358 [(0,.yld 0),(1,.ptr 1 0),(3,.ptr 32 0),(4,wH),(5,wH),(6,.ptr 33 0)] [(0,.loop .ready none 298 13 [(3,.ptr 2 0)] [7] 3 3),(1,.cells [wS] 9),(2,.cells [.own 34] 64),(3,.dfr),(4,.dead),(32,.dat (.prod wI (.prod .bool wI)) 365),(33,.dat (.prod wI (.prod .bool wI)) 365),(34,.row .str 9)],lb 4832 [(0,.yld 0),(1,.ptr 1 0),(3,.ptr 32 0),(4,wH),(5,wH)] [(0,.loop .ready none 298 13 [(3,.ptr 2 0)] [7] 3 3),(1,.cells [wS] 9),(2,.cells [.own 33] 64),(3,.dfr),(4,.dead),(32,.dat (.prod wI (.prod .bool wI)) 365),(33,.row .str 9)],lb 16 [(0,.yld 0),(1,.ptr 1 0)] [(0,.loop .ready none 298 13 [(3,.ptr 2 0)] [7] 3 3),(1,.cells [wS] 9),(2,.cells [.own 32] 64),(3,.dfr),(4,.dead),(32,.row .str 9)]]
def z4q(r0:(x96 fu).L 2)(r1:(x96 fu).L 1):(x96 fu).L 0:=Fx.jm (quj fu r0.f r1.f) [r1.s]
def z4p(r0:(x96 fu).L 2):Nat->(x96 fu).L 1:=Fx.lq (qmt fu r0.f) (q5g fu r0.f) (fun r1=>[r0.s,(z4q fu r0 r1).s])
def z4o:Nat->(x96 fu).L 2:=Fx.lq (qui fu) (q5f fu) (fun r0=>[(z4p fu r0 fu).s])
def z4r:=(x96 fu).fi (q5e fu) [(z4o fu fu).s]
def z4s:EI wG ⟨.fn 298,[wS],[],_,RS.mk (.own 0) [(0,.row .str 9)]⟩:=(fx [z4b.p,(z4r fu).p] [] false [([0,1,0,1,1],3)] (g7 rfl gd)).fi (q48 fu)
def z4t:EI wG ⟨.fn 366,[.h (.int .i32),.ptr 0 0],[(0,.cells [.h (.int .i32)] 21)],_,RS.mk (.tup [.own 1,.h .bool]) [(0,.cells [.h (.int .i32)] 21),(1,.row .byte 5)]⟩:=(fx).fi q46
def x99:Fx wG ⟨.fn 367,[wN,.h (.int .i32)],[],_,RS.mk (.own 0) [(0,.row .byte 5)]⟩:=fx [] [lb 479 [(0,wN),(1,.h (.int .i32)),(50,.h .bool)],lb 119 [(0,wN),(1,.h (.int .i32)),(5,.h (.int .u32)),(25,.h .bool)]]
def z4v:x99.L 0:=Fx.jm qv6
def z4u:x99.L 1:=Fx.jm qns [(z4v).s]
def z4w:=x99.fi q6b [(z4u).s]
def zvn:EI wG ⟨.fn 349,[wN,.h (.int .i32)],[],_,RS.mk (.own 0) [(0,.row .byte 5)]⟩:=(fx [z4w.p]).fi q59
def zvo:EI wG ⟨.fn 348,[.h (.int .i32)],[],_,RS.mk (.tup [.own 0,.h .bool]) [(0,.row .byte 5)]⟩:=(fx [zvn.p]).fi q45
def zvp:EI wG ⟨.fn 351,[.h (.int .i32)],[],_,RS.mk (.tup [.own 0,.h .bool]) [(0,.row .byte 5)]⟩:=(fx).fi q44
def qlp:Fx wG ⟨.fn 299,[wS,wS],[],_,RS.mk (.tup [.own 0,.h (.prod wI wI)]) [(0,.row .byte 5)]⟩:=fx [fq.p,(zhp fu).p,⟨qll.e jp,qrm pb ox pa ow⟩,z4t.p,fv.p,zvo.p,zvp.p] [lb 4072 [(5,.ptr 32 0),(6,.ptr 33 0),(8,.own 36),(30,.ptr 34 0)] [(32,.dat (.prod wI wI) 25),(33,.cells [wS,.fn 365 [.ptr 35 0],.fn 366 [.ptr 35 0]] 341),(34,.it),(35,.cells [.h (.int .i32)] 21),(36,.row .byte 5)],lb 4072 [(5,.ptr 32 0),(6,.ptr 33 0),(8,.own 35),(30,.ptr 34 0)] [(32,.dat (.prod wI wI) 25),(33,.cells [wS,.fn 347 [],.fn 348 []] 341),(34,.it),(35,.row .byte 5)],lb 4072 [(5,.ptr 32 0),(6,.ptr 33 0),(8,.own 35),(30,.ptr 34 0)] [(32,.dat (.prod wI wI) 25),(33,.cells [wS,.fn 350 [],.fn 351 []] 341),(34,.it),(35,.row .byte 5)],lb 4072 [(5,.ptr 32 0),(6,.ptr 33 0),(8,wN),(30,.ptr 34 0)] [(32,.dat (.prod wI wI) 25),(33,.cells [wS,.c .nilFunc,.c .nilFunc] 341),(34,.it)]]
def zvq:Nat->(qlp fu).L 0:=Fx.lq (qtw fu) (q40 fu) (fun r0=>[r0.s])
def zvr:Nat->(qlp fu).L 1:=Fx.lq (qtx fu) (q41 fu) (fun r1=>[r1.s])
def zvs:Nat->(qlp fu).L 2:=Fx.lq (qty fu) (q42 fu) (fun r2=>[r2.s])
def zvt:Nat->(qlp fu).L 3:=Fx.lq (qtz fu) (q43 fu) (fun r3=>[])
def zvu:=(qlp fu).fi (q4z fu) [(zvq fu fu).s,(zvr fu fu).s,(zvs fu fu).s,(zvt fu fu).s]
def zvv:EI wG ⟨.fn 329,[.h .byte],[],_,RS.mk (.h .byte) []⟩:=(fx).fi qtn
def zvw:EI wG ⟨.fn 328,[.ptr 0 0,.own 1],[(0,.cells [.pn 0,.own 2] 63),(1,.row .byte 5),(2,.row .byte 5)],_,RS.mk (.tup [wH,.c .nilIface]) [(0,.cells [.pn 0,.own 3] 63),(1,.row .byte 5),(2,.dead),(3,.row .byte 5)]⟩:=(fx [⟨qo5.e p8,qyj⟩]).fi q5v
def zfx(fu:Nat):Fx wG ⟨.fn 301,[.h wB],[],_,RS.mk (wS) []⟩:=fx [zhs.p,qry.p,zvv.p,zvw.p,⟨qox.e ve,qx7⟩] [lb 232 [(3,.ptr 32 0),(6,.h wB),(7,wH),(8,wH)] [(32,.cells [.pn 32,.own 33] 63),(33,.row .byte 5)]]
def zvx:Nat->(zfx fu).L 0:=Fx.lq (qwa fu) (q6e fu) (fun r0=>[r0.s])
def zvy:=(zfx fu).fi (q6d fu) [(zvx fu fu).s]
def q2t:EI wG ⟨.fn 249,[wS,wS],[],_,RS.mk (wS) []⟩:=(fx [(zvu fu).p,(zhm fu).p,(zvy fu).p]).fi (qi0 fu)
def zvz:EI wG ⟨.yld 0,[wS],[(0,.loop .ready none 192 54 [(4,.ptr 1 0),(5,.ptr 2 0),(6,.ptr 3 0)] [25] 2 4),(1,.cells [wS] 9),(2,.cells [.own 5] 64),(3,.cells [wS] 9),(4,.dfr),(5,.row .str 9)],_,RS.mk (.c (.bool true)) [(0,.loop .ready none 192 54 [(4,.ptr 1 0),(5,.ptr 2 0),(6,.ptr 3 0)] [25] 2 4),(1,.cells [wS] 9),(2,.cells [.own 6] 64),(3,.cells [wS] 9),(4,.dfr),(5,.dead),(6,.row .str 9)]⟩:=(fy 192 [(q2t fu).p] [] false [([0,1,0,1,1,1,1,1,1,1],2)] (g7 rfl gd)).fo (qv8 fu) [] 0 [0,1,0,1,1,1,1,1,1,1]
def qrs:Fx wG ⟨.fn 297,[.yld 0,.ptr 1 0,.ptr 2 0],[(0,.loop .ready none 192 54 [(4,.ptr 3 0),(5,.ptr 4 0),(6,.ptr 5 0)] [25] 2 6),(1,.cells [wS] 9),(2,.cells [wS] 9),(3,.cells [wS] 9),(4,.cells [.own 7] 64),(5,.cells [wS] 9),(6,.dfr),(7,.row .str 9)],_,RS.mk (.tup []) [(0,.loop .ready none 192 54 [(4,.ptr 3 0),(5,.ptr 4 0),(6,.ptr 5 0)] [25] 2 6),(1,.cells [wS] 9),(2,.cells [wS] 9),(3,.cells [wS] 9),(4,.cells [.own 8] 64),(5,.cells [wS] 9),(6,.dfr),(7,.dead),(8,.row .str 9)]⟩:=fx [(z4s fu).p,(q2t fu).p,(zvz fu).p] [lb 13112 [(0,.yld 0),(2,.ptr 2 0),(9,.own 32),(10,wH),(11,wH),(25,.ptr 33 0)] [(0,.loop .ready none 192 54 [(4,.ptr 3 0),(5,.ptr 4 0),(6,.ptr 5 0)] [25] 2 6),(1,.cells [wS] 9),(2,.cells [wS] 9),(3,.cells [wS] 9),(4,.cells [.own 34] 64),(5,.cells [wS] 9),(6,.dfr),(7,.dead),(32,.row .str 9),(33,.it),(34,.row .str 9)],lb 24 [(0,.yld 0),(2,.ptr 2 0),(9,.own 32),(10,wH),(11,wH)] [(0,.loop .ready none 192 54 [(4,.ptr 3 0),(5,.ptr 4 0),(6,.ptr 5 0)] [25] 2 6),(1,.cells [wS] 9),(2,.cells [wS] 9),(3,.cells [wS] 9),(4,.cells [.own 33] 64),(5,.cells [wS] 9),(6,.dfr),(7,.dead),(32,.row .str 9),(33,.row .str 9)]]
def zv1(r0:(qrs fu).L 1):Nat->(qrs fu).L 0:=Fx.lq (qwf fu r0.f) (q6l fu r0.f) (fun r1=>[r1.s,r0.s])
def zv0:Nat->(qrs fu).L 1:=Fx.lq (qwe fu) (q6k fu) (fun r0=>[r0.s,(zv1 fu r0 fu).s])
def zv2:=(qrs fu).fi (q6j fu) [(zv0 fu fu).s]
def zv6:EI wG ⟨.fn 192,[wS],[],_,RS.mk (.tup [wS,.h (.prod wI wI)]) []⟩:=(fx [fq.p,⟨qll.e jp,qrm pb ox pa ow⟩,(z36 fu).p,fv.p,(z39 fu).p,z4a.p,(zv2 fu).p,(q2t fu).p,⟨qbi.e fw,qfe⟩] [] false [([0,1,0,1,1,1,1,1,1,1],2)] (g7 rfl gd)).fi (q6c fu)
def zv7:EI wG ⟨.yld 0,[wS],[(0,.loop .ready none 141 28 [(1,.ptr 1 0),(2,.ptr 2 0)] [17] 4 3),(1,.cells [wS] 9),(2,.cells [wS] 9),(3,.dfr)],_,.two (RS.mk (.c (.bool false)) [(0,.loop .done (some .ret) 141 28 [(1,.ptr 1 0),(2,.ptr 2 0)] [17] 4 3),(1,.cells [wS] 9),(2,.cells [wS] 9),(3,.dfr)]) (RS.mk (.c (.bool true)) [(0,.loop .ready none 141 28 [(1,.ptr 1 0),(2,.ptr 2 0)] [17] 4 3),(1,.cells [wS] 9),(2,.cells [wS] 9),(3,.dfr)])⟩:=(fy 141 [zh1.p,(zhb fu).p] [] false [([0,1,0,1,1],4)] (g7 rfl gd)).fo (qmf fu) [] 0 [0,1,0,1,1]
def q2v:Fx wG ⟨.fn 212,[.yld 0,.ptr 1 0,.ptr 2 0,.ptr 3 0],[(0,.loop .ready none 141 28 [(1,.ptr 4 0),(2,.ptr 5 0)] [17] 4 6),(1,.cells [wS] 9),(2,.cells [wS] 9),(3,.cells [wH] 3),(4,.cells [wS] 9),(5,.cells [wS] 9),(6,.dfr)],_,.two (RS.mk (.tup []) [(0,.loop .done (some .ret) 141 28 [(1,.ptr 4 0),(2,.ptr 5 0)] [17] 4 6),(1,.cells [wS] 9),(2,.cells [wS] 9),(3,.cells [wH] 3),(4,.cells [wS] 9),(5,.cells [wS] 9),(6,.dfr)]) (RS.mk (.tup []) [(0,.loop .ready none 141 28 [(1,.ptr 4 0),(2,.ptr 5 0)] [17] 4 6),(1,.cells [wS] 9),(2,.cells [wS] 9),(3,.cells [wH] 3),(4,.cells [wS] 9),(5,.cells [wS] 9),(6,.dfr)])⟩:=fx [⟨wm.e g9,yl pb ox pa ow⟩,(zv7 fu).p,xf.p] [lb 320 [(0,.yld 0),(2,.ptr 2 0)] [(0,.loop .ready none 141 28 [(1,.ptr 4 0),(2,.ptr 5 0)] [17] 4 6),(1,.cells [wS] 9),(2,.cells [wS] 9),(3,.cells [wH] 3),(4,.cells [wS] 9),(5,.cells [wS] 9),(6,.dfr)],lb 96 [(0,.yld 0),(1,.ptr 1 0),(2,.ptr 2 0),(3,.ptr 3 0)] [(0,.loop .ready none 141 28 [(1,.ptr 4 0),(2,.ptr 5 0)] [17] 4 6),(1,.cells [wS] 9),(2,.cells [wS] 9),(3,.cells [wH] 3),(4,.cells [wS] 9),(5,.cells [wS] 9),(6,.dfr)]]
def zv8:Nat->(q2v fu).L 0:=Fx.lq (qvu fu) (q56 fu) (fun r0=>[r0.s])
def zv9:Nat->(q2v fu).L 1:=Fx.lq (qvv fu) (q57 fu) (fun r1=>[r1.s])
def zwa:=(q2v fu).fi (q55 fu) [(zv8 fu fu).s,(zv9 fu fu).s]
def zf0:EI wG ⟨.fn 141,[wS],[],_,RS.mk (wS) []⟩:=(fx [(zv6 fu).p,qgh.p,(zwa fu).p] [] false [([0,1,0,1,1],4)] (g7 rfl gd)).fi (qsx fu)
def zwb:EI wG ⟨.fn 139,[.h (.prod .str wP)],[],_,RS.mk (wS) []⟩:=(fx [(z30 fu).p,(zf0 fu).p]).fi (qmc fu)
def zwc:EI wG ⟨.fn 191,[wS,wS],[],_,RS.mk (wS) []⟩:=(fx [zh2.p]).fi q5i
def zwd:EI wG ⟨.fn 140,[wS,wS],[],_,RS.mk (wS) []⟩:=(fx [zwc.p]).fi q5y
def zx:Fx wG ⟨.fn 79,[.h (.list (.prod .str (.prod .bool (.list (.prod .str wP)))))],[],_,RS.mk (.tup [wS,.h (.prod wI wI)]) []⟩:=fx [(zhy fu).p,kp.p,⟨qbi.e fw,qfe⟩,fq.p,fv.p,(zwb fu).p,(zf0 fu).p,zwd.p] [lb 1959 [(3,.ptr 32 0),(5,.own 33),(18,.h (.list (.prod .str (.prod .bool (.list (.prod .str wP)))))),(19,wH),(20,wH)] [(32,.dat (.prod wI wI) 25),(33,.row .str 9)],lb 125343 [(3,.ptr 32 0),(5,.own 33),(11,wS),(18,.h (.list (.prod .str (.prod .bool (.list (.prod .str wP)))))),(19,wH),(20,wH)] [(32,.dat (.prod wI wI) 25),(33,.row .str 9)],lb 501352 [(3,.ptr 32 0),(5,.own 35),(7,.ptr 33 0),(8,.own 34),(18,.h (.list (.prod .str (.prod .bool (.list (.prod .str wP)))))),(19,wH),(20,wH),(25,.h (.list (.prod .str wP))),(26,wH),(27,wH)] [(32,.dat (.prod wI wI) 25),(33,.dat (.prod .str (.prod .bool (.list (.prod .str wP)))) 112),(34,.row .str 9),(35,.row .str 9)],lb 488 [(3,.ptr 32 0),(5,.own 33),(18,.h (.list (.prod .str (.prod .bool (.list (.prod .str wP)))))),(19,wH),(20,wH)] [(32,.dat (.prod wI wI) 25),(33,.row .str 9)]]
def zwh(r0:(zx fu).L 3):(zx fu).L 0:=Fx.jm (qsv fu r0.f) [r0.s]
def zwg(r0:(zx fu).L 3):(zx fu).L 1:=Fx.jm (qmb fu r0.f) [(zwh fu r0).s]
def zwf(r0:(zx fu).L 3):Nat->(zx fu).L 2:=Fx.lq (qct fu r0.f) (qma fu r0.f) (fun r1=>[r1.s,(zwg fu r0).s])
def zwe:Nat->(zx fu).L 3:=Fx.lq (xh fu) (ql9 fu) (fun r0=>[(zwf fu r0 fu).s])
def zwi:=(zx fu).fi (qcs fu) [(zwe fu fu).s]
def q2x:Fx wG ⟨.fn 43,[wS],[],_,RS.mk (.h .bool) []⟩:=fx [(z3z fu).p,kp.p,(zwi fu).p] [lb 30 [(0,wS),(3,.h (.list (.prod .str (.prod .bool (.list (.prod .str wP)))))),(4,.ptr 32 0)] [(32,.dat (.prod wI wI) 25)],lb 29 [(0,wS),(3,.h (.list (.prod .str (.prod .bool (.list (.prod .str wP)))))),(4,.ptr 32 0),(33,.h .bool)] [(32,.dat (.prod wI wI) 25)]]
def zwk:(q2x fu).L 0:=Fx.jm (quy fu)
def zwj:(q2x fu).L 1:=Fx.jm (qau fu) [(zwk fu).s]
def zf1:=(q2x fu).fi (qat fu) [(zwj fu).s]
def zwl:EI wG ⟨.fn 81,[.h (.prod .str wI),.ptr 0 0],[(0,.dat (.prod .str wI) 77)],_,RS.mk (.h .bool) [(0,.dat (.prod .str wI) 77)]⟩:=(fx).fi quu
def zf2(fu:Nat):Fx wG ⟨.fn 142,[.h (.list (.prod .str wI)),.fn 81 [.ptr 0 0]],[(0,.dat (.prod .str wI) 77)],_,RS.mk (wH) [(0,.dat (.prod .str wI) 77)]⟩:=fx [zwl.p] [lb 104 [(0,.h (.list (.prod .str wI))),(1,.fn 81 [.ptr 0 0]),(7,wH),(8,wH)] [(0,.dat (.prod .str wI) 77)]]
def zwo:Nat->(zf2 fu).L 0:=Fx.lq (qif fu) (qvg fu) (fun r0=>[r0.s])
def zwp:=(zf2 fu).fi (qvf fu) [(zwo fu fu).s]
def zwq:EI wG ⟨.fn 80,[.h (.list (.prod .str wI)),.fn 81 [.ptr 0 0]],[(0,.dat (.prod .str wI) 77)],_,RS.mk (.h .bool) [(0,.dat (.prod .str wI) 77)]⟩:=(fx [(zwp fu).p]).fi (qni fu)
def qrt:Fx wG ⟨.fn 44,[.h (.list (.prod .str wI))],[],_,RS.mk (.h (.prod wI wI)) []⟩:=fx [fq.p,(zf1 fu).p,fv.p,(zwq fu).p] [lb 59799 [(0,.h (.list (.prod .str wI))),(2,.ptr 32 0),(3,wH),(4,.ptr 33 0),(9,.h (.list (.prod .str wI))),(10,wH),(11,wH),(23,.h .bool)] [(32,.dat (.prod wI wI) 25),(33,.dat (.prod .str wI) 77)],lb 232 [(0,.h (.list (.prod .str wI))),(2,.ptr 32 0),(9,.h (.list (.prod .str wI))),(10,wH),(11,wH)] [(32,.dat (.prod wI wI) 25)]]
def zws(r0:(qrt fu).L 1):(qrt fu).L 0:=Fx.jm (qh5 fu r0.f) [r0.s]
def zwr:Nat->(qrt fu).L 1:=Fx.lq (qas fu) (quv fu) (fun r0=>[(zws fu r0).s])
def zwt:=(qrt fu).fi (qut fu) [(zwr fu fu).s]
def zwu:EI wG ⟨.fn 143,[.h .byte],[],_,RS.mk (.h .bool) []⟩:=(fx [qry.p]).fi qtr
def zf3(fu:Nat):Fx wG ⟨.fn 40,[wS,.fn 143 []],[],_,RS.mk (.h .bool) []⟩:=fx [zwu.p] [lb 104 [(0,wS),(1,.fn 143 []),(7,wH),(8,wH)]]
def zwv:Nat->(zf3 fu).L 0:=Fx.lq (qhj fu) (qtm fu) (fun r0=>[r0.s])
def zww:=(zf3 fu).fi (qtl fu) [(zwv fu fu).s]
def zwx:EI wG ⟨.fn 82,[wS],[],_,RS.mk (.h .bool) []⟩:=(fx [(zww fu).p]).fi (qmj fu)
def qrv:EI wG ⟨.fn 83,[wH,wH,wH],[],_,RS.mk (.h .bool) []⟩:=(fx).fi ou
def q20:EI wG ⟨.fn 84,[.h (.prod .str (.prod wI (.prod wI (.prod (.prod wI (.prod wI (.prod wI wI))) (.prod wI (.prod wI (.prod wI wI)))))))],[],_,RS.mk (.h .bool) []⟩:=(fx).fi qd2
def zwy:EI wG ⟨.fn 85,[.h (.prod wI (.prod wI (.prod wI wI)))],[],_,RS.mk (.h .bool) []⟩:=(fx [qrv.p]).fi qay
def qrw:Fx wG ⟨.fn 45,[.h (.prod .str (.prod wI (.prod wI (.prod (.prod wI (.prod wI (.prod wI wI))) (.prod wI (.prod wI (.prod wI wI)))))))],[],_,RS.mk (.h (.prod wI wI)) []⟩:=fx [(zwx fu).p,fq.p,qrv.p,q20.p,zwy.p,fv.p] [lb 490 [(2,.ptr 32 0)] [(32,.dat (.prod wI wI) 25)],lb 489 [(2,.ptr 32 0),(23,.h .bool)] [(32,.dat (.prod wI wI) 25)],lb 249 [(1,.ptr 32 0),(2,.ptr 33 0),(26,.h .bool)] [(32,.dat (.prod .str (.prod wI (.prod wI (.prod (.prod wI (.prod wI (.prod wI wI))) (.prod wI (.prod wI (.prod wI wI))))))) 50),(33,.dat (.prod wI wI) 25)]]
def zw1:(qrw fu).L 0:=Fx.jm (qwg fu)
def zwz:(qrw fu).L 1:=Fx.jm (qny fu) [(zw1 fu).s]
def zw0:(qrw fu).L 2:=Fx.jm (qnz fu)
def qrx:=(qrw fu).fi (qax fu) [(zwz fu).s,(zw0 fu).s]
def zf4:EI wG ⟨.fn 195,[wH,wH,wH],[],_,RS.mk (.h .bool) []⟩:=(fx).fi p9
def zw9:EI wG ⟨.fn 250,[wH],[],_,RS.mk (.h .bool) []⟩:=(fx).fi qms
def zf5:EI wG ⟨.fn 196,[wH,wH],[],_,RS.mk (wH) []⟩:=(fx [zw9.p]).fi qhv
def q21:EI wG ⟨.fn 145,[.h (.prod wI (.prod wI (.prod wI (.prod wI (.prod wI (.prod wI wI))))))],[],_,RS.mk (.h (.prod wI wI)) []⟩:=(fx [zf4.p,zf5.p,fq.p,fv.p]).fi qc9
def zxa:EI wG ⟨.fn 197,[wH],[],_,RS.mk (wH) []⟩:=(fx).fi qht
def zf6(fu:Nat):Fx wG ⟨.fn 146,[wH,wH,wH],[],_,RS.mk (wH) []⟩:=fx [zxa.p,zf5.p] [lb 464 [(0,wH),(1,wH),(7,wH),(8,wH)]]
def zxb:Nat->(zf6 fu).L 0:=Fx.lq (qhu fu) (qt8 fu) (fun r0=>[r0.s])
def q22:=(zf6 fu).fi (sr fu) [(zxb fu fu).s]
def q24:EI wG ⟨.fn 86,[.h (.prod wI (.prod wI (.prod wI (.prod wI (.prod wI (.prod wI wI))))))],[],_,RS.mk (.tup [wH,.h (.prod wI wI)]) []⟩:=(fx [q21.p,kp.p,(q22 fu).p,fv.p]).fi (qak fu)
def qls:EI wG ⟨.fn 89,[wH],[],_,RS.mk (.h .bool) []⟩:=(fx).fi vh
def zf7:EI wG ⟨.fn 198,[wH,wH],[],_,RS.mk (.tup [wH,wH]) []⟩:=(fx).fi qhw
def xd:Fx wG ⟨.fn 147,[wH,wH],[],_,RS.mk (.tup [.h (.prod wI (.prod wI (.prod wI (.prod wI (.prod wI (.prod wI wI)))))),.h (.prod wI wI)]) []⟩:=fx [qls.p,fq.p,zf4.p,zf7.p,(q22 fu).p,fv.p] [lb 8147 [(1,wH),(4,.ptr 32 0),(5,.ptr 33 0),(6,wH),(7,wH),(8,wH),(9,wH)] [(32,.dat (.prod wI (.prod wI (.prod wI (.prod wI (.prod wI (.prod wI wI)))))) 32),(33,.dat (.prod wI wI) 25)],lb 32585 [(1,wH),(4,.ptr 32 0),(5,.ptr 33 0),(6,wH),(7,wH),(8,wH),(9,wH),(54,.h .bool)] [(32,.dat (.prod wI (.prod wI (.prod wI (.prod wI (.prod wI (.prod wI wI)))))) 32),(33,.dat (.prod wI wI) 25)],lb 16352 [(1,wH),(4,.ptr 32 0),(5,.ptr 33 0),(6,wH),(7,wH),(8,wH),(10,wH)] [(32,.dat (.prod wI (.prod wI (.prod wI (.prod wI (.prod wI (.prod wI wI)))))) 32),(33,.dat (.prod wI wI) 25)],lb 8144 [(1,wH),(4,.ptr 32 0),(5,.ptr 33 0),(6,wH),(7,wH),(8,wH),(9,wH)] [(32,.dat (.prod wI (.prod wI (.prod wI (.prod wI (.prod wI (.prod wI wI)))))) 32),(33,.dat (.prod wI wI) 25)],lb 126 [(1,wH),(4,.ptr 32 0),(5,.ptr 33 0),(6,wH),(7,wH)] [(32,.dat (.prod wI (.prod wI (.prod wI (.prod wI (.prod wI (.prod wI wI)))))) 32),(33,.dat (.prod wI wI) 25)],lb 125 [(1,wH),(4,.ptr 32 0),(5,.ptr 33 0),(6,wH),(7,wH),(36,.h .bool)] [(32,.dat (.prod wI (.prod wI (.prod wI (.prod wI (.prod wI (.prod wI wI)))))) 32),(33,.dat (.prod wI wI) 25)]]
def zxg(r2:(xd fu).L 3):(xd fu).L 0:=Fx.jm (qmr fu r2.f) [r2.s]
def zxf(r2:(xd fu).L 3):(xd fu).L 1:=Fx.jm (qmq fu r2.f) [(zxg fu r2).s]
def zxh:Nat->(xd fu).L 2:=Fx.lq (qhs fu) (qt6 fu) (fun r5=>[r5.s])
def zxe:Nat->(xd fu).L 3:=Fx.lq (qc8 fu) (qmo fu) (fun r2=>[(zxf fu r2).s,(zxh fu fu).s])
def zxd:(xd fu).L 4:=Fx.jm (qt7 fu) [(zxe fu fu).s]
def zxc:(xd fu).L 5:=Fx.jm (qmp fu) [(zxd fu).s]
def zf8:=(xd fu).fi (qhr fu) [(zxc fu).s]
def zf9:EI wG ⟨.fn 217,[.h (.prod wI (.prod wI (.prod wI (.prod wI (.prod wI (.prod wI wI))))))],[],_,RS.mk (.tup [wH,.h (.prod wI wI)]) []⟩:=(fx [q21.p,kp.p,(q22 fu).p,zf7.p,fv.p]).fi (qda fu)
def q25:Fx wG ⟨.fn 199,[.h (.prod wI (.prod wI (.prod wI wI))),wH,wH],[],_,RS.mk (wH) []⟩:=fx [(zf9 fu).p,q21.p,kp.p,(q24 fu).p] [lb 254 [(2,wH),(3,.ptr 32 0),(7,.ptr 33 0)] [(32,.dat (.prod wI (.prod wI (.prod wI wI))) 48),(33,.dat (.prod wI (.prod wI (.prod wI (.prod wI (.prod wI (.prod wI wI)))))) 32)],lb 253 [(2,wH),(3,.ptr 32 0),(7,.ptr 33 0),(46,.h .bool)] [(32,.dat (.prod wI (.prod wI (.prod wI wI))) 48),(33,.dat (.prod wI (.prod wI (.prod wI (.prod wI (.prod wI (.prod wI wI)))))) 32)]]
def zxk:(q25 fu).L 0:=Fx.jm (qn1 fu)
def zxj:(q25 fu).L 1:=Fx.jm (qn0 fu) [(zxk fu).s]
def zxl:=(q25 fu).fi (qi1 fu) [(zxj fu).s]
def qf9:Fx wG ⟨.fn 148,[.h (.prod .str (.prod wI (.prod wI (.prod (.prod wI (.prod wI (.prod wI wI))) (.prod wI (.prod wI (.prod wI wI))))))),wH,wH],[],_,RS.mk (wH) []⟩:=fx [q20.p,(zxl fu).p] [lb 7826 [(1,wH),(2,wH),(3,.ptr 32 0),(7,wH),(8,wH),(9,.h .bool),(10,wH)] [(32,.dat (.prod .str (.prod wI (.prod wI (.prod (.prod wI (.prod wI (.prod wI wI))) (.prod wI (.prod wI (.prod wI wI))))))) 50)],lb 15651 [(1,wH),(2,wH),(3,.ptr 32 0),(7,wH),(8,wH),(9,.h .bool),(10,wH),(11,wH),(44,.h .bool)] [(32,.dat (.prod .str (.prod wI (.prod wI (.prod (.prod wI (.prod wI (.prod wI wI))) (.prod wI (.prod wI (.prod wI wI))))))) 50)],lb 976 [(1,wH),(2,wH),(3,.ptr 32 0),(7,wH),(8,wH),(9,.h .bool),(10,wH)] [(32,.dat (.prod .str (.prod wI (.prod wI (.prod (.prod wI (.prod wI (.prod wI wI))) (.prod wI (.prod wI (.prod wI wI))))))) 50)]]
def zxo(r0:(qf9 fu).L 2):(qf9 fu).L 0:=Fx.jm (qn2 fu r0.f) [r0.s]
def zxn(r0:(qf9 fu).L 2):(qf9 fu).L 1:=Fx.jm (qi3 fu r0.f) [(zxo fu r0).s]
def zxm:Nat->(qf9 fu).L 2:=Fx.lq (qf fu) (qi2 fu) (fun r0=>[(zxn fu r0).s])
def zxp:=(qf9 fu).fi (qd3 fu) [(zxm fu fu).s]
def zxq:EI wG ⟨.fn 87,[.h (.prod .str (.prod wI (.prod wI (.prod (.prod wI (.prod wI (.prod wI wI))) (.prod wI (.prod wI (.prod wI wI))))))),wH],[],_,RS.mk (.tup [wH,.h (.prod wI wI)]) []⟩:=(fx [(qrx fu).p,kp.p,qls.p,fq.p,(zf8 fu).p,qrv.p,(zxp fu).p,fv.p]).fi (qnx fu)
def q26:Fx wG ⟨.fn 46,[.h (.prod .str (.prod wI (.prod wI (.prod (.prod wI (.prod wI (.prod wI wI))) (.prod wI (.prod wI (.prod wI wI))))))),.h (.prod wI (.prod wI (.prod wI (.prod wI (.prod wI (.prod wI wI))))))],[],_,RS.mk (.tup [.own 0,.h (.prod wI wI)]) [(0,.row wI 3)]⟩:=fx [(qrx fu).p,kp.p,(q24 fu).p,fq.p,qrv.p,q20.p,(zxq fu).p,⟨qvl vl,q5u⟩,fv.p] [lb 32744 [(2,.ptr 32 0),(5,.ptr 33 0),(7,wH),(10,.own 35),(49,.own 34),(50,wH),(51,wH)] [(32,.dat (.prod .str (.prod wI (.prod wI (.prod (.prod wI (.prod wI (.prod wI wI))) (.prod wI (.prod wI (.prod wI wI))))))) 50),(33,.dat (.prod wI wI) 25),(34,.row wI 3),(35,.row wI 3)],lb 1022 [(2,.ptr 32 0),(5,.ptr 33 0),(7,wH),(9,.own 34)] [(32,.dat (.prod .str (.prod wI (.prod wI (.prod (.prod wI (.prod wI (.prod wI wI))) (.prod wI (.prod wI (.prod wI wI))))))) 50),(33,.dat (.prod wI wI) 25),(34,.row wI 3)]]
def zxs:Nat->(q26 fu).L 0:=Fx.lq (sy fu) (qd1 fu) (fun r1=>[r1.s])
def zxr:(q26 fu).L 1:=Fx.jm (qnw fu) [(zxs fu fu).s]
def q27:=(q26 fu).fi (qd0 fu) [(zxr fu).s]
def zz(fu:Nat):Fx wG ⟨.fn 90,[.h (.prod wI (.prod wI (.prod wI (.prod wI (.prod .bool (.prod (.list wI) (.prod (.list wI) (.list wI))))))))],[],_,RS.mk (.h (.prod wI wI)) []⟩:=fx [fq.p,fv.p] [lb 14950 [(1,.ptr 32 0),(2,.ptr 33 0),(3,wH),(4,wH),(16,.h (.list wI)),(17,wH),(18,wH)] [(32,.dat (.prod wI (.prod wI (.prod wI (.prod wI (.prod .bool (.prod (.list wI) (.prod (.list wI) (.list wI)))))))) 35),(33,.dat (.prod wI wI) 25)],lb 14949 [(1,.ptr 32 0),(2,.ptr 33 0),(3,wH),(4,wH),(16,.h (.list wI)),(17,wH),(18,wH),(28,.h .bool)] [(32,.dat (.prod wI (.prod wI (.prod wI (.prod wI (.prod .bool (.prod (.list wI) (.prod (.list wI) (.list wI)))))))) 35),(33,.dat (.prod wI wI) 25)],lb 232 [(1,.ptr 32 0),(2,.ptr 33 0),(16,.h (.list wI)),(17,wH),(18,wH)] [(32,.dat (.prod wI (.prod wI (.prod wI (.prod wI (.prod .bool (.prod (.list wI) (.prod (.list wI) (.list wI)))))))) 35),(33,.dat (.prod wI wI) 25)],lb 28 [(1,.ptr 32 0),(2,.ptr 33 0)] [(32,.dat (.prod wI (.prod wI (.prod wI (.prod wI (.prod .bool (.prod (.list wI) (.prod (.list wI) (.list wI)))))))) 35),(33,.dat (.prod wI wI) 25)],lb 13 [(1,.ptr 32 0),(2,.ptr 33 0),(13,.h .bool)] [(32,.dat (.prod wI (.prod wI (.prod wI (.prod wI (.prod .bool (.prod (.list wI) (.prod (.list wI) (.list wI)))))))) 35),(33,.dat (.prod wI wI) 25)]]
def zxx(r2:(zz fu).L 2):(zz fu).L 0:=Fx.jm (qva fu r2.f) [r2.s]
def zxw(r2:(zz fu).L 2):(zz fu).L 1:=Fx.jm (qnh fu r2.f) [(zxx fu r2).s]
def zxv:Nat->(zz fu).L 2:=Fx.lq (qie fu) (qu8 fu) (fun r2=>[(zxw fu r2).s])
def zxu:(zz fu).L 3:=Fx.jm (qu9 fu) [(zxv fu fu).s]
def zxt:(zz fu).L 4:=Fx.jm (qng fu) [(zxu fu).s]
def zxy:=(zz fu).fi (qnf fu) [(zxt fu).s]
def zgb(fu:Nat):Fx wG ⟨.fn 91,[.h (.list wI),wH],[],_,RS.mk (.h (.prod wI wI)) []⟩:=fx [fq.p,qls.p,fv.p] [lb 232 [(0,.h (.list wI)),(1,wH),(4,.ptr 32 0),(12,.h (.list wI)),(13,wH),(14,wH)] [(32,.dat (.prod wI wI) 25)]]
def zxz:Nat->(zgb fu).L 0:=Fx.lq (qid fu) (qu7 fu) (fun r0=>[r0.s])
def zx0:=(zgb fu).fi (qic fu) [(zxz fu fu).s]
def qcf:Fx wG ⟨.fn 47,[.h (.prod wI (.prod wI (.prod wI (.prod wI (.prod .bool (.prod (.list wI) (.prod (.list wI) (.list wI))))))))],[],_,RS.mk (.h (.prod wI wI)) []⟩:=fx [fq.p,qls.p,(zxy fu).p,kp.p,(zx0 fu).p] [lb 28 [(1,.ptr 32 0),(2,.ptr 33 0)] [(32,.dat (.prod wI (.prod wI (.prod wI (.prod wI (.prod .bool (.prod (.list wI) (.prod (.list wI) (.list wI)))))))) 35),(33,.dat (.prod wI wI) 25)],lb 6655 [(1,.ptr 32 0),(2,.ptr 33 0),(45,.h .bool)] [(32,.dat (.prod wI (.prod wI (.prod wI (.prod wI (.prod .bool (.prod (.list wI) (.prod (.list wI) (.list wI)))))))) 35),(33,.dat (.prod wI wI) 25)],lb 1663 [(1,.ptr 32 0),(2,.ptr 33 0),(35,.h .bool)] [(32,.dat (.prod wI (.prod wI (.prod wI (.prod wI (.prod .bool (.prod (.list wI) (.prod (.list wI) (.list wI)))))))) 35),(33,.dat (.prod wI wI) 25)],lb 415 [(1,.ptr 32 0),(2,.ptr 33 0),(25,.h .bool)] [(32,.dat (.prod wI (.prod wI (.prod wI (.prod wI (.prod .bool (.prod (.list wI) (.prod (.list wI) (.list wI)))))))) 35),(33,.dat (.prod wI wI) 25)],lb 103 [(1,.ptr 32 0),(2,.ptr 33 0),(15,.h .bool)] [(32,.dat (.prod wI (.prod wI (.prod wI (.prod wI (.prod .bool (.prod (.list wI) (.prod (.list wI) (.list wI)))))))) 35),(33,.dat (.prod wI wI) 25)],lb 25 [(1,.ptr 32 0),(2,.ptr 33 0),(5,.h .bool)] [(32,.dat (.prod wI (.prod wI (.prod wI (.prod wI (.prod .bool (.prod (.list wI) (.prod (.list wI) (.list wI)))))))) 35),(33,.dat (.prod wI wI) 25)]]
def zx6:(qcf fu).L 0:=Fx.jm (qu2 fu)
def zx5:(qcf fu).L 1:=Fx.jm (qne fu) [(zx6 fu).s]
def zx4:(qcf fu).L 2:=Fx.jm (qnd fu) [(zx5 fu).s]
def zx3:(qcf fu).L 3:=Fx.jm (qnc fu) [(zx4 fu).s]
def zx2:(qcf fu).L 4:=Fx.jm (qnb fu) [(zx3 fu).s]
def zx1:(qcf fu).L 5:=Fx.jm (qna fu) [(zx2 fu).s]
def zgc:=(qcf fu).fi (qib fu) [(zx1 fu).s]
def qcg:Fx wG ⟨.fn 13,[.h (.prod .str (.prod wI (.prod wI (.prod .str (.prod .str (.prod .str (.prod (.list (.prod .str wI)) (.prod .str (.prod (.prod wI (.prod wI (.prod wI (.prod wI (.prod wI (.prod wI wI)))))) (.prod wI (.prod wI (.prod wI (.prod wI (.prod wI (.prod .bool (.prod (.list wI) (.prod (.list wI) (.list wI))))))))))))))))))],[],_,RS.mk (.h (.prod wI wI)) []⟩:=fx [(x4s fu).p,fq.p,x7s.p,(zf1 fu).p,(zwt fu).p,kp.p,(qrx fu).p,(q27 fu).p,(zgc fu).p,fv.p] [lb 253 [(1,.ptr 32 0),(2,.ptr 33 0),(104,.h .bool)] [(32,.dat (.prod .str (.prod wI (.prod wI (.prod .str (.prod .str (.prod .str (.prod (.list (.prod .str wI)) (.prod .str (.prod (.prod wI (.prod wI (.prod wI (.prod wI (.prod wI (.prod wI wI)))))) (.prod wI (.prod wI (.prod wI (.prod wI (.prod wI (.prod .bool (.prod (.list wI) (.prod (.list wI) (.list wI)))))))))))))))))) 37),(33,.dat (.prod wI wI) 25)],lb 28 [(1,.ptr 32 0),(2,.ptr 33 0)] [(32,.dat (.prod .str (.prod wI (.prod wI (.prod .str (.prod .str (.prod .str (.prod (.list (.prod .str wI)) (.prod .str (.prod (.prod wI (.prod wI (.prod wI (.prod wI (.prod wI (.prod wI wI)))))) (.prod wI (.prod wI (.prod wI (.prod wI (.prod wI (.prod .bool (.prod (.list wI) (.prod (.list wI) (.list wI)))))))))))))))))) 37),(33,.dat (.prod wI wI) 25)],lb 26623 [(1,.ptr 32 0),(2,.ptr 33 0),(62,.h .bool)] [(32,.dat (.prod .str (.prod wI (.prod wI (.prod .str (.prod .str (.prod .str (.prod (.list (.prod .str wI)) (.prod .str (.prod (.prod wI (.prod wI (.prod wI (.prod wI (.prod wI (.prod wI wI)))))) (.prod wI (.prod wI (.prod wI (.prod wI (.prod wI (.prod .bool (.prod (.list wI) (.prod (.list wI) (.list wI)))))))))))))))))) 37),(33,.dat (.prod wI wI) 25)],lb 415 [(1,.ptr 32 0),(2,.ptr 33 0),(34,.h .bool)] [(32,.dat (.prod .str (.prod wI (.prod wI (.prod .str (.prod .str (.prod .str (.prod (.list (.prod .str wI)) (.prod .str (.prod (.prod wI (.prod wI (.prod wI (.prod wI (.prod wI (.prod wI wI)))))) (.prod wI (.prod wI (.prod wI (.prod wI (.prod wI (.prod .bool (.prod (.list wI) (.prod (.list wI) (.list wI)))))))))))))))))) 37),(33,.dat (.prod wI wI) 25)],lb 103 [(1,.ptr 32 0),(2,.ptr 33 0),(24,.h .bool)] [(32,.dat (.prod .str (.prod wI (.prod wI (.prod .str (.prod .str (.prod .str (.prod (.list (.prod .str wI)) (.prod .str (.prod (.prod wI (.prod wI (.prod wI (.prod wI (.prod wI (.prod wI wI)))))) (.prod wI (.prod wI (.prod wI (.prod wI (.prod wI (.prod .bool (.prod (.list wI) (.prod (.list wI) (.list wI)))))))))))))))))) 37),(33,.dat (.prod wI wI) 25)],lb 25 [(1,.ptr 32 0),(2,.ptr 33 0),(7,.h .bool)] [(32,.dat (.prod .str (.prod wI (.prod wI (.prod .str (.prod .str (.prod .str (.prod (.list (.prod .str wI)) (.prod .str (.prod (.prod wI (.prod wI (.prod wI (.prod wI (.prod wI (.prod wI wI)))))) (.prod wI (.prod wI (.prod wI (.prod wI (.prod wI (.prod .bool (.prod (.list wI) (.prod (.list wI) (.list wI)))))))))))))))))) 37),(33,.dat (.prod wI wI) 25)]]
def zyc:(qcg fu).L 0:=Fx.jm (qh0 fu)
def zyb:(qcg fu).L 1:=Fx.jm (qmx fu) [(zyc fu).s]
def zya:(qcg fu).L 2:=Fx.jm (qhz fu) [(zyb fu).s]
def zx9:(qcg fu).L 3:=Fx.jm (qhy fu) [(zya fu).s]
def zx8:(qcg fu).L 4:=Fx.jm (qhx fu) [(zx9 fu).s]
def zx7:(qcg fu).L 5:=Fx.jm (qdd fu) [(zx8 fu).s]
def q3a:=(qcg fu).fi (vi fu) [(zx7 fu).s]
def zgd:EI wG ⟨.fn 62,[],[],_,RS.mk (.own 0) [(0,.row .str 9)]⟩:=(fx).fi qm3
def qk3:LC.glob 3=some ⟨.int .u64,Lib.pow10Tab⟩:=rfl
def qk4:(3,20)∈LC.sizes:=oD
def zye:EI wG ⟨.fn 64,[wS],[],_,RS.mk (wS) []⟩:=(fx [zh0.p,⟨q1i.e sw,zdl⟩]).fi qh4
def zgf:EI wG ⟨.fn 65,[],[],_,RS.mk (.own 0) [(0,.row .str 9)]⟩:=(fx).fi qm7
def zyf:EI wG ⟨.fn 117,[wH,wH],[],_,RS.mk (wS) []⟩:=(fx [⟨qfb.e jc,qkj qk3 qk4⟩,⟨zdj.e qdu,zsi⟩]).fi vk
def zyg:EI wG ⟨.fn 66,[.h (.prod wI (.prod wI (.prod wI (.prod wI (.prod wI (.prod wI wI))))))],[],_,RS.mk (wS) []⟩:=(fx [zyf.p]).fi qm6
def zgg:EI wG ⟨.fn 119,[],[],_,RS.mk (.own 0) [(0,.row .str 9)]⟩:=(fx).fi qm1
def zgh(fu:Nat):Fx wG ⟨.fn 68,[.h (.list wI)],[],_,RS.mk (wS) []⟩:=fx [⟨qfb.e jc,qkj qk3 qk4⟩,⟨qbi.e fw,qfe⟩] [lb 232 [(3,.own 32),(6,.h (.list wI)),(7,wH),(8,wH)] [(32,.row .str 9)]]
def zyh:Nat->(zgh fu).L 0:=Fx.lq (qh7 fu) (qux fu) (fun r0=>[r0.s])
def zgi:=(zgh fu).fi (qdo fu) [(zyh fu fu).s]
def zgj:Fx wG ⟨.fn 67,[.h (.prod wI (.prod wI (.prod wI (.prod wI (.prod .bool (.prod (.list wI) (.prod (.list wI) (.list wI))))))))],[],_,RS.mk (wS) []⟩:=fx [⟨qfb.e jc,qkj qk3 qk4⟩,zgg.p,(zgi fu).p,⟨qbi.e fw,qfe⟩] [lb 30 [(1,.ptr 32 0),(3,wS)] [(32,.dat (.prod wI (.prod wI (.prod wI (.prod wI (.prod .bool (.prod (.list wI) (.prod (.list wI) (.list wI)))))))) 35)]]
def zyi:(zgj fu).L 0:=Fx.jm (qh9 fu)
def zyj:=(zgj fu).fi (qm5 fu) [(zyi fu).s]
def zgk:Fx wG ⟨.fn 28,[.h (.prod .str (.prod wI (.prod wI (.prod .str (.prod .str (.prod .str (.prod (.list (.prod .str wI)) (.prod .str (.prod (.prod wI (.prod wI (.prod wI (.prod wI (.prod wI (.prod wI wI)))))) (.prod wI (.prod wI (.prod wI (.prod wI (.prod wI (.prod .bool (.prod (.list wI) (.prod (.list wI) (.list wI))))))))))))))))))],[],_,RS.mk (.own 0) [(0,.row .str 9)]⟩:=fx [zgd.p,⟨qfb.e jc,qkj qk3 qk4⟩,zye.p,zgf.p,zyg.p,(zyj fu).p,(zgi fu).p] [lb 232 [(1,.ptr 32 0),(3,.own 33),(33,.h (.list (.prod .str wI))),(34,wH),(35,wH)] [(32,.dat (.prod .str (.prod wI (.prod wI (.prod .str (.prod .str (.prod .str (.prod (.list (.prod .str wI)) (.prod .str (.prod (.prod wI (.prod wI (.prod wI (.prod wI (.prod wI (.prod wI wI)))))) (.prod wI (.prod wI (.prod wI (.prod wI (.prod wI (.prod .bool (.prod (.list wI) (.prod (.list wI) (.list wI)))))))))))))))))) 37),(33,.row .str 9)]]
def zyk:Nat->(zgk fu).L 0:=Fx.lq (qh6 fu) (quw fu) (fun r0=>[r0.s])
def zyl:=(zgk fu).fi (qm2 fu) [(zyk fu fu).s]
def zym:EI wG ⟨.fn 31,[.ptr 0 0],[(0,.cells [.pn 0,.own 1] 63),(1,.row .byte 5)],_,RS.mk (wH) [(0,.cells [.pn 0,.own 2] 63),(1,.dead),(2,.row .byte 5)]⟩:=(fx).fi qvn
def zyn:EI wG ⟨.fn 70,[.h .byte],[],_,RS.mk (.h .bool) []⟩:=(fx).fi qnr
def qrz(fu:Nat):Fx wG ⟨.fn 30,[wS],[],_,RS.mk (wS) []⟩:=fx [zyn.p] [lb 59680 [(0,wS),(3,wS),(5,wH)],lb 464 [(0,wS),(3,wS),(4,wH)]]
def zyp(r0:(qrz fu).L 1):Nat->(qrz fu).L 0:=Fx.lq (qdh fu r0.f) (qmy fu r0.f) (fun r1=>[r1.s,r0.s])
def zyo:Nat->(qrz fu).L 1:=Fx.lq (qdg fu) (quq fu) (fun r0=>[(zyp fu r0 fu).s])
def zyq:=(qrz fu).fi (qan fu) [(zyo fu fu).s]
def qlv:Fx wG ⟨.fn 10,[.h (.list (.prod .str (.prod wI (.prod wI (.prod .str (.prod .str (.prod .str (.prod (.list (.prod .str wI)) (.prod .str (.prod (.prod wI (.prod wI (.prod wI (.prod wI (.prod wI (.prod wI wI)))))) (.prod wI (.prod wI (.prod wI (.prod wI (.prod wI (.prod .bool (.prod (.list wI) (.prod (.list wI) (.list wI)))))))))))))))))))],[],_,RS.mk (.tup [wS,.h (.prod wI wI)]) []⟩:=fx [fq.p,(q3a fu).p,kp.p,(zyl fu).p,zym.p,⟨qox.e ve,qx7⟩,fv.p,(zyq fu).p,zht.p] [lb 256408 [(3,.ptr 32 0),(7,.ptr 33 0),(32,.h (.list (.prod .str (.prod wI (.prod wI (.prod .str (.prod .str (.prod .str (.prod (.list (.prod .str wI)) (.prod .str (.prod (.prod wI (.prod wI (.prod wI (.prod wI (.prod wI (.prod wI wI)))))) (.prod wI (.prod wI (.prod wI (.prod wI (.prod wI (.prod .bool (.prod (.list wI) (.prod (.list wI) (.list wI)))))))))))))))))))),(33,wH),(34,wH),(39,.own 34),(40,wH),(41,wH)] [(32,.dat (.prod wI wI) 25),(33,.cells [.pn 33,.own 35] 63),(34,.row .str 9),(35,.row .byte 5)],lb 1000 [(3,.ptr 32 0),(7,.ptr 33 0),(32,.h (.list (.prod .str (.prod wI (.prod wI (.prod .str (.prod .str (.prod .str (.prod (.list (.prod .str wI)) (.prod .str (.prod (.prod wI (.prod wI (.prod wI (.prod wI (.prod wI (.prod wI wI)))))) (.prod wI (.prod wI (.prod wI (.prod wI (.prod wI (.prod .bool (.prod (.list wI) (.prod (.list wI) (.list wI)))))))))))))))))))),(33,wH),(34,wH)] [(32,.dat (.prod wI wI) 25),(33,.cells [.pn 33,.own 34] 63),(34,.row .byte 5)],lb 232 [(0,.h (.list (.prod .str (.prod wI (.prod wI (.prod .str (.prod .str (.prod .str (.prod (.list (.prod .str wI)) (.prod .str (.prod (.prod wI (.prod wI (.prod wI (.prod wI (.prod wI (.prod wI wI)))))) (.prod wI (.prod wI (.prod wI (.prod wI (.prod wI (.prod .bool (.prod (.list wI) (.prod (.list wI) (.list wI)))))))))))))))))))),(3,.ptr 32 0),(16,.h (.list (.prod .str (.prod wI (.prod wI (.prod .str (.prod .str (.prod .str (.prod (.list (.prod .str wI)) (.prod .str (.prod (.prod wI (.prod wI (.prod wI (.prod wI (.prod wI (.prod wI wI)))))) (.prod wI (.prod wI (.prod wI (.prod wI (.prod wI (.prod .bool (.prod (.list wI) (.prod (.list wI) (.list wI)))))))))))))))))))),(17,wH),(18,wH)] [(32,.dat (.prod wI wI) 25)]]
def zyt(r1:(qlv fu).L 1):Nat->(qlv fu).L 0:=Fx.lq (qh2 fu r1.f) (qup fu r1.f) (fun r2=>[r2.s,r1.s])
def zys:Nat->(qlv fu).L 1:=Fx.lq (qdf fu) (qun fu) (fun r1=>[(zyt fu r1 fu).s])
def zyr:Nat->(qlv fu).L 2:=Fx.lq (qh1 fu) (qum fu) (fun r0=>[r0.s,(zys fu fu).s])
def zgl:=(qlv fu).fi (qde fu) [(zyr fu fu).s]
def zyu:EI wG ⟨.fn 53,[wS],[],_,RS.mk (.fn 212 [.ptr 0 0,.ptr 1 0,.ptr 2 0]) [(0,.cells [wS] 9),(1,.cells [wS] 9),(2,.cells [wH] 3)]⟩:=(fx [⟨q1h.e np,zdk oD⟩,qgh.p]).fi qm8
def zyv:EI wG ⟨.yld 0,[wS],[(0,.loop .ready none 15 63 [(4,.ptr 1 0),(5,.ptr 2 0)] [13] 5 3),(1,.cells [.own 4] 22),(2,.cells [.c .nilPtr] 88),(3,.dfr),(4,.row (.prod .str (.prod wI (.prod wI (.prod .str (.prod .str (.prod .str (.prod (.list (.prod .str wI)) (.prod .str (.prod (.prod wI (.prod wI (.prod wI (.prod wI (.prod wI (.prod wI wI)))))) (.prod wI (.prod wI (.prod wI (.prod wI (.prod wI (.prod .bool (.prod (.list wI) (.prod (.list wI) (.list wI)))))))))))))))))) 37)],_,.two (RS.mk (.c (.bool true)) [(0,.loop .ready none 15 63 [(4,.ptr 1 0),(5,.ptr 2 0)] [13] 5 3),(1,.cells [.own 5] 22),(2,.cells [.ptr 6 0] 88),(3,.dfr),(4,.dead),(5,.row (.prod .str (.prod wI (.prod wI (.prod .str (.prod .str (.prod .str (.prod (.list (.prod .str wI)) (.prod .str (.prod (.prod wI (.prod wI (.prod wI (.prod wI (.prod wI (.prod wI wI)))))) (.prod wI (.prod wI (.prod wI (.prod wI (.prod wI (.prod .bool (.prod (.list wI) (.prod (.list wI) (.list wI)))))))))))))))))) 37),(6,.cells [wS,wH,wH,wS,wS,wS,.own 7,wS,wH,wH,wH,wH,wH,wH,wH,wH,wH,wH,wH,wH,.h .bool,.own 8,.own 9,.own 10,.h .bool] 93),(7,.row (.prod .str wI) 77),(8,.row wI 3),(9,.row wI 3),(10,.row wI 3)]) (RS.mk (.c (.bool true)) [(0,.loop .ready none 15 63 [(4,.ptr 1 0),(5,.ptr 2 0)] [13] 5 3),(1,.cells [.own 5] 22),(2,.cells [.c .nilPtr] 88),(3,.dfr),(4,.dead),(5,.row (.prod .str (.prod wI (.prod wI (.prod .str (.prod .str (.prod .str (.prod (.list (.prod .str wI)) (.prod .str (.prod (.prod wI (.prod wI (.prod wI (.prod wI (.prod wI (.prod wI wI)))))) (.prod wI (.prod wI (.prod wI (.prod wI (.prod wI (.prod .bool (.prod (.list wI) (.prod (.list wI) (.list wI)))))))))))))))))) 37)])⟩:=(fy 15 [] [] false [([0,1,0,1,1,1,1],5)] (g7 rfl gd)).fo qal [] 0 [0,1,0,1,1,1,1]
end
end
noncomputable section
open Go.Proofs
set_option linter.unusedVariables false
set_option maxRecDepth 100000
set_option maxHeartbeats 2000000
open Tryz
section
variable(fu:Nat)
def zyw:EI wG ⟨.fn 153,[wS,wS],[],_,RS.mk (.tup [wS,wS,.h .bool]) []⟩:=(fx [⟨q1y.e ju,zee oD⟩]).fi quk
def zgm:EI wG ⟨.fn 95,[wS,wS],[],_,RS.mk (.tup [wS,wS,.h .bool]) []⟩:=(fx [zyw.p]).fi qih
def zgn(fu:Nat):Fx wG ⟨.fn 154,[.h (.list .str),wS],[],_,RS.mk (wH) []⟩:=fx [] [lb 104 [(0,.h (.list .str)),(1,wS),(7,wH),(8,wH)]]
def zyx:Nat->(zgn fu).L 0:=Fx.lq (qig fu) (qvk fu) (fun r0=>[r0.s])
def zyy:=(zgn fu).fi (qvj fu) [(zyx fu fu).s]
def qr0:EI wG ⟨.fn 155,[.ptr 0 0,.h .bool],[(0,.cells [wS,wH,wH,wS,wS,wS,.own 1,wS,wH,wH,wH,wH,wH,wH,wH,wH,wH,wH,wH,wH,.h .bool,.own 2,.own 3,.own 4,.h .bool] 93),(1,.row (.prod .str wI) 77),(2,.row wI 3),(3,.row wI 3),(4,.row wI 3)],_,RS.mk (.tup []) [(0,.cells [wS,wH,wH,wS,wS,wS,.own 1,wS,wH,wH,wH,wH,wH,wH,wH,wH,wH,wH,wH,wH,.h .bool,.own 2,.own 3,.own 4,.h .bool] 93),(1,.row (.prod .str wI) 77),(2,.row wI 3),(3,.row wI 3),(4,.row wI 3)]⟩:=(fx [] [] true).fi vj (h:=by rintro⟨_,a0,_⟩ ⟨⟨a1,a2,a3,a4,a5,a6,_,a7,a8,a9,a10,a11,a12,a13,a14,a15,a16,a17,a18,a19,a20,_,_,_,a21,_⟩,a22,a23,a24,a25,_⟩;exact Eq.trans (b:=vj a0 a1 a2 a3 a4 a5 a6 a7 a8 a9 a10 a11 a12 a13 a14 a15 a16 a17 a18 a19 a20 a21 a22 a23 a24 a25) oB oB)
def q3g:EI wG ⟨.fn 96,[.ptr 0 0,.own 1,wS],[(0,.cells [wS,wH,wH,wS,wS,wS,.own 2,wS,wH,wH,wH,wH,wH,wH,wH,wH,wH,wH,wH,wH,.h .bool,.own 3,.own 4,.own 5,.h .bool] 93),(1,.row .str 9),(2,.row (.prod .str wI) 77),(3,.row wI 3),(4,.row wI 3),(5,.row wI 3)],_,RS.mk (wH) [(0,.cells [wS,wH,wH,wS,wS,wS,.own 2,wS,wH,wH,wH,wH,wH,wH,wH,wH,wH,wH,wH,wH,.h .bool,.own 3,.own 4,.own 5,.h .bool] 93),(1,.dead),(2,.row (.prod .str wI) 77),(3,.row wI 3),(4,.row wI 3),(5,.row wI 3)]⟩:=(fx [(zyy fu).p,qr0.p] [] true).fi (qaq fu) (h:=by rintro⟨_,_,a0,_⟩ ⟨⟨a1,a2,a3,a4,a5,a6,_,a7,a8,a9,a10,a11,a12,a13,a14,a15,a16,a17,a18,a19,a20,_,_,_,a21,_⟩,a22,a23,a24,a25,a26,_⟩;exact Eq.trans (b:=qaq fu a0 a1 a2 a3 a4 a5 a6 a7 a8 a9 a10 a11 a12 a13 a14 a15 a16 a17 a18 a19 a20 a21 a22 a23 a24 a25 a26) oB oB)
def zgo(fu:Nat):Fx wG ⟨.fn 157,[wS],[],_,RS.mk (.h .bool) []⟩:=fx [] [lb 104 [(0,wS),(5,wH),(6,wH)]]
def zyz:Nat->(zgo fu).L 0:=Fx.lq (qhm fu) (qto fu) (fun r0=>[r0.s])
def zgp:=(zgo fu).fi (qhl fu) [(zyz fu fu).s]
def qlx:Fx wG ⟨.fn 97,[.ptr 0 0,wS],[(0,.cells [wS,wH,wH,wS,wS,wS,.own 1,wS,wH,wH,wH,wH,wH,wH,wH,wH,wH,wH,wH,wH,.h .bool,.own 2,.own 3,.own 4,.h .bool] 93),(1,.row (.prod .str wI) 77),(2,.row wI 3),(3,.row wI 3),(4,.row wI 3)],_,RS.mk (wH) [(0,.cells [wS,wH,wH,wS,wS,wS,.own 1,wS,wH,wH,wH,wH,wH,wH,wH,wH,wH,wH,wH,wH,.h .bool,.own 2,.own 3,.own 4,.h .bool] 93),(1,.row (.prod .str wI) 77),(2,.row wI 3),(3,.row wI 3),(4,.row wI 3)]⟩:=fx [⟨qxu.e vd,q70 oD oD⟩,(zgp fu).p,⟨qfb.e jc,qkj qk3 qk4⟩,qr0.p] [lb 30 [(0,.ptr 0 0),(1,wS),(5,wH),(6,.c .nilIface)] [(0,.cells [wS,wH,wH,wS,wS,wS,.own 1,wS,wH,wH,wH,wH,wH,wH,wH,wH,wH,wH,wH,wH,.h .bool,.own 2,.own 3,.own 4,.h .bool] 93),(1,.row (.prod .str wI) 77),(2,.row wI 3),(3,.row wI 3),(4,.row wI 3)],lb 29 [(0,.ptr 0 0),(1,wS),(5,wH),(6,.c .nilIface),(22,.c (.bool false))] [(0,.cells [wS,wH,wH,wS,wS,wS,.own 1,wS,wH,wH,wH,wH,wH,wH,wH,wH,wH,wH,wH,wH,.h .bool,.own 2,.own 3,.own 4,.h .bool] 93),(1,.row (.prod .str wI) 77),(2,.row wI 3),(3,.row wI 3),(4,.row wI 3)],lb 30 [(0,.ptr 0 0),(1,wS),(5,wH),(6,.ifc 272 (.u))] [(0,.cells [wS,wH,wH,wS,wS,wS,.own 1,wS,wH,wH,wH,wH,wH,wH,wH,wH,wH,wH,wH,wH,.h .bool,.own 2,.own 3,.own 4,.h .bool] 93),(1,.row (.prod .str wI) 77),(2,.row wI 3),(3,.row wI 3),(4,.row wI 3)],lb 29 [(0,.ptr 0 0),(1,wS),(5,wH),(6,.ifc 272 (.u)),(22,.h .bool)] [(0,.cells [wS,wH,wH,wS,wS,wS,.own 1,wS,wH,wH,wH,wH,wH,wH,wH,wH,wH,wH,wH,wH,.h .bool,.own 2,.own 3,.own 4,.h .bool] 93),(1,.row (.prod .str wI) 77),(2,.row wI 3),(3,.row wI 3),(4,.row wI 3)]] true
def zy2:(qlx fu).L 0:=Fx.jm (qh3 fu) (h:=by rintro⟨⟨_,a0,a1,_,_⟩,⟨⟨a2,a3,a4,a5,a6,a7,_,a8,a9,a10,a11,a12,a13,a14,a15,a16,a17,a18,a19,a20,a21,_,_,_,a22,_⟩,a23,a24,a25,a26,_⟩⟩;exact Eq.trans (b:=qh3 fu a0 a1 a2 a3 a4 a5 a6 a7 a8 a9 a10 a11 a12 a13 a14 a15 a16 a17 a18 a19 a20 a21 a22 a23 a24 a25 a26) oB oB)
def zy0:(qlx fu).L 1:=Fx.jm (qur fu) [(zy2 fu).s] (h:=by rintro⟨⟨_,a0,a1,_,_,_⟩,⟨⟨a2,a3,a4,a5,a6,a7,_,a8,a9,a10,a11,a12,a13,a14,a15,a16,a17,a18,a19,a20,a21,_,_,_,a22,_⟩,a23,a24,a25,a26,_⟩⟩;exact Eq.trans (b:=qur fu a0 a1 a2 a3 a4 a5 a6 a7 a8 a9 a10 a11 a12 a13 a14 a15 a16 a17 a18 a19 a20 a21 a22 a23 a24 a25 a26) oB oB)
def zy3:(qlx fu).L 2:=Fx.jm (qus fu) (h:=by rintro⟨⟨_,a0,a1,_,_⟩,⟨⟨a2,a3,a4,a5,a6,a7,_,a8,a9,a10,a11,a12,a13,a14,a15,a16,a17,a18,a19,a20,a21,_,_,_,a22,_⟩,a23,a24,a25,a26,_⟩⟩;exact Eq.trans (b:=qus fu a0 a1 a2 a3 a4 a5 a6 a7 a8 a9 a10 a11 a12 a13 a14 a15 a16 a17 a18 a19 a20 a21 a22 a23 a24 a25 a26) oB oB)
def zy1:(qlx fu).L 3:=Fx.jm (qmz fu) [(zy3 fu).s] (h:=by rintro⟨⟨_,a0,a1,_,a2,_⟩,⟨⟨a3,a4,a5,a6,a7,a8,_,a9,a10,a11,a12,a13,a14,a15,a16,a17,a18,a19,a20,a21,a22,_,_,_,a23,_⟩,a24,a25,a26,a27,_⟩⟩;exact Eq.trans (b:=qmz fu a0 a1 a2 a3 a4 a5 a6 a7 a8 a9 a10 a11 a12 a13 a14 a15 a16 a17 a18 a19 a20 a21 a22 a23 a24 a25 a26 a27) oB oB)
def qr1:=(qlx fu).fi (qe fu) [(zy0 fu).s,(zy1 fu).s] (h:=by rintro⟨_,a0,_⟩ ⟨⟨a1,a2,a3,a4,a5,a6,_,a7,a8,a9,a10,a11,a12,a13,a14,a15,a16,a17,a18,a19,a20,_,_,_,a21,_⟩,a22,a23,a24,a25,_⟩;exact Eq.trans (b:=qe fu a0 a1 a2 a3 a4 a5 a6 a7 a8 a9 a10 a11 a12 a13 a14 a15 a16 a17 a18 a19 a20 a21 a22 a23 a24 a25) oB oB)
def qr2(fu:Nat):Fx wG ⟨.fn 98,[wS],[],_,RS.mk (wS) []⟩:=fx [] [lb 7461 [(0,wS),(3,.own 32),(4,wH),(5,.h .byte),(23,.h .bool)] [(32,.row .byte 5)],lb 464 [(0,wS),(3,.own 32),(4,wH)] [(32,.row .byte 5)]]
def zy5(r0:(qr2 fu).L 1):(qr2 fu).L 0:=Fx.jm (qh8 fu r0.f) [r0.s]
def zy4:Nat->(qr2 fu).L 1:=Fx.lq (qdq fu) (qdp fu) (fun r0=>[(zy5 fu r0).s])
def zy6:=(qr2 fu).fi (qm4 fu) [(zy4 fu fu).s]
def zy7:EI wG ⟨.fn 99,[.ptr 0 0,wS],[(0,.cells [wS,wH,wH,wS,wS,wS,.own 1,wS,wH,wH,wH,wH,wH,wH,wH,wH,wH,wH,wH,wH,.h .bool,.own 2,.own 3,.own 4,.h .bool] 93),(1,.row (.prod .str wI) 77),(2,.row wI 3),(3,.row wI 3),(4,.row wI 3)],_,RS.mk (.tup []) [(0,.cells [wS,wH,wH,wS,wS,wS,.own 5,wS,wH,wH,wH,wH,wH,wH,wH,wH,wH,wH,wH,wH,.h .bool,.own 6,.own 7,.own 8,.h .bool] 93),(1,.dead),(2,.dead),(3,.dead),(4,.dead),(5,.row (.prod .str wI) 77),(6,.row wI 3),(7,.row wI 3),(8,.row wI 3)]⟩:=(fx [zgm.p,qr0.p,zgf.p,(q3g fu).p]).fi (qdi fu) (h:=by rintro⟨_,a0,_⟩ ⟨⟨a1,a2,a3,a4,a5,a6,_,a7,a8,a9,a10,a11,a12,a13,a14,a15,a16,a17,a18,a19,a20,_,_,_,a21,_⟩,a22,a23,a24,a25,_⟩;exact Eq.trans (b:=qdi fu a0 a1 a2 a3 a4 a5 a6 a7 a8 a9 a10 a11 a12 a13 a14 a15 a16 a17 a18 a19 a20 a21 a22 a23 a24 a25) oB oB)
def zy8:EI wG ⟨.fn 158,[wH,wH,.ptr 0 0],[(0,.cells [wS] 9)],_,RS.mk (wH) [(0,.cells [wS] 9)]⟩:=(fx [⟨qxu.e vd,q70 oD oD⟩]).fi kq
def q3i:Fx wG ⟨.fn 100,[.ptr 0 0,wS],[(0,.cells [wS,wH,wH,wS,wS,wS,.own 1,wS,wH,wH,wH,wH,wH,wH,wH,wH,wH,wH,wH,wH,.h .bool,.own 2,.own 3,.own 4,.h .bool] 93),(1,.row (.prod .str wI) 77),(2,.row wI 3),(3,.row wI 3),(4,.row wI 3)],_,RS.mk (.tup []) [(0,.cells [wS,wH,wH,wS,wS,wS,.own 5,wS,wH,wH,wH,wH,wH,wH,wH,wH,wH,wH,wH,wH,.h .bool,.own 6,.own 7,.own 8,.h .bool] 93),(1,.dead),(2,.dead),(3,.dead),(4,.dead),(5,.row (.prod .str wI) 77),(6,.row wI 3),(7,.row wI 3),(8,.row wI 3)]⟩:=fx [(zgp fu).p,zy8.p] [lb 14 [(0,.ptr 0 0),(3,.ptr 32 0)] [(0,.cells [wS,wH,wH,wS,wS,wS,.own 33,wS,wH,wH,wH,wH,wH,wH,wH,wH,wH,wH,wH,wH,.h .bool,.own 34,.own 35,.own 36,.h .bool] 93),(1,.dead),(2,.dead),(3,.dead),(4,.dead),(32,.cells [wS] 9),(33,.row (.prod .str wI) 77),(34,.row wI 3),(35,.row wI 3),(36,.row wI 3)],lb 13 [(0,.ptr 0 0),(3,.ptr 32 0),(24,.h .bool)] [(0,.cells [wS,wH,wH,wS,wS,wS,.own 33,wS,wH,wH,wH,wH,wH,wH,wH,wH,wH,wH,wH,wH,.h .bool,.own 34,.own 35,.own 36,.h .bool] 93),(1,.dead),(2,.dead),(3,.dead),(4,.dead),(32,.cells [wS] 9),(33,.row (.prod .str wI) 77),(34,.row wI 3),(35,.row wI 3),(36,.row wI 3)]]
def zza:(q3i fu).L 0:=Fx.jm (qm0 fu) (h:=by rintro⟨⟨_,_,_⟩,⟨⟨a0,a1,a2,a3,a4,a5,_,a6,a7,a8,a9,a10,a11,a12,a13,a14,a15,a16,a17,a18,a19,_,_,_,a20,_⟩,_,_,_,_,⟨a21,_⟩,a22,a23,a24,a25,_⟩⟩;exact Eq.trans (b:=qm0 fu a0 a1 a2 a3 a4 a5 a6 a7 a8 a9 a10 a11 a12 a13 a14 a15 a16 a17 a18 a19 a20 a21 a22 a23 a24 a25) oB oB)
def zy9:(q3i fu).L 1:=Fx.jm (qar fu) [(zza fu).s] (h:=by rintro⟨⟨_,_,a0,_⟩,⟨⟨a1,a2,a3,a4,a5,a6,_,a7,a8,a9,a10,a11,a12,a13,a14,a15,a16,a17,a18,a19,a20,_,_,_,a21,_⟩,_,_,_,_,⟨a22,_⟩,a23,a24,a25,a26,_⟩⟩;exact Eq.trans (b:=qar fu a0 a1 a2 a3 a4 a5 a6 a7 a8 a9 a10 a11 a12 a13 a14 a15 a16 a17 a18 a19 a20 a21 a22 a23 a24 a25 a26) oB oB)
def zzb:=(q3i fu).fi (qdm fu) [(zy9 fu).s] (h:=by rintro⟨_,a0,_⟩ ⟨⟨a1,a2,a3,a4,a5,a6,_,a7,a8,a9,a10,a11,a12,a13,a14,a15,a16,a17,a18,a19,a20,_,_,_,a21,_⟩,a22,a23,a24,a25,_⟩;exact Eq.trans (b:=qdm fu a0 a1 a2 a3 a4 a5 a6 a7 a8 a9 a10 a11 a12 a13 a14 a15 a16 a17 a18 a19 a20 a21 a22 a23 a24 a25) oB oB)
def zzc:EI wG ⟨.fn 159,[wS,wS],[],_,RS.mk (.h (.list .str)) []⟩:=(fx [(zhk fu).p]).fi (qnl fu)
def zzd:EI wG ⟨.fn 216,[wS,wS],[],_,RS.mk (.tup [wS,.h .bool]) []⟩:=(fx [zhf.p]).fi qmu
def zze:EI wG ⟨.fn 160,[wS,wS],[],_,RS.mk (.tup [wS,.h .bool]) []⟩:=(fx [zzd.p]).fi qaw
def zgr:EI wG ⟨.fn 103,[.ptr 0 0,wS],[(0,.cells [wS,wH,wH,wS,wS,wS,.own 1,wS,wH,wH,wH,wH,wH,wH,wH,wH,wH,wH,wH,wH,.h .bool,.own 2,.own 3,.own 4,.h .bool] 93),(1,.row (.prod .str wI) 77),(2,.row wI 3),(3,.row wI 3),(4,.row wI 3)],_,RS.mk (wH) [(0,.cells [wS,wH,wH,wS,wS,wS,.own 1,wS,wH,wH,wH,wH,wH,wH,wH,wH,wH,wH,wH,wH,.h .bool,.own 2,.own 3,.own 4,.h .bool] 93),(1,.row (.prod .str wI) 77),(2,.row wI 3),(3,.row wI 3),(4,.row wI 3)]⟩:=(fx [zze.p,(qr1 fu).p,qr0.p] [] true).fi (qdn fu) (h:=by rintro⟨_,a0,_⟩ ⟨⟨a1,a2,a3,a4,a5,a6,_,a7,a8,a9,a10,a11,a12,a13,a14,a15,a16,a17,a18,a19,a20,_,_,_,a21,_⟩,a22,a23,a24,a25,_⟩;exact Eq.trans (b:=qdn fu a0 a1 a2 a3 a4 a5 a6 a7 a8 a9 a10 a11 a12 a13 a14 a15 a16 a17 a18 a19 a20 a21 a22 a23 a24 a25) oB oB)
def zzf:EI wG ⟨.yld 0,[wS],[(0,.loop .ready none 102 21 [(5,.ptr 1 0),(7,.ptr 2 0)] [13] 6 3),(1,.cells [.fn 1048673 [.ptr 4 0]] 75),(2,.cells [.own 5] 33),(3,.dfr),(4,.cells [wS,wH,wH,wS,wS,wS,.own 6,wS,wH,wH,wH,wH,wH,wH,wH,wH,wH,wH,wH,wH,.h .bool,.own 7,.own 8,.own 9,.h .bool] 93),(5,.row wI 3),(6,.row (.prod .str wI) 77),(7,.row wI 3),(8,.row wI 3),(9,.row wI 3)],_,RS.mk (.c (.bool true)) [(0,.loop .ready none 102 21 [(5,.ptr 1 0),(7,.ptr 2 0)] [13] 6 3),(1,.cells [.fn 1048673 [.ptr 4 0]] 75),(2,.cells [.own 10] 33),(3,.dfr),(4,.cells [wS,wH,wH,wS,wS,wS,.own 11,wS,wH,wH,wH,wH,wH,wH,wH,wH,wH,wH,wH,wH,.h .bool,.own 12,.own 13,.own 14,.h .bool] 93),(5,.dead),(6,.dead),(7,.dead),(8,.dead),(9,.dead),(10,.row wI 3),(11,.row (.prod .str wI) 77),(12,.row wI 3),(13,.row wI 3),(14,.row wI 3)]⟩:=(fy 102 [(qr1 fu).p] [] false [([0,1,0,1,1,1],6)] (g7 rfl gd)).fo (qao fu) [] 0 [0,1,0,1,1,1] (h:=by rintro⟨a0,_⟩ ⟨⟨_,_,_⟩,⟨⟨_,_⟩,_⟩,⟨_,_⟩,_,⟨a1,a2,a3,a4,a5,a6,_,a7,a8,a9,a10,a11,a12,a13,a14,a15,a16,a17,a18,a19,a20,_,_,_,a21,_⟩,a22,a23,a24,a25,a26,_⟩;exact Eq.trans (b:=qao fu a0 a1 a2 a3 a4 a5 a6 a7 a8 a9 a10 a11 a12 a13 a14 a15 a16 a17 a18 a19 a20 a21 a22 a23 a24 a25 a26) oB oB)
def q3j:Fx wG ⟨.fn 212,[.yld 0,.ptr 1 0,.ptr 2 0,.ptr 3 0],[(0,.loop .ready none 102 21 [(5,.ptr 4 0),(7,.ptr 5 0)] [13] 6 6),(1,.cells [wS] 9),(2,.cells [wS] 9),(3,.cells [wH] 3),(4,.cells [.fn 1048673 [.ptr 7 0]] 75),(5,.cells [.own 8] 33),(6,.dfr),(7,.cells [wS,wH,wH,wS,wS,wS,.own 9,wS,wH,wH,wH,wH,wH,wH,wH,wH,wH,wH,wH,wH,.h .bool,.own 10,.own 11,.own 12,.h .bool] 93),(8,.row wI 3),(9,.row (.prod .str wI) 77),(10,.row wI 3),(11,.row wI 3),(12,.row wI 3)],_,RS.mk (.tup []) [(0,.loop .ready none 102 21 [(5,.ptr 4 0),(7,.ptr 5 0)] [13] 6 6),(1,.cells [wS] 9),(2,.cells [wS] 9),(3,.cells [wH] 3),(4,.cells [.fn 1048673 [.ptr 7 0]] 75),(5,.cells [.own 13] 33),(6,.dfr),(7,.cells [wS,wH,wH,wS,wS,wS,.own 14,wS,wH,wH,wH,wH,wH,wH,wH,wH,wH,wH,wH,wH,.h .bool,.own 15,.own 16,.own 17,.h .bool] 93),(8,.dead),(9,.dead),(10,.dead),(11,.dead),(12,.dead),(13,.row wI 3),(14,.row (.prod .str wI) 77),(15,.row wI 3),(16,.row wI 3),(17,.row wI 3)]⟩:=fx [⟨wm.e g9,yl pb ox pa ow⟩,(zzf fu).p,xf.p] [lb 320 [(0,.yld 0),(2,.ptr 2 0)] [(0,.loop .ready none 102 21 [(5,.ptr 4 0),(7,.ptr 5 0)] [13] 6 6),(1,.cells [wS] 9),(2,.cells [wS] 9),(3,.cells [wH] 3),(4,.cells [.fn 1048673 [.ptr 7 0]] 75),(5,.cells [.own 32] 33),(6,.dfr),(7,.cells [wS,wH,wH,wS,wS,wS,.own 33,wS,wH,wH,wH,wH,wH,wH,wH,wH,wH,wH,wH,wH,.h .bool,.own 34,.own 35,.own 36,.h .bool] 93),(8,.dead),(9,.dead),(10,.dead),(11,.dead),(12,.dead),(32,.row wI 3),(33,.row (.prod .str wI) 77),(34,.row wI 3),(35,.row wI 3),(36,.row wI 3)],lb 96 [(0,.yld 0),(1,.ptr 1 0),(2,.ptr 2 0),(3,.ptr 3 0)] [(0,.loop .ready none 102 21 [(5,.ptr 4 0),(7,.ptr 5 0)] [13] 6 6),(1,.cells [wS] 9),(2,.cells [wS] 9),(3,.cells [wH] 3),(4,.cells [.fn 1048673 [.ptr 7 0]] 75),(5,.cells [.own 32] 33),(6,.dfr),(7,.cells [wS,wH,wH,wS,wS,wS,.own 33,wS,wH,wH,wH,wH,wH,wH,wH,wH,wH,wH,wH,wH,.h .bool,.own 34,.own 35,.own 36,.h .bool] 93),(8,.dead),(9,.dead),(10,.dead),(11,.dead),(12,.dead),(32,.row wI 3),(33,.row (.prod .str wI) 77),(34,.row wI 3),(35,.row wI 3),(36,.row wI 3)]]
def zzj:Nat->(q3j fu).L 0:=Fx.lq (qv1 fu) (qv0 fu) (fun r0=>[r0.s]) (h:=by rintro r0 ⟨⟨_,_,_⟩,⟨⟨_,_,_⟩,⟨a0,_⟩,⟨a1,_⟩,⟨a2,_⟩,⟨⟨_,_⟩,_⟩,⟨_,_⟩,_,⟨a3,a4,a5,a6,a7,a8,_,a9,a10,a11,a12,a13,a14,a15,a16,a17,a18,a19,a20,a21,a22,_,_,_,a23,_⟩,_,_,_,_,_,a24,a25,a26,a27,a28,_⟩⟩;exact Eq.trans (b:=qv0 fu r0.f a0 a1 a2 a3 a4 a5 a6 a7 a8 a9 a10 a11 a12 a13 a14 a15 a16 a17 a18 a19 a20 a21 a22 a23 a24 a25 a26 a27 a28) oB oB)
def zzk:Nat->(q3j fu).L 1:=Fx.lq (qdx fu) (qiq fu) (fun r1=>[r1.s]) (h:=by rintro r1 ⟨⟨_,_,_,_,_⟩,⟨⟨_,_,_⟩,⟨a0,_⟩,⟨a1,_⟩,⟨a2,_⟩,⟨⟨_,_⟩,_⟩,⟨_,_⟩,_,⟨a3,a4,a5,a6,a7,a8,_,a9,a10,a11,a12,a13,a14,a15,a16,a17,a18,a19,a20,a21,a22,_,_,_,a23,_⟩,_,_,_,_,_,a24,a25,a26,a27,a28,_⟩⟩;exact Eq.trans (b:=qiq fu r1.f a0 a1 a2 a3 a4 a5 a6 a7 a8 a9 a10 a11 a12 a13 a14 a15 a16 a17 a18 a19 a20 a21 a22 a23 a24 a25 a26 a27 a28) oB oB)
def zzl:=(q3j fu).fi (qnp fu) [(zzj fu fu).s,(zzk fu fu).s] (h:=by rintro⟨_,_,_,_,_⟩ ⟨⟨_,_,_⟩,⟨a0,_⟩,⟨a1,_⟩,⟨a2,_⟩,⟨⟨_,_⟩,_⟩,⟨_,_⟩,_,⟨a3,a4,a5,a6,a7,a8,_,a9,a10,a11,a12,a13,a14,a15,a16,a17,a18,a19,a20,a21,a22,_,_,_,a23,_⟩,a24,a25,a26,a27,a28,_⟩;exact Eq.trans (b:=qnp fu a0 a1 a2 a3 a4 a5 a6 a7 a8 a9 a10 a11 a12 a13 a14 a15 a16 a17 a18 a19 a20 a21 a22 a23 a24 a25 a26 a27 a28) oB oB)
def zzm:EI wG ⟨.fn 102,[.ptr 0 0,wS,.fn 1048673 [.ptr 0 0]],[(0,.cells [wS,wH,wH,wS,wS,wS,.own 1,wS,wH,wH,wH,wH,wH,wH,wH,wH,wH,wH,wH,wH,.h .bool,.own 2,.own 3,.own 4,.h .bool] 93),(1,.row (.prod .str wI) 77),(2,.row wI 3),(3,.row wI 3),(4,.row wI 3)],_,RS.mk (.own 5) [(0,.cells [wS,wH,wH,wS,wS,wS,.own 6,wS,wH,wH,wH,wH,wH,wH,wH,wH,wH,wH,wH,wH,.h .bool,.own 7,.own 8,.own 9,.h .bool] 93),(1,.dead),(2,.dead),(3,.dead),(4,.dead),(5,.row wI 3),(6,.row (.prod .str wI) 77),(7,.row wI 3),(8,.row wI 3),(9,.row wI 3)]⟩:=(fx [qgh.p,(zzl fu).p] [] false [([0,1,0,1,1,1],6)] (g7 rfl gd)).fi (qdj fu) (h:=by rintro⟨_,a0,⟨_,_⟩,_⟩ ⟨⟨a1,a2,a3,a4,a5,a6,_,a7,a8,a9,a10,a11,a12,a13,a14,a15,a16,a17,a18,a19,a20,_,_,_,a21,_⟩,a22,a23,a24,a25,_⟩;exact Eq.trans (b:=qdj fu a0 a1 a2 a3 a4 a5 a6 a7 a8 a9 a10 a11 a12 a13 a14 a15 a16 a17 a18 a19 a20 a21 a22 a23 a24 a25) oB oB)
def zzn:EI wG ⟨.fn 101,[.ptr 0 0,wS],[(0,.cells [wS,wH,wH,wS,wS,wS,.own 1,wS,wH,wH,wH,wH,wH,wH,wH,wH,wH,wH,wH,wH,.h .bool,.own 2,.own 3,.own 4,.h .bool] 93),(1,.row (.prod .str wI) 77),(2,.row wI 3),(3,.row wI 3),(4,.row wI 3)],_,RS.mk (.tup []) [(0,.cells [wS,wH,wH,wS,wS,wS,.own 5,wS,wH,wH,wH,wH,wH,wH,wH,wH,wH,wH,wH,wH,.h .bool,.own 6,.own 7,.own 8,.h .bool] 93),(1,.dead),(2,.dead),(3,.dead),(4,.dead),(5,.row (.prod .str wI) 77),(6,.row wI 3),(7,.row wI 3),(8,.row wI 3)]⟩:=(fx [(zzc fu).p,zgg.p,(q3g fu).p,(qr1 fu).p,(zgr fu).p,(zzm fu).p]).fi (qdl fu) (h:=by rintro⟨_,a0,_⟩ ⟨⟨a1,a2,a3,a4,a5,a6,_,a7,a8,a9,a10,a11,a12,a13,a14,a15,a16,a17,a18,a19,a20,_,_,_,a21,_⟩,a22,a23,a24,a25,_⟩;exact Eq.trans (b:=qdl fu a0 a1 a2 a3 a4 a5 a6 a7 a8 a9 a10 a11 a12 a13 a14 a15 a16 a17 a18 a19 a20 a21 a22 a23 a24 a25) oB oB)
def zzo:EI wG ⟨.yld 0,[wS],[(0,.loop .ready none 102 21 [(5,.ptr 1 0),(7,.ptr 2 0)] [13] 6 3),(1,.cells [.fn 1048679 [.ptr 4 0]] 75),(2,.cells [.own 5] 33),(3,.dfr),(4,.cells [wS,wH,wH,wS,wS,wS,.own 6,wS,wH,wH,wH,wH,wH,wH,wH,wH,wH,wH,wH,wH,.h .bool,.own 7,.own 8,.own 9,.h .bool] 93),(5,.row wI 3),(6,.row (.prod .str wI) 77),(7,.row wI 3),(8,.row wI 3),(9,.row wI 3)],_,RS.mk (.c (.bool true)) [(0,.loop .ready none 102 21 [(5,.ptr 1 0),(7,.ptr 2 0)] [13] 6 3),(1,.cells [.fn 1048679 [.ptr 4 0]] 75),(2,.cells [.own 10] 33),(3,.dfr),(4,.cells [wS,wH,wH,wS,wS,wS,.own 11,wS,wH,wH,wH,wH,wH,wH,wH,wH,wH,wH,wH,wH,.h .bool,.own 12,.own 13,.own 14,.h .bool] 93),(5,.dead),(6,.dead),(7,.dead),(8,.dead),(9,.dead),(10,.row wI 3),(11,.row (.prod .str wI) 77),(12,.row wI 3),(13,.row wI 3),(14,.row wI 3)]⟩:=(fy 102 [(zgr fu).p] [] false [([0,1,0,1,1,1],6)] (g7 rfl gd)).fo (qap fu) [] 0 [0,1,0,1,1,1] (h:=by rintro⟨a0,_⟩ ⟨⟨_,_,_⟩,⟨⟨_,_⟩,_⟩,⟨_,_⟩,_,⟨a1,a2,a3,a4,a5,a6,_,a7,a8,a9,a10,a11,a12,a13,a14,a15,a16,a17,a18,a19,a20,_,_,_,a21,_⟩,a22,a23,a24,a25,a26,_⟩;exact Eq.trans (b:=qap fu a0 a1 a2 a3 a4 a5 a6 a7 a8 a9 a10 a11 a12 a13 a14 a15 a16 a17 a18 a19 a20 a21 a22 a23 a24 a25 a26) oB oB)
def q3k:Fx wG ⟨.fn 212,[.yld 0,.ptr 1 0,.ptr 2 0,.ptr 3 0],[(0,.loop .ready none 102 21 [(5,.ptr 4 0),(7,.ptr 5 0)] [13] 6 6),(1,.cells [wS] 9),(2,.cells [wS] 9),(3,.cells [wH] 3),(4,.cells [.fn 1048679 [.ptr 7 0]] 75),(5,.cells [.own 8] 33),(6,.dfr),(7,.cells [wS,wH,wH,wS,wS,wS,.own 9,wS,wH,wH,wH,wH,wH,wH,wH,wH,wH,wH,wH,wH,.h .bool,.own 10,.own 11,.own 12,.h .bool] 93),(8,.row wI 3),(9,.row (.prod .str wI) 77),(10,.row wI 3),(11,.row wI 3),(12,.row wI 3)],_,RS.mk (.tup []) [(0,.loop .ready none 102 21 [(5,.ptr 4 0),(7,.ptr 5 0)] [13] 6 6),(1,.cells [wS] 9),(2,.cells [wS] 9),(3,.cells [wH] 3),(4,.cells [.fn 1048679 [.ptr 7 0]] 75),(5,.cells [.own 13] 33),(6,.dfr),(7,.cells [wS,wH,wH,wS,wS,wS,.own 14,wS,wH,wH,wH,wH,wH,wH,wH,wH,wH,wH,wH,wH,.h .bool,.own 15,.own 16,.own 17,.h .bool] 93),(8,.dead),(9,.dead),(10,.dead),(11,.dead),(12,.dead),(13,.row wI 3),(14,.row (.prod .str wI) 77),(15,.row wI 3),(16,.row wI 3),(17,.row wI 3)]⟩:=fx [⟨wm.e g9,yl pb ox pa ow⟩,(zzo fu).p,xf.p] [lb 320 [(0,.yld 0),(2,.ptr 2 0)] [(0,.loop .ready none 102 21 [(5,.ptr 4 0),(7,.ptr 5 0)] [13] 6 6),(1,.cells [wS] 9),(2,.cells [wS] 9),(3,.cells [wH] 3),(4,.cells [.fn 1048679 [.ptr 7 0]] 75),(5,.cells [.own 32] 33),(6,.dfr),(7,.cells [wS,wH,wH,wS,wS,wS,.own 33,wS,wH,wH,wH,wH,wH,wH,wH,wH,wH,wH,wH,wH,.h .bool,.own 34,.own 35,.own 36,.h .bool] 93),(8,.dead),(9,.dead),(10,.dead),(11,.dead),(12,.dead),(32,.row wI 3),(33,.row (.prod .str wI) 77),(34,.row wI 3),(35,.row wI 3),(36,.row wI 3)],lb 96 [(0,.yld 0),(1,.ptr 1 0),(2,.ptr 2 0),(3,.ptr 3 0)] [(0,.loop .ready none 102 21 [(5,.ptr 4 0),(7,.ptr 5 0)] [13] 6 6),(1,.cells [wS] 9),(2,.cells [wS] 9),(3,.cells [wH] 3),(4,.cells [.fn 1048679 [.ptr 7 0]] 75),(5,.cells [.own 32] 33),(6,.dfr),(7,.cells [wS,wH,wH,wS,wS,wS,.own 33,wS,wH,wH,wH,wH,wH,wH,wH,wH,wH,wH,wH,wH,.h .bool,.own 34,.own 35,.own 36,.h .bool] 93),(8,.dead),(9,.dead),(10,.dead),(11,.dead),(12,.dead),(32,.row wI 3),(33,.row (.prod .str wI) 77),(34,.row wI 3),(35,.row wI 3),(36,.row wI 3)]]
def zzp:Nat->(q3k fu).L 0:=Fx.lq (qv3 fu) (qv2 fu) (fun r0=>[r0.s]) (h:=by rintro r0 ⟨⟨_,_,_⟩,⟨⟨_,_,_⟩,⟨a0,_⟩,⟨a1,_⟩,⟨a2,_⟩,⟨⟨_,_⟩,_⟩,⟨_,_⟩,_,⟨a3,a4,a5,a6,a7,a8,_,a9,a10,a11,a12,a13,a14,a15,a16,a17,a18,a19,a20,a21,a22,_,_,_,a23,_⟩,_,_,_,_,_,a24,a25,a26,a27,a28,_⟩⟩;exact Eq.trans (b:=qv2 fu r0.f a0 a1 a2 a3 a4 a5 a6 a7 a8 a9 a10 a11 a12 a13 a14 a15 a16 a17 a18 a19 a20 a21 a22 a23 a24 a25 a26 a27 a28) oB oB)
def zzq:Nat->(q3k fu).L 1:=Fx.lq (qdy fu) (qir fu) (fun r1=>[r1.s]) (h:=by rintro r1 ⟨⟨_,_,_,_,_⟩,⟨⟨_,_,_⟩,⟨a0,_⟩,⟨a1,_⟩,⟨a2,_⟩,⟨⟨_,_⟩,_⟩,⟨_,_⟩,_,⟨a3,a4,a5,a6,a7,a8,_,a9,a10,a11,a12,a13,a14,a15,a16,a17,a18,a19,a20,a21,a22,_,_,_,a23,_⟩,_,_,_,_,_,a24,a25,a26,a27,a28,_⟩⟩;exact Eq.trans (b:=qir fu r1.f a0 a1 a2 a3 a4 a5 a6 a7 a8 a9 a10 a11 a12 a13 a14 a15 a16 a17 a18 a19 a20 a21 a22 a23 a24 a25 a26 a27 a28) oB oB)
def zzr:=(q3k fu).fi (qnq fu) [(zzp fu fu).s,(zzq fu fu).s] (h:=by rintro⟨_,_,_,_,_⟩ ⟨⟨_,_,_⟩,⟨a0,_⟩,⟨a1,_⟩,⟨a2,_⟩,⟨⟨_,_⟩,_⟩,⟨_,_⟩,_,⟨a3,a4,a5,a6,a7,a8,_,a9,a10,a11,a12,a13,a14,a15,a16,a17,a18,a19,a20,a21,a22,_,_,_,a23,_⟩,a24,a25,a26,a27,a28,_⟩;exact Eq.trans (b:=qnq fu a0 a1 a2 a3 a4 a5 a6 a7 a8 a9 a10 a11 a12 a13 a14 a15 a16 a17 a18 a19 a20 a21 a22 a23 a24 a25 a26 a27 a28) oB oB)
def zzs:EI wG ⟨.fn 102,[.ptr 0 0,wS,.fn 1048679 [.ptr 0 0]],[(0,.cells [wS,wH,wH,wS,wS,wS,.own 1,wS,wH,wH,wH,wH,wH,wH,wH,wH,wH,wH,wH,wH,.h .bool,.own 2,.own 3,.own 4,.h .bool] 93),(1,.row (.prod .str wI) 77),(2,.row wI 3),(3,.row wI 3),(4,.row wI 3)],_,RS.mk (.own 5) [(0,.cells [wS,wH,wH,wS,wS,wS,.own 6,wS,wH,wH,wH,wH,wH,wH,wH,wH,wH,wH,wH,wH,.h .bool,.own 7,.own 8,.own 9,.h .bool] 93),(1,.dead),(2,.dead),(3,.dead),(4,.dead),(5,.row wI 3),(6,.row (.prod .str wI) 77),(7,.row wI 3),(8,.row wI 3),(9,.row wI 3)]⟩:=(fx [qgh.p,(zzr fu).p] [] false [([0,1,0,1,1,1],6)] (g7 rfl gd)).fi (qdk fu) (h:=by rintro⟨_,a0,⟨_,_⟩,_⟩ ⟨⟨a1,a2,a3,a4,a5,a6,_,a7,a8,a9,a10,a11,a12,a13,a14,a15,a16,a17,a18,a19,a20,_,_,_,a21,_⟩,a22,a23,a24,a25,_⟩;exact Eq.trans (b:=qdk fu a0 a1 a2 a3 a4 a5 a6 a7 a8 a9 a10 a11 a12 a13 a14 a15 a16 a17 a18 a19 a20 a21 a22 a23 a24 a25) oB oB)
def zzt:EI wG ⟨.fn 54,[.ptr 0 0,wS],[(0,.cells [wS,wH,wH,wS,wS,wS,.own 1,wS,wH,wH,wH,wH,wH,wH,wH,wH,wH,wH,wH,wH,.h .bool,.own 2,.own 3,.own 4,.h .bool] 93),(1,.row (.prod .str wI) 77),(2,.row wI 3),(3,.row wI 3),(4,.row wI 3)],_,RS.mk (.tup []) [(0,.cells [wS,wH,wH,wS,wS,wS,.own 5,wS,wH,wH,wH,wH,wH,wH,wH,wH,wH,wH,wH,wH,.h .bool,.own 6,.own 7,.own 8,.h .bool] 93),(1,.dead),(2,.dead),(3,.dead),(4,.dead),(5,.row (.prod .str wI) 77),(6,.row wI 3),(7,.row wI 3),(8,.row wI 3)]⟩:=(fx [zgm.p,zgd.p,(q3g fu).p,(qr1 fu).p,(zy6 fu).p,(zy7 fu).p,(zzb fu).p,(zzn fu).p,(zzs fu).p]).fi (dx fu) (h:=by rintro⟨_,a0,_⟩ ⟨⟨a1,a2,a3,a4,a5,a6,_,a7,a8,a9,a10,a11,a12,a13,a14,a15,a16,a17,a18,a19,a20,_,_,_,a21,_⟩,a22,a23,a24,a25,_⟩;exact Eq.trans (b:=dx fu a0 a1 a2 a3 a4 a5 a6 a7 a8 a9 a10 a11 a12 a13 a14 a15 a16 a17 a18 a19 a20 a21 a22 a23 a24 a25) oB oB)
def zzu:EI wG ⟨.yld 0,[wS],[(0,.loop .ready none 15 63 [(4,.ptr 1 0),(5,.ptr 2 0)] [13] 5 3),(1,.cells [.own 4] 22),(2,.cells [.ptr 5 0] 88),(3,.dfr),(4,.row (.prod .str (.prod wI (.prod wI (.prod .str (.prod .str (.prod .str (.prod (.list (.prod .str wI)) (.prod .str (.prod (.prod wI (.prod wI (.prod wI (.prod wI (.prod wI (.prod wI wI)))))) (.prod wI (.prod wI (.prod wI (.prod wI (.prod wI (.prod .bool (.prod (.list wI) (.prod (.list wI) (.list wI)))))))))))))))))) 37),(5,.cells [wS,wH,wH,wS,wS,wS,.own 6,wS,wH,wH,wH,wH,wH,wH,wH,wH,wH,wH,wH,wH,.h .bool,.own 7,.own 8,.own 9,.h .bool] 93),(6,.row (.prod .str wI) 77),(7,.row wI 3),(8,.row wI 3),(9,.row wI 3)],_,.two (RS.mk (.c (.bool true)) [(0,.loop .ready none 15 63 [(4,.ptr 1 0),(5,.ptr 2 0)] [13] 5 3),(1,.cells [.own 10] 22),(2,.cells [.ptr 11 0] 88),(3,.dfr),(4,.dead),(5,.cells [wS,wH,wH,wS,wS,wS,.own 12,wS,wH,wH,wH,wH,wH,wH,wH,wH,wH,wH,wH,wH,.h .bool,.own 13,.own 14,.own 15,.h .bool] 93),(6,.dead),(7,.dead),(8,.dead),(9,.dead),(10,.row (.prod .str (.prod wI (.prod wI (.prod .str (.prod .str (.prod .str (.prod (.list (.prod .str wI)) (.prod .str (.prod (.prod wI (.prod wI (.prod wI (.prod wI (.prod wI (.prod wI wI)))))) (.prod wI (.prod wI (.prod wI (.prod wI (.prod wI (.prod .bool (.prod (.list wI) (.prod (.list wI) (.list wI)))))))))))))))))) 37),(11,.cells [wS,wH,wH,wS,wS,wS,.own 16,wS,wH,wH,wH,wH,wH,wH,wH,wH,wH,wH,wH,wH,.h .bool,.own 17,.own 18,.own 19,.h .bool] 93),(12,.row (.prod .str wI) 77),(13,.row wI 3),(14,.row wI 3),(15,.row wI 3),(16,.row (.prod .str wI) 77),(17,.row wI 3),(18,.row wI 3),(19,.row wI 3)]) (.two (RS.mk (.c (.bool true)) [(0,.loop .ready none 15 63 [(4,.ptr 1 0),(5,.ptr 2 0)] [13] 5 3),(1,.cells [.own 10] 22),(2,.cells [.c .nilPtr] 88),(3,.dfr),(4,.dead),(5,.dat (.prod (.prod .str (.prod wI (.prod wI (.prod .str (.prod .str (.prod .str (.prod (.list (.prod .str wI)) (.prod .str (.prod (.prod wI (.prod wI (.prod wI (.prod wI (.prod wI (.prod wI wI)))))) (.prod wI (.prod wI (.prod wI (.prod wI (.prod wI (.prod .bool (.prod (.list wI) (.prod (.list wI) (.list wI)))))))))))))))))) .bool) 93),(6,.dead),(7,.dead),(8,.dead),(9,.dead),(10,.row (.prod .str (.prod wI (.prod wI (.prod .str (.prod .str (.prod .str (.prod (.list (.prod .str wI)) (.prod .str (.prod (.prod wI (.prod wI (.prod wI (.prod wI (.prod wI (.prod wI wI)))))) (.prod wI (.prod wI (.prod wI (.prod wI (.prod wI (.prod .bool (.prod (.list wI) (.prod (.list wI) (.list wI)))))))))))))))))) 37)]) (RS.mk (.c (.bool true)) [(0,.loop .ready none 15 63 [(4,.ptr 1 0),(5,.ptr 2 0)] [13] 5 3),(1,.cells [.own 10] 22),(2,.cells [.ptr 5 0] 88),(3,.dfr),(4,.dead),(5,.cells [wS,wH,wH,wS,wS,wS,.own 12,wS,wH,wH,wH,wH,wH,wH,wH,wH,wH,wH,wH,wH,.h .bool,.own 13,.own 14,.own 15,.h .bool] 93),(6,.dead),(7,.dead),(8,.dead),(9,.dead),(10,.row (.prod .str (.prod wI (.prod wI (.prod .str (.prod .str (.prod .str (.prod (.list (.prod .str wI)) (.prod .str (.prod (.prod wI (.prod wI (.prod wI (.prod wI (.prod wI (.prod wI wI)))))) (.prod wI (.prod wI (.prod wI (.prod wI (.prod wI (.prod .bool (.prod (.list wI) (.prod (.list wI) (.list wI)))))))))))))))))) 37),(12,.row (.prod .str wI) 77),(13,.row wI 3),(14,.row wI 3),(15,.row wI 3)]))⟩:=(fy 15 [(q3a fu).p,kp.p,(zzt fu).p] [] false [([0,1,0,1,1,1,1],5)] (g7 rfl gd)).fo (qam fu) [] 0 [0,1,0,1,1,1,1] (h:=by rintro⟨a0,_⟩ ⟨⟨_,_,_⟩,⟨_,_⟩,⟨_,_⟩,_,a1,⟨a2,a3,a4,a5,a6,a7,_,a8,a9,a10,a11,a12,a13,a14,a15,a16,a17,a18,a19,a20,a21,_,_,_,a22,_⟩,a23,a24,a25,a26,_⟩;exact Eq.trans (b:=qam fu a0 a1 a2 a3 a4 a5 a6 a7 a8 a9 a10 a11 a12 a13 a14 a15 a16 a17 a18 a19 a20 a21 a22 a23 a24 a25 a26) oB oB)
def qch:Fx wG ⟨.fn 212,[.yld 0,.ptr 1 0,.ptr 2 0,.ptr 3 0],[(0,.loop .ready none 15 63 [(4,.ptr 4 0),(5,.ptr 5 0)] [13] 5 6),(1,.cells [wS] 9),(2,.cells [wS] 9),(3,.cells [wH] 3),(4,.cells [.own 7] 22),(5,.cells [.c .nilPtr] 88),(6,.dfr),(7,.row (.prod .str (.prod wI (.prod wI (.prod .str (.prod .str (.prod .str (.prod (.list (.prod .str wI)) (.prod .str (.prod (.prod wI (.prod wI (.prod wI (.prod wI (.prod wI (.prod wI wI)))))) (.prod wI (.prod wI (.prod wI (.prod wI (.prod wI (.prod .bool (.prod (.list wI) (.prod (.list wI) (.list wI)))))))))))))))))) 37)],_,.two (RS.mk (.tup []) [(0,.loop .ready none 15 63 [(4,.ptr 4 0),(5,.ptr 5 0)] [13] 5 6),(1,.cells [wS] 9),(2,.cells [wS] 9),(3,.cells [wH] 3),(4,.cells [.own 8] 22),(5,.cells [.c .nilPtr] 88),(6,.dfr),(7,.dead),(8,.row (.prod .str (.prod wI (.prod wI (.prod .str (.prod .str (.prod .str (.prod (.list (.prod .str wI)) (.prod .str (.prod (.prod wI (.prod wI (.prod wI (.prod wI (.prod wI (.prod wI wI)))))) (.prod wI (.prod wI (.prod wI (.prod wI (.prod wI (.prod .bool (.prod (.list wI) (.prod (.list wI) (.list wI)))))))))))))))))) 37)]) (RS.mk (.tup []) [(0,.loop .ready none 15 63 [(4,.ptr 4 0),(5,.ptr 5 0)] [13] 5 6),(1,.cells [wS] 9),(2,.cells [wS] 9),(3,.cells [wH] 3),(4,.cells [.own 8] 22),(5,.cells [.ptr 9 0] 88),(6,.dfr),(7,.dead),(8,.row (.prod .str (.prod wI (.prod wI (.prod .str (.prod .str (.prod .str (.prod (.list (.prod .str wI)) (.prod .str (.prod (.prod wI (.prod wI (.prod wI (.prod wI (.prod wI (.prod wI wI)))))) (.prod wI (.prod wI (.prod wI (.prod wI (.prod wI (.prod .bool (.prod (.list wI) (.prod (.list wI) (.list wI)))))))))))))))))) 37),(9,.cells [wS,wH,wH,wS,wS,wS,.own 10,wS,wH,wH,wH,wH,wH,wH,wH,wH,wH,wH,wH,wH,.h .bool,.own 11,.own 12,.own 13,.h .bool] 93),(10,.row (.prod .str wI) 77),(11,.row wI 3),(12,.row wI 3),(13,.row wI 3)])⟩:=fx [⟨wm.e g9,yl pb ox pa ow⟩,zyv.p,xf.p,(zzu fu).p] [lb 320 [(0,.yld 0),(2,.ptr 2 0)] [(0,.loop .ready none 15 63 [(4,.ptr 4 0),(5,.ptr 5 0)] [13] 5 6),(1,.cells [wS] 9),(2,.cells [wS] 9),(3,.cells [wH] 3),(4,.cells [.own 32] 22),(5,.cells [.ptr 33 0] 88),(6,.dfr),(7,.dead),(32,.row (.prod .str (.prod wI (.prod wI (.prod .str (.prod .str (.prod .str (.prod (.list (.prod .str wI)) (.prod .str (.prod (.prod wI (.prod wI (.prod wI (.prod wI (.prod wI (.prod wI wI)))))) (.prod wI (.prod wI (.prod wI (.prod wI (.prod wI (.prod .bool (.prod (.list wI) (.prod (.list wI) (.list wI)))))))))))))))))) 37),(33,.cells [wS,wH,wH,wS,wS,wS,.own 34,wS,wH,wH,wH,wH,wH,wH,wH,wH,wH,wH,wH,wH,.h .bool,.own 35,.own 36,.own 37,.h .bool] 93),(34,.row (.prod .str wI) 77),(35,.row wI 3),(36,.row wI 3),(37,.row wI 3)],lb 320 [(0,.yld 0),(2,.ptr 2 0)] [(0,.loop .ready none 15 63 [(4,.ptr 4 0),(5,.ptr 5 0)] [13] 5 6),(1,.cells [wS] 9),(2,.cells [wS] 9),(3,.cells [wH] 3),(4,.cells [.own 32] 22),(5,.cells [.c .nilPtr] 88),(6,.dfr),(7,.dead),(32,.row (.prod .str (.prod wI (.prod wI (.prod .str (.prod .str (.prod .str (.prod (.list (.prod .str wI)) (.prod .str (.prod (.prod wI (.prod wI (.prod wI (.prod wI (.prod wI (.prod wI wI)))))) (.prod wI (.prod wI (.prod wI (.prod wI (.prod wI (.prod .bool (.prod (.list wI) (.prod (.list wI) (.list wI)))))))))))))))))) 37)],lb 96 [(0,.yld 0),(1,.ptr 1 0),(2,.ptr 2 0),(3,.ptr 3 0)] [(0,.loop .ready none 15 63 [(4,.ptr 4 0),(5,.ptr 5 0)] [13] 5 6),(1,.cells [wS] 9),(2,.cells [wS] 9),(3,.cells [wH] 3),(4,.cells [.own 32] 22),(5,.cells [.ptr 33 0] 88),(6,.dfr),(7,.dead),(32,.row (.prod .str (.prod wI (.prod wI (.prod .str (.prod .str (.prod .str (.prod (.list (.prod .str wI)) (.prod .str (.prod (.prod wI (.prod wI (.prod wI (.prod wI (.prod wI (.prod wI wI)))))) (.prod wI (.prod wI (.prod wI (.prod wI (.prod wI (.prod .bool (.prod (.list wI) (.prod (.list wI) (.list wI)))))))))))))))))) 37),(33,.cells [wS,wH,wH,wS,wS,wS,.own 34,wS,wH,wH,wH,wH,wH,wH,wH,wH,wH,wH,wH,wH,.h .bool,.own 35,.own 36,.own 37,.h .bool] 93),(34,.row (.prod .str wI) 77),(35,.row wI 3),(36,.row wI 3),(37,.row wI 3)],lb 96 [(0,.yld 0),(1,.ptr 1 0),(2,.ptr 2 0),(3,.ptr 3 0)] [(0,.loop .ready none 15 63 [(4,.ptr 4 0),(5,.ptr 5 0)] [13] 5 6),(1,.cells [wS] 9),(2,.cells [wS] 9),(3,.cells [wH] 3),(4,.cells [.own 32] 22),(5,.cells [.c .nilPtr] 88),(6,.dfr),(7,.dead),(32,.row (.prod .str (.prod wI (.prod wI (.prod .str (.prod .str (.prod .str (.prod (.list (.prod .str wI)) (.prod .str (.prod (.prod wI (.prod wI (.prod wI (.prod wI (.prod wI (.prod wI wI)))))) (.prod wI (.prod wI (.prod wI (.prod wI (.prod wI (.prod .bool (.prod (.list wI) (.prod (.list wI) (.list wI)))))))))))))))))) 37)]]
def zzx(r0:(qch fu).L 1):Nat->(qch fu).L 0:=Fx.lq (qvz fu r0.f) (qvx fu r0.f) (fun r2=>[r2.s,r0.s]) (h:=by rintro r2 ⟨⟨_,_,_⟩,⟨⟨_,_,_⟩,⟨a0,_⟩,⟨a1,_⟩,⟨a2,_⟩,⟨_,_⟩,⟨_,_⟩,_,_,a3,⟨a4,a5,a6,a7,a8,a9,_,a10,a11,a12,a13,a14,a15,a16,a17,a18,a19,a20,a21,a22,a23,_,_,_,a24,_⟩,a25,a26,a27,a28,_⟩⟩;exact Eq.trans (b:=qvx fu r0.f r2.f a0 a1 a2 a3 a4 a5 a6 a7 a8 a9 a10 a11 a12 a13 a14 a15 a16 a17 a18 a19 a20 a21 a22 a23 a24 a25 a26 a27 a28) oB oB)
def zzv:Nat->(qch fu).L 1:=Fx.lq (qvy fu) (q58 fu) (fun r0=>[(zzx fu r0 fu).s,r0.s])
def zzy(r1:(qch fu).L 3):Nat->(qch fu).L 2:=Fx.lq (qdw fu r1.f) (qip fu r1.f) (fun r3=>[r3.s,r1.s]) (h:=by rintro r3 ⟨⟨_,_,_,_,_⟩,⟨⟨_,_,_⟩,⟨a0,_⟩,⟨a1,_⟩,⟨a2,_⟩,⟨_,_⟩,⟨_,_⟩,_,_,a3,⟨a4,a5,a6,a7,a8,a9,_,a10,a11,a12,a13,a14,a15,a16,a17,a18,a19,a20,a21,a22,a23,_,_,_,a24,_⟩,a25,a26,a27,a28,_⟩⟩;exact Eq.trans (b:=qip fu r1.f r3.f a0 a1 a2 a3 a4 a5 a6 a7 a8 a9 a10 a11 a12 a13 a14 a15 a16 a17 a18 a19 a20 a21 a22 a23 a24 a25 a26 a27 a28) oB oB)
def zzw:Nat->(qch fu).L 3:=Fx.lq (x7 fu) (qio fu) (fun r1=>[(zzy fu r1 fu).s,r1.s])
def zzz:=(qch fu).fi (qvw fu) [(zzv fu fu).s,(zzw fu fu).s]
def zgs:EI wG ⟨.fn 15,[wS],[],_,RS.mk (.tup [.own 0,.h (.prod wI wI)]) [(0,.row (.prod .str (.prod wI (.prod wI (.prod .str (.prod .str (.prod .str (.prod (.list (.prod .str wI)) (.prod .str (.prod (.prod wI (.prod wI (.prod wI (.prod wI (.prod wI (.prod wI wI)))))) (.prod wI (.prod wI (.prod wI (.prod wI (.prod wI (.prod .bool (.prod (.list wI) (.prod (.list wI) (.list wI)))))))))))))))))) 37)]⟩:=(fx [fq.p,zyu.p,(zzz fu).p,fv.p] [] false [([0,1,0,1,1,1,1],5)] (g7 rfl gd)).fi (qdc fu)
def zz0:EI wG ⟨.fn 104,[.h (.prod .str (.prod wI (.prod wI (.prod (.prod wI (.prod wI (.prod wI wI))) (.prod wI (.prod wI (.prod wI wI))))))),.h (.prod wI (.prod wI (.prod wI (.prod wI (.prod wI (.prod wI wI)))))),.h (.prod wI (.prod wI (.prod wI (.prod wI (.prod .bool (.prod (.list wI) (.prod (.list wI) (.list wI))))))))],[],_,RS.mk (.fn 161 [.ptr 0 0,.ptr 1 0,.ptr 2 0]) [(0,.dat (.prod wI (.prod wI (.prod wI (.prod wI (.prod wI (.prod wI wI)))))) 32),(1,.dat (.prod wI (.prod wI (.prod wI (.prod wI (.prod .bool (.prod (.list wI) (.prod (.list wI) (.list wI)))))))) 35),(2,.dat (.prod .str (.prod wI (.prod wI (.prod (.prod wI (.prod wI (.prod wI wI))) (.prod wI (.prod wI (.prod wI wI))))))) 50)]⟩:=(fx).fi qu4
def zgu(fu:Nat):Fx wG ⟨.fn 266,[.h (.list wI),wH],[],_,RS.mk (wH) []⟩:=fx [] [lb 104 [(0,.h (.list wI)),(1,wH),(7,wH),(8,wH)]]
def zz1:Nat->(zgu fu).L 0:=Fx.lq (qvi fu) (q5t fu) (fun r0=>[r0.s])
def zz2:=(zgu fu).fi (q5s fu) [(zz1 fu fu).s]
def zz3:EI wG ⟨.fn 218,[.h (.list wI),wH],[],_,RS.mk (.h .bool) []⟩:=(fx [(zz2 fu).p]).fi (q5o fu)
def zgv:Fx wG ⟨.fn 162,[.h (.prod wI (.prod wI (.prod wI (.prod wI (.prod .bool (.prod (.list wI) (.prod (.list wI) (.list wI)))))))),.h (.prod wI (.prod wI (.prod wI (.prod wI (.prod wI (.prod wI wI)))))),.h (.prod wI (.prod wI (.prod wI (.prod wI (.prod wI (.prod wI wI)))))),wH],[],_,RS.mk (.h .bool) []⟩:=fx [(zf9 fu).p,(zz3 fu).p] [lb 32118 [(3,wH),(4,.ptr 32 0),(11,wH),(14,.h .bool)] [(32,.dat (.prod wI (.prod wI (.prod wI (.prod wI (.prod .bool (.prod (.list wI) (.prod (.list wI) (.list wI)))))))) 35)]]
def zz4:(zgv fu).L 0:=Fx.jm (qu3 fu)
def zz5:=(zgv fu).fi (q5j fu) [(zz4 fu).s]
def zz6:EI wG ⟨.fn 219,[wH],[],_,RS.mk (.h .bool) []⟩:=(fx).fi qt5
def zz7:EI wG ⟨.fn 163,[wH,wH],[],_,RS.mk (.h .bool) []⟩:=(fx [zz6.p]).fi q47
def zz8:EI wG ⟨.fn 164,[wH],[],_,RS.mk (.h .bool) []⟩:=(fx).fi qvm
def zgw(fu:Nat):Fx wG ⟨.fn 105,[.h (.list wI),wH],[],_,RS.mk (.tup [wH,.h .bool]) []⟩:=fx [zz7.p,zz8.p] [lb 480 [(0,.h (.list wI)),(1,wH),(6,wH),(7,wH),(8,wH)]]
def zz9:Nat->(zgw fu).L 0:=Fx.lq (qvb fu) (q5m fu) (fun r0=>[r0.s])
def z0a:=(zgw fu).fi (q5l fu) [(zz9 fu fu).s]
def z0b:EI wG ⟨.yld 0,[wH],[(0,.loop .ready none 56 93 [(7,.ptr 1 0),(16,.ptr 2 0)] [66] 7 3),(1,.dat (.prod wI (.prod wI (.prod wI (.prod wI (.prod .bool (.prod (.list wI) (.prod (.list wI) (.list wI)))))))) 35),(2,.cells [.own 4] 33),(3,.dfr),(4,.row wI 3)],_,RS.mk (.c (.bool true)) [(0,.loop .ready none 56 93 [(7,.ptr 1 0),(16,.ptr 2 0)] [66] 7 3),(1,.dat (.prod wI (.prod wI (.prod wI (.prod wI (.prod .bool (.prod (.list wI) (.prod (.list wI) (.list wI)))))))) 35),(2,.cells [.own 5] 33),(3,.dfr),(4,.dead),(5,.row wI 3)]⟩:=(fy 56 [(z0a fu).p] [] false [([0,1,0,1,1,1,1,1,1,1],7)] (g7 rfl gd)).fo (qu1 fu) [] 0 [0,1,0,1,1,1,1,1,1,1]
def zgx:Fx wG ⟨.fn 161,[.yld 0,.ptr 1 0,.ptr 2 0,.ptr 3 0],[(0,.loop .ready none 56 93 [(7,.ptr 4 0),(16,.ptr 5 0)] [66] 7 6),(1,.dat (.prod wI (.prod wI (.prod wI (.prod wI (.prod wI (.prod wI wI)))))) 32),(2,.dat (.prod wI (.prod wI (.prod wI (.prod wI (.prod .bool (.prod (.list wI) (.prod (.list wI) (.list wI)))))))) 35),(3,.dat (.prod .str (.prod wI (.prod wI (.prod (.prod wI (.prod wI (.prod wI wI))) (.prod wI (.prod wI (.prod wI wI))))))) 50),(4,.dat (.prod wI (.prod wI (.prod wI (.prod wI (.prod .bool (.prod (.list wI) (.prod (.list wI) (.list wI)))))))) 35),(5,.cells [.own 7] 33),(6,.dfr),(7,.row wI 3)],_,RS.mk (.tup []) [(0,.loop .ready none 56 93 [(7,.ptr 4 0),(16,.ptr 5 0)] [66] 7 6),(1,.dat (.prod wI (.prod wI (.prod wI (.prod wI (.prod wI (.prod wI wI)))))) 32),(2,.dat (.prod wI (.prod wI (.prod wI (.prod wI (.prod .bool (.prod (.list wI) (.prod (.list wI) (.list wI)))))))) 35),(3,.dat (.prod .str (.prod wI (.prod wI (.prod (.prod wI (.prod wI (.prod wI wI))) (.prod wI (.prod wI (.prod wI wI))))))) 50),(4,.dat (.prod wI (.prod wI (.prod wI (.prod wI (.prod .bool (.prod (.list wI) (.prod (.list wI) (.list wI)))))))) 35),(5,.cells [.own 8] 33),(6,.dfr),(7,.dead),(8,.row wI 3)]⟩:=fx [(q24 fu).p,(zf8 fu).p,(zz5 fu).p,(q27 fu).p,(z0b fu).p] [lb 240 [(0,.yld 0),(1,.ptr 1 0),(2,.ptr 2 0),(3,.ptr 3 0),(5,wH),(7,wH),(8,wH)] [(0,.loop .ready none 56 93 [(7,.ptr 4 0),(16,.ptr 5 0)] [66] 7 6),(1,.dat (.prod wI (.prod wI (.prod wI (.prod wI (.prod wI (.prod wI wI)))))) 32),(2,.dat (.prod wI (.prod wI (.prod wI (.prod wI (.prod .bool (.prod (.list wI) (.prod (.list wI) (.list wI)))))))) 35),(3,.dat (.prod .str (.prod wI (.prod wI (.prod (.prod wI (.prod wI (.prod wI wI))) (.prod wI (.prod wI (.prod wI wI))))))) 50),(4,.dat (.prod wI (.prod wI (.prod wI (.prod wI (.prod .bool (.prod (.list wI) (.prod (.list wI) (.list wI)))))))) 35),(5,.cells [.own 32] 33),(6,.dfr),(7,.dead),(32,.row wI 3)]]
def z0c:Nat->(zgx fu).L 0:=Fx.lq (qu6 fu) (q5k fu) (fun r0=>[r0.s])
def z0d:=(zgx fu).fi (qu5 fu) [(z0c fu fu).s]
end
end
noncomputable section
open Go.Proofs
set_option linter.unusedVariables false
set_option maxRecDepth 100000
set_option maxHeartbeats 2000000
open Tryz
section
variable(fu:Nat)
def zgz:EI wG ⟨.fn 106,[wH,.ptr 0 0,.ptr 1 0],[(0,.cells [wH] 3),(1,.cells [wH] 3)],_,RS.mk (.h .bool) [(0,.cells [wH] 3),(1,.cells [wH] 3)]⟩:=(fx).fi qu0
def zg0(fu:Nat):Fx wG ⟨.fn 165,[.own 0,.fn 106 [.ptr 1 0,.ptr 2 0]],[(0,.row wI 3),(1,.cells [wH] 3),(2,.cells [wH] 3)],_,RS.mk (wH) [(0,.row wI 3),(1,.cells [wH] 3),(2,.cells [wH] 3)]⟩:=fx [zgz.p] [lb 104 [(0,.own 0),(1,.fn 106 [.ptr 1 0,.ptr 2 0]),(7,wH),(8,wH)] [(0,.row wI 3),(1,.cells [wH] 3),(2,.cells [wH] 3)]]
def z0g:Nat->(zg0 fu).L 0:=Fx.lq (qvh fu) (q5r fu) (fun r0=>[r0.s])
def z0h:=(zg0 fu).fi (q5q fu) [(z0g fu fu).s]
def zg1:Fx wG ⟨.fn 107,[.own 0,.fn 106 [.ptr 1 0,.ptr 2 0]],[(0,.row wI 3),(1,.cells [wH] 3),(2,.cells [wH] 3)],_,RS.mk (.own 3) [(0,.dead),(1,.cells [wH] 3),(2,.cells [wH] 3),(3,.row wI 3)]⟩:=fx [(z0h fu).p,zgz.p] [lb 976 [(0,.own 32),(1,.fn 106 [.ptr 1 0,.ptr 2 0]),(5,wH),(6,wH)] [(0,.dead),(1,.cells [wH] 3),(2,.cells [wH] 3),(32,.row wI 3)]] true
def z0i:Nat->(zg1 fu).L 0:=Fx.lq (qve fu) (q5p fu) (fun r0=>[r0.s])
def z0j:=(zg1 fu).fi (qvd fu) [(z0i fu fu).s]
def q3s:Fx wG ⟨.fn 56,[.h (.prod .str (.prod wI (.prod wI (.prod (.prod wI (.prod wI (.prod wI wI))) (.prod wI (.prod wI (.prod wI wI))))))),.h (.prod wI (.prod wI (.prod wI (.prod wI (.prod wI (.prod wI wI)))))),.h (.prod wI (.prod wI (.prod wI (.prod wI (.prod .bool (.prod (.list wI) (.prod (.list wI) (.list wI)))))))),wH,wH],[],_,RS.mk (.tup [.own 0,.h (.prod wI wI)]) [(0,.row wI 3)]⟩:=fx [(qrx fu).p,kp.p,fq.p,(q27 fu).p,(zgc fu).p,qls.p,zz0.p,(z0d fu).p,(z0j fu).p,⟨qvl vl,q5u⟩,⟨q5n qvc,zik⟩,fv.p] [lb 254 [(5,.ptr 32 0),(6,.ptr 33 0),(7,.ptr 34 0),(8,.ptr 35 0),(9,.ptr 36 0),(10,wN),(11,.ptr 37 0)] [(32,.dat (.prod .str (.prod wI (.prod wI (.prod (.prod wI (.prod wI (.prod wI wI))) (.prod wI (.prod wI (.prod wI wI))))))) 50),(33,.dat (.prod wI (.prod wI (.prod wI (.prod wI (.prod wI (.prod wI wI)))))) 32),(34,.dat (.prod wI (.prod wI (.prod wI (.prod wI (.prod .bool (.prod (.list wI) (.prod (.list wI) (.list wI)))))))) 35),(35,.cells [wH] 3),(36,.cells [wH] 3),(37,.dat (.prod wI wI) 25)],lb 253 [(5,.ptr 32 0),(6,.ptr 33 0),(7,.ptr 34 0),(8,.ptr 35 0),(9,.ptr 36 0),(10,wN),(11,.ptr 37 0),(60,.h .bool)] [(32,.dat (.prod .str (.prod wI (.prod wI (.prod (.prod wI (.prod wI (.prod wI wI))) (.prod wI (.prod wI (.prod wI wI))))))) 50),(33,.dat (.prod wI (.prod wI (.prod wI (.prod wI (.prod wI (.prod wI wI)))))) 32),(34,.dat (.prod wI (.prod wI (.prod wI (.prod wI (.prod .bool (.prod (.list wI) (.prod (.list wI) (.list wI)))))))) 35),(35,.cells [wH] 3),(36,.cells [wH] 3),(37,.dat (.prod wI wI) 25)]] false [([0,1,0,1,1,1,1,1,1,1],7)] (g7 rfl gd)
def z0l:(q3s fu).L 0:=Fx.jm (qia fu)
def z0k:(q3s fu).L 1:=Fx.jm (qm9 fu) [(z0l fu).s]
def z0m:=(q3s fu).fi (quz fu) [(z0k fu).s]
def z0n:EI wG ⟨.fn 20,[.h (.prod .str (.prod wI (.prod wI (.prod .str (.prod .str (.prod .str (.prod (.list (.prod .str wI)) (.prod .str (.prod (.prod wI (.prod wI (.prod wI (.prod wI (.prod wI (.prod wI wI)))))) (.prod wI (.prod wI (.prod wI (.prod wI (.prod wI (.prod .bool (.prod (.list wI) (.prod (.list wI) (.list wI)))))))))))))))))),.h (.prod .str (.prod wI (.prod wI (.prod (.prod wI (.prod wI (.prod wI wI))) (.prod wI (.prod wI (.prod wI wI))))))),wH,wH],[],_,RS.mk (.tup [.own 0,.h (.prod wI wI)]) [(0,.row wI 3)]⟩:=(fx [(q3a fu).p,kp.p,fq.p,(z0m fu).p,fv.p]).fi (qmv fu)
def zg2(fu:Nat):Fx wG ⟨.fn 22,[.h (.list wI),.h (.list wI)],[],_,RS.mk (.h .bool) []⟩:=fx [] [lb 464 [(0,.h (.list wI)),(1,.h (.list wI)),(5,wH)]]
def z0o:Nat->(zg2 fu).L 0:=Fx.lq (qgt fu) (qsk fu) (fun r0=>[r0.s])
def zg3:=(zg2 fu).fi (xg fu) [(z0o fu fu).s]
def qr5:Fx wG ⟨.fn 18,[.h (.prod .str (.prod wI (.prod wI (.prod .str (.prod .str (.prod .str (.prod (.list (.prod .str wI)) (.prod .str (.prod (.prod wI (.prod wI (.prod wI (.prod wI (.prod wI (.prod wI wI)))))) (.prod wI (.prod wI (.prod wI (.prod wI (.prod wI (.prod .bool (.prod (.list wI) (.prod (.list wI) (.list wI)))))))))))))))))),.h (.prod .str (.prod wI (.prod wI (.prod .str (.prod .str (.prod .str (.prod (.list (.prod .str wI)) (.prod .str (.prod (.prod wI (.prod wI (.prod wI (.prod wI (.prod wI (.prod wI wI)))))) (.prod wI (.prod wI (.prod wI (.prod wI (.prod wI (.prod .bool (.prod (.list wI) (.prod (.list wI) (.list wI))))))))))))))))))],[],_,RS.mk (.h .bool) []⟩:=fx [(zg3 fu).p] [lb 464 [(2,.ptr 32 0),(3,.ptr 33 0),(5,wH)] [(32,.dat (.prod .str (.prod wI (.prod wI (.prod .str (.prod .str (.prod .str (.prod (.list (.prod .str wI)) (.prod .str (.prod (.prod wI (.prod wI (.prod wI (.prod wI (.prod wI (.prod wI wI)))))) (.prod wI (.prod wI (.prod wI (.prod wI (.prod wI (.prod .bool (.prod (.list wI) (.prod (.list wI) (.list wI)))))))))))))))))) 37),(33,.dat (.prod .str (.prod wI (.prod wI (.prod .str (.prod .str (.prod .str (.prod (.list (.prod .str wI)) (.prod .str (.prod (.prod wI (.prod wI (.prod wI (.prod wI (.prod wI (.prod wI wI)))))) (.prod wI (.prod wI (.prod wI (.prod wI (.prod wI (.prod .bool (.prod (.list wI) (.prod (.list wI) (.list wI)))))))))))))))))) 37)],lb 28 [(2,.ptr 32 0),(3,.ptr 33 0)] [(32,.dat (.prod .str (.prod wI (.prod wI (.prod .str (.prod .str (.prod .str (.prod (.list (.prod .str wI)) (.prod .str (.prod (.prod wI (.prod wI (.prod wI (.prod wI (.prod wI (.prod wI wI)))))) (.prod wI (.prod wI (.prod wI (.prod wI (.prod wI (.prod .bool (.prod (.list wI) (.prod (.list wI) (.list wI)))))))))))))))))) 37),(33,.dat (.prod .str (.prod wI (.prod wI (.prod .str (.prod .str (.prod .str (.prod (.list (.prod .str wI)) (.prod .str (.prod (.prod wI (.prod wI (.prod wI (.prod wI (.prod wI (.prod wI wI)))))) (.prod wI (.prod wI (.prod wI (.prod wI (.prod wI (.prod .bool (.prod (.list wI) (.prod (.list wI) (.list wI)))))))))))))))))) 37)],lb 13 [(2,.ptr 32 0),(3,.ptr 33 0),(77,.h .bool)] [(32,.dat (.prod .str (.prod wI (.prod wI (.prod .str (.prod .str (.prod .str (.prod (.list (.prod .str wI)) (.prod .str (.prod (.prod wI (.prod wI (.prod wI (.prod wI (.prod wI (.prod wI wI)))))) (.prod wI (.prod wI (.prod wI (.prod wI (.prod wI (.prod .bool (.prod (.list wI) (.prod (.list wI) (.list wI)))))))))))))))))) 37),(33,.dat (.prod .str (.prod wI (.prod wI (.prod .str (.prod .str (.prod .str (.prod (.list (.prod .str wI)) (.prod .str (.prod (.prod wI (.prod wI (.prod wI (.prod wI (.prod wI (.prod wI wI)))))) (.prod wI (.prod wI (.prod wI (.prod wI (.prod wI (.prod .bool (.prod (.list wI) (.prod (.list wI) (.list wI)))))))))))))))))) 37)]]
def z0r:Nat->(qr5 fu).L 0:=Fx.lq (qgw fu) (qso fu) (fun r2=>[r2.s])
def z0q:(qr5 fu).L 1:=Fx.jm (q4s fu) [(z0r fu fu).s]
def z0p:(qr5 fu).L 2:=Fx.jm (p7 fu) [(z0q fu).s]
def zg4:=(qr5 fu).fi (qgv fu) [(z0p fu).s]
def zg5(fu:Nat):Fx wG ⟨.fn 25,[wS,wS,wH],[],_,RS.mk (wH) []⟩:=fx [] [lb 208 [(0,wS),(1,wS),(7,wH)]]
def z0s:Nat->(zg5 fu).L 0:=Fx.lq (qsj fu) (q4r fu) (fun r0=>[r0.s])
def z0t:=(zg5 fu).fi (q4q fu) [(z0s fu fu).s]
def z0u:EI wG ⟨.fn 9,[],[],_,RS.mk (.h .bool) []⟩:=(fx [x1s.p,(zgl fu).p,(zgs fu).p,(z0n fu).p,(zg4 fu).p,(zg3 fu).p,(z0t fu).p]).fi (ql7 fu)
def zg6(fu:Nat):Fx wG ⟨.fn 17,[.h .byte,wS],[],_,RS.mk (.h .bool) []⟩:=fx [] [lb 208 [(0,.h .byte),(1,wS),(5,wH)]]
def z0v:Nat->(zg6 fu).L 0:=Fx.lq (qgu fu) (qsn fu) (fun r0=>[r0.s])
def z0w:=(zg6 fu).fi (ql4 fu) [(z0v fu fu).s]
end
end
noncomputable section
open Go.Proofs
set_option linter.unusedVariables false
set_option maxRecDepth 100000
set_option maxHeartbeats 2000000
open Tryz
section
variable(fu:Nat)
def q3w:IF:=⟨.fn 6,[.h (.prod .str (.prod wI (.prod wI (.prod .str (.prod .str (.prod .str (.prod (.list (.prod .str wI)) (.prod .str (.prod (.prod wI (.prod wI (.prod wI (.prod wI (.prod wI (.prod wI wI)))))) (.prod wI (.prod wI (.prod wI (.prod wI (.prod wI (.prod .bool (.prod (.list wI) (.prod (.list wI) (.list wI)))))))))))))))))),wS],[],_,RS.mk (.h .bool) []⟩
def z7:Fx wG q3w:=fx [(z0u fu).p,(zgl fu).p,(z0w fu).p,(zgs fu).p,(zg4 fu).p] [lb 510 [(1,wS),(2,.ptr 32 0),(5,wS)] [(32,.dat (.prod .str (.prod wI (.prod wI (.prod .str (.prod .str (.prod .str (.prod (.list (.prod .str wI)) (.prod .str (.prod (.prod wI (.prod wI (.prod wI (.prod wI (.prod wI (.prod wI wI)))))) (.prod wI (.prod wI (.prod wI (.prod wI (.prod wI (.prod .bool (.prod (.list wI) (.prod (.list wI) (.list wI)))))))))))))))))) 37)],lb 509 [(1,wS),(2,.ptr 32 0),(5,wS),(61,.h .bool)] [(32,.dat (.prod .str (.prod wI (.prod wI (.prod .str (.prod .str (.prod .str (.prod (.list (.prod .str wI)) (.prod .str (.prod (.prod wI (.prod wI (.prod wI (.prod wI (.prod wI (.prod wI wI)))))) (.prod wI (.prod wI (.prod wI (.prod wI (.prod wI (.prod .bool (.prod (.list wI) (.prod (.list wI) (.list wI)))))))))))))))))) 37)],lb 508 [(1,wS),(2,.ptr 32 0),(5,wS)] [(32,.dat (.prod .str (.prod wI (.prod wI (.prod .str (.prod .str (.prod .str (.prod (.list (.prod .str wI)) (.prod .str (.prod (.prod wI (.prod wI (.prod wI (.prod wI (.prod wI (.prod wI wI)))))) (.prod wI (.prod wI (.prod wI (.prod wI (.prod wI (.prod .bool (.prod (.list wI) (.prod (.list wI) (.list wI)))))))))))))))))) 37)],lb 253 [(1,wS),(2,.ptr 32 0),(5,wS),(53,.h .bool)] [(32,.dat (.prod .str (.prod wI (.prod wI (.prod .str (.prod .str (.prod .str (.prod (.list (.prod .str wI)) (.prod .str (.prod (.prod wI (.prod wI (.prod wI (.prod wI (.prod wI (.prod wI wI)))))) (.prod wI (.prod wI (.prod wI (.prod wI (.prod wI (.prod .bool (.prod (.list wI) (.prod (.list wI) (.list wI)))))))))))))))))) 37)],lb 2000 [(1,wS),(2,.ptr 32 0),(5,wS),(7,wH)] [(32,.dat (.prod .str (.prod wI (.prod wI (.prod .str (.prod .str (.prod .str (.prod (.list (.prod .str wI)) (.prod .str (.prod (.prod wI (.prod wI (.prod wI (.prod wI (.prod wI (.prod wI wI)))))) (.prod wI (.prod wI (.prod wI (.prod wI (.prod wI (.prod .bool (.prod (.list wI) (.prod (.list wI) (.list wI)))))))))))))))))) 37)],lb 124 [(1,wS),(2,.ptr 32 0),(5,wS)] [(32,.dat (.prod .str (.prod wI (.prod wI (.prod .str (.prod .str (.prod .str (.prod (.list (.prod .str wI)) (.prod .str (.prod (.prod wI (.prod wI (.prod wI (.prod wI (.prod wI (.prod wI wI)))))) (.prod wI (.prod wI (.prod wI (.prod wI (.prod wI (.prod .bool (.prod (.list wI) (.prod (.list wI) (.list wI)))))))))))))))))) 37)],lb 61 [(1,wS),(2,.ptr 32 0),(5,wS),(6,.ptr 33 0),(29,.h .bool)] [(32,.dat (.prod .str (.prod wI (.prod wI (.prod .str (.prod .str (.prod .str (.prod (.list (.prod .str wI)) (.prod .str (.prod (.prod wI (.prod wI (.prod wI (.prod wI (.prod wI (.prod wI wI)))))) (.prod wI (.prod wI (.prod wI (.prod wI (.prod wI (.prod .bool (.prod (.list wI) (.prod (.list wI) (.list wI)))))))))))))))))) 37),(33,.dat (.prod wI wI) 25)]]
def z07:(z7 fu).L 0:=Fx.jm (qst fu)
def z06:(z7 fu).L 1:=Fx.jm (ql6 fu) [(z07 fu).s]
def z05:(z7 fu).L 2:=Fx.jm (qss fu) [(z06 fu).s]
def z04:(z7 fu).L 3:=Fx.jm (qgz fu) [(z05 fu).s]
def z03:Nat->(z7 fu).L 4:=Fx.lq (qgy fu) (qsq fu) (fun r2=>[r2.s,(z04 fu).s])
def z02:(z7 fu).L 5:=Fx.jm (qsr fu) [(z03 fu fu).s]
def z01:(z7 fu).L 6:=Fx.jm (qgx fu) [(z02 fu).s]
def z08:EI wG q3w:=(z7 fu).fi (qcm fu) [(z01 fu).s]
def zid:(q3w.e (qcm fu)).Sound wG:=(z08 fu).h
end
end
end Go.Sym
