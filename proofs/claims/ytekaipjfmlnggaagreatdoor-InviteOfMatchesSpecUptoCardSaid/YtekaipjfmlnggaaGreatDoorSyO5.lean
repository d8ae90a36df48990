/- What the claim rests on, part 5: gathered texts. -/
import Derived.Shelf.LaysC
import Derived.Shelf.LaysM
import Derived.Shelf.SlGeneric
import Derived.Ground.NamesProg
import Derived.Test.YtekaipjfmlnggaaGreatDoorProg
import Derived.Below
import Derived.Tactics
import Derived.Tactics2
import Derived.Laws.AppendOwn
import Derived.Shelf.Strconv.Itoa4
import Derived.Shelf.Strconv.AtoiAll
import Derived.Shelf.Strconv.ErrVarAll
import Derived.Shelf.Strings.BuilderCap
import Derived.Shelf.Unicode.DecodeAny
import Derived.Laws.DeepStrings4
import Derived.Deep.LoopGhost
import Derived.Deep.DeepCutAuto
import Derived.Deep.DeepFit
import Derived.Deep.DeepMust
import Derived.Shelf.Unicode.ValidAny
import Derived.Shelf.Strings.Count
import Derived.Deep.OwnRows
import Derived.Laws.CopyRow
import Derived.Laws.IdiomStrings
import Derived.Laws.CopyOwn
import Derived.Lib.SlBytesConst
import Derived.Test.YtekaipjfmlnggaaGreatDoorRows
import Derived.Defers
import Derived.Laws.Pointers
import Derived.Laws.LoneSync
import Derived.RegionTactic
import Derived.RegionCalls
import Derived.ChangeAlike
import Derived.Laws.NewBlocks
import Derived.Laws.ByValue
import Derived.Shelf.Strings.Repeat
import Derived.Shelf.Strings.Replace
import Derived.Shelf.Strings.BuilderK
import Derived.Shelf.Strings.OnBuilder
import Derived.Shelf.Strings.Search2
import Derived.Shelf.Lays2
import Derived.Ground.Names2Prog
import Derived.Shelf.Sort.Plain
import Derived.Shelf.Slices.In.SortNone
import Derived.Shelf.Slices.CompactI
import Derived.Recover
import Derived.Test.YtekaipjfmlnggaaGreatDoorSyO4
set_option maxRecDepth 100000
set_option linter.defProp false
set_option linter.unusedSimpArgs false
set_option linter.unusedVariables false
namespace Go.Proofs
open Go.Sym(Tc)
open Go.Shelf
def Tryz.lfn{α:Type}{a:Option α}{b c:α}(h:a=some b)(e:b=c:=by kernel_rfl):a=some c:=h.trans (congrArg some e)
def Tryz.uniR:Go.Shelf.Ren:=⟨fun|99=>225|105=>168|129=>205|138=>206|143=>127|154=>146|155=>88|156=>113|165=>169|166=>23|167=>290|169=>26|170=>25|171=>56|172=>151|195=>252|196=>70|197=>207|205=>301|206=>261|212=>224|217=>228|218=>253|219=>179|224=>230|225=>229|240=>62|241=>226|243=>109|244=>209|245=>210|246=>165|247=>255|259=>126|260=>254|263=>274|264=>275|266=>283|267=>231|276=>115|277=>276|279=>256|280=>257|281=>258|282=>259|283=>217|284=>218|285=>219|286=>220|287=>299|314=>284|316=>300|317=>264|318=>265|319=>266|320=>267|321=>326|322=>327|337=>302|338=>303|n=>n,fun|0=>0|2=>2|3=>3|4=>4|5=>5|9=>9|12=>12|20=>20|21=>21|31=>61|37=>58|46=>173|51=>207|53=>129|70=>57|72=>60|75=>64|76=>65|80=>69|85=>268|105=>243|109=>253|119=>169|127=>100|138=>171|139=>172|143=>345|145=>347|146=>292|148=>294|164=>152|167=>267|168=>270|171=>247|173=>249|175=>311|210=>314|212=>277|213=>278|232=>348|233=>349|n=>n,fun|1=>2|3=>0|4=>1|15=>4|16=>5|17=>3|18=>6|19=>7|n=>n⟩
abbrev Tryz.laysM171_ren:Go.Shelf.Ren:=Tryz.uniR
def Tryz.laysM171:Go.Proofs.LaysM.n171 Tryz.prog Tryz.laysM171_ren:={
 mixed:=Tc
 f129:=Tryz.lfn Tryz.func205
 f171:=Tryz.lfn Tryz.func56
 f243:=Tryz.lfn Tryz.func109
 f246:=Tryz.lfn Tryz.func165
 f283:=Tryz.lfn Tryz.func217
 f284:=Tryz.lfn Tryz.func218
 f285:=Tryz.lfn Tryz.func219
 f286:=Tryz.lfn Tryz.func220
 f317:=Tryz.lfn Tryz.func264
 f318:=Tryz.lfn Tryz.func265
 f319:=Tryz.lfn Tryz.func266
 f320:=Tryz.lfn Tryz.func267
 f337:=Tryz.lfn Tryz.func302
 f338:=Tryz.lfn Tryz.func303
 t0:=Tryz.underlying0
 a0:=Tryz.isAgg0
 z0:=Tryz.sizeOf0
 v0:=Tryz.zeroValue0
 t2:=Tryz.underlying2
 a2:=Tryz.isAgg2
 z2:=Tryz.sizeOf2
 v2:=Tryz.zeroValue2
 t3:=Tryz.underlying3
 a3:=Tryz.isAgg3
 z3:=Tryz.sizeOf3
 v3:=Tryz.zeroValue3
 t4:=Tryz.underlying4
 a4:=Tryz.isAgg4
 z4:=Tryz.sizeOf4
 v4:=Tryz.zeroValue4
 t5:=Tryz.underlying5
 a5:=Tryz.isAgg5
 z5:=Tryz.sizeOf5
 v5:=Tryz.zeroValue5
 t9:=Tryz.underlying9
 a9:=Tryz.isAgg9
 z9:=Tryz.sizeOf9
 v9:=Tryz.zeroValue9
 t20:=Tryz.underlying20
 a20:=Tryz.isAgg20
 z20:=Tryz.sizeOf20
 v20:=Tryz.zeroValue20
 t37:=Tryz.underlying58
 a37:=Tryz.isAgg58
 z37:=Tryz.sizeOf58
 v37:=Tryz.zeroValue58
 t46:=Tryz.underlying173
 a46:=Tryz.isAgg173
 z46:=Tryz.sizeOf173
 v46:=Tryz.zeroValue173
 t51:=Tryz.underlying207
 a51:=Tryz.isAgg207
 z51:=Tryz.sizeOf207
 v51:=Tryz.zeroValue207
 t53:=Tryz.underlying129
 a53:=Tryz.isAgg129
 z53:=Tryz.sizeOf129
 v53:=Tryz.zeroValue129
 t171:=Tryz.underlying247
 a171:=Tryz.isAgg247
 z171:=Tryz.sizeOf247
 v171:=Tryz.zeroValue247
 t173:=Tryz.underlying249
 a173:=Tryz.isAgg249
 z173:=Tryz.sizeOf249
 v173:=Tryz.zeroValue249
 t212:=Tryz.underlying277
 a212:=Tryz.isAgg277
 z212:=Tryz.sizeOf277
 v212:=Tryz.zeroValue277
 t213:=Tryz.underlying278
 a213:=Tryz.isAgg278
 z213:=Tryz.sizeOf278
 t232:=Tryz.underlying348
 a232:=Tryz.isAgg348
 z232:=Tryz.sizeOf348
 v232:=Tryz.zeroValue348
 t233:=Tryz.underlying349
 a233:=Tryz.isAgg349
 z233:=Tryz.sizeOf349
 v233:=Tryz.zeroValue349
 g17:=Tc
 g18:=Tc
 g19:=Tc
 i0:=Tc
 i2:=Tc
 i3:=Tc
 i4:=Tc
 i5:=Tc
 i9:=Tc
 i20:=Tc
 i37:=Tc
 i46:=Tc
 i51:=Tc
 i53:=Tc
 i171:=Tc
 i173:=Tc
 i212:=Tc
 i232:=Tc
 i233:=Tc
 m17:=Tc
 m18:=Tc
 m19:=by kernel_rfl }
abbrev Tryz.laysC172_ren:Go.Shelf.Ren:=Tryz.uniR
def Tryz.laysC172:Go.Proofs.LaysC.n172 Tryz.prog Tryz.laysC172_ren:={ Tryz.laysM171 with
 f172:=Tryz.lfn Tryz.func151
 f205:=Tryz.lfn Tryz.func301
 f244:=Tryz.lfn Tryz.func209
 f245:=Tryz.lfn Tryz.func210
 f247:=Tryz.lfn Tryz.func255
 f279:=Tryz.lfn Tryz.func256
 f280:=Tryz.lfn Tryz.func257
 f281:=Tryz.lfn Tryz.func258
 f282:=Tryz.lfn Tryz.func259
 f287:=Tryz.lfn Tryz.func299
 f316:=Tryz.lfn Tryz.func300
 f321:=Tryz.lfn Tryz.func326
 f322:=Tryz.lfn Tryz.func327
 t21:=Tryz.underlying21
 a21:=Tryz.isAgg21
 z21:=Tryz.sizeOf21
 v21:=Tryz.zeroValue21
 t75:=Tryz.underlying64
 a75:=Tryz.isAgg64
 z75:=Tryz.sizeOf64
 v75:=Tryz.zeroValue64
 t76:=Tryz.underlying65
 a76:=Tryz.isAgg65
 z76:=Tryz.sizeOf65
 v76:=Tryz.zeroValue65
 t85:=Tryz.underlying268
 a85:=Tryz.isAgg268
 z85:=Tryz.sizeOf268
 v85:=Tryz.zeroValue268
 t127:=Tryz.underlying100
 a127:=Tryz.isAgg100
 z127:=Tryz.sizeOf100
 v127:=Tryz.zeroValue100
 t143:=Tryz.underlying345
 a143:=Tryz.isAgg345
 z143:=Tryz.sizeOf345
 v143:=Tryz.zeroValue345
 t145:=Tryz.underlying347
 a145:=Tryz.isAgg347
 z145:=Tryz.sizeOf347
 v145:=Tryz.zeroValue347
 t167:=Tryz.underlying267
 a167:=Tryz.isAgg267
 z167:=Tryz.sizeOf267
 v167:=Tryz.zeroValue267
 t168:=Tryz.underlying270
 a168:=Tryz.isAgg270
 z168:=Tryz.sizeOf270
 v168:=Tryz.zeroValue270
 t175:=Tryz.underlying311
 a175:=Tryz.isAgg311
 z175:=Tryz.sizeOf311
 v175:=Tryz.zeroValue311
 t210:=Tryz.underlying314
 a210:=Tryz.isAgg314
 z210:=Tryz.sizeOf314
 v210:=Tryz.zeroValue314
 g15:=Tc
 g16:=Tc
 t80:=Tryz.underlying69
 a80:=Tryz.isAgg69
 z80:=Tryz.sizeOf69
 v80:=Tryz.zeroValue69
 i21:=Tc
 i75:=Tc
 i76:=Tc
 i80:=Tc
 i85:=Tc
 i127:=Tc
 i143:=Tc
 i145:=Tc
 i167:=Tc
 i168:=Tc
 i175:=Tc
 i210:=Tc
 m15:=Tc
 m16:=Tc
 c0:=Tc
 c2:=Tc
 c3:=Tc
 c4:=Tc
 c5:=Tc
 c9:=Tc
 c20:=Tc
 c21:=Tc
 c37:=Tc
 c46:=Tc
 c51:=Tc
 c53:=Tc
 c75:=Tc
 c76:=Tc
 c80:=Tc
 c85:=Tc
 c127:=Tc
 c143:=Tc
 c145:=Tc
 c167:=Tc
 c168:=Tc
 c171:=Tc
 c173:=Tc
 c175:=Tc
 c210:=Tc
 c212:=Tc
 c213:=Tc
 c232:=Tc
 c233:=by kernel_rfl }
abbrev Tryz.lays138_ren:Go.Shelf.Ren:=Tryz.uniR
def Tryz.lays138:Go.Proofs.Lays.n138 Tryz.prog Tryz.lays138_ren:={ Tryz.laysM171 with
 f138:=Tryz.lfn Tryz.func206
 f143:=Tryz.lfn Tryz.func127
 f195:=Tryz.lfn Tryz.func252
 f217:=Tryz.lfn Tryz.func228
 f218:=Tryz.lfn Tryz.func253
 f219:=Tryz.lfn Tryz.func179
 f224:=Tryz.lfn Tryz.func230
 f225:=Tryz.lfn Tryz.func229
 f266:=Tryz.lfn Tryz.func283
 f267:=Tryz.lfn Tryz.func231
 f314:=Tryz.lfn Tryz.func284
 t146:=Tryz.underlying292
 a146:=Tryz.isAgg292
 z146:=Tryz.sizeOf292
 v146:=Tryz.zeroValue292
 g1:=by kernel_rfl }
abbrev Tryz.lays165_ren:Go.Shelf.Ren:=Tryz.uniR
def Tryz.lays165:Go.Proofs.Lays.n165 Tryz.prog Tryz.lays165_ren:={ Tryz.laysM171 with
 f165:=Tryz.lfn Tryz.func169
 f240:=Tryz.lfn Tryz.func62
 f241:=Tryz.lfn Tryz.func226
 f276:=Tryz.lfn Tryz.func115
 f277:=Tryz.lfn Tryz.func276
 t70:=Tryz.underlying57
 a70:=Tryz.isAgg57
 z70:=Tryz.sizeOf57
 v70:=Tryz.zeroValue57
 t72:=Tryz.underlying60
 a72:=Tryz.isAgg60
 z72:=Tryz.sizeOf60
 v72:=Tryz.zeroValue60
 t164:=Tryz.underlying152
 a164:=Tryz.isAgg152
 z164:=Tryz.sizeOf152
 v164:=Tryz.zeroValue152 }
abbrev Tryz.lays169_ren:Go.Shelf.Ren:=Tryz.uniR
def Tryz.lays169:Go.Proofs.Lays.n169 Tryz.prog Tryz.lays169_ren:={ Tryz.laysM171,Tryz.lays165,Tryz.laysC172 with
 f169:=Tryz.lfn Tryz.func26 }
abbrev Tryz.lays196_ren:Go.Shelf.Ren:=Tryz.uniR
def Tryz.lays196:Go.Proofs.Lays.n196 Tryz.prog Tryz.lays196_ren:={ Tryz.laysM171 with
 f196:=Tryz.lfn Tryz.func70
 f259:=Tryz.lfn Tryz.func126
 t12:=Tryz.underlying12
 a12:=Tryz.isAgg12
 z12:=Tryz.sizeOf12
 v12:=Tryz.zeroValue12
 t119:=Tryz.underlying169
 a119:=Tryz.isAgg169
 z119:=Tryz.sizeOf169
 t138:=Tryz.underlying171
 a138:=Tryz.isAgg171
 z138:=Tryz.sizeOf171
 v138:=Tryz.zeroValue171
 t139:=Tryz.underlying172
 a139:=Tryz.isAgg172
 z139:=Tryz.sizeOf172
 v139:=Tryz.zeroValue172
 g3:=Tc
 g4:=by kernel_rfl }
abbrev Tryz.lays197_ren:Go.Shelf.Ren:=Tryz.uniR
def Tryz.lays197:Go.Proofs.Lays.n197 Tryz.prog Tryz.lays197_ren:={ Tryz.laysM171,Tryz.laysC172,Tryz.lays196 with
 f197:=Tryz.lfn Tryz.func207
 f260:=Tryz.lfn Tryz.func254
 t105:=Tryz.underlying243
 a105:=Tryz.isAgg243
 z105:=Tryz.sizeOf243
 v105:=Tryz.zeroValue243 }
abbrev Tryz.lays105_ren:Go.Shelf.Ren:=Tryz.uniR
def Tryz.lays105:Go.Proofs.Lays.n105 Tryz.prog Tryz.lays105_ren:={ Tryz.laysM171,Tryz.lays165,Tryz.lays169,Tryz.laysC172,Tryz.lays138 with
 f99:=Tryz.lfn Tryz.func225
 f105:=Tryz.lfn Tryz.func168
 f166:=Tryz.lfn Tryz.func23
 f170:=Tryz.lfn Tryz.func25
 f206:=Tryz.lfn Tryz.func261
 f212:=Tryz.lfn Tryz.func224
 f263:=Tryz.lfn Tryz.func274
 f264:=Tryz.lfn Tryz.func275
 t109:=Tryz.underlying253
 a109:=Tryz.isAgg253
 z109:=Tryz.sizeOf253
 v109:=Tryz.zeroValue253
 t148:=Tryz.underlying294
 a148:=Tryz.isAgg294
 z148:=Tryz.sizeOf294
 v148:=Tryz.zeroValue294 }
abbrev Tryz.lays155_ren:Go.Shelf.Ren:=Tryz.uniR
def Tryz.lays155:Go.Proofs.Lays.n155 Tryz.prog Tryz.lays155_ren:={ Tryz.laysM171,Tryz.lays138,Tryz.lays165,Tryz.lays105,Tryz.lays169,Tryz.lays197,Tryz.laysC172,Tryz.lays196 with
 f154:=Tryz.lfn Tryz.func146
 f155:=Tryz.lfn Tryz.func88 }
abbrev Tryz.lays156_ren:Go.Shelf.Ren:=Tryz.uniR
def Tryz.lays156:Go.Proofs.Lays.n156 Tryz.prog Tryz.lays156_ren:={ Tryz.laysM171,Tryz.lays165,Tryz.lays105,Tryz.lays169,Tryz.laysC172 with
 f156:=Tryz.lfn Tryz.func113
 t31:=Tryz.underlying61
 a31:=Tryz.isAgg61
 z31:=Tryz.sizeOf61
 v31:=Tryz.zeroValue61 }
abbrev Tryz.lays219_ren:Go.Shelf.Ren:=Tryz.uniR
def Tryz.lays219:Go.Proofs.Lays.n219 Tryz.prog Tryz.lays219_ren:={ Tryz.laysM171,Tryz.lays138 with }
end Go.Proofs
namespace Go.Sym
open Go.RowKit
variable[LC]
def di.data{P:Program}{f:FuncId}{xs:List AV}{r:AV}
  (h:∀(w:World)(G:Gh)(vs:List Value),c8 G [] w->ao xs G vs->Calls P f vs.toArray w fun e w'=>∃v,e = .returned v/\ai r G v/\d7 w w'):di P f xs [] r []:=by
 intro w G vs a k;refine(h w G vs a k).mono ?_;rintro e w' ⟨v,rfl,d,i⟩
 refine⟨v,G,rfl,?_,d⟩;exact(y7 a).extend (new:=[]) (Gh.le.refl G) i (fun _ _ _ h => .inl h) (fun b o v d=>by
  have g:=a.agree b o v d;have c:=World.block_lt_of_cell? _ _ g;rw[World.cell?_of_block (w:=w) (i.block b c (fun h=>h))];exact g) a.one (fun n bx h=>by cases h) (fun n bx h=>by cases h) (fun n m bx j b h=>by cases h)
def d7.of_below{w w':World}(h:Below w.heap.size w w'):d7 w w':=⟨h.os,h.tape,h.output,h.size,fun k a _=>h.block k a⟩
def d7.refl(w:World):d7 w w:=⟨rfl,rfl,rfl,wF _,fun _ _ _=>rfl⟩
def di.fresh{P:Program}{f:FuncId}{xs:List AV}{τ:Ty}{l:List τ.den}{E:TypeId}
  (h:∀(w:World)(G:Gh)(vs:List Value),c8 G [] w->ao xs G vs->Calls P f vs.toArray w fun e w'=>∃ad c us,e = .returned (.slice ad l.length c)/\ld w' E τ.sz ad l.length c us/\ao (l.flatMap τ.enc) G.data us/\(∀b,eu ad=some b->w.heap.size<=b)/\d7 w w') :
  di P f xs [] (.own 0) [(0,.row τ l E)]:=by
 intro w G vs p J;refine(h w G vs p J).mono ?_;rintro e w' ⟨ad,c,us,rfl,q,z,n,j⟩
 let s:Gh:={ imm:=G.imm,box:=fun _=>none,own:=fun m=>bif Nat.beq m 0 then some (ad,l.length,c) else none }
 have a:(s.own 0)=some (ad,l.length,c):=rfl;have u:∀b o v,G.imm b o=some v->w'.cell? ⟨b,o,none⟩=some v:=fun b o v A=>by
  have C:=p.agree b o v A;have g:=World.block_lt_of_cell? _ _ C;rw[World.cell?_of_block (w:=w) (j.block b g (fun h=>h))];exact C
 have g:∀b o v,G.imm b o=some v->b<w.heap.size:=fun b o v A=>World.block_lt_of_cell? _ _ (p.agree b o v A)
 have d:∀m b,af [(0,ag.row τ l E)] m=some b->m=0/\b = .row τ l E:=fun m b i=>by
  simp[af]at i;cases n:Nat.beq 0 m
  ·rw[n]at i;cases i
  ·rw[n]at i;simp at i;exact⟨(qN n).symm,i.symm⟩
 have x:s.at 0 (.row τ l E)=eu ad:=by
  simp[Gh.at,a];cases ad<;>rfl
 refine⟨.slice ad l.length c,s,rfl,⟨⟨u,p.one,fun m b i => ?_,fun m K b F B t r _ _ => ?_,LC.mono (fun _ _ _ h=>h) (fun b o v h=>j.block b (g b o v h) fun h=>h) p.tab⟩,⟨j.os,j.tape,j.output,j.size,fun k H _=>j.block k H fun h=>h⟩,fun _ _ _ h=>h,fun _ _ _ h => .inl h,fun m b B t r => ?_,fun _ _ _ h=>(by cases h),fun _ _ _ h=>(by cases h)⟩,ad,l.length,c,a,rfl⟩
 ·obtain⟨rfl,rfl⟩:=d m b i;refine dv.row a q (ao.data_le (fun _ _ _ h=>h) z) fun b y o => ?_
  cases I:G.imm b o with|none=>rfl|some v=>have:=g b o v I;have:=n b y;omega
 ·obtain⟨rfl,_⟩:=d m b t;obtain⟨rfl,_⟩:=d K F r;rfl
 ·obtain⟨rfl,rfl⟩:=d m b t;rw[x]at r;exact .inl (n B r)
end Go.Sym
namespace Go.Sym
open Go.Proofs Go.RowKit Go.Sort
open Go.Proofs.Tryz
variable[LC]
def d7.below{w w':World}(h:d7 w w'):Below w.heap.size w w':=⟨h.os,h.tape,h.output,h.size,fun k a=>h.block k a (fun h=>h)⟩
def qqn{G:Gh}{w:World}(b:c8 G [] w)(f:LC.glob 3=some ⟨.int .u64,Lib.pow10Tab⟩)(h:(3,20)∈LC.sizes):∃t fr,w.heap[3]? = some (.cells (Lib.pow10Tab.map fun z=>Value.int .u64 z).toArray t fr):=by
 obtain⟨_,k,t,fr,c,i⟩:=b.tab.2.2.2 _ h;refine⟨t,fr,c.trans ?_⟩;congr 2;apply Array.ext
 ·rw[i];simp[Lib.pow10Tab]
 ·intro j d e;have g:j<Lib.pow10Tab.length:=by simpa using e
  have a:=b.agree _ _ _ (b.tab.1 _ _ _ f j _ (List.getElem?_eq_getElem g));rw[show j*(Ty.int .u64).sz=j from Nat.mul_one j]at a
  simp only[World.cell?,c]at a;rw[Array.getElem?_eq_getElem d]at a;simp only[List.getElem_toArray,List.getElem_map];exact qJ a
def qoa{G:Gh}{w:World}(h:c8 G [] w)(d:LC.glob 3=some ⟨.int .u64,Lib.pow10Tab⟩)(i:(3,20)∈LC.sizes)(n:Int)(a : -9223372036854775808<=n)(b:n<=9223372036854775807) :
  Calls Tryz.prog 56 #[.int .i64 n] w fun e w'=>e = .returned (.string ⟨(Lib.itoa n).toArray⟩)/\d7 w w':=
 (Any.strconv_Itoa Tryz.laysM171 n a b w (by
  unfold Lib.TabIs World.var?;obtain⟨t,o,f⟩:=qqn h d i;rw[show Tryz.prog.globalNamed _=some 3 by kernel_rfl,qB,f])).mono fun e w'⟨c,k,m,l⟩=>⟨c,by
   subst l;refine⟨rfl,rfl,rfl,by simp[grow],fun j g _ => ?_⟩
   show(w.heap++m)[j]? = _;rw[Array.getElem?_append_left g]⟩
def nO:IF:=⟨.fn 56,[.h (.int .i64)],[],_,RS.mk (.h .str) []⟩
def zL(f:LC.glob 3=some ⟨.int .u64,Lib.pow10Tab⟩)(j:(3,20)∈LC.sizes):(nO.e mj).Sound Tryz.prog:=fun d m r h=>by
 have h:mj d.1=some r:=h;unfold mj at h;cases a:decide (-9223372036854775808<=(show Int from d.1)/\(show Int from d.1)<=9223372036854775807)<;>rw[a]at h<;>simp only[qT,qF,reduceCtorEq]at h
 have h:=qJ h;subst h;have a:=of_decide_eq_true a;refine⟨call56,di.data fun w G l g i => ?_⟩
 match l,i with
 |[v],⟨b,_⟩=>
  have b:v = .int .i64 d.1:=b;subst b;exact(qoa g f j _ a.1 a.2).mono fun e n⟨c,k⟩=>⟨_,c,rfl,k⟩
end Go.Sym
namespace Go.Sym
open Go.Proofs Go.RowKit Go.Sort
variable[LC]
def d7.trans{w b c:World}(h:d7 w b)(k:d7 b c):d7 w c:=
 ⟨k.os.trans h.os,k.tape.trans h.tape,k.output.trans h.output,Nat.le_trans h.size k.size,fun j a _=>(k.block j (Nat.lt_of_lt_of_le a h.size) (fun h=>h)).trans (h.block j a (fun h=>h))⟩
end Go.Sym
set_option linter.unusedVariables false
namespace Go.Proofs.ToValid
open Go.Shelf Go.RowKit Go.Lib Go.Sym
def bx:Builder.Extra Tryz.prog Tryz.uniR:={
 sizeBuilder:=Tc
 liesBuilder:=Tc
 t5:=Tryz.laysM171.t5
 a5:=Tryz.laysM171.a5
 z5:=Tryz.laysM171.z5
 v5:=Tryz.laysM171.v5
 infoByte:=Tc
 cellsByte:=Tc
 sizeByte:=Tc
 neB5:=by decide }
def decC(s:ByteArray)(w:World)(a:Lib.Utf8Tabs 0 1 w) :
  Calls Tryz.prog 207 #[.string s] w fun e w'=>e = .returned (.tuple #[.int .i32 (Lib.decodeGo s).1,.int .i64 (Lib.decodeGo s).2])/\Below w.heap.size w w':=
 Any.utf8_DecodeRuneInString Tryz.lays197 s w a
end Go.Proofs.ToValid
namespace Go.Sym
open Go.Proofs Go.RowKit
open Go.Proofs.Tryz
variable[LC]
def mM(t:List UInt8):Bool:=(List.range 256).all fun c=>match t[c]? with|some x=>Nat.beq x.toNat (Lib.firstT c)|none=>false
def mN(t:List TU):Bool:=(List.range 16).all fun c=>match t[c]? with|some x=>Nat.beq x.1.toNat (Lib.accLo c)&&Nat.beq x.2.toNat (Lib.accHi c)|none=>false
def qcu{G:Gh}{w:World}(d:c8 G [] w){e:List UInt8}{f:List TU}(k:LC.glob 0=some ⟨.byte,e⟩)(l:LC.glob 1=some ⟨.prod .byte .byte,f⟩)(g:mM e=true)(j:mN f=true):Lib.Utf8Tabs 0 1 w:=by
 refine⟨fun c m => ?_,fun i n => ?_⟩
 ·have h:=List.all_eq_true.1 g c (List.mem_range.2 m)
  cases a:e[c]? with
  |none=>rw[a]at h;cases h
  |some x=>
   rw[a]at h;have b:G.imm 0 (c*1)=some (.int .u8 x.toNat):=d.tab.1 _ _ _ k c x a;rw[Nat.mul_one]at b;rw[d.agree _ _ _ b,qN h]
 ·have h:=List.all_eq_true.1 j i (List.mem_range.2 n)
  cases a:f[i]? with
  |none=>rw[a]at h;cases h
  |some x=>
   rw[a]at h;simp only[qA]at h;have b:G.imm 1 (i*2)=some (.int .u8 x.1.toNat)/\G.imm 1 (i*2+1)=some (.int .u8 x.2.toNat):=d.tab.1 _ _ _ l i x a;rw[Nat.mul_comm]at b;exact⟨by rw[d.agree _ _ _ b.1,qN h.1],by rw[d.agree _ _ _ b.2,qN h.2]⟩
def quf{G:Gh}{w:World}(i:c8 G [] w){a:List UInt8}{b:List TU}(g:LC.glob 0=some ⟨.byte,a⟩)(h:LC.glob 1=some ⟨.prod .byte .byte,b⟩)(d:mM a=true)(f:mN b=true)(s:Bs)(c:s.length<=9223372036854775807) :
  Calls Tryz.prog 70 #[.string ⟨s.toArray⟩] w fun e w'=>e = .returned (.bool (Lib.validD s))/\d7 w w':=by
 refine(Any.utf8_ValidString Tryz.lays196 ⟨s.toArray⟩ w (by rw[nj];exact c) (qcu i g h d f)).mono ?_
 rintro e w' ⟨rfl,j⟩
 exact⟨rfl,d7.of_below j⟩
def M3:IF:=⟨.fn 70,[.h .str],[],_,RS.mk (.h .bool) []⟩
def qcv{c:List UInt8}{f:List TU}(k:LC.glob 0=some ⟨.byte,c⟩)(l:LC.glob 1=some ⟨.prod .byte .byte,f⟩)(i:mM c=true)(j:mN f=true):(M3.e vy).Sound Tryz.prog:=fun d t r h=>by
 obtain⟨s,_⟩:=d;have h:vy s=some r:=h;unfold vy at h;cases b:decide (List.length (α:=UInt8) s<=9223372036854775807)<;>rw[b]at h<;>simp only[qT,qF,reduceCtorEq]at h
 have h:=qJ h;subst h;have g:=of_decide_eq_true b;refine⟨call70,di.data fun w G q n o => ?_⟩
 match q,o with
 |[u],⟨a,_⟩=>
  have a:u = .string ⟨s.toArray⟩:=a;subst a;exact(quf n k l i j s g).mono fun e v⟨m,p⟩=>⟨_,m,rfl,p⟩
end Go.Sym
namespace Go.Sym
open Go.RowKit
variable[LC]
section
variable{P:Program}{q72:World}{q7w:Gh}{q7z:List (Nat×ag)}{G:Gh}{s:St}{a:Act}{w:World}
def aj.start{G:Gh}{hp:List (Nat×ag)}{w:World}{N:NM}(e:c8 G hp w)(h:∀n b,af hp n=some b->bf N n=some n/\fk (bf N) b=b)(c:∀n,af hp n=none->bm N n=none)(k:Nat) :
  aj w (G.view N) hp (G.view N) { n:=k,fr:=[],hp:=hp,nx:=64,df:=[] } { tmps:=Array.replicate k undef,defers:=[] } w:=by
 refine⟨⟨[],rfl,rfl⟩,Te,fun i x f=>(by cases f),fun m _ d => ?_,y7 (e.only h)⟩
 have:=c m d;simp[Gh.view,this]
end
end Go.Sym
set_option linter.unusedVariables false
namespace Go.Proofs.Repl
open Go.Shelf Go.RowKit Go.Lib Go.Sym
def rv(a b:UInt8)(f g d e:Nat)(c:UInt8):Value:=if c=a then .slice (some ⟨f,0,none⟩) 2 d else if c=b then .slice (some ⟨g,0,none⟩) 2 e else .slice none 0 0
structure om(R:Nat)(a b a1 a2 b1 b2:UInt8)(w:World):Prop where
 ex:∃ga gb gt ca cb ct,(∀c:UInt8,w.cell? ⟨R,c.toNat,none⟩=some (rv a b ga gb ca cb c))/\w.cell? ⟨R,256,none⟩=some (.slice (some ⟨gt,0,none⟩) 2 ct) /\
  w.cell? ⟨gt,0,none⟩=some (.string ⟨#[b]⟩)/\w.cell? ⟨gt,1,none⟩=some (.string ⟨#[a]⟩) /\
  w.cell? ⟨ga,0,none⟩=some (.int .u8 a1.toNat)/\w.cell? ⟨ga,1,none⟩=some (.int .u8 a2.toNat)/\w.cell? ⟨gb,0,none⟩=some (.int .u8 b1.toNat)/\w.cell? ⟨gb,1,none⟩=some (.int .u8 b2.toNat)
def om.below{R:Nat}{a b d e f g:UInt8}{w w':World}(h:om R a b d e f g w)(A:Below w.heap.size w w'):om R a b d e f g w':=by
 have k:∀{p:Addr}{v:Value},w.cell? p=some v->w'.cell? p=some v:=fun{p v} hc=>(A.cell (World.block_lt_of_cell? _ _ hc)).trans hc
 obtain⟨m,n,o,i,j,l,q,r,s,t,u,x,y,z⟩:=h.ex;exact⟨m,n,o,i,j,l,fun c=>k (q c),k r,k s,k t,k u,k x,k y,k z⟩
def Q3(s:ByteArray)(c:UInt8)(w:World) :
  Calls Tryz.prog 206 #[.string s,.string ⟨#[c]⟩] w fun e w'=>e = .returned (.int .i64 (Lib.countByte s.data.toList c))/\w'=w:=
 Any.strings_Count_one Tryz.lays138 s c w
def qrl{w:World}{g:Nat}{t:TypeId}{N:Nat}{f:Nat->Value}{a:Array Value}(m:w.heap[g]? = some (.cells a t (0,0)))(n:a.size=N)(d:∀i,i<N->a[i]? = some (f i)){j:Nat}(o:j+2<=N)(h k:Value) :
  (w.setRow g (a.toList.take j++[h,k]++a.toList.drop (j+2)).toArray).rowIs g t N (fun i=>if i=j then h else if i=j+1 then k else f i):=by
 have p:a.toList.length=N:=by simpa using n
 refine⟨_,setRow_heap w g a _ t _ m,Td,fun i e => ?_⟩
 simp only[List.getElem?_toArray];rw[qS];by_cases l:i<j
 ·rw[List.getElem?_append_left Td,List.getElem?_take,qX l,qW,qW,← d i e];simp
 ·rw[List.getElem?_append_right Td,show(a.toList.take j).length=j by simp;omega]
  by_cases b:i=j
  ·subst b;simp
  ·by_cases c:i=j+1
   ·subst c;rw[qW b,qX rfl,show j+1-j=1 by omega];rfl
   ·rw[qW b,qW c,List.getElem?_append_right Td,List.getElem?_drop,← d i e]
    simp;congr 1;omega
def J2(b o n:Nat):(⟨b,o,none⟩:Addr).add n=⟨b,o+n,none⟩:=by unfold Addr.add;split<;>simp_all
def Q1{w:World}{G g j M c:Nat}{f:Nat->Value}{x1 x2:UInt8}(e:w.rowIs G 5 M f)(m:j+2<=M)(k:w.cell? ⟨g,0,none⟩=some (.int .u8 x1.toNat))(l:w.cell? ⟨g,1,none⟩=some (.int .u8 x2.toNat)) :
  ∃b,(Builtin.copy_ #[58,58] 3 #[.slice (some ⟨G,j,none⟩) (M-j) (M-j),.slice (some ⟨g,0,none⟩) 2 c]).run Tryz.prog w = .ok (.int .i64 2) (w.setRow G b) /\
   (w.setRow G b).rowIs G 5 M (fun i=>if i=j then .int .u8 x1.toNat else if i=j+1 then .int .u8 x2.toNat else f i):=by
 obtain⟨d,h,n,o⟩:=e;refine⟨_,?_,qrl h n o m _ _⟩;exact run_copy_row (P:=Tryz.prog) w 58 58 3 5 G j (M-j) (M-j) ⟨g,0,none⟩ 2 c d 5 [.int .u8 x1.toNat,.int .u8 x2.toNat] Tryz.underlying58 Tc h
  (by show 2=Nat.min 2 (M-j);exact(Nat.min_eq_left Ta).symm)
  (fun i v a=>by
   rw[J2]
   match i,a with
   |0,a=>cases a;exact k
   |1,a=>cases a;exact l
   | i+2,a=>cases a)
  (by show j+2<=d.size;omega) (fun v a=>by
   rcases List.mem_cons.1 a with rfl|a
   ·rfl
   ·rcases List.mem_cons.1 a with rfl|a
    ·rfl
    ·cases a)
def bv(l:Bs)(j:Nat):Value := .int .u8 (l.getD j 0).toNat
def Qh(l m:Bs)(j:Nat)(h:j<l.length):bv (l++m) j=bv l j:=by unfold bv;rw[List.getD_eq_getElem?_getD,List.getD_eq_getElem?_getD,List.getElem?_append_left h]
def Qg(l m:Bs)(c:UInt8):bv (l++c::m) l.length = .int .u8 c.toNat:=by unfold bv;rw[List.getD_eq_getElem?_getD,List.getElem?_append_right (wF _),Nat.sub_self];rfl
def qjt(l m:Bs)(c d:UInt8):bv (l++c::d::m) (l.length+1) = .int .u8 d.toNat:=by unfold bv;rw[List.getD_eq_getElem?_getD,List.getElem?_append_right Ta,show l.length+1-l.length=1 by omega];rfl
def yG(l:Bs)(j:Nat)(h:l.length<=j:=by omega):bv l j = .int .u8 0:=by unfold bv;rw[List.getD_eq_getElem?_getD,List.getElem?_eq_none h];rfl
def Qi(l:Bs)(c d:UInt8)(i:Nat):(if i=l.length then Value.int .u8 c.toNat else if i=l.length+1 then .int .u8 d.toNat else bv l i)=bv (l++[c,d]) i:=by
 by_cases h:i<l.length
 ·rw[qW,qW,Qh _ _ _ h]
 ·by_cases a:i=l.length
  ·subst a;rw[qX rfl,Qg]
  ·by_cases b:i=l.length+1
   ·subst b;rw[qW a,qX rfl,qjt]
   ·rw[qW a,qW b,yG _ _,yG _ _ Td]
def qju(l:Bs)(c:UInt8)(i:Nat):(if i=l.length then Value.int .u8 c.toNat else bv l i)=bv (l++[c]) i:=by
 by_cases h:i<l.length
 ·rw[qW,Qh _ _ _ h]
 ·by_cases a:i=l.length
  ·subst a;rw[qX rfl,Qg]
  ·rw[qW a,yG _ _,yG _ _ Td]
def Fq(p:Nat):Value.int .i64 ((p:Int)+2) = .int .i64 ((p+2:Nat):Int):=by rw[Int.natCast_add];rfl
def Fp(p:Nat):Value.int .i64 ((p:Int)+1) = .int .i64 ((p+1:Nat):Int):=by rw[Int.natCast_add];rfl
def qc7(n:Nat)(h:n<=4000000:=by omega):wrap64 (n:Int)=(n:Int):=by unfold wrap64;omega
def qpg(p:Addr)(n c:Nat)(w:World):(binOp .neq 58 (.slice (some p) n c) (.slice none 0 0)).run Tryz.prog w = .ok (.bool true) w:=Tc
def qpf(w:World):(binOp .neq 58 (.slice none 0 0) (.slice none 0 0)).run Tryz.prog w = .ok (.bool false) w:=Tc
def ql2(p:Addr)(n c:Nat)(w:World):(binOp .eql 58 (.slice (some p) n c) (.slice none 0 0)).run Tryz.prog w = .ok (.bool false) w:=Tc
def ql1(w:World):(binOp .eql 58 (.slice none 0 0) (.slice none 0 0)).run Tryz.prog w = .ok (.bool true) w:=Tc
set_option maxHeartbeats 4000000 in
set_option maxRecDepth 1000000 in
def qjo(R:Nat)(a b q r t u:UInt8)(s:ByteArray)(w:World)(I:a≠b)(hs:s.size<=1000000)(hB:om R a b q r t u w) :
  Calls Tryz.prog 396 #[.pointer (some ⟨R,0,none⟩),.string s] w fun e w'=>e = .returned (.string ⟨(gf a b [q,r] [t,u] s.data.toList).toArray⟩)/\Below w.heap.size w w':=by
 obtain⟨ga,gb,gt,ca,cb,ct,-,hT,a0,a3,-⟩:=hB.ex;obtain⟨L,hL⟩:∃L,s.data.toList=L:=⟨_,rfl⟩;have U:L.length=s.size:=by rw[← hL];exact(Lib.size_eq s).symm
 rw[hL];have HB:Aside (om R a b q r t u w):=hB;clear hB;have O:=fun w=>Q3 s b w
 have N:=fun w=>Q3 s a w
 rw[hL]at O N;obtain⟨Z,hZ⟩:∃Z,jl a b L=Z:=⟨_,rfl⟩;have HZ:Aside (jl a b L=Z):=hZ;have cs:Z<=2000000:=by
  rw[← hZ];unfold jl;have o:=List.count_le_length (a:=a) (l:=L);have v:=List.count_le_length (a:=b) (l:=L);omega
 clear hZ;obtain⟨M,hM⟩:∃M,s.size+Z=M:=⟨_,rfl⟩;have HM:Aside (s.size+Z=M):=hM;have cj:M<=3000000:=Ta
 clear hM;have cz:=qpg;have c4:=qpf
 go_enter Tryz.func396,Tryz.ntmps396
 go_upto_if 26 with(fail)
 go_cut [5,6] (fun s5 s6 wx=>s5 = .int .i64 (M:Nat)/\s6 = .bool (decide (0<Z))/\Below w.heap.size w wx)
 case first=>
  obtain⟨X,hX⟩:∃X,L.count b=X:=⟨_,rfl⟩;obtain⟨Y,hY⟩:∃Y,L.count a=Y:=⟨_,rfl⟩;have a4:Aside (Z=Y+X):=by show Z=Y+X;rw[← HZ.out];unfold jl;rw[hX,hY]
  have cl:X<=s.size:=by rw[← hX,← U];exact List.count_le_length
  have cp:Y<=s.size:=by rw[← hY,← U];exact List.count_le_length
  have O:∀w,Calls Tryz.prog 206 #[.string s,.string ⟨#[b]⟩] w fun e w'=>e = .returned (.int .i64 (X:Nat))/\w'=w:=fun w=>by rw[← hX];exact O w
  have N:∀w,Calls Tryz.prog 206 #[.string s,.string ⟨#[a]⟩] w fun e w'=>e = .returned (.int .i64 (Y:Nat))/\w'=w:=fun w=>by rw[← hY];exact N w
  clear hX hY
  go_wp2
  ·rename_i ah;clear ah
   go_loopg [5,6,32] 2 (fun gk s5 s6 s32 wx=>Below w.heap.size w wx/\((s32 = .int .i64 0/\s5 = .int .i64 (s.size:Nat)/\s6 = .bool false/\gk=2)\/(s32 = .int .i64 1/\s5 = .int .i64 ((s.size+X:Nat):Int)/\s6 = .bool (decide (0<X))/\gk=1)\/(s32 = .int .i64 2/\s5 = .int .i64 ((s.size+(Y+X):Nat):Int)/\s6 = .bool (decide (0<Y+X))/\gk=0)))
   case atStart=>exact⟨Below.refl _ _,Or.inl ⟨rfl,rfl,rfl,rfl⟩⟩
   case round=>
    obtain⟨f,h⟩:=hrel;have W:wr.cell? ⟨gt,0,none⟩=some (.string ⟨#[b]⟩):=(f.cell (World.block_lt_of_cell? _ _ a0)).trans a0;have aa:wr.cell? ⟨gt,1,none⟩=some (.string ⟨#[a]⟩):=(f.cell (World.block_lt_of_cell? _ _ a3)).trans a3;clear a0 a3;rcases h with⟨rfl,rfl,rfl,rfl⟩|⟨rfl,rfl,rfl,rfl⟩|⟨rfl,rfl,rfl,rfl⟩
    ·have cX:=O wr;by_cases T:X=0
     ·subst T
      go_wp2_with (go_at_call 206;go_must (refine cX.mono ?_;rintro e W1 ⟨rfl,rfl⟩))
      go_roundg 1
      case measure=>omega
      case rel=>exact⟨f,Or.inr (Or.inl ⟨rfl,rfl,rfl,rfl⟩)⟩
     ·have hz:¬((X:Int)=0):=Ta
      obtain⟨Q,S,ad,A,B,ab,H,-⟩:=(HB.out.below f).ex;have bk:wr.cell? ⟨R,b.toNat,none⟩=some (.slice (some ⟨S,0,none⟩) 2 B):=by rw[H b];unfold rv;rw[qW (fun h=>I h.symm),qX rfl]
      clear H;have g0:∀h,(⟨#[b]⟩:ByteArray)[0]'h=b:=fun _=>rfl
      have g1:(b.toNat:Int)<256:=by have:=b.toNat_lt;omega
      go_wp2_with (go_at_call 206;go_must (refine cX.mono ?_;rintro e W1 ⟨rfl,rfl⟩))
      go_region
      all_goals go_wp2
      go_roundg 1
      case measure=>omega
      case rel=>exact⟨f.drew,Or.inr (Or.inl ⟨rfl,congrArg _ Ta,by rw[decide_eq_true (Nat.pos_of_ne_zero T)],rfl⟩)⟩
    ·have cX:=N wr;by_cases T:Y=0
     ·subst T
      go_wp2_with (go_at_call 206;go_must (refine cX.mono ?_;rintro e W1 ⟨rfl,rfl⟩))
      go_roundg 0
      case measure=>omega
      case rel=>exact⟨f,Or.inr (Or.inr ⟨rfl,congrArg _ Ta,by rw[wO],rfl⟩)⟩
     ·have hz:¬((Y:Int)=0):=Ta
      obtain⟨Q,S,ad,A,B,ab,H,-⟩:=(HB.out.below f).ex;have bk:wr.cell? ⟨R,a.toNat,none⟩=some (.slice (some ⟨Q,0,none⟩) 2 A):=by rw[H a];unfold rv;rw[qX rfl]
      clear H;have g0:∀h,(⟨#[a]⟩:ByteArray)[0]'h=a:=fun _=>rfl
      have g1:(a.toNat:Int)<256:=by have:=a.toNat_lt;omega
      go_wp2_with (go_at_call 206;go_must (refine cX.mono ?_;rintro e W1 ⟨rfl,rfl⟩))
      go_region
      all_goals go_wp2
      go_roundg 0
      case measure=>omega
      case rel=>exact⟨f.drew,Or.inr (Or.inr ⟨rfl,congrArg _ Ta,by rw[decide_eq_true (show 0<Y+X by omega)],rfl⟩)⟩
    ·go_wp2
     go_meet
     case rel=>exact⟨by rw[← HM.out,a4.out],by rw[a4.out],f⟩
  ·rename_i ah;clear ah
   go_loopg [5,6,10] s.size (fun gk s5 s6 s10 wx=>wx=w/\∃k C:Nat,s10 = .int .i64 k/\s5 = .int .i64 ((s.size+C:Nat):Int)/\s6 = .bool (decide (0<C))/\k<=s.size/\s.size<=k+gk/\Aside (jl a b (L.take k)=C)/\C<=2000000)
   case atStart=>exact⟨rfl,0,0,rfl,rfl,rfl,Nat.zero_le _,Ta,rfl,Ta⟩
   case round=>
    obtain⟨rfl,k,C,rfl,rfl,rfl,hk,a8,HC,hC⟩:=hrel;by_cases x:k<s.size
    ·obtain⟨g,rfl⟩:∃g,gk=g+1:=⟨gk-1,Ta⟩
     obtain⟨c,hc⟩:∃c,s[k]'x=c:=⟨_,rfl⟩;have d:Aside (jl a b (L.take (k+1))=C+(if c=a then 1 else if c=b then 1 else 0)):=by
      have o:k<L.length:=by rw[U];exact x
      have v:L[k]'o=c:=by subst hL;exact hc
      show _=_;rw[qb7 L k o,Kb,HC.out,Kc I,v]
     have a5:Aside (jl a b (L.take (k+1))<=2000000):=by
      show _<=_;unfold jl;have o:=List.count_le_length (a:=a) (l:=L.take (k+1));have v:=List.count_le_length (a:=b) (l:=L.take (k+1));rw[List.length_take]at o v;omega
     obtain⟨Q,S,ad,A,B,ab,H,-⟩:=HB.out.ex;have n:=H c;unfold rv at n;clear H;have g1:(c.toNat:Int)<256:=by have:=c.toNat_lt;omega
     by_cases o:c=a
     ·rw[qX o]at n;rw[qX o]at d;clear o
      go_wp2
      go_roundg g
      case measure=>omega
      case rel=>exact⟨rfl,k+1,C+1,congrArg _ Ta,congrArg _ Ta,by rw[decide_eq_true (Nat.succ_pos C)],Ta,Ta,d,by have:=a5.out;rw[d.out]at this;exact this⟩
     ·rw[qW o]at n;rw[qW o]at d;by_cases v:c=b
      ·rw[qX v]at n;rw[qX v]at d;clear o v
       go_wp2
       go_roundg g
       case measure=>omega
       case rel=>exact⟨rfl,k+1,C+1,congrArg _ Ta,congrArg _ Ta,by rw[decide_eq_true (Nat.succ_pos C)],Ta,Ta,d,by have:=a5.out;rw[d.out]at this;exact this⟩
      ·rw[qW v]at n;rw[qW v]at d;clear o v
       go_wp2
       go_roundg g
       case measure=>omega
       case rel=>exact⟨rfl,k+1,C,congrArg _ Ta,congrArg _ Ta,rfl,Ta,Ta,d,hC⟩
    ·obtain rfl:k=s.size:=Ta
     have bb:C=Z:=by rw[← HC.out,← U,List.take_length,HZ.out]
     subst bb
     go_wp2
     go_meet
     case rel=>exact⟨by rw[HM.out],rfl,Below.refl _ _⟩
 case rest=>
  obtain⟨rfl,ba,f⟩:=hcut;cases T:decide (0<Z)<;>rw[T]at ba<;>subst ba
  ·have ch:=of_decide_eq_false T;have a9:=QS I [q,r] [t,u] L (by rw[HZ.out];omega)
   clear T ch;have HI:Aside (gf a b [q,r] [t,u] L=L):=a9;clear a9
   go_wp2
   go_ret
   exact⟨by rw[HI.out,← hL];rfl,f⟩
  ·clear T;have cx:∀w:World,(Instr.makeSlice 58 (.int .i64 (M:Int)) (.int .i64 (M:Int))).run Tryz.prog w = .ok (.slice (some ⟨w.heap.size,0,none⟩) M M) (w.alloc (.cells (madeCells #[.int .u8 0] M) 5)):=fun w=>
    run_make_row' (P:=Tryz.prog) 58 5 (.int .u8 0) 1 Tryz.underlying58 Tc rfl .i64 .i64 M Ta Ta w
   go_wp2
   obtain⟨G,hG⟩:∃G,wc.heap.size=G:=⟨_,rfl⟩;have z:=World.rowIs_made wc (.int .u8 0) M 5;have F:w.heap.size<=G:=by rw[← hG];exact f.size
   have V:=f.alloc f.size (Obj.cells (madeCells #[.int .u8 0] M) 5);rw[hG]at z ⊢;have bd:Aside (∀k,(gf a b [q,r] [t,u] (L.take k)).length<=M):=fun k=>by
    have o:gf a b [q,r] [t,u] L=gf a b [q,r] [t,u] (L.take k)++gf a b [q,r] [t,u] (L.drop k):=by rw[← DV,List.take_append_drop]
    have v:=congrArg List.length o;rw[nE I,U,HZ.out,HM.out,qM]at v;omega
   go_loopg [13,14] s.size (fun gk s13 s14 wx=>∃k j:Nat,s13 = .int .i64 j/\s14 = .int .i64 k/\k<=s.size/\s.size<=k+gk/\j<=M/\Aside ((gf a b [q,r] [t,u] (L.take k)).length=j)/\Aside (wx.rowIs G 5 M (bv (gf a b [q,r] [t,u] (L.take k))))/\Below w.heap.size w wx)
   case atStart=>exact⟨0,0,rfl,rfl,Nat.zero_le _,Ta,Nat.zero_le _,rfl,z.congr (fun i _=>(yG [] i (Nat.zero_le _)).symm),V⟩
   case round=>
    obtain⟨k,j,rfl,rfl,hk,a8,cw,HJ,p,J⟩:=hrel;clear z V;by_cases x:k<s.size
    ·obtain⟨g,rfl⟩:∃g,gk=g+1:=⟨gk-1,Ta⟩
     have HG:Aside (s.size<=k+1+g):=by show _<=_;omega
     clear a8 hk;obtain⟨c,hc⟩:∃c,s[k]'x=c:=⟨_,rfl⟩;have av:k<L.length:=by rw[U];exact x
     have a7:L[k]'av=c:=by subst hL;exact hc
     have d:Aside (gf a b [q,r] [t,u] (L.take (k+1))=gf a b [q,r] [t,u] (L.take k)++n6 a b [q,r] [t,u] c):=by
      show _=_;rw[qb7 L k av,DV,a7];show _++(n6 a b [q,r] [t,u] c++[])=_;rw[List.append_nil]
     have m:Aside (j+(n6 a b [q,r] [t,u] c).length<=M):=by
      have:=bd.out (k+1);rw[d.out,qM,HJ.out]at this;exact this
     clear a7 av;obtain⟨Q,S,ad,A,B,ab,H,br,W,aa,bs,b3,b4,b5⟩:=(HB.out.below J).ex;have n:=H c;unfold rv at n;clear H br W aa;have g1:(c.toNat:Int)<256:=by have:=c.toNat_lt;omega
     unfold n6 at d m;by_cases o:c=a
     ·rw[qX o]at n d m;have K:j+2<=M:=m.out;clear o;have be:¬M=j:=Ta
      obtain⟨ROW,b7,y⟩:=Q1 (w:=wr.drew) (c:=A) p.out.drew K (by rw[World.cell?_drew];exact bs) (by rw[World.cell?_drew];exact b3)
      have HN:Aside (_):=y;have HW:Aside (wrap64 ((j:Int)+2)=(j:Int)+2):=by have:=qc7 (j+2);rw[Int.natCast_add]at this;exact this
      clear y
      go_wp2
      go_region
      all_goals go_wp2
      go_roundg g
      case measure=>exact Nat.lt_succ_self _
      case rel=>exact⟨k+1,j+2,by first|exact Fq j|exact(congrArg (Value.int .i64) HW.out).trans (Fq j),Fp k,x,HG.out,K,by show _=_;rw[d.out,qM,HJ.out];rfl,World.rowIs.congr HN.out (fun i _=>by rw[d.out,← Qi,HJ.out]),below_setRow J.drew F _⟩
     ·rw[qW o]at n d m;by_cases v:c=b
      ·rw[qX v]at n d m;have K:j+2<=M:=m.out;clear o v;have be:¬M=j:=Ta
       obtain⟨ROW,b7,y⟩:=Q1 (w:=wr.drew) (c:=B) p.out.drew K (by rw[World.cell?_drew];exact b4) (by rw[World.cell?_drew];exact b5)
       have HN:Aside (_):=y;have HW:Aside (wrap64 ((j:Int)+2)=(j:Int)+2):=by have:=qc7 (j+2);rw[Int.natCast_add]at this;exact this
       clear y
       go_wp2
       go_region
       all_goals go_wp2
       go_roundg g
       case measure=>exact Nat.lt_succ_self _
       case rel=>exact⟨k+1,j+2,by first|exact Fq j|exact(congrArg (Value.int .i64) HW.out).trans (Fq j),Fp k,x,HG.out,K,by show _=_;rw[d.out,qM,HJ.out];rfl,World.rowIs.congr HN.out (fun i _=>by rw[d.out,← Qi,HJ.out]),below_setRow J.drew F _⟩
      ·rw[qW v]at n d m;have b8:j+1<=M:=m.out;clear o v;have b6:wr.cell? ⟨G,j,none⟩=some (bv (gf a b [q,r] [t,u] (L.take k)) j):=p.out.cell Ta
       have cc:wr.frozen? ⟨G,j,none⟩=false:=p.out.frozen j
       go_wp2
       go_roundg g
       case measure=>exact Nat.lt_succ_self _
       case rel=>exact⟨k+1,j+1,Fp j,Fp k,x,HG.out,b8,by show _=_;rw[d.out,qM,HJ.out];rfl,World.rowIs.congr (World.rowIs.set p.out j _) (fun i _=>by rw[d.out,← qju,HJ.out]),J.setCell F _⟩
    ·obtain rfl:k=s.size:=Ta
     have HT:Aside (L.take s.size=L):=by show _=_;rw[← U,List.take_length]
     have HE:Aside (∃l,l=gf a b [q,r] [t,u] L/\l.length=M):=⟨_,rfl,by rw[nE I,U,HZ.out,HM.out]⟩
     obtain⟨E,hE,a6⟩:=HE.out;have cv:(convert 58 9 (.slice (some ⟨G,0,none⟩) M M)).run Tryz.prog wr = .ok (.string ⟨E.toArray⟩) wr:=by
      have h:=run_convert_bytes_back (P:=Tryz.prog) wr 58 9 5 ⟨G,0,none⟩ M E Tryz.underlying58 Tryz.underlying5 Tryz.underlying9 (fun i hi=>by
       rw[J2,wO,p.out.cell Ta,HT.out,← hE]
       unfold bv;rw[List.getD_eq_getElem?_getD,List.getElem?_eq_getElem hi];rfl)
      rw[a6]at h;exact h
     have HEq:Aside (E=gf a b [q,r] [t,u] L):=hE;clear hE a6
     go_wp2
     go_ret
     exact⟨by rw[← HEq.out];rfl,J⟩
end Go.Proofs.Repl
set_option linter.unusedVariables false
namespace Go.Proofs.Repl
open Go.Shelf Go.RowKit Go.Lib Go.Sym
def qnf:(Tryz.prog.info? 9).map (fun i=>(i.zero,i.size,i.bytes))=some (some (Value.string ⟨#[]⟩),1,16):=Tc
def mk2(w:World):(Instr.makeSlice 61 (.int .i64 0) (.int .i64 2)).run Tryz.prog w = .ok (.slice (some ⟨w.heap.size,0,none⟩) 0 2) (w.alloc (.cells #[.string ⟨#[]⟩,.string ⟨#[]⟩] 9)):=by
 obtain⟨i,c,a⟩:=Option.map_eq_some_iff.1 qnf;simp only[qP]at a;obtain⟨e,d,b⟩:=a;have h:=run_make (P:=Tryz.prog) w 61 9 i (.string ⟨#[]⟩) Tryz.underlying61 c e .i64 .i64 0 2 Tf Tf (by rw[b];decide) Tf
 rw[d,show madeCells (Value.string ⟨#[]⟩).cells (Int.toNat 2*1)=#[.string ⟨#[]⟩,.string ⟨#[]⟩] from Tc]at h
 exact h
def zr(V:Value)(j:Nat):Value:=if j=256 then V else .slice none 0 0
def z1(b:UInt8)(g c:Nat)(V:Value)(j:Nat):Value:=if j=b.toNat then .slice (some ⟨g,0,none⟩) 2 c else zr V j
def q7p:Tryz.zeroCells290.toList.length=257:=Tc
def q7m:Tryz.zeroCells290.toList.all (fun v=>v.oneCell')=true:=Tc
def o8:Option Value->Bool|some (.slice none n c)=>Nat.beq n 0&&Nat.beq c 0|_=>false
def qnu{v:Option Value}(h:o8 v=true):v=some (.slice none 0 0):=by
 unfold o8 at h;split at h
 ·simp only[qA]at h;rw[qN h.1,qN h.2]
 ·cases h
def q7n:(List.range 257).all (fun j=>o8 Tryz.zeroCells290.toList[j]?)=true:=Tc
def qsz(w:World)(T:Nat):∃c,(storeCells ⟨w.heap.size,0,none⟩ (Tryz.zeroCells290.toList.set 256 (.slice (some ⟨T,0,none⟩) 0 2))).run Tryz.prog (w.alloc (.cells Tryz.zeroCells290 290)) = .ok () ((w.alloc (.cells Tryz.zeroCells290 290)).setRow w.heap.size c) /\
  ((w.alloc (.cells Tryz.zeroCells290 290)).setRow w.heap.size c).rowIs w.heap.size 290 257 (zr (.slice (some ⟨T,0,none⟩) 0 2)):=by
 have a:(w.alloc (.cells Tryz.zeroCells290 290)).heap[w.heap.size]? = some (.cells Tryz.zeroCells290 290):=heap_alloc_new w _;have b:=q7p;have h:=run_storeCells_at Tryz.prog w.heap.size 0 290 (Tryz.zeroCells290.toList.set 256 (.slice (some ⟨T,0,none⟩) 0 2)) 0 _ _ a (by rw[List.length_set,b,← Array.length_toList,b];decide) (fun v f=>by
  rcases List.mem_or_eq_of_mem_set f with f|rfl
  ·exact List.all_eq_true.1 q7m v f
  ·rfl)
 refine⟨_,h,?_⟩;refine⟨_,setRow_heap _ _ _ _ _ _ a,?_,fun i g => ?_⟩
 ·simp only[List.size_toArray,qM,List.length_set,List.length_take,List.length_drop,b];decide
 ·rw[List.getElem?_toArray,List.length_set,b,List.drop_eq_nil_of_le (by rw[b];decide),List.append_nil]
  show([]++_)[i]? = _;rw[List.nil_append,List.getElem?_set];unfold zr;by_cases d:256=i
  ·subst d;rw[qX rfl,qX rfl,b];rfl
  ·rw[qW d,qW (fun e=>d e.symm)]
   exact qnu (List.all_eq_true.1 q7n i (List.mem_range.2 g))
def mI(w:World)(x y:UInt8):Obj := .cells (bytesRow ⟨#[x,y]⟩ (grownCap w 2 0 5)) 5 ((bytesRow ⟨#[x,y]⟩ (grownCap w 2 0 5)).size,(bytesRow ⟨#[x,y]⟩ (grownCap w 2 0 5)).size+1)
def mE(w:World):Nat:=grownCap w 2 0 5
def cv2(w:World)(x y:UInt8):(convert 9 58 (.string ⟨#[x,y]⟩)).run Tryz.prog w = .ok (.slice (some ⟨w.heap.size,0,none⟩) 2 (mE w)) (w.drew.alloc (mI w x y)):=
 run_bytes_of_string (P:=Tryz.prog) w 9 58 5 ⟨#[x,y]⟩ Tryz.underlying9 Tryz.underlying58 Tryz.underlying5
def qjp(w W:World)(x y:UInt8):(W.alloc (mI w x y)).cell? ⟨W.heap.size,0,none⟩=some (.int .u8 x.toNat)/\(W.alloc (mI w x y)).cell? ⟨W.heap.size,1,none⟩=some (.int .u8 y.toNat):=by
 unfold mI;rw[World.cell?_alloc_mark,World.cell?_alloc_mark];exact⟨bytesRow_at ⟨#[x,y]⟩ _ 0 (by show 0<2;decide),bytesRow_at ⟨#[x,y]⟩ _ 1 (by show 1<2;decide)⟩
def cv1(w:World)(x:UInt8):(convert 58 9 (.slice (some ⟨w.heap.size,0,none⟩) 1 1)).run Tryz.prog (w.alloc (.cells #[.int .u8 x.toNat] 5)) = .ok (.string ⟨#[x]⟩) (w.alloc (.cells #[.int .u8 x.toNat] 5)):=
 run_convert_bytes_back (P:=Tryz.prog) _ 58 9 5 ⟨w.heap.size,0,none⟩ 1 [x] Tryz.underlying58 Tryz.underlying5 Tryz.underlying9 (fun i a=>by
  have:i=0:=by simpa using a
  subst this;rw[J2];show World.cell? _ ⟨w.heap.size,0,none⟩=_;unfold World.cell?;rw[show(w.alloc (.cells #[.int .u8 (x.toNat:Int)] 5)).heap[w.heap.size]? = _ from heap_alloc_new w _]
  rfl)
def w4(wr:World)(T k n:Nat)(c:UInt8):World:=(((wr.alloc (.cells #[.int .u8 c.toNat] 5)).alloc (.cells #[.string ⟨#[c]⟩] 9)).setCell ⟨T,k,none⟩ (.string ⟨#[c]⟩)).setCell ⟨T+1,256,none⟩ (.slice (some ⟨T,0,none⟩) n 2)
def w5(wr:World)(T k n:Nat)(c x y:UInt8):World:=(((w4 wr T k n c).alloc (mI (w4 wr T k n c) x y)).setCell ⟨T+1,c.toNat,none⟩ (.slice (some ⟨wr.heap.size+1+1,0,none⟩) 2 (mE (w4 wr T k n c)))).drew
def qbt(wr:World)(T k n:Nat)(c x y:UInt8)(s:T+2<=wr.heap.size){f h:Nat->Value}(q:wr.rowIs (T+1) 290 257 f)(l:wr.rowIs T 9 2 h) :
  (w5 wr T k n c x y).rowIs (T+1) 290 257 (fun j=>if j=c.toNat then .slice (some ⟨wr.heap.size+1+1,0,none⟩) 2 (mE (w4 wr T k n c)) else if j=256 then .slice (some ⟨T,0,none⟩) n 2 else f j)/\(w5 wr T k n c x y).rowIs T 9 2 (fun i=>if i=k then .string ⟨#[c]⟩ else h i) /\
   (w5 wr T k n c x y).cell? ⟨wr.heap.size+1+1,0,none⟩=some (.int .u8 x.toNat)/\(w5 wr T k n c x y).cell? ⟨wr.heap.size+1+1,1,none⟩=some (.int .u8 y.toNat)/\(∀p:Addr,T+2<=p.block->p.block<wr.heap.size->(w5 wr T k n c x y).cell? p=wr.cell? p)/\Below T wr (w5 wr T k n c x y)/\T+2<=(w5 wr T k n c x y).heap.size:=by
 unfold w5;generalize g:mI (w4 wr T k n c) x y=B;generalize (Value.slice (some ⟨wr.heap.size+1+1,0,none⟩) 2 (mE (w4 wr T k n c)))=V3;have b:=fun W=>qjp (w4 wr T k n c) W x y
 rw[g]at b;unfold w4;clear g;generalize (Obj.cells #[.int .u8 c.toNat] 5)=o1;generalize (Obj.cells #[.string ⟨#[c]⟩] 9)=o2;generalize (Value.string ⟨#[c]⟩)=S;generalize (Value.slice (some ⟨T,0,none⟩) n 2)=V2;have e:((((wr.alloc o1).alloc o2).setCell ⟨T,k,none⟩ S).setCell ⟨T+1,256,none⟩ V2).heap.size=wr.heap.size+1+1:=by simp[World.setCell]
 have d:=b ((((wr.alloc o1).alloc o2).setCell ⟨T,k,none⟩ S).setCell ⟨T+1,256,none⟩ V2);rw[e]at d;refine⟨?_,?_,?_,?_,fun p r o => ?_,?_,?_⟩
 ·exact(((((q.alloc o1).alloc o2).setOther (a:=⟨T,k,none⟩) Te S).set 256 V2).alloc _).set _ V3
 ·exact(((((l.alloc o1).alloc o2).set k S).setOther (a:=⟨T+1,256,none⟩) Te V2).alloc _).setOther (a:=⟨T+1,c.toNat,none⟩) Te V3
 ·rw[World.cell?_drew,World.cell?_setCell_other _ _ _ _ (by intro h;have:=congrArg Addr.block h;simp at this;omega)];exact d.1
 ·rw[World.cell?_drew,World.cell?_setCell_other _ _ _ _ (by intro h;have:=congrArg Addr.block h;simp at this;omega)];exact d.2
 ·refine World.cell?_of_block (w:=wr) ?_;show(World.setCell _ _ _).heap[p.block]? = _;rw[Below.heap_setCell _ _ _ _ Td,Below.heap_alloc _ _ _ (by rw[e];omega),Below.heap_setCell _ _ _ _ Td,Below.heap_setCell _ _ _ _ Td,Below.heap_alloc _ _ _ Td,Below.heap_alloc _ _ _ o]
 ·have m:wr.heap.size+1+1=((((wr.alloc o1).alloc o2).setCell ⟨T,k,none⟩ S).setCell ⟨T+1,256,none⟩ V2).heap.size:=e.symm;exact(((((((Below.refl T wr).alloc Ta o1).alloc Td o2).setCell (p:=⟨T,k,none⟩) (wF _) S).setCell (p:=⟨T+1,256,none⟩) (Nat.le_succ _) V2).alloc Ta _).setCell (p:=⟨T+1,c.toNat,none⟩) (Nat.le_succ _) V3).drew
 ·show _<=(World.setCell _ _ _).heap.size;simp[World.setCell];omega
set_option maxHeartbeats 4000000 in
set_option maxRecDepth 1000000 in
def qjj(q x Z:Nat)(a b E F G H:UInt8)(w:World)(a4:a≠b)
  (hc:w.cell? ⟨q,4,none⟩=some (.slice (some ⟨x,0,none⟩) 4 Z)) (h0:w.cell? ⟨x,0,none⟩=some (.string ⟨#[a]⟩)) (k:w.cell? ⟨x,1,none⟩=some (.string ⟨#[E,F]⟩)) (r:w.cell? ⟨x,2,none⟩=some (.string ⟨#[b]⟩)) (h3:w.cell? ⟨x,3,none⟩=some (.string ⟨#[G,H]⟩)) :
  Calls Tryz.prog 223 #[.pointer (some ⟨q,0,none⟩)] w fun e w'=>∃R,e = .returned (.iface 291 (.pointer (some ⟨R,0,none⟩)))/\om R a b E F G H w'/\Below w.heap.size w w':=by
 go_enter Tryz.func223,Tryz.ntmps223
 go_wp2
 go_loopg [4,5] 2 (fun gk s4 s5 wx=>wx=w/\((s5 = .int .i64 0/\s4 = .bool true/\gk=2)\/(s5 = .int .i64 2/\s4 = .bool false/\gk=1)\/(s5 = .int .i64 4/\s4 = .bool false/\gk=0)))
 case atStart=>exact⟨rfl,Or.inl ⟨rfl,rfl,rfl⟩⟩
 case round=>
  obtain⟨rfl,⟨rfl,rfl,rfl⟩|⟨rfl,rfl,rfl⟩|⟨rfl,rfl,rfl⟩⟩:=hrel
  ·go_wp2
   go_roundg 1
   case measure=>exact Nat.lt_succ_self _
   case rel=>exact⟨rfl,Or.inr (Or.inl ⟨rfl,rfl,rfl⟩)⟩
  ·go_wp2
   go_roundg 0
   case measure=>exact Nat.lt_succ_self _
   case rel=>exact⟨rfl,Or.inr (Or.inr ⟨rfl,rfl,rfl⟩)⟩
  ·have a5:=mk2;obtain⟨y,v⟩:∃y,wr.alloc (.cells #[.string ⟨#[]⟩,.string ⟨#[]⟩] 9)=y:=⟨_,rfl⟩;have U:y.heap.size=wr.heap.size+1:=by rw[← v];simp
   have K:y.rowIs wr.heap.size 9 2 (fun _ => .string ⟨#[]⟩):=by rw[← v];exact World.rowIs_alloc wr _ _ _ (fun i hi=>by match i,hi with|0,_=>rfl|1,_=>rfl)
   have A:Below wr.heap.size wr y:=by rw[← v];exact(Below.refl _ _).alloc (wF _) _
   obtain⟨ROW,C,s⟩:=qsz y wr.heap.size;rw[U]at C s;have z:=(K.alloc (.cells Tryz.zeroCells290 290)).of_block (setRow_other (y.alloc (.cells Tryz.zeroCells290 290)) (wr.heap.size+1) wr.heap.size ROW Ta)
   have B:=below_setRow (A.alloc A.size (.cells Tryz.zeroCells290 290)) (Nat.le_succ wr.heap.size) ROW;obtain⟨I,L⟩:∃I,(y.alloc (.cells Tryz.zeroCells290 290)).setRow (wr.heap.size+1) ROW=I:=⟨_,rfl⟩;rw[L]at C s z B;have t:Aside (I.rowIs (wr.heap.size+1) 290 257 (zr (.slice (some ⟨wr.heap.size,0,none⟩) 0 2))/\I.rowIs wr.heap.size 9 2 (fun _ => .string ⟨#[]⟩)/\Below wr.heap.size wr I):=⟨s,z,B⟩
   clear s z B K A L
   go_wp2
   obtain⟨T,hT⟩:∃T,wr.heap.size=T:=⟨_,rfl⟩;rw[hT]at t ⊢;have J:Aside (wr.heap.size=T):=hT;clear C a5 U v hT
   go_loopg [12] 2 (fun gk s12 wx=>Below T wr wx/\T+2<=wx.heap.size/\(
    (s12 = .int .i64 2/\gk=2/\Aside (wx.rowIs (T+1) 290 257 (zr (.slice (some ⟨T,0,none⟩) 0 2))/\wx.rowIs T 9 2 (fun _ => .string ⟨#[]⟩))) \/
    (s12 = .int .i64 0/\gk=1/\∃u cb,T+2<=u/\u<wx.heap.size/\Aside (wx.rowIs (T+1) 290 257 (fun j=>if j=b.toNat then .slice (some ⟨u,0,none⟩) 2 cb else if j=256 then .slice (some ⟨T,0,none⟩) 1 2 else .slice none 0 0)/\wx.rowIs T 9 2 (fun i=>if i=0 then .string ⟨#[b]⟩ else .string ⟨#[]⟩)/\wx.cell? ⟨u,0,none⟩=some (.int .u8 G.toNat)/\wx.cell? ⟨u,1,none⟩=some (.int .u8 H.toNat))) \/
    (s12 = .int .i64 (-2)/\gk=0/\Aside (om (T+1) a b E F G H wx))))
   case atStart=>exact⟨t.out.2.2,by have:=t.out.1.lt;omega,Or.inl ⟨rfl,rfl,t.out.1,t.out.2.1⟩⟩
   case round=>
    obtain⟨l,S,h⟩:=hrel;have k0:=(l.cell (p:=⟨x,0,none⟩) (by rw[← J.out];exact World.block_lt_of_cell? _ _ h0)).trans h0
    have k1:=(l.cell (p:=⟨x,1,none⟩) (by rw[← J.out];exact World.block_lt_of_cell? _ _ k)).trans k
    have k2:=(l.cell (p:=⟨x,2,none⟩) (by rw[← J.out];exact World.block_lt_of_cell? _ _ r)).trans r
    have k3:=(l.cell (p:=⟨x,3,none⟩) (by rw[← J.out];exact World.block_lt_of_cell? _ _ h3)).trans h3
    clear h0 k r h3 hc t;have e1:=ql2;have e2:=ql1;have e3:=cv1;have e4:=cv2;rcases h with⟨rfl,rfl,g⟩|⟨rfl,rfl,u,cb,M,P,g⟩|⟨rfl,rfl,g⟩
    ·have g0:∀h,(⟨#[b]⟩:ByteArray)[0]'h=b:=fun _=>rfl
     have g1:(b.toNat:Int)<256:=by have:=b.toNat_lt;omega
     have g2:b.toNat<256:=b.toNat_lt;have ad:wr.cell? ⟨T+1,b.toNat,none⟩=some (.slice none 0 0):=by
      rw[g.out.1.cell Ta];unfold zr;rw[qW (by have:=b.toNat_lt;omega)]
     have aa:wr.cell? ⟨T+1,256,none⟩=some (.slice (some ⟨T,0,none⟩) 0 2):=by rw[g.out.1.cell Tf];rfl
     have a0:∀c f,((wr.alloc c).alloc f).cell? ⟨T,0,none⟩=some (.string ⟨#[]⟩):=fun c f=>((g.out.2.alloc c).alloc f).cell Tf
     have a3:∀c f,((wr.alloc c).alloc f).frozen? ⟨T,0,none⟩=false:=fun c f=>((g.out.2.alloc c).alloc f).frozen _
     have ab:∀c f,((wr.alloc c).alloc f).cell? ⟨T+1,256,none⟩=some (.slice (some ⟨T,0,none⟩) 0 2):=fun c f=>by rw[((g.out.1.alloc c).alloc f).cell Tf];rfl
     have ah:∀c f,((wr.alloc c).alloc f).frozen? ⟨T+1,256,none⟩=false:=fun c f=>((g.out.1.alloc c).alloc f).frozen _
     have ac:∀c f n o m,(((((wr.alloc c).alloc f).setCell ⟨T,0,none⟩ n).setCell ⟨T+1,256,none⟩ o).alloc m).cell? ⟨T+1,b.toNat,none⟩=some (.slice none 0 0):=fun c f n o m=>by
      rw[((((((g.out.1.alloc c).alloc f).setOther (a:=⟨T,0,none⟩) Te n).set 256 o)).alloc m).cell Ta]
      rw[qW];unfold zr;rw[qW (by have:=b.toNat_lt;omega)]
     have av:∀c f n o m,(((((wr.alloc c).alloc f).setCell ⟨T,0,none⟩ n).setCell ⟨T+1,256,none⟩ o).alloc m).frozen? ⟨T+1,b.toNat,none⟩=false:=fun c f n o m=>
      ((((((g.out.1.alloc c).alloc f).setOther (a:=⟨T,0,none⟩) Te n).set 256 o)).alloc m).frozen _
     clear g2
     go_wp2
     go_roundg 1
     case measure=>exact Nat.lt_succ_self _
     case rel=>
      have Y:=qbt wr T 0 1 b G H S g.out.1 g.out.2;obtain⟨V,W,X,q4,q5,q6,q7⟩:=Y;have q8:=World.block_lt_of_cell? _ _ X;refine⟨l.trans q6,q7,Or.inr (Or.inl ⟨rfl,rfl,wr.heap.size+1+1,mE (w4 wr T 0 1 b),Ta,q8,(?_:_/\_/\_/\_)⟩)⟩
      refine⟨V.congr (fun j _ => ?_),W,X,q4⟩
      ·show(if _ then _ else if _ then _ else zr _ j)=_
       unfold zr;by_cases k:j=b.toNat
       ·rw[qX k,qX k]
       ·by_cases r:j=256
        ·rw[qW k,qX r,qW k,qX r]
        ·rw[qW k,qW r,qW r,qW k,qW r]
    ·have g0:∀h,(⟨#[a]⟩:ByteArray)[0]'h=a:=fun _=>rfl
     have g1:(a.toNat:Int)<256:=by have:=a.toNat_lt;omega
     have g2:a.toNat<256:=a.toNat_lt;have Q:¬a.toNat=b.toNat:=fun h=>a4 (UInt8.toNat_inj.1 h)
     have a6:Aside (¬a.toNat=b.toNat):=Q;have ad:wr.cell? ⟨T+1,a.toNat,none⟩=some (.slice none 0 0):=by
      rw[g.out.1.cell Ta];rw[qW,qW]
     have aa:wr.cell? ⟨T+1,256,none⟩=some (.slice (some ⟨T,0,none⟩) 1 2):=by rw[g.out.1.cell Tf];rw[qW (by have:=b.toNat_lt;omega),qX rfl]
     have a0:∀c f,((wr.alloc c).alloc f).cell? ⟨T,1,none⟩=some (.string ⟨#[]⟩):=fun c f=>((g.out.2.1.alloc c).alloc f).cell Tf
     have a3:∀c f,((wr.alloc c).alloc f).frozen? ⟨T,1,none⟩=false:=fun c f=>((g.out.2.1.alloc c).alloc f).frozen _
     have ab:∀c f,((wr.alloc c).alloc f).cell? ⟨T+1,256,none⟩=some (.slice (some ⟨T,0,none⟩) 1 2):=fun c f=>by rw[((g.out.1.alloc c).alloc f).cell Tf];rw[qW (by have:=b.toNat_lt;omega),qX rfl]
     have ah:∀c f,((wr.alloc c).alloc f).frozen? ⟨T+1,256,none⟩=false:=fun c f=>((g.out.1.alloc c).alloc f).frozen _
     have ac:∀c f n o m,(((((wr.alloc c).alloc f).setCell ⟨T,1,none⟩ n).setCell ⟨T+1,256,none⟩ o).alloc m).cell? ⟨T+1,a.toNat,none⟩=some (.slice none 0 0):=fun c f n o m=>by
      rw[((((((g.out.1.alloc c).alloc f).setOther (a:=⟨T,1,none⟩) Te n).set 256 o)).alloc m).cell Ta]
      rw[qW];rw[qW,qW]
     have av:∀c f n o m,(((((wr.alloc c).alloc f).setCell ⟨T,1,none⟩ n).setCell ⟨T+1,256,none⟩ o).alloc m).frozen? ⟨T+1,a.toNat,none⟩=false:=fun c f n o m=>
      ((((((g.out.1.alloc c).alloc f).setOther (a:=⟨T,1,none⟩) Te n).set 256 o)).alloc m).frozen _
     clear g2 Q
     go_wp2
     go_roundg 0
     case measure=>exact Nat.lt_succ_self _
     case rel=>
      have Y:=qbt wr T 1 2 a E F S g.out.1 g.out.2.1;obtain⟨V,W,X,q4,q5,q6,q7⟩:=Y;have N:=(q5 ⟨u,0,none⟩ M P).trans g.out.2.2.1;have O:=(q5 ⟨u,1,none⟩ M P).trans g.out.2.2.2;have hB:om (T+1) a b E F G H (w5 wr T 1 2 a E F):=by
       refine⟨wr.heap.size+1+1,u,T,mE (w4 wr T 1 2 a),cb,2,fun d => ?_,?_,?_,?_,X,q4,N,O⟩
       ·rw[V.cell (by have:=d.toNat_lt;omega)]
        unfold rv;by_cases k:d=a
        ·rw[qX (congrArg _ k),qX k]
        ·rw[qW (fun h=>k (UInt8.toNat_inj.1 h)),qW k,qW (by have:=d.toNat_lt;omega)]
         by_cases r:d=b
         ·rw[qX (congrArg _ r),qX r]
         ·rw[qW (fun h=>r (UInt8.toNat_inj.1 h)),qW r,qW (by have:=d.toNat_lt;omega)]
       ·rw[V.cell Tf,qW (by have:=a.toNat_lt;omega),qX rfl]
       ·rw[W.cell Tf];rfl
       ·rw[W.cell Tf];rfl
      exact⟨l.trans q6,q7,Or.inr (Or.inr ⟨rfl,rfl,hB⟩)⟩
    ·go_wp2
     go_ret
     exact⟨T+1,rfl,g.out,by rw[J.out];exact l⟩
end Go.Proofs.Repl
namespace Go.Proofs.YtekaipjfmlnggaaGreatDoor.Once
open Go.Sym(Tc)
def disable(w:World):(callFunc 328 #[]).run Tryz.prog w = .ok (.value (.tuple #[])) w:=run_call_mark0 Tryz.func328 Tc Tc Tc .disable Tc w
def enable(w:World):(callFunc 330 #[]).run Tryz.prog w = .ok (.value (.tuple #[])) w:=run_call_mark0 Tryz.func330 Tc Tc Tc .enable Tc w
def acquire(a:Addr)(w:World):(callFunc 331 #[.pointer (some a)]).run Tryz.prog w = .ok (.value (.tuple #[])) w:=run_call_marked Tryz.func331 Tc Tc Tc .acquire Tc a w
def releaseMerge(a:Addr)(w:World):(callFunc 333 #[.pointer (some a)]).run Tryz.prog w = .ok (.value (.tuple #[])) w:=run_call_marked Tryz.func333 Tc Tc Tc .releaseMerge Tc a w
set_option maxHeartbeats 1600000 in
def qs6(a:Addr)(x:Value)(u:FrameMode)(w:World)(g:w.cell? a=some x)(h:w.frozen? a=false) :
  CallsD Tryz.prog 271 #[.pointer (some a),.bool true] u w fun e f w'=>f=u/\(e = .returned (.tuple #[])/\w'=w.drew.setCell a (.int .u32 1)):=by
 have b:w.drew.cell? a=some x:=by go_simp
 have c:w.drew.frozen? a=false:=by go_simp
 have d:=run_call_store (P:=Tryz.prog) Tryz.func306 Tc Tc Tc Tc (k := .u32) (y:=1) b c
 go_enter_d Tryz.func271,Tryz.ntmps271
 go_wp2
 go_region_calls
 all_goals (go_end0;exact⟨rfl,rfl⟩)
set_option maxHeartbeats 1600000 in
def qua(a:Addr)(u:FrameMode)(w:World)(c:w.cell? a=some (.int .i32 1))(f:w.frozen? a=false) :
  CallsD Tryz.prog 270 #[.pointer (some a)] u w fun e g w'=>g=u/\(e = .returned (.tuple #[])/\w'=w.setCell a (.int .i32 0)):=by
 have h:=disable;have i:=enable;have j:=releaseMerge;have b:=run_call_add (P:=Tryz.prog) Tryz.func334 Tc Tc Tc .i32 Tc (y := -1) (s:=0) c f (by simp[go_sem];rfl)
 have d:=run_convert_to_unsafe (P:=Tryz.prog) (src:=350) (dst:=152) Tryz.underlying350 Tryz.underlying152 Tc c
 go_enter_d Tryz.func270,Tryz.ntmps270
 go_wp2
 go_end0
 go_wp2
 go_end0
 exact⟨rfl,rfl⟩
set_option maxHeartbeats 1600000 in
def qov(a:Addr)(w:World)(c:w.cell? a=some (.int .i32 0))(g:w.frozen? a=false) :
  Calls Tryz.prog 269 #[.pointer (some a)] w fun e w'=>e = .returned (.tuple #[])/\w'=w.setCell a (.int .i32 1):=by
 have i:=disable;have j:=enable;have h:=acquire;have d:=run_call_cas_hit (P:=Tryz.prog) Tryz.func329 Tc Tc Tc .i32 Tc (y:=1) c g
 have b:(w.setCell a (.int .i32 1)).cell? a=some (.int .i32 1):=World.cell?_setCell_same w a _ c;have f:=run_convert_to_unsafe (P:=Tryz.prog) (src:=350) (dst:=152) Tryz.underlying350 Tryz.underlying152 Tc b
 go_enter Tryz.func269,Tryz.ntmps269
 go_wp2
 first|go_end0|(simp only[Exit.inBlock,Exit.then];refine bodyPost_ret (results_none rfl _ _ _) rfl ?_)|refine bodyPost_ret (results_none rfl _ _ _) rfl ?_
 go_wp2
 go_end0
 exact⟨rfl,rfl⟩
end Go.Proofs.YtekaipjfmlnggaaGreatDoor.Once
namespace Go.Proofs.YtekaipjfmlnggaaGreatDoor.Once
open Go.Sym(Tc Te)
set_option maxHeartbeats 1600000 in
def qsm(b:Nat)(w:World)(R:World->Prop)
  (l:w.cell? ⟨b,0,none⟩=some (.int .u32 0)) (s:w.cell? ⟨b,0+1,none⟩=some (.int .i32 0)) (f0:w.frozen? ⟨b,0,none⟩=false) (r:w.frozen? ⟨b,0+1,none⟩=false)
  (n:Calls Tryz.prog 167 #[.pointer (some ⟨b,0,none⟩)] (w.setCell ⟨b,0+1,none⟩ (.int .i32 1)) fun e w'=>e = .returned (.tuple #[])/\R w')
  (m:∀w',R w'->w'.cell? ⟨b,0,none⟩=some (.int .u32 0)/\w'.frozen? ⟨b,0,none⟩=false/\w'.cell? ⟨b,0+1,none⟩=some (.int .i32 1)/\w'.frozen? ⟨b,0+1,none⟩=false) :
  Calls Tryz.prog 222 #[.pointer (some ⟨b,0,none⟩),.func (.func 167) #[.pointer (some ⟨b,0,none⟩)] #[]] w fun e w'=>e = .returned (.tuple #[])/\∃k,R k/\w'=(k.drew.setCell ⟨b,0,none⟩ (.int .u32 1)).setCell ⟨b,0+1,none⟩ (.int .i32 0):=by
 have t:=run_call_load (P:=Tryz.prog) Tryz.func268 Tc Tc Tc .u32 Tc (w:=w.setCell ⟨b,0+1,none⟩ (.int .i32 1)) (a:=⟨b,0,none⟩) (x:=0) ((World.cell?_setCell_other _ ⟨b,0+1,none⟩ ⟨b,0,none⟩ _ Te).trans l)
 have i:∀(x:Bool)(w:World),(Op.unary .not (.bool x)).run Tryz.prog w = .ok (.bool (!x)) w:=fun _ _=>rfl
 go_enter_defers Tryz.func222,Tryz.ntmps222
 go_wp2_with (first|(go_at_call 269;refine(qov ⟨b,0+1,none⟩ _ (by go_simp) (by go_simp)).mono ?_;rintro e w' ⟨rfl,rfl⟩)|(go_at_call 221;go_in)|(go_at_call 167;refine n.mono ?_;rintro e w' ⟨rfl,j⟩))
 obtain⟨o,d,p,g⟩:=m w' j
 first|go_end0|skip
 first|go_wp2|skip
 refine leaves_cons (f:=271) (args:=#[.pointer (some ⟨b,0,none⟩),.bool true]) Te (by simp[go_sem]) ?_
 refine(qs6 ⟨b,0,none⟩ (.int .u32 0) .returning _ o d).mono ?_;rintro e q h ⟨rfl,rfl,rfl⟩
 refine leaves_cons (f:=270) (args:=#[.pointer (some ⟨b,0+1,none⟩)]) (by simp[settle]) (by simp[go_sem]) ?_
 have c:(w'.drew.setCell ⟨b,0,none⟩ (.int .u32 1)).cell? ⟨b,0+1,none⟩=some (.int .i32 1):=by
  refine(World.cell?_setCell_other _ ⟨b,0,none⟩ ⟨b,0+1,none⟩ _ Te).trans ?_
  rw[World.cell?_drew];exact p
 refine(qua ⟨b,0+1,none⟩ _ _ c (by simp[g])).mono ?_
 rintro e q h ⟨rfl,rfl,rfl⟩
 simp[Leaves,settle,results,Tryz.results222];exact⟨w',j,rfl⟩
set_option maxHeartbeats 1600000 in
def qli(b:Nat)(w:World)(R:World->Prop)
  (d:w.cell? ⟨b,0,none⟩=some (.int .u32 0)) (h:w.cell? ⟨b,0+1,none⟩=some (.int .i32 0)) (f0:w.frozen? ⟨b,0,none⟩=false) (g:w.frozen? ⟨b,0+1,none⟩=false)
  (j:Calls Tryz.prog 167 #[.pointer (some ⟨b,0,none⟩)] (w.setCell ⟨b,0+1,none⟩ (.int .i32 1)) fun e w'=>e = .returned (.tuple #[])/\R w')
  (i:∀w',R w'->w'.cell? ⟨b,0,none⟩=some (.int .u32 0)/\w'.frozen? ⟨b,0,none⟩=false/\w'.cell? ⟨b,0+1,none⟩=some (.int .i32 1)/\w'.frozen? ⟨b,0+1,none⟩=false) :
  Calls Tryz.prog 166 #[.pointer (some ⟨b,0,none⟩),.func (.func 167) #[.pointer (some ⟨b,0,none⟩)] #[]] w fun e w'=>e = .returned (.tuple #[])/\∃a,R a/\w'=(a.drew.setCell ⟨b,0,none⟩ (.int .u32 1)).setCell ⟨b,0+1,none⟩ (.int .i32 0):=by
 have k:=run_call_load (P:=Tryz.prog) Tryz.func268 Tc Tc Tc .u32 Tc d
 have f:∀(x:Bool)(w:World),(Op.unary .not (.bool x)).run Tryz.prog w = .ok (.bool (!x)) w:=fun _ _=>rfl
 go_enter Tryz.func166,Tryz.ntmps166
 go_wp2_with (first|(go_at_call 221;go_in)|(go_at_call 222;refine(qsm b w R d h f0 g j i).mono ?_;rintro e w' ⟨rfl,a,c,rfl⟩))
 go_end0
 exact⟨rfl,a,c,rfl⟩
end Go.Proofs.YtekaipjfmlnggaaGreatDoor.Once
namespace Go.Proofs.YtekaipjfmlnggaaGreatDoor.Once
open Go.Sym(Te)
set_option maxHeartbeats 1600000 in
def replaceS_first(b:Nat)(s:ByteArray)(w:World)(R:World->Prop)(Q:Value->World->Prop)
  (h0:w.cell? ⟨b,0,none⟩=some (.int .u32 0)) (h1:w.cell? ⟨b,0+1,none⟩=some (.int .i32 0)) (f0:w.frozen? ⟨b,0,none⟩=false) (f1:w.frozen? ⟨b,0+1,none⟩=false)
  (hf:Calls Tryz.prog 167 #[.pointer (some ⟨b,0,none⟩)] (w.setCell ⟨b,0+1,none⟩ (.int .i32 1)) fun e w'=>e = .returned (.tuple #[])/\R w')
  (hR:∀w',R w'->w'.cell? ⟨b,0,none⟩=some (.int .u32 0)/\w'.frozen? ⟨b,0,none⟩=false/\w'.cell? ⟨b,0+1,none⟩=some (.int .i32 1)/\w'.frozen? ⟨b,0+1,none⟩=false)
  (hg:∀w',R w'->∃g,w'.cell? ⟨b,3,none⟩=some (.iface 291 (.pointer (some ⟨g,0,none⟩))) /\
   Calls Tryz.prog 396 #[.pointer (some ⟨g,0,none⟩),.string s] ((w'.drew.setCell ⟨b,0,none⟩ (.int .u32 1)).setCell ⟨b,0+1,none⟩ (.int .i32 0)) fun e w''=>∃v,e = .returned v/\Q v w'') :
  Calls Tryz.prog 111 #[.pointer (some ⟨b,0,none⟩),.string s] w fun e w'=>∃v,e = .returned v/\Q v w':=by
 have hme : ∀ (g : Nat) (w : World), (method 509 291 (.pointer (some ⟨g, 0, none⟩)) "Replace").run Tryz.prog w = .ok (396, .pointer (some ⟨g, 0, none⟩)) w := fun _ _ => by kernel_rfl
 go_enter Tryz.func111,Tryz.ntmps111
 go_wp2_with (first|(go_at_call 166;refine(qli b w R h0 h1 f0 f1 hf hR).mono ?_;rintro e w' ⟨rfl,w1,hw1,rfl⟩;obtain⟨g,hg1,hg2⟩:=hg w1 hw1;have hc3:((w1.drew.setCell ⟨b,0,none⟩ (.int .u32 1)).setCell ⟨b,0+1,none⟩ (.int .i32 0)).cell? ⟨b,3,none⟩=some (.iface 291 (.pointer (some ⟨g,0,none⟩))):=((World.cell?_setCell_other _ ⟨b,0+1,none⟩ ⟨b,3,none⟩ _ Te).trans ((World.cell?_setCell_other _ ⟨b,0,none⟩ ⟨b,3,none⟩ _ Te).trans (by rw[World.cell?_drew];exact hg1))))|(go_at_call 396;refine hg2.mono ?_;rintro e w' ⟨v,rfl,hq⟩))
 go_ret
 exact⟨_,rfl,hq⟩
end Go.Proofs.YtekaipjfmlnggaaGreatDoor.Once
namespace Go.Sym
open Go.RowKit
variable[LC]
def c8.blocks_none{G:Gh}{hp:List (Nat×ag)}{w:World}(u:c8 G hp w){b:Nat}(h:qv G hp b)(o:Nat):G.imm b o=none:=by
 obtain⟨n,bx,t,d⟩:=h;have j:=u.holds n bx t
 cases bx with
 |cells y T=>obtain⟨B,x,e,_,_,_,i⟩:=j;simp only[Gh.at,e,qI]at d;subst d;exact i o
 |row τ l E=>
  obtain⟨a,c,e,q⟩:=j;rcases q with⟨rfl,_⟩|⟨g,x,A,rfl,_,_,_,_,_,_,_,r⟩
  ·simp only[Gh.at,e]at d;cases d
  ·simp only[Gh.at,e,qI]at d;subst d;exact r o
 |loop H C f m z F v D=>obtain⟨B,k,DB,e,_,_,_,_,i⟩:=j;simp only[Gh.at,e,qI]at d;subst d;exact i o
 |dfr=>obtain⟨B,e,_,i⟩:=j;simp only[Gh.at,e,qI]at d;subst d;exact i o
 |it s p=>obtain⟨B,e,_,i⟩:=j;simp only[Gh.at,e,qI]at d;subst d;exact i o
 |dead=>cases d
def di.gone{P:Program}{f:FuncId}{xs:List AV}{hp:List (Nat×ag)}{r:AV}
  (h:∀(w:World)(G:Gh)(vs:List Value),c8 G hp w->ao xs G vs->Calls P f vs.toArray w fun e w'=>∃v,e = .returned v/\ai r G v/\cr (qv G hp) w w'):di P f xs hp r []:=by
 intro w G vs d k;refine(h w G vs d k).mono ?_;rintro e w' ⟨v,rfl,c,g⟩
 have a:∀b o v,G.imm b o=some v->w'.heap[b]? = w.heap[b]? := fun b o v c=>g.block b (World.block_lt_of_cell? _ _ (d.agree b o v c)) fun j=>by
  rw[d.blocks_none j o]at c;cases c
 refine⟨v,G,rfl,⟨⟨fun b o v c=>by rw[World.cell?_of_block (w:=w) (a b o v c)];exact d.agree b o v c,d.one,fun n bx h=>(by cases h),fun n m bx i b h=>(by cases h),LC.mono (fun _ _ _ h=>h) a d.tab⟩,g,fun _ _ _ h=>h,fun _ _ _ h => .inl h,fun n bx b h=>(by cases h),fun _ _ _ _ h=>h,fun _ _ _ _ h=>h⟩,c⟩
end Go.Sym
set_option linter.unusedVariables false
namespace Go.Proofs.Repl
open Go.Shelf Go.RowKit Go.Lib Go.Sym
def om.setCell{R q n:Nat}{u:Int}{a b j l m r:UInt8}{w:World}(h:om R a b j l m r w)(d:w.cell? ⟨q,0,none⟩=some (.int .u32 u))(v:Value):om R a b j l m r (w.setCell ⟨q,n,none⟩ v):=by
 obtain⟨s,t,y,F,G,H,z,I,f,J,g,K,i,L⟩:=h.ex;have A:¬R=q:=fun e=>by
  have:=z 0;subst e;rw[show(0:UInt8).toNat=0 from rfl,d]at this
  unfold rv at this;split at this
  ·cases this
  ·split at this<;>cases this
 have E:¬y=q:=fun e=>by subst e;rw[d]at f;cases f
 have B:¬s=q:=fun e=>by subst e;rw[d]at g;cases g
 have C:¬t=q:=fun e=>by subst e;rw[d]at i;cases i
 have k:∀{p:Nat}{o:Nat}{x:Value},¬p=q->w.cell? ⟨p,o,none⟩=some x->(w.setCell ⟨q,n,none⟩ v).cell? ⟨p,o,none⟩=some x:=fun{p o x} hp hx=>by
  rw[World.cell?_of_block (w:=w) (Below.heap_setCell w ⟨q,n,none⟩ v p hp)];exact hx
 exact⟨s,t,y,F,G,H,fun c=>k A (z c),k A I,k E f,k E J,k B g,k B K,k C i,k C L⟩
structure Once(q:Nat)(w w':World):Prop where
 bel:cr (fun k=>k=q) w w'
 c0:w'.cell? ⟨q,0,none⟩=some (.int .u32 0)
 c1:w'.cell? ⟨q,0+1,none⟩=some (.int .i32 1)
 f0:w'.frozen? ⟨q,0,none⟩=false
 f1:w'.frozen? ⟨q,0+1,none⟩=false
def qi4(S:Nat->Prop)(w:World):cr S w w.drew:=⟨rfl,rfl,rfl,wF _,fun _ _ _=>rfl⟩
def JO{S:Nat->Prop}{w w':World}(h:Below w.heap.size w w'):cr S w w':=⟨h.os,h.tape,h.output,h.size,fun k a _=>h.block k a⟩
def yD{q:Nat}{w w':World}(h:cr (fun k=>k=q) w w')(n:Nat)(v:Value):cr (fun k=>k=q) w (w'.setCell ⟨q,n,none⟩ v):=
 ⟨h.os,h.tape,h.output,by simp[World.setCell];exact h.size,fun k b a=>(Below.heap_setCell w' ⟨q,n,none⟩ v k a).trans (h.block k b a)⟩
def JP{S:Nat->Prop}{a b c:World}(h:cr S a b)(k:cr S b c):cr S a c:=
 ⟨k.os.trans h.os,k.tape.trans h.tape,k.output.trans h.output,Nat.le_trans h.size k.size,fun i d e=>(k.block i (Nat.lt_of_lt_of_le d h.size) e).trans (h.block i d e)⟩
set_option maxHeartbeats 1600000 in
def qjl(q d f:Nat)(J:Value)(a b k l m n:UInt8)(w:World)(t:a≠b)
  (c0:w.cell? ⟨q,0,none⟩=some (.int .u32 0)) (c1:w.cell? ⟨q,0+1,none⟩=some (.int .i32 1)) (z:∀j,w.frozen? ⟨q,j,none⟩=false) (c3:w.cell? ⟨q,3,none⟩=some J)
  (y:w.cell? ⟨q,4,none⟩=some (.slice (some ⟨d,0,none⟩) 4 f)) (F:w.cell? ⟨d,0,none⟩=some (.string ⟨#[a]⟩)) (G:w.cell? ⟨d,1,none⟩=some (.string ⟨#[k,l]⟩)) (H:w.cell? ⟨d,2,none⟩=some (.string ⟨#[b]⟩)) (I:w.cell? ⟨d,3,none⟩=some (.string ⟨#[m,n]⟩)) :
  Calls Tryz.prog 167 #[.pointer (some ⟨q,0,none⟩)] w fun e w'=>e = .returned (.tuple #[])/\Once q w w'/\∃R,w'.cell? ⟨q,3,none⟩=some (.iface 291 (.pointer (some ⟨R,0,none⟩)))/\om R a b k l m n w':=by
 have h:q<w.heap.size:=World.block_lt_of_cell? _ _ c0;have x:=qjj q d f a b k l m n w t y F G H I
 go_enter Tryz.func167,Tryz.ntmps167
 go_wp2_with (go_at_call 223;go_must (refine x.mono ?_;rintro e W ⟨R,rfl,s,c⟩;have i:∀{j:Nat}{v:Value},w.cell? ⟨q,j,none⟩=some v->W.cell? ⟨q,j,none⟩=some v:=(fun A=>(c.cell (World.block_lt_of_cell? _ _ A)).trans A);have B:∀j,W.frozen? ⟨q,j,none⟩=false:=(fun j=>(c.frozen (p:=⟨q,j,none⟩) h).trans (z j));have u:=i c0;have C:=i c1;have E:=i c3;have K:=i y;clear x z i))
 have g:(W.setCell ⟨q,3,none⟩ (.iface 291 (.pointer (some ⟨R,0,none⟩)))).cell? ⟨q,0,none⟩=some (.int .u32 0):=by rw[World.cell?_setCell_other _ _ _ _ Te];exact u
 have o:(W.setCell ⟨q,3,none⟩ (.iface 291 (.pointer (some ⟨R,0,none⟩)))).cell? ⟨q,0+1,none⟩=some (.int .i32 1):=by rw[World.cell?_setCell_other _ _ _ _ Te];exact C
 have r:=World.cell?_setCell_same W ⟨q,3,none⟩ (.iface 291 (.pointer (some ⟨R,0,none⟩))) E
 go_end0
 refine⟨rfl,⟨yD (yD (JO c) 3 _) 4 _,?_,?_,?_,?_⟩,R,?_,(s.setCell u _).setCell g _⟩
 ·rw[World.cell?_setCell_other _ _ _ _ Te];exact g
 ·rw[World.cell?_setCell_other _ _ _ _ Te];exact o
 ·simp[B]
 ·simp[B]
 ·rw[World.cell?_setCell_other _ _ _ _ Te];exact r
def replS(q m n:Nat)(C:Value)(a b d f g i:UInt8)(s:ByteArray)(w:World)(r:a≠b)(K:s.size<=1000000)
  (c0:w.cell? ⟨q,0,none⟩=some (.int .u32 0)) (c1:w.cell? ⟨q,0+1,none⟩=some (.int .i32 0)) (A:∀j,w.frozen? ⟨q,j,none⟩=false) (c3:w.cell? ⟨q,3,none⟩=some C)
  (J:w.cell? ⟨q,4,none⟩=some (.slice (some ⟨m,0,none⟩) 4 n)) (t:w.cell? ⟨m,0,none⟩=some (.string ⟨#[a]⟩)) (F:w.cell? ⟨m,1,none⟩=some (.string ⟨#[d,f]⟩)) (G:w.cell? ⟨m,2,none⟩=some (.string ⟨#[b]⟩)) (H:w.cell? ⟨m,3,none⟩=some (.string ⟨#[g,i]⟩)) :
  Calls Tryz.prog 111 #[.pointer (some ⟨q,0,none⟩),.string s] w fun e w'=>∃v,e = .returned v/\v = .string ⟨(gf a b [d,f] [g,i] s.data.toList).toArray⟩/\cr (fun k=>k=q) w w':=by
 have c:¬m=q:=fun e=>by subst e;rw[c0]at t;cases t
 have k:∀{p:Addr}{x:Value},p≠⟨q,0+1,none⟩->w.cell? p=some x->(w.setCell ⟨q,0+1,none⟩ (.int .i32 1)).cell? p=some x:=fun{p x} hp hx=>by
  rw[World.cell?_setCell_other _ _ _ _ (fun e=>hp e.symm)];exact hx
 have L:cr (fun k=>k=q) w (w.setCell ⟨q,0+1,none⟩ (.int .i32 1)):=yD (JO (Below.refl _ _)) _ _
 refine Go.Proofs.YtekaipjfmlnggaaGreatDoor.Once.replaceS_first q s w (fun w'=>Once q (w.setCell ⟨q,0+1,none⟩ (.int .i32 1)) w'/\∃R,w'.cell? ⟨q,3,none⟩=some (.iface 291 (.pointer (some ⟨R,0,none⟩)))/\om R a b d f g i w') (fun v w'=>v = .string ⟨(gf a b [d,f] [g,i] s.data.toList).toArray⟩/\cr (fun k=>k=q) w w') c0 c1 (A _) (A _) ?_ ?_ ?_
 ·exact qjl q m n C a b d f g i _ r (k Te c0) (World.cell?_setCell_same w _ _ c1) (fun j=>by simp[A]) (k Te c3) (k Te J) (k (by intro h;exact c (congrArg Addr.block h)) t) (k (by intro h;exact c (congrArg Addr.block h)) F) (k (by intro h;exact c (congrArg Addr.block h)) G) (k (by intro h;exact c (congrArg Addr.block h)) H)
 ·rintro w' ⟨l,_⟩
  exact⟨l.c0,l.f0,l.c1,l.f1⟩
 ·rintro w' ⟨l,R,I,y⟩
  refine⟨R,I,?_⟩;have B:w'.drew.cell? ⟨q,0,none⟩=some (.int .u32 0):=by rw[World.cell?_drew];exact l.c0
  have E:=World.cell?_setCell_same w'.drew ⟨q,0,none⟩ (.int .u32 1) B;have u:om R a b d f g i ((w'.drew.setCell ⟨q,0,none⟩ (.int .u32 1)).setCell ⟨q,0+1,none⟩ (.int .i32 0)):=
   ((y.below (Below.refl _ w').drew).setCell B _).setCell E _
  have o:cr (fun k=>k=q) w ((w'.drew.setCell ⟨q,0,none⟩ (.int .u32 1)).setCell ⟨q,0+1,none⟩ (.int .i32 0)):=
   yD (yD (JP (JP L l.bel) (qi4 _ _)) 0 _) (0+1) _
  refine(qjo R a b d f g i s _ r K u).mono ?_;rintro e M ⟨rfl,z⟩
  exact⟨_,rfl,rfl,JP o (JO z)⟩
end Go.Proofs.Repl
namespace Go.Sym
open Go.Proofs Go.RowKit
variable[LC]
def qq8(a b d f l m:UInt8)(s:Bs)(Y:Int)(r:a≠b)(U:s.length<=1000000) :
  di Tryz.prog 111 [.ptr 0 0,.str s] [(0,.cells [.int .u32 0,.int .i32 0,.int .u32 Y,.val .nilIface,.own 1] 219),(1,.row .str [[a],[d,f],[b],[l,m]] 9)] (.str (gf a b [d,f] [l,m] s)) []:=by
 refine di.gone fun w G vs J u => ?_
 match vs,u with
 |[v1,v2],u=>
 obtain⟨⟨q,I,rfl⟩,y,_⟩:=u;have y:v2 = .string ⟨s.toArray⟩:=y;subst y;obtain⟨B,N,F,H,o,g4,g5⟩:=J.holds 0 _ rfl;rw[show G.box 0=some q from I]at F
 cases F
 obtain⟨ad,c,z,V,W,X,o4⟩:=(J.holds 1 (.row .str [[a],[d,f],[b],[l,m]] 9) rfl).rowAt;obtain⟨Z,c0,x0⟩:=ni o (i:=0) rfl;obtain⟨u1,c1,x1⟩:=ni o (i:=1) rfl;obtain⟨u3,c3,x3⟩:=ni o (i:=3) rfl;obtain⟨u4,M,x4⟩:=ni o (i:=4) rfl;have x0:Z = .int .u32 0:=x0;have x1:u1 = .int .i32 0:=x1;obtain⟨L,n',c',K,x4⟩:=x4;rw[V]at K;cases K
 subst x0 x1 x4;have k:∀{i:Nat}{v:Value},N.toList[i]? = some v->w.cell? ⟨q,i,none⟩=some v:=fun{i v} h=>cell_of_heap H h
 obtain⟨T,t⟩:=W;rcases t with⟨_,Q,_⟩|⟨g,vr,fz,rfl,O,_,e3,e4,e5,P,_⟩
 ·cases Q
 ·have x:z=[.string ⟨#[a]⟩,.string ⟨#[d,f]⟩,.string ⟨#[b]⟩,.string ⟨#[l,m]⟩]:=by
   match z,X with
   |[y0,y1,y2,y3],⟨A,z1,C,E,_⟩=>
    have A:y0 = .string ⟨#[a]⟩:=A;have z1:y1 = .string ⟨#[d,f]⟩:=z1;have C:y2 = .string ⟨#[b]⟩:=C;have E:y3 = .string ⟨#[l,m]⟩:=E;rw[A,z1,C,E]
  have p:∀{i:Nat}{v:Value},z[i]? = some v->w.cell? ⟨g,i,none⟩=some v:=fun{i v} h=>by
   rw[← P,List.getElem?_take]at h;split at h
   ·exact cell_of_heap O h
   ·cases h
  subst x;refine(Go.Proofs.Repl.replS q g c u3 a b d f l m ⟨s.toArray⟩ w r (by rw[nj];exact U) (k c0) (k c1) (fun j=>by simp[World.frozen?,H]) (k c3) (k M) (p (i:=0) rfl) (p (i:=1) rfl) (p (i:=2) rfl) (p (i:=3) rfl)).mono ?_
  rintro e w' ⟨v,rfl,rfl,n⟩
  refine⟨_,rfl,rfl,⟨n.os,n.tape,n.output,n.size,fun k R S=>n.block k R (fun e=>S ?_)⟩⟩
  subst e;exact⟨0,_,rfl,I⟩
def LQ:IF:=⟨.fn 111,[.ptr 0 0,.h .str],[(0,.cells [.h (.int .u32),.h (.int .i32),.h (.int .u32),.c .nilIface,.own 1] 219),(1,.row .str 9)],_,RS.mk (.h .str) []⟩
def qag:(LQ.e yq).Sound Tryz.prog:=fun d k r h=>by
 obtain⟨_,s,_⟩:=d;obtain⟨⟨n,o,e,_,_,_⟩,m,_⟩:=k;have h:yq s n o e m=some r:=h;obtain⟨a,f,g,b,i,j,rfl,rfl,rfl,c,l,rfl⟩:=qq9 h;exact⟨Tryz.call111,qq8 a b f g i j s e c l⟩
end Go.Sym
namespace Go.Sym
open Go.Proofs Go.RowKit
open Go.Proofs.Tryz
variable[LC]
def PU:Builder.Extra Tryz.prog Tryz.lays105_ren:={
 sizeBuilder:=Tc
 liesBuilder:=Tc
 t5:=Tryz.lays105.t5
 a5:=Tryz.lays105.a5
 z5:=Tryz.lays105.z5
 v5:=Tryz.lays105.v5
 infoByte:=Tc
 cellsByte:=Tc
 sizeByte:=Tc
 neB5:=by decide }
def qq5{w:World}(s:Bs)(n:Int)(g:0<=n)(h:n<=9223372036854775807)(b:s.length*n.toNat<=140737488355328) :
  Calls Tryz.prog 168 #[.string ⟨s.toArray⟩,.int .i64 n] w fun e w'=>e = .returned (.string ⟨(Lib.repeatL s n.toNat).toArray⟩)/\d7 w w':=by
 have d:n=((n.toNat:Nat):Int):=Ta
 have a:=Any.strings_Repeat Tryz.lays105 PU ⟨s.toArray⟩ n.toNat w Ta (by rw[nj];exact b)
 rw[← d]at a;exact a.mono fun e w'⟨c,f⟩=>⟨c,d7.of_below f⟩
def qae:IF:=⟨.fn 168,[.h .str,.h (.int .i64)],[],_,RS.mk (.h .str) []⟩
def qq6:(qae.e vP).Sound Tryz.prog:=fun d o r h=>by
 obtain⟨s,n,_⟩:=d;have h:vP s n=some r:=h;unfold vP at h;cases c:decide (0<=(show Int from n)/\(show Int from n)<=9223372036854775807/\List.length (α:=UInt8) s*(show Int from n).toNat<=140737488355328)<;>rw[c]at h<;>simp only[qT,qF,reduceCtorEq]at h
 have h:=qJ h;subst h;obtain⟨f,g,i⟩:=of_decide_eq_true c;refine⟨call168,di.data fun w G m p k => ?_⟩
 match m,k with
 |[u,v],⟨a,b,_⟩=>
  have a:u = .string ⟨s.toArray⟩:=a;have b:v = .int .i64 n:=b;subst a b;exact(qq5 s n f g i).mono fun e q⟨j,l⟩=>⟨_,j,rfl,l⟩
def qjc:Builder.Extra Tryz.prog Tryz.lays155_ren:={
 sizeBuilder:=Tc
 liesBuilder:=Tc
 t5:=Tryz.lays155.t5
 a5:=Tryz.lays155.a5
 z5:=Tryz.lays155.z5
 v5:=Tryz.lays155.v5
 infoByte:=Tc
 cellsByte:=Tc
 sizeByte:=Tc
 neB5:=by decide }
def qq7{G:Gh}{w:World}(c:c8 G [] w)(i:2∈LC.ints)(s o n:Bs)(a:1<=o.length)(d:s.length<4294967281)(f:s.length+s.length*n.length<=140737488355328) :
  Calls Tryz.prog 88 #[.string ⟨s.toArray⟩,.string ⟨o.toArray⟩,.string ⟨n.toArray⟩] w fun e w'=>e = .returned (.string ⟨(Lib.replaceAll s o n).toArray⟩)/\d7 w w':=by
 obtain⟨k,b⟩:=c.tab.2.1 _ i;have b:=c.agree _ _ _ b;have g:Lib.countB ⟨s.toArray⟩ ⟨o.toArray⟩<=s.length:=by
  have:=Lib.countB_mul_le (⟨o.toArray⟩:ByteArray) (by rw[nj];exact a) _ (⟨s.toArray⟩:ByteArray) (wF _)
  rw[nj,nj]at this;exact Nat.le_trans (Nat.le_mul_of_pos_right _ a) this
 exact(Any.strings_ReplaceAll Tryz.lays155 qjc ⟨s.toArray⟩ ⟨o.toArray⟩ ⟨n.toArray⟩ k w (by rw[nj];exact d) b (by rw[nj];exact a) (by
  rw[nj,nj];exact Nat.le_trans (Nat.add_le_add_left (Nat.mul_le_mul_right _ g) _) f)).mono fun e w'⟨h,j⟩=>⟨h,d7.of_below j⟩
def LP:IF:=⟨.fn 88,[.h .str,.h .str,.h .str],[],_,RS.mk (.h .str) []⟩
def qaf(l:2∈LC.ints):(LP.e yt).Sound Tryz.prog:=fun d y r h=>by
 obtain⟨s,o,n,_⟩:=d;have h:yt s o n=some r:=h;unfold yt at h;cases f:decide (1<=List.length (α:=UInt8) o/\List.length (α:=UInt8) s<4294967281/\List.length (α:=UInt8) s+List.length (α:=UInt8) s*List.length (α:=UInt8) n<=140737488355328)<;>rw[f]at h<;>simp only[qT,qF,reduceCtorEq]at h
 have h:=qJ h;subst h;obtain⟨g,i,j⟩:=of_decide_eq_true f;refine⟨call88,di.data fun w G t m p => ?_⟩
 match t,p with
 |[u,v,x],⟨a,b,c,_⟩=>
  have a:u = .string ⟨s.toArray⟩:=a;have b:v = .string ⟨o.toArray⟩:=b;have c:x = .string ⟨n.toArray⟩:=c;subst a b c;exact(qq7 m l s o n g i j).mono fun e z⟨k,q⟩=>⟨_,k,rfl,q⟩
end Go.Sym
namespace Go.Sym
open Go.Proofs Go.RowKit Go.Shelf
def cr.refl(S:Nat->Prop)(w:World):cr S w w:=⟨rfl,rfl,rfl,wF _,fun _ _ _=>rfl⟩
def cr.drew(S:Nat->Prop)(w:World):cr S w w.drew:=⟨rfl,rfl,rfl,wF _,fun _ _ _=>rfl⟩
def cr.freeze{S:Nat->Prop}(w:World)(p:Addr)(n:Nat)(h:S p.block):cr S w (w.drew.freeze p n):=by
 unfold World.freeze;split
 ·exact cr.drew S w
 ·exact⟨rfl,rfl,rfl,Te,fun k b a=>by
   simp[Array.getElem?_modify];rw[qW (fun e=>a (by rw[← e];exact h))];rfl⟩
def cr.drew_alloc(S:Nat->Prop)(w:World)(o:Obj):cr S w (w.drew.alloc o):=⟨rfl,rfl,rfl,Te,fun k a _=>Below.heap_alloc w.drew _ k a⟩
def Qk{G:Gh}:∀{l:List UInt8}{us:List Value},ao (l.flatMap Ty.byte.enc) G us->us=Lib.byteCells l
 |[],[],_=>rfl|c::l,u::us,⟨a,b⟩=>by
  have a:u = .int .u8 c.toNat:=a;rw[a,Qk (l:=l) b];rfl
 |[],_::_,h=>h.elim|_::_,[],h=>h.elim
section
variable{P:Program}{ρ:Ren}
set_option maxHeartbeats 2000000 in
def qs7(L:Lays.n169 P ρ)(X:Builder.Extra P ρ)(b:Nat)(p:Value)(l:List UInt8)(g c:Nat)(w:World)(q:w.heap[b]? = some (.cells #[p,.slice (some ⟨g,0,none⟩) l.length c] (ρ.t 72) (0,0)))
  (a:Array Value) (o:Nat×Nat) (s:w.heap[g]? = some (.cells a (ρ.t 5) o)) (t:l.length<=c) (h:c<=maxLen) (r:a.size=c*1) (d:a.toList.take (l.length*1)=Lib.byteCells l) (y:l≠[]) :
  Calls P (ρ.f 169) #[.pointer (some ⟨b,0,none⟩)] w fun e w'=>e = .returned (.string ⟨l.toArray⟩)/\cr (fun k=>k=g) w w':=by
 have n8:l.length≠0:=by simpa using y
 have c1:w.drew.cell? ⟨b,1,none⟩=some (.slice (some ⟨g,0,none⟩) l.length c):=by
  have:w.drew.heap[b]? = some (.cells #[p,.slice (some ⟨g,0,none⟩) l.length c] (ρ.t 72) (0,0)):=q;rw[Lib.cell_of_heap this];rfl
 have H:(Builtin.unsafeSliceData_ #[(ρ.t 37)] (ρ.t 127) #[.slice (some ⟨g,0,none⟩) l.length c]).run P w.drew = .ok (.pointer (some ⟨g,0,none⟩)) w.drew:=
  Lib.run_unsafeSliceData_row _ _ _ _ _ _ Ta
 have I:(Builtin.unsafeString_ #[(ρ.t 127),(ρ.t 3)] (ρ.t 9) #[.pointer (some ⟨g,0,none⟩),.int .i64 l.length]).run P w.drew = .ok (.string ⟨l.toArray⟩) (w.drew.freeze ⟨g,0,none⟩ l.length):=by
  refine Lib.run_unsafeString_row w.drew (ρ.t 127) (ρ.t 3) (ρ.t 9) (ρ.t 5) L.t127 X.cellsByte g a.size (by have f:w.drew.heap[g]? = some (.cells a (ρ.t 5) o):=s;simp[World.shape?,f]) l y Ta (by unfold maxLen at h;omega) ?_
  intro j x J;have n:(a.toList.take (l.length*1))[j]? = some (.int .u8 x.toNat):=by rw[d];simp[Lib.byteCells,J]
  have m:a[j]? = some (.int .u8 x.toNat):=by
   rw[List.getElem?_take]at n;split at n
   ·simpa using n
   ·cases n
  have f:w.drew.heap[g]? = some (.cells a (ρ.t 5) o):=s;by_cases i:j=0
  ·subst i;simp[World.cell?,Addr.add,f,m]
  ·simp[World.cell?,Addr.add,i,f,m]
 have u:=L.mixed;have N:=L.t72;have G:=L.a72;have Y:=L.z72;have U:=L.v72;have R:=run_underlying L.t72;have M:=L.t70;have F:=L.a70;have W:=L.z70;have T:=L.v70;have Q:=run_underlying L.t70;have K:=L.t37;have E:=L.a37;have V:=L.z37;have S:=L.v37;have O:=run_underlying L.t37;have z:=L.t127;have v:=L.a127;have C:=L.z127;have B:=L.v127;have A:=run_underlying L.t127;have t3:=L.t3;have Z:=L.a3;have z3:=L.z3;have v3:=L.v3;have u3:=run_underlying L.t3;have t9:=L.t9;have a9:=L.a9;have z9:=L.z9;have v9:=L.v9;have u9:=run_underlying L.t9;have t5:=X.t5;have a5:=X.a5;have z5:=X.z5;have v5:=X.v5;have u5:=run_underlying X.t5;clear r d t h s
 go_enter L.f169,Body.n169_ntmps ρ
 go_wp2
 go_region_o
 all_goals (go_wp2;go_ret;exact⟨rfl,cr.freeze w ⟨g,0,none⟩ _ rfl⟩)
set_option maxHeartbeats 2000000 in
def qs8(L:Lays.n169 P ρ)(X:Builder.Extra P ρ)(b:Nat)(p:Value)(w:World)(a:w.heap[b]? = some (.cells #[p,.slice none 0 0] (ρ.t 72) (0,0))) :
  Calls P (ρ.f 169) #[.pointer (some ⟨b,0,none⟩)] w fun e w'=>e = .returned (.string ⟨#[]⟩)/\cr (fun _=>False) w w':=by
 have n:=Any.unsafeString_none L X;have c1:w.drew.cell? ⟨b,1,none⟩=some (.slice none 0 0):=by
  have:w.drew.heap[b]? = some (.cells #[p,.slice none 0 0] (ρ.t 72) (0,0)):=a;rw[Lib.cell_of_heap this];rfl
 have m:(Builtin.unsafeSliceData_ #[(ρ.t 37)] (ρ.t 127) #[.slice none 0 0]).run P w.drew = .ok (.pointer none) w.drew:=rfl;have c:=L.mixed;have r:=L.t72;have l:=L.a72;have B:=L.z72;have y:=L.v72;have u:=run_underlying L.t72;have q:=L.t70;have k:=L.a70;have A:=L.z70;have x:=L.v70;have t:=run_underlying L.t70;have o:=L.t37;have j:=L.a37;have z:=L.z37;have v:=L.v37;have s:=run_underlying L.t37;have f:=L.t127;have d:=L.a127;have i:=L.z127;have h:=L.v127;have g:=run_underlying L.t127;have G:=L.t3;have C:=L.a3;have R:=L.z3;have N:=L.v3;have J:=run_underlying L.t3;have I:=L.t9;have F:=L.a9;have T:=L.z9;have Q:=L.v9;have M:=run_underlying L.t9;have H:=X.t5;have E:=X.a5;have S:=X.z5;have O:=X.v5;have K:=run_underlying X.t5
 go_enter L.f169,Body.n169_ntmps ρ
 go_wp2
 go_region_o
 all_goals (go_wp2;go_ret;exact⟨rfl,cr.drew _ w⟩)
set_option maxHeartbeats 2000000 in
def qs9(L:Lays.n169 P ρ)(X:Builder.Extra P ρ)(b g:Nat)(p:Value)(a:Array Value)(w:World)(c:w.heap[b]? = some (.cells #[p,.slice (some ⟨g,0,none⟩) 0 0] (ρ.t 72) (0,0)))(j:Nat×Nat)(u:w.heap[g]? = some (.cells a (ρ.t 5) j)) :
  Calls P (ρ.f 169) #[.pointer (some ⟨b,0,none⟩)] w fun e w'=>e = .returned (.string ⟨#[]⟩)/\cr (fun _=>False) w w':=by
 have t:=Any.unsafeString_none L X;have f:b<w.heap.size:=by
  rcases Nat.lt_or_ge b w.heap.size with h'|h'
  ·exact h'
  ·simp[Array.getElem?_eq_none h']at c
 have c1:w.drew.cell? ⟨b,1,none⟩=some (.slice (some ⟨g,0,none⟩) 0 0):=by
  have:w.drew.heap[b]? = some (.cells #[p,.slice (some ⟨g,0,none⟩) 0 0] (ρ.t 72) (0,0)):=c;rw[Lib.cell_of_heap this];rfl
 have s:(Builtin.unsafeSliceData_ #[(ρ.t 37)] (ρ.t 127) #[.slice (some ⟨g,0,none⟩) 0 0]).run P w.drew = .ok (.pointer (some ⟨w.drew.heap.size,0,none⟩)) (w.drew.alloc (.view ⟨g,0,none⟩ (ρ.t 5))):=
  Lib.run_unsafeSliceData_zero w.drew _ _ (ρ.t 5) L.t127 ⟨g,0,none⟩ 0 ((ρ.t 5),a.size) (by have d:w.drew.heap[g]? = some (.cells a (ρ.t 5) j):=u;simp[World.shape?,d])
 have c2:(w.drew.alloc (.view ⟨g,0,none⟩ (ρ.t 5))).cell? ⟨b,1,none⟩=some (.slice (some ⟨g,0,none⟩) 0 0):=by
  have:(w.drew.alloc (.view ⟨g,0,none⟩ (ρ.t 5))).heap[b]? = _:=(Lib.alloc_old w.drew _ b f).trans c;rw[Lib.cell_of_heap this];rfl
 have c3:(w.alloc (.view ⟨g,0,none⟩ (ρ.t 5))).drew.cell? ⟨b,1,none⟩=some (.slice (some ⟨g,0,none⟩) 0 0):=c2;have c0:w.cell? ⟨b,1,none⟩=some (.slice (some ⟨g,0,none⟩) 0 0):=c1;have h:=L.mixed;have y:=L.t72;have r:=L.a72;have I:=L.z72;have F:=L.v72;have B:=run_underlying L.t72;have x:=L.t70;have q:=L.a70;have H:=L.z70;have E:=L.v70;have A:=run_underlying L.t70;have v:=L.t37;have o:=L.a37;have G:=L.z37;have C:=L.v37;have z:=run_underlying L.t37;have k:=L.t127;have i:=L.a127;have n:=L.z127;have m:=L.v127;have l:=run_underlying L.t127;have N:=L.t3;have J:=L.a3;have Y:=L.z3;have U:=L.v3;have R:=run_underlying L.t3;have Q:=L.t9;have M:=L.a9;have z9:=L.z9;have W:=L.v9;have T:=run_underlying L.t9;have O:=X.t5;have K:=X.a5;have Z:=X.z5;have V:=X.v5;have S:=run_underlying X.t5
 go_enter L.f169,Body.n169_ntmps ρ
 go_wp2
 go_region_o
 all_goals (go_wp2;go_ret;exact⟨rfl,cr.drew_alloc _ w _⟩)
set_option maxHeartbeats 2000000 in
def qta(L:Lays.n169 P ρ)(X:Builder.Extra P ρ)(b g a:Nat)(p:Value)(w:World)(c:a≠0)(d:w.heap[b]? = some (.cells #[p,.slice (some ⟨g,0,none⟩) 0 a] (ρ.t 72) (0,0))) :
  Calls P (ρ.f 169) #[.pointer (some ⟨b,0,none⟩)] w fun e w'=>e = .returned (.string ⟨#[]⟩)/\cr (fun _=>False) w w':=by
 have r:=Any.unsafeString_none L X;have c1:w.drew.cell? ⟨b,1,none⟩=some (.slice (some ⟨g,0,none⟩) 0 a):=by
  have:w.drew.heap[b]? = some (.cells #[p,.slice (some ⟨g,0,none⟩) 0 a] (ρ.t 72) (0,0)):=d;rw[Lib.cell_of_heap this];rfl
 have q:(Builtin.unsafeSliceData_ #[(ρ.t 37)] (ρ.t 127) #[.slice (some ⟨g,0,none⟩) 0 a]).run P w.drew = .ok (.pointer (some ⟨g,0,none⟩)) w.drew:=
  Lib.run_unsafeSliceData_row _ _ _ _ _ _ c
 clear c;have f:=L.mixed;have u:=L.t72;have o:=L.a72;have F:=L.z72;have B:=L.v72;have y:=run_underlying L.t72;have t:=L.t70;have n:=L.a70;have E:=L.z70;have A:=L.v70;have x:=run_underlying L.t70;have s:=L.t37;have m:=L.a37;have C:=L.z37;have z:=L.v37;have v:=run_underlying L.t37;have i:=L.t127;have h:=L.a127;have l:=L.z127;have k:=L.v127;have j:=run_underlying L.t127;have J:=L.t3;have G:=L.a3;have U:=L.z3;have R:=L.v3;have N:=run_underlying L.t3;have M:=L.t9;have I:=L.a9;have W:=L.z9;have T:=L.v9;have Q:=run_underlying L.t9;have K:=X.t5;have H:=X.a5;have V:=X.z5;have S:=X.v5;have O:=run_underlying X.t5
 go_enter L.f169,Body.n169_ntmps ρ
 go_wp2
 go_region_o
 all_goals (go_wp2;go_ret;exact⟨rfl,cr.drew _ w⟩)
end
open Go.Proofs.Tryz
variable[LC]
def qi5{q:Nat}(w:World)(n:Nat)(v:Value):cr (fun k=>k=q) w (w.setCell ⟨q,n,none⟩ v):=
 ⟨rfl,rfl,rfl,by simp[World.setCell],fun k b a=>by simp only[World.setCell,Array.getElem?_modify];rw[qW (fun e=>a e.symm)]⟩
def cr.mono{S a:Nat->Prop}{w w':World}(h:cr S w w')(b:∀k,S k->a k):cr a w w':=⟨h.os,h.tape,h.output,h.size,fun k c d=>h.block k c fun q=>d (b k q)⟩
def Fin.same{q72 w:World}{q7w G:Gh}{q7z hp hp':List (Nat×ag)}(a:Fin q72 q7w q7z G hp' w)(h:∀n,af hp n=af hp' n):Fin q72 q7w q7z G hp w:=
 ⟨⟨a.mem.agree,a.mem.one,fun n bx d=>a.mem.holds n bx (by rw[← h];exact d),fun n m bx c b e f=>a.mem.apart n m bx c b (by rw[← h];exact e) (by rw[← h];exact f),a.mem.tab⟩,
  a.bel,a.imm_le,a.imm_new,fun n bx b d=>a.base n bx b (by rw[← h];exact d),a.keep,a.keepOwn⟩
abbrev JU:List (Nat×bu):=[(0,.cells [.pn 0,.own 1] 60),(1,.row .byte 5)]
def Ke:IF:=⟨.fn 62,[.ptr 0 0],JU,_,RS.mk (.tup []) JU⟩
def JS:IF:=⟨.fn 26,[.ptr 0 0],JU,_,RS.mk (.h .str) []⟩
abbrev D1(l:Bs):List (Nat×ag):=[(0,.cells [.pn 0,.own 1] 60),(1,.row .byte l 5)]
def Qj{G:Gh}{w:World}{l:Bs}{vs:List Value}(j:c8 G (D1 l) w)(s:ao [AV.ptr 0 0] G vs) :
  ∃B p ad c,vs=[.pointer (some ⟨B,0,none⟩)]/\G.box 0=some B/\G.own 1=some (ad,l.length,c)/\(p = .pointer none\/p = .pointer (some ⟨B,0,none⟩)) /\
   w.heap[B]? = some (.cells #[p,.slice ad l.length c] 60 (0,0))/\(∀o,G.imm B o=none):=by
 match vs,s with
 |[v],⟨⟨B,f,r⟩,_⟩=>
  obtain⟨B',e,b,g,t,_,u⟩:=j.holds 0 _ rfl;rw[f]at b;injection b with b;subst b
  match e,g,t with
  |⟨[]⟩,_,h=>exact h.elim|⟨[_]⟩,_,h=>exact h.2.elim|⟨_::_::_::_⟩,_,h=>exact h.2.2.elim|⟨[p,x]⟩,g,⟨⟨B2,d,y⟩,⟨a,n,c,i,z⟩,_⟩=>
   rw[f]at d;injection d with d;subst d
   obtain⟨m,q,k,_⟩:=j.holds 1 _ rfl;rw[k]at i;simp only[qI,qP]at i;obtain⟨rfl,rfl,rfl⟩:=i;subst z r;exact⟨B,p,m,q,rfl,f,k,y,g,u⟩
def Q2:(Ke.e bH).Sound Tryz.prog:=fun d k r h=>by
 obtain⟨u,l,_⟩:=k;have h:bH l=some r:=h;have h:=qJ h;subst h;refine⟨call62,?_⟩;show di _ _ [.ptr 0 0] (D1 l) (.tup []) (D1 l);intro w G x f s;obtain⟨B,p,g,c,rfl,b,m,o,a,i⟩:=Qj f s;rcases o with rfl|rfl
 ·refine(Any.Builder_copyCheck_fresh { Tryz.lays165 with } ToValid.bx.toX72 B w (by rw[Lib.cell_of_heap a];rfl) (by have q:w.shape? B=some (60,2):=by{ simp[World.shape?,a] };exact q) (Lib.frozen_of_heap a 0)).mono ?_
  rintro e t ⟨rfl,rfl⟩
  refine⟨_,G,rfl,?_,#[],rfl,trivial⟩;refine((y7 f).update (n:=0) (bx := .cells [.pn 0,.own 1] 60) (bx' := .cells [.pn 0,.own 1] 60) (B:=B) rfl b b (qi5 w 0 _) ?_ i).same (fun n => ?_)
  ·exact⟨B,#[.pointer (some ⟨B,0,none⟩),.slice g l.length c],b,by simp[World.setCell,Array.getElem?_modify,a];rfl,⟨⟨B,b,.inr rfl⟩,⟨g,l.length,c,m,rfl⟩,trivial⟩,by intro v j;simp at j;rcases j with rfl|rfl<;>rfl,i⟩
  ·cases n<;>rfl
 ·refine(Any.Builder_copyCheck_used { Tryz.lays165 with } ToValid.bx.toX72 B w (by rw[Lib.cell_of_heap a];rfl)).mono ?_
  rintro e t ⟨rfl,rfl⟩
  exact⟨_,G,rfl,y7 f,#[],rfl,trivial⟩
def Qd:(JS.e fI).Sound Tryz.prog:=fun d A r h=>by
 obtain⟨J,l,_⟩:=A;have h:fI l=some r:=h;have h:=qJ h;subst h;refine⟨call26,di.gone fun w G N j C => ?_⟩
 have j:c8 G (D1 l) w:=j;obtain⟨B,p,H,c,rfl,K,y,L,i,M⟩:=Qj j C;obtain⟨F,I,s,E⟩:=j.holds 1 _ rfl;rw[y]at s;simp only[qI,qP]at s;obtain⟨rfl,-,rfl⟩:=s;rcases E with⟨rfl,rfl,rfl⟩|⟨g,u,v,rfl,z,_,o,m,n,f,_,_⟩
 ·refine(qs8 Tryz.lays169 ToValid.bx B p w i).mono ?_;rintro e t ⟨rfl,a⟩
  exact⟨_,rfl,rfl,a.mono fun _ q=>q.elim⟩
 ·by_cases x:l=[]
  ·subst x;by_cases b:c=0
   ·subst b;refine(qs9 Tryz.lays169 ToValid.bx B g p u w i v z).mono ?_;rintro e t ⟨rfl,a⟩
    exact⟨_,rfl,rfl,a.mono fun _ q=>q.elim⟩
   ·refine(qta Tryz.lays169 ToValid.bx B g c p w b i).mono ?_;rintro e t ⟨rfl,a⟩
    exact⟨_,rfl,rfl,a.mono fun _ q=>q.elim⟩
  ·refine(qs7 Tryz.lays169 ToValid.bx B p l g c w i u v z o m n (Qk f) x).mono ?_;rintro e t ⟨rfl,a⟩
   refine⟨_,rfl,rfl,a.mono fun k q => ?_⟩
   subst q;exact⟨1,.row .byte l 5,rfl,by simp only[Gh.at,y]⟩
end Go.Sym
namespace Go.Sym
open Go.Proofs Go.RowKit
open Go.Proofs.Tryz
variable[LC]
def PV:Builder.Extra Tryz.prog Tryz.lays156_ren:=PU
def qod{G:Gh}{w:World}(A:c8 G [] w){l:List Bs}{u:Value}(a:Bs)(E:ai (.sl .str l) G u)(v:l.length<=140737488355328)(y:(Lib.join l a).length<=140737488355328) :
  Calls Tryz.prog 113 #[u,.string ⟨a.toArray⟩] w fun e w'=>e = .returned (.string ⟨(Lib.join l a).toArray⟩)/\d7 w w':=by
 obtain⟨p,c,rfl,z,B⟩:pu 1 (Ty.str.At G.imm) l u:=E;by_cases k:l=[]
 ·subst k;exact(Any.strings_Join_none Tryz.lays156 PV p c ⟨a.toArray⟩ w).mono fun e w'⟨i,n⟩=>⟨i,n▸d7.refl _⟩
 ·rcases B with h|⟨g,o,rfl,b⟩
  ·exact absurd h k
  have e:(l.map fun s:Bs=>(⟨s.toArray⟩:ByteArray)).map (·.data.toList)=l:=by
   rw[List.map_map];exact(List.map_congr_left fun s _=>rfl).trans (List.map_id l)
  have d:∀(j:Nat) x,(l.map fun s:Bs=>(⟨s.toArray⟩:ByteArray))[j]? = some x->w.cell? ⟨g,o+j,none⟩=some (.string x):=fun j x r=>by
   rw[List.getElem?_map]at r;obtain⟨s,C,rfl⟩:=Option.map_eq_some_iff.1 r;have q:G.imm g (o+j*1)=some (.string ⟨s.toArray⟩):=b j s C;rw[Nat.mul_one]at q;exact A.agree _ _ _ q
  have m:g<w.heap.size:=by
   obtain⟨x,t,rfl⟩:=List.exists_cons_of_ne_nil k;exact World.block_lt_of_cell? _ _ (d 0 ⟨x.toArray⟩ rfl)
  have f:=Any.strings_Join Tryz.lays156 PV g o c (l.map fun s:Bs=>(⟨s.toArray⟩:ByteArray)) ⟨a.toArray⟩ w d m (by rw[wC];exact v) (by rw[wC];exact z) (by rw[e];exact y)
  rw[e,wC]at f;exact f.mono fun e w'⟨i,n⟩=>⟨i,d7.of_below n⟩
def nP:IF:=⟨.fn 113,[.h (.list .str),.h .str],[],_,RS.mk (.h .str) []⟩
def zM:(nP.e kz).Sound Tryz.prog:=fun d o r h=>by
 obtain⟨l,s,_⟩:=d;have h:kz l s=some r:=h;unfold kz at h;cases b:decide (List.length (α:=Bs) l<=140737488355328/\List.length (Lib.join l s)<=140737488355328)<;>rw[b]at h<;>simp only[qT,qF,reduceCtorEq]at h
 have h:=qJ h;subst h;obtain⟨c,f⟩:=of_decide_eq_true b;refine⟨call113,di.data fun w G n j k => ?_⟩
 match n,k with
 |[u,v],⟨g,a,_⟩=>
  have a:v = .string ⟨s.toArray⟩:=a;subst a;exact(qod j s g c f).mono fun e p⟨i,m⟩=>⟨_,i,rfl,m⟩
def szl(a:Bs)(h:a.length<4294967281):(⟨a.toArray⟩:ByteArray).size<4294967281:=by rw[nj];exact h
def Mj:IF:=⟨.fn 179,[.h .str,.h .str],[],_,RS.mk (.h (.int .i64)) []⟩
def qbh(m:2∈LC.ints):(Mj.e vx).Sound Tryz.prog:=fun d q r h=>by
 obtain⟨a,b,_⟩:=d;have h:vx a b=some r:=h;unfold vx at h;cases c:decide (List.length (α:=UInt8) a<4294967281)<;>rw[c]at h<;>simp only[qT,qF,reduceCtorEq]at h
 have h:=qJ h;subst h;have c:=of_decide_eq_true c;refine⟨call179,di.data fun w G p j n => ?_⟩
 match p,n with
 |[u,v],⟨f,g,_⟩=>
  have f:u = .string ⟨a.toArray⟩:=f;have g:v = .string ⟨b.toArray⟩:=g;subst f g;obtain⟨k,i⟩:=j.tab.2.1 _ m;have i:=j.agree _ _ _ i;exact(Any.stringslite_Index Tryz.lays219 ⟨a.toArray⟩ ⟨b.toArray⟩ k w (szl a c) i).mono fun e s⟨l,o⟩=>⟨_,l,rfl,o▸d7.refl _⟩
def qk8(s:Bs):Lib.decodeGo ⟨s.toArray⟩=mV s:=by
 unfold Lib.decodeGo mV
 cases s with|nil=>rfl|cons c s=>rw[qW (by simp[ByteArray.size]),qW,← Lib.decodeL_drop];rfl
def qk9{G:Gh}{w:World}(i:c8 G [] w){a:List UInt8}{b:List TU}(f:LC.glob 0=some ⟨.byte,a⟩)(g:LC.glob 1=some ⟨.prod .byte .byte,b⟩)(c:mM a=true)(d:mN b=true)(s:Bs) :
  Calls Tryz.prog 207 #[.string ⟨s.toArray⟩] w fun e w'=>e = .returned (.tuple #[.int .i32 (mV s).1,.int .i64 (mV s).2])/\d7 w w':=by
 have k:=ToValid.decC ⟨s.toArray⟩ w (qcu i f g c d);rw[qk8]at k;exact k.mono fun e w'⟨h,j⟩=>⟨h,d7.of_below j⟩
def mW:IF:=⟨.fn 207,[.h .str],[],_,RS.mk (.tup [.h (.int .i32),.h (.int .i64)]) []⟩
def yM{b:List UInt8}{c:List TU}(i:LC.glob 0=some ⟨.byte,b⟩)(j:LC.glob 1=some ⟨.prod .byte .byte,c⟩)(f:mM b=true)(g:mN c=true):(mW.e oq).Sound Tryz.prog:=fun d p r h=>by
 obtain⟨s,_⟩:=d;have h:oq s=some r:=h;unfold oq at h;have h:=qJ h;subst h;refine⟨call207,di.data fun w G o l m => ?_⟩
 match o,m with
 |[u],⟨a,_⟩=>
  have a:u = .string ⟨s.toArray⟩:=a;subst a;exact(qk9 l i j f g s).mono fun e q⟨k,n⟩=>⟨_,k,⟨_,rfl,rfl,rfl,trivial⟩,n⟩
end Go.Sym
namespace Go.Sym
open Go.Proofs Go.RowKit Go.Sort
open Go.Proofs.Tryz
variable[LC]
def JF:IF:=⟨.fn 151,[.h .str],[],_,.two (RS.mk (.tup [.h (.int .i64),.c .nilIface]) []) (RS.mk (.tup [.h (.int .i64),.ifc 270 .u]) [])⟩
def PQ(q:4∈LC.ifs)(x:5∈LC.ifs):(JF.e fH).Sound Tryz.prog:=fun d C r h=>by
 obtain⟨s,_⟩:=d;have h:fH s=some r:=h;unfold fH at h;cases o:decide (List.length (α:=UInt8) s<=281474976710656)<;>rw[o]at h<;>simp only[qT,qF,reduceCtorEq]at h
 have E:List.length (α:=UInt8) s<=281474976710656:=of_decide_eq_true o;have h:=qJ h;subst h;have z:(⟨List.toArray (α:=UInt8) s⟩:ByteArray).size=List.length (α:=UInt8) s:=nj s;have b:(⟨List.toArray (α:=UInt8) s⟩:ByteArray).data.toList=s:=by simp;rfl
 cases c:Lib.atoiAll s with
 |ok v=>
  have g:gD s = .inl v:=by unfold gD;rw[c]
  rw[g];refine⟨call151,di.data fun w G m f k => ?_⟩
  match m,k with
  |[u],⟨a,_⟩=>
   have a:u = .string ⟨List.toArray s⟩:=a;subst a;refine(Any.strconv_Atoi_ok Tryz.laysC172 ⟨List.toArray (α:=UInt8) s⟩ Ta v (by rw[b];exact c) w).mono fun e p⟨i,l⟩=>⟨_,i,⟨_,rfl,rfl,rfl,trivial⟩,?_⟩
   rcases l with rfl|⟨t,rfl⟩
   ·exact d7.refl _
   ·refine⟨rfl,rfl,rfl,?_,fun j y _ => ?_⟩
    ·simp[Lib.bytesWorld,World.freeze]
    ·show((w.heap.push _).modify w.heap.size _)[j]? = _;rw[Array.getElem?_modify,qW,Array.getElem?_push_lt Ta]
     exact(Array.getElem?_eq_getElem y).symm
 |range=>
  have g:gD s = .inr (Lib.atoiSat s):=by unfold gD;rw[c]
  rw[g];refine⟨call151,di.data fun w G m f k => ?_⟩
  match m,k with
  |[u],⟨a,_⟩=>
   have a:u = .string ⟨List.toArray s⟩:=a;subst a;obtain⟨B,A,n⟩:=f.tab.2.2.1 _ x;exact(Any.strconv_Atoi_range Tryz.laysC172 ⟨List.toArray (α:=UInt8) s⟩ Ta (by rw[b];exact c) _ w (f.agree _ _ _ n) (.inr ⟨_,_,rfl⟩)).mono fun e p⟨N,i,_,_,l⟩=>⟨_,i,⟨_,rfl,by rw[b];rfl,⟨_,rfl,trivial⟩,trivial⟩,d7.of_below l⟩
 |_=>
  have g:gD s = .inr 0:=by unfold gD;rw[c]
  rw[g];refine⟨call151,di.data fun w G m f k => ?_⟩
  match m,k with
  |[u],⟨a,_⟩=>
   have a:u = .string ⟨List.toArray s⟩:=a;subst a;obtain⟨B,A,n⟩:=f.tab.2.2.1 _ q;exact(Any.strconv_Atoi_syntax Tryz.laysC172 ⟨List.toArray (α:=UInt8) s⟩ Ta (by rw[b];exact c) _ w (f.agree _ _ _ n) (.inr ⟨_,_,rfl⟩)).mono fun e p⟨N,i,_,_,l⟩=>⟨_,i,⟨_,rfl,rfl,⟨_,rfl,trivial⟩,trivial⟩,d7.of_below l⟩
end Go.Sym
namespace Go.Proofs
open Go.Sym(Tc)
open Go.Shelf
def Tryz.lays189_ren:Go.Shelf.Ren:=⟨fun|189=>82|125=>145|257=>144|128=>204|129=>205|294=>196|295=>197|296=>198|297=>199|298=>200|299=>201|216=>158|300=>202|301=>203|328=>247|329=>248|330=>249|331=>250|332=>251|215=>215|343=>298|n=>n,fun|28=>33|3=>3|46=>173|0=>0|51=>207|53=>129|4=>4|183=>236|182=>235|131=>140|5=>5|9=>9|218=>261|222=>265|228=>309|229=>126|n=>n,fun|n=>n⟩
def Tryz.lays189:Go.Proofs.Lays.n189 Tryz.prog Tryz.lays189_ren:={
 mixed:=Tc
 f125:=Tryz.func145.trans (congrArg some Tc)
 f128:=Tryz.func204.trans (congrArg some Tc)
 f129:=Tryz.func205.trans (congrArg some Tc)
 f189:=Tryz.func82.trans (congrArg some Tc)
 f215:=Tryz.func215.trans (congrArg some Tc)
 f216:=Tryz.func158.trans (congrArg some Tc)
 f257:=Tryz.func144.trans (congrArg some Tc)
 f294:=Tryz.func196.trans (congrArg some Tc)
 f295:=Tryz.func197.trans (congrArg some Tc)
 f296:=Tryz.func198.trans (congrArg some Tc)
 f297:=Tryz.func199.trans (congrArg some Tc)
 f298:=Tryz.func200.trans (congrArg some Tc)
 f299:=Tryz.func201.trans (congrArg some Tc)
 f300:=Tryz.func202.trans (congrArg some Tc)
 f301:=Tryz.func203.trans (congrArg some Tc)
 f328:=Tryz.func247.trans (congrArg some Tc)
 f329:=Tryz.func248.trans (congrArg some Tc)
 f330:=Tryz.func249.trans (congrArg some Tc)
 f331:=Tryz.func250.trans (congrArg some Tc)
 f332:=Tryz.func251.trans (congrArg some Tc)
 f343:=Tryz.func298.trans (congrArg some Tc)
 t0:=Tryz.underlying0
 a0:=Tryz.isAgg0
 z0:=Tryz.sizeOf0
 v0:=Tryz.zeroValue0
 t3:=Tryz.underlying3
 a3:=Tryz.isAgg3
 z3:=Tryz.sizeOf3
 v3:=Tryz.zeroValue3
 t4:=Tryz.underlying4
 a4:=Tryz.isAgg4
 z4:=Tryz.sizeOf4
 v4:=Tryz.zeroValue4
 t5:=Tryz.underlying5
 a5:=Tryz.isAgg5
 z5:=Tryz.sizeOf5
 v5:=Tryz.zeroValue5
 t9:=Tryz.underlying9
 a9:=Tryz.isAgg9
 z9:=Tryz.sizeOf9
 v9:=Tryz.zeroValue9
 t28:=Tryz.underlying33
 a28:=Tryz.isAgg33
 z28:=Tryz.sizeOf33
 v28:=Tryz.zeroValue33
 t46:=Tryz.underlying173
 a46:=Tryz.isAgg173
 z46:=Tryz.sizeOf173
 v46:=Tryz.zeroValue173
 t51:=Tryz.underlying207
 a51:=Tryz.isAgg207
 z51:=Tryz.sizeOf207
 v51:=Tryz.zeroValue207
 t53:=Tryz.underlying129
 a53:=Tryz.isAgg129
 z53:=Tryz.sizeOf129
 v53:=Tryz.zeroValue129
 t131:=Tryz.underlying140
 a131:=Tryz.isAgg140
 z131:=Tryz.sizeOf140
 v131:=Tryz.zeroValue140
 t182:=Tryz.underlying235
 a182:=Tryz.isAgg235
 z182:=Tryz.sizeOf235
 v182:=Tryz.zeroValue235
 t183:=Tryz.underlying236
 a183:=Tryz.isAgg236
 z183:=Tryz.sizeOf236
 v183:=Tryz.zeroValue236
 t218:=Tryz.underlying261
 a218:=Tryz.isAgg261
 z218:=Tryz.sizeOf261
 v218:=Tryz.zeroValue261
 t222:=Tryz.underlying265
 a222:=Tryz.isAgg265
 z222:=Tryz.sizeOf265
 v222:=Tryz.zeroValue265
 t228:=Tryz.underlying309
 a228:=Tryz.isAgg309
 z228:=Tryz.sizeOf309
 v228:=Tryz.zeroValue309
 t229:=Tryz.underlying126
 a229:=Tryz.isAgg126
 z229:=Tryz.sizeOf126
 v229:=Tryz.zeroValue126 }
def Tryz.laysNm220_ren:Go.Shelf.Ren:=⟨fun|20=>103|n=>n,fun|22=>33|3=>3|4=>4|0=>0|n=>n,fun|n=>n⟩
def Tryz.laysNm220:Go.Proofs.Lays2.n20 Tryz.prog Tryz.laysNm220_ren:={
 mixed:=Tc
 f20:=Tryz.func103.trans (congrArg some Tc)
 t0:=Tryz.underlying0
 a0:=Tryz.isAgg0
 z0:=Tryz.sizeOf0
 v0:=Tryz.zeroValue0
 t3:=Tryz.underlying3
 a3:=Tryz.isAgg3
 z3:=Tryz.sizeOf3
 v3:=Tryz.zeroValue3
 t4:=Tryz.underlying4
 a4:=Tryz.isAgg4
 z4:=Tryz.sizeOf4
 v4:=Tryz.zeroValue4
 t22:=Tryz.underlying33
 a22:=Tryz.isAgg33
 z22:=Tryz.sizeOf33
 v22:=Tryz.zeroValue33
 i3:=by kernel_rfl }
end Go.Proofs
namespace Go.Sym
open Go.RowKit
def dv.cv{L c:LC}(h:LC.Same L c){G:Gh}{w:World}{n:Nat}{bx:ag}(k:@dv L G w n bx):@dv c G w n bx:=by
 cases bx with
 |loop s q f m p r o D=>
  obtain⟨B,a,DB,e,g,⟨b,d,i,j⟩,l⟩:=k;exact⟨B,a,DB,e,g,⟨b,d,by rw[h.lc];exact i,j⟩,l⟩
 |_=>exact k
def LC.tab_cv{L a:LC}(h:LC.Same L a){m:Nat->Nat->Option Value}{w:World}(k:@LC.tab L m w):@LC.tab a m w:=by
 unfold LC.tab at k ⊢;rw[h.glob,h.ints,h.ifs,h.sizes];exact k
def c8.cv{L a:LC}(h:LC.Same L a){G:Gh}{hp:List (Nat×ag)}{w:World}(k:@c8 L G hp w):@c8 a G hp w:=
 @c8.mk a _ _ _ (@c8.agree L _ _ _ k) (@c8.one L _ _ _ k) (fun n bx b=>dv.cv h (@c8.holds L _ _ _ k n bx b)) (@c8.apart L _ _ _ k) (LC.tab_cv h (@c8.tab L _ _ _ k))
def Fin.cv{L a:LC}(h:LC.Same L a){q72:World}{q7w:Gh}{q7z:List (Nat×ag)}{G:Gh}{hp:List (Nat×ag)}{w:World}(k:@Fin L q72 q7w q7z G hp w):@Fin a q72 q7w q7z G hp w:=
 @Fin.mk a _ _ _ _ _ _ (c8.cv h (@Fin.mem L _ _ _ _ _ _ k)) (@Fin.bel L _ _ _ _ _ _ k) (@Fin.imm_le L _ _ _ _ _ _ k) (@Fin.imm_new L _ _ _ _ _ _ k) (@Fin.base L _ _ _ _ _ _ k) (@Fin.keep L _ _ _ _ _ _ k) (@Fin.keepOwn L _ _ _ _ _ _ k)
def LC.Same.symm{L a:LC}(h:LC.Same L a):LC.Same a L:=⟨h.lc.symm,h.glob.symm,h.ints.symm,h.ifs.symm,h.sizes.symm⟩
def ny.cv{L a:LC}(h:LC.Same L a){q72:World}{q7w:Gh}{q7z:List (Nat×ag)}{r:AV}{hp:List (Nat×ag)}{e:Ending}{w:World}(k:@ny L q72 q7w q7z r hp e w):@ny a q72 q7w q7z r hp e w:=by
 obtain⟨v,G,b,c,d⟩:=k;exact⟨v,G,b,Fin.cv h c,d⟩
def di.cv{L a:LC}(h:LC.Same L a){P:Program}{f:FuncId}{xs:List AV}{hp:List (Nat×ag)}{r:AV}{hp':List (Nat×ag)}(k:@di L P f xs hp r hp'):@di a P f xs hp r hp':=
 fun w G d b c=>(k w G d (c8.cv h.symm b) c).mono fun _ _ q=>ny.cv h q
def dc.Sound.cv{L n:LC}(h:LC.Same L n){P:Program}{e:dc}(k:@dc.Sound L P e):@dc.Sound n P e:=by
 intro d p r z;have:=k d p r z
 cases j:e.key with
 |fn f=>rw[j]at this;exact⟨this.1,di.cv h this.2⟩|yld m=>
  rw[j]at this;intro w G i B g a y;obtain⟨lp,q,b⟩:=this w G i B (c8.cv h.symm g) a y;exact⟨lp,q,fun c o=>by
   obtain⟨s,v,E,t,u⟩:=b c o;exact⟨s,v,E,ny.cv h t,u⟩⟩
 |ext f=>rw[j]at this;exact fun w G i g a=>this w G i (c8.cv h.symm g) a
 |thr f F=>
  rw[j]at this;refine⟨this.1,?_⟩;have b:=this.2
  cases g:n9 (e.out.res r).1 with
  |none=>rw[g]at b;exact di.cv h b|some x=>
   rw[g]at b;exact fun w G i l a=>(b w G i (c8.cv h.symm l) a).mono fun _ _⟨A,G',C⟩=>⟨A,G',Fin.cv h C⟩
def EP.cv{L a:LC}{P:Program}(x:@EP L P)(h:LC.Same L a:=by exact⟨rfl,rfl,rfl,rfl,rfl⟩):@EP a P:=@EP.mk a P (@EP.e L P x) (dc.Sound.cv h (@EP.h L P x))
end Go.Sym
namespace Go.Proofs
open Go.Shelf
open Go.Sort Go.RowKit in
def Tryz.slices_Sort_int(a b c:Nat)(f:List Int)(w:World)(h:Holds (Value.int .i64) w a b f.toArray)(d:a<w.heap.size)(g:f.length<4611686018427387904) :
  Calls Tryz.prog 82 #[.slice (some ⟨a,b,none⟩) f.length c] w fun e w'=>
   e = .returned (.tuple #[])/\∃n i,w'=grow (putRow (Value.int .i64) (Sort.ahead w n) a b (f.mergeSort fun x y=>decide (x<=y)).toArray) i:=Any.slices_Sort_int Tryz.lays189 a b c f w h d g
def Tryz.slices_Sort_int_none(p:Option Addr)(a:Nat)(w:World) :
  Calls Tryz.prog 82 #[.slice p 0 a] w fun e w'=>e = .returned (.tuple #[])/\w'=w:=Any.slices_Sort_int_none Tryz.lays189 p a w
open Go.RowKit Go.Lib Go.Sort in
def Tryz.slices_Compact_int(a b c:Nat)(d:List Int)(w:World)(h:Holds (Value.int .i64) w a b d.toArray)(g:d.length<=9223372036854775807)(f:d.length<=c) :
  Calls Tryz.prog 103 #[.slice (some ⟨a,b,none⟩) d.length c] w fun e w'=>e = .returned (.slice (some ⟨a,b,none⟩) (Lib.compact d).length c)/\∃q,w'=putRow (Value.int .i64) (Sort.ahead w q) a b (Lib.compact d++List.replicate (d.length-(Lib.compact d).length) 0).toArray:=Any.slices_Compact_int Tryz.laysNm220 a b c d w h g f
open Go.RowKit Go.Lib Go.Sort in
def Tryz.slices_Compact_int_empty(a:Option Addr)(b:Nat)(w:World) :
  Calls Tryz.prog 103 #[.slice a 0 b] w fun e w'=>e = .returned (.slice a 0 b)/\w'=w:=Any.slices_Compact_int_empty Tryz.laysNm220 a b w
end Go.Proofs
namespace Go.Sym
open Go.Proofs Go.Sort Go.RowKit
open Go.Proofs.Tryz
variable[LC]
def di.inPlace{P:Program}{f:FuncId}{τ:Ty}{l l':List τ.den}{E:TypeId}(O:l'.length=l.length)(h:∀(w:World)(G:Gh)(ad:Option Addr)(c:Nat)(us:List Value),ld w E τ.sz ad l.length c us->ao (l.flatMap τ.enc) G.data us ->
  Calls P f #[.slice ad l.length c] w fun e w'=>e = .returned (.tuple #[])/\∃z,ld w' E τ.sz ad l.length c z/\ao (l'.flatMap τ.enc) G.data z/\cr (fun b=>eu ad=some b) w w') :
  di P f [.own 0] [(0,.row τ l E)] (.tup []) [(0,.row τ l' E)]:=by
 intro w G W F d;have S:af [(0,ag.row τ l E)] 0=some (.row τ l E):=rfl;obtain⟨ad,c,us,q,C,I,Q⟩:=(F.holds 0 _ S).rowAt
 match W,d with
 |[v],d=>
  obtain⟨⟨X,Z,Y,N,rfl⟩,_⟩:=d;rw[q]at N;simp only[qI,qP]at N;obtain⟨rfl,rfl,rfl⟩:=N;refine(h w G ad c us C I).mono ?_;rintro e w' ⟨rfl,z,U,V,s⟩
  refine⟨_,G,rfl,?_,#[],rfl,trivial⟩;have r:=y7 F;have y:dv G w' 0 (.row τ l' E):=dv.row (by rw[O];exact q) (by rw[O];exact U) V (fun b x=>Q b x)
  cases p:eu ad with
  |none=>
   have A:d7 w w':=⟨s.os,s.tape,s.output,s.size,fun k J _=>s.block k J (fun e=>by rw[p]at e;cases e)⟩
   have g:=r.extend (new:=[]) (Gh.le.refl G) A (fun _ _ _ h => .inl h) (fun b o v T=>by
    have R:=F.agree b o v T;have K:=World.block_lt_of_cell? _ _ R;rw[World.cell?_of_block (w:=w) (A.block b K (fun h=>h))];exact R) F.one (fun n bx h=>by cases h) (fun n bx h=>by cases h) (fun n m bx bx' b h=>by cases h)
   have i:∀m b,af [(0,ag.row τ l' E)] m=some b->m=0/\b = .row τ l' E:=fun m b j=>by
    simp only[af]at j;cases x:Nat.beq 0 m
    ·rw[x]at j;cases j
    ·rw[x]at j;simp only[qT,qI]at j;exact⟨(qN x).symm,j.symm⟩
   have t:G.at 0 (.row τ l' E)=none:=by
    simp only[Gh.at,q]
    cases ad with|none=>rfl|some a=>cases p
   refine⟨⟨g.mem.agree,g.mem.one,fun m b j => ?_,fun m M b H c q u C _ => ?_,g.mem.tab⟩,g.bel,g.imm_le,g.imm_new,fun m b c q u => ?_,g.keep,g.keepOwn⟩
   ·obtain⟨rfl,rfl⟩:=i m b j;exact y
   ·obtain⟨rfl,_⟩:=i m b q;obtain⟨rfl,_⟩:=i M H u;rfl
   ·obtain⟨rfl,rfl⟩:=i m b q;rw[t]at u;cases u
  |some B=>
   have t:∀l:List τ.den,G.at 0 (.row τ l E)=some B:=fun l=>by
    simp only[Gh.at,q]
    cases ad with
    |none=>cases p
    |some a=>exact p
   have g:=r.update (bx' := .row τ l' E) S (t l) (t l') ⟨s.os,s.tape,s.output,s.size,fun k J L=>s.block k J (fun e=>by rw[p]at e;injection e with e;exact L e.symm)⟩ y (Q B p)
   have i:∀m b,af [(0,ag.row τ l' E)] m=some b->af (xf [(0,ag.row τ l E)] 0 (.row τ l' E)) m=some b:=fun m b j=>by
    simp only[af]at j;simp only[xf,af];cases x:Nat.beq 0 m
    ·rw[x]at j;cases j
    ·rw[x]at j;exact j
   exact⟨⟨g.mem.agree,g.mem.one,fun m b j=>g.mem.holds m b (i m b j),fun m M b H c q u C I=>g.mem.apart m M b H c (i _ _ q) (i _ _ u) C I,g.mem.tab⟩,g.bel,g.imm_le,g.imm_new,fun m b c q u=>g.base m b c (i _ _ q) u,g.keep,g.keepOwn⟩
 |[],d=>exact d.elim|_::_::_,d=>exact d.2.elim
def qqr(w:World)(n g:Nat)(d:Array Int)(a:Array Obj)(k:Nat)(b:k<w.heap.size)(c:k≠g):(grow (putRow (Value.int .i64) (Sort.ahead w n) g 0 d) a).heap[k]? = w.heap[k]? := by
 show((w.heap.modify g (onCells (putCells (Value.int .i64) 0 d)))++a)[k]? = _;rw[Array.getElem?_append_left (by simpa using b),Array.getElem?_modify,qW]
def qqs(w:World)(n g:Nat)(d:Array Int)(c:Array Obj){a:Array Value}{e:TypeId}{fr:Nat×Nat}(b:w.heap[g]? = some (.cells a e fr)) :
  (grow (putRow (Value.int .i64) (Sort.ahead w n) g 0 d) c).heap[g]? = some (.cells (putCells (Value.int .i64) 0 d a) e fr):=by
 have f:g<w.heap.size:=(Array.getElem?_eq_some_iff.1 b).1;show((w.heap.modify g (onCells (putCells (Value.int .i64) 0 d)))++c)[g]? = _;rw[Array.getElem?_append_left (by simpa using f),Array.getElem?_modify,qX rfl,b]
 rfl
def SU(b:List Int)(a:Array Value)(h:b.length<=a.size):(putCells (Value.int .i64) 0 b.toArray a).toList.take b.length=b.map (Value.int .i64):=by
 apply List.ext_getElem?;intro j;rw[List.getElem?_take,List.getElem?_map];by_cases c:j<b.length
 ·rw[qX c,Array.getElem?_toList];unfold putCells;rw[Array.getElem?_mapIdx,Array.getElem?_eq_getElem Ta]
  simp[c]
 ·rw[qW c,List.getElem?_eq_none Ta];rfl
def qqt(w:World)(n g:Nat)(d:Array Int)(a:Array Obj):w.heap.size<=(grow (putRow (Value.int .i64) (Sort.ahead w n) g 0 d) a).heap.size:=by
 show w.heap.size<=((w.heap.modify g (onCells (putCells (Value.int .i64) 0 d)))++a).size;simp
def ST(c:List Int)(a:Array Value)(v:Value)(b:v∈(putCells (Value.int .i64) 0 c.toArray a).toList):v∈a.toList\/∃n,v = .int .i64 n:=by
 unfold putCells at b;rw[Array.mem_toList_iff,Array.mem_mapIdx]at b;obtain⟨j,d,rfl⟩:=b;split
 ·exact .inr ⟨_,rfl⟩
 ·exact .inl Te
def K9:∀(l:List Int),List.flatMap (β:=AV) (Ty.int .i64).enc l=l.map (AV.int .i64)
 |[]=>rfl|c::b=>congrArg (AV.int .i64 c::·) (K9 b)
def LT{G:Gh}:∀{l:List Int}{us:List Value},ao (l.map (AV.int .i64)) G us->us=l.map (Value.int .i64)
 |[],[],_=>rfl|c::b,u::us,h=>by
  have a:u = .int .i64 c:=h.1;rw[List.map_cons,← LT h.2,a]
 |[],_::_,h=>h.elim|_::_,[],h=>h.elim
def LU{G:Gh}:∀(l:List Int),ao (l.map (AV.int .i64)) G (l.map (Value.int .i64))|[]=>trivial|_::b=>⟨rfl,LU b⟩
def qbj(l:List Int):(ei l).length=l.length:=List.length_mergeSort l
def Rp{w:World}{g c:Nat}{vs:Array Value}{b:Nat×Nat}{E:TypeId}{l:List Int}{us:List Value}(e:w.heap[g]? = some (.cells vs E b))(f:b=(0,0)\/vs.size<=b.1)(n:l.length<=c)(o:vs.size=c)(i:vs.toList.take l.length=us)(d:us=l.map (Value.int .i64)):Holds (Value.int .i64) w g 0 l.toArray:=by
 intro j k;have a:j<l.length:=by simpa using k
 have m:j<vs.size:=Ta
 refine⟨?_,?_⟩
 ·have h:(vs.toList.take l.length)[j]? = some (.int .i64 l[j]):=by
   rw[i,d,List.getElem?_map,List.getElem?_eq_getElem a];rfl
  rw[List.getElem?_take,qX a]at h;simp only[World.cell?,e,wO];simpa [a] using h
 ·simp only[World.frozen?,e];rcases f with rfl|f
  ·simp
  ·simp;omega
def q7u(l:List Int)(E:l.length<=ax):di Tryz.prog 82 [.own 0] [(0,.row (.int .i64) l 3)] (.tup []) [(0,.row (.int .i64) (ei l) 3)]:=by
 unfold ax at E;refine di.inPlace (τ := .int .i64) (l:=l) (l':=ei l) (qbj l) (fun w G K c B b a => ?_)
 rw[K9]at a ⊢;have f:=LT a;obtain⟨p,b⟩:=b;rcases b with⟨rfl,i,rfl⟩|⟨g,j,y,rfl,i,r,q,z,s,t,A⟩
 ·have o:l=[]:=List.eq_nil_of_length_eq_zero i;subst o;refine(Tryz.slices_Sort_int_none none 0 w).mono ?_;rintro e C ⟨rfl,rfl⟩
  exact⟨rfl,B,⟨p,.inl ⟨rfl,rfl,rfl⟩⟩,by rw[f];simp[ei,ao],⟨rfl,rfl,rfl,wF _,fun _ _ _=>rfl⟩⟩
 ·by_cases d:l=[]
  ·subst d;refine(Tryz.slices_Sort_int_none (some ⟨g,0,none⟩) c w).mono ?_;rintro e C ⟨rfl,rfl⟩
   exact⟨rfl,B,⟨p,.inr ⟨g,j,y,rfl,i,r,q,z,s,t,A⟩⟩,by rw[f];simp[ei,ao],⟨rfl,rfl,rfl,wF _,fun _ _ _=>rfl⟩⟩
  ·have u:g<w.heap.size:=(Array.getElem?_eq_some_iff.1 i).1;simp only[Ty.sz,Nat.mul_one]at s t;have H:=Rp i r q s t f;refine(Tryz.slices_Sort_int g 0 c l w H u Ta).mono ?_
   rintro e C ⟨rfl,n,x,rfl⟩
   have o:=qbj l;refine⟨rfl,(ei l).map (Value.int .i64),⟨by show((ei l).map (Value.int .i64)).length=List.length (α:=Int) l*1;rw[wC,o,Nat.mul_one],.inr ⟨g,putCells (Value.int .i64) 0 (ei l).toArray j,y,rfl,qqs w n g _ x i,?_,q,z,?_,?_,?_⟩⟩,LU _,⟨rfl,rfl,rfl,qqt w n g _ x,fun k I d=>qqr w n g _ x k I (fun e=>d (by subst e;rfl))⟩⟩
   ·have:(putCells (Value.int .i64) 0 (ei l).toArray j).size=j.size:=by unfold putCells;rw[Array.size_mapIdx]
    rw[this];exact r
   ·unfold putCells;rw[Array.size_mapIdx];show j.size=c*1;omega
   ·show List.take (List.length (α:=Int) l*1) _=_;rw[Nat.mul_one,← o];exact SU _ j (by rw[o];have F:List.length (α:=Int) l<=c:=q;omega)
   ·intro v J;rcases ST _ _ _ J with h|⟨m,rfl⟩
    ·exact A v h
    ·rfl
def I0(r:TD->Option Jj):dc:={ key := .fn 82,args:=[.own 0],hp:=[(0,.row (.int .i64) 3)],R:=Jj,F:=fun _ a=>r a.1,out := .one (α:=List Int) (.tup []) [(0,.row (.int .i64) 3)] (fun r=>((),(r,()))) (fun y=>y.2.1) (fun _=>rfl) }
def OG:(I0 tn).Sound Tryz.prog:=fun d a r h=>by
 refine⟨call82,?_⟩;have h:(bif decide (List.length (α:=Int) a.1<=ax) then some (ei a.1) else none)=some r:=h
 cases b:decide (List.length (α:=Int) a.1<=ax)<;>rw[b]at h
 ·cases h
 have h:=qJ h;subst h;exact q7u a.1 (of_decide_eq_true b)
def qkp(l:List Int):(li l).length<=l.length:=by
 unfold li Lib.compact Lib.compactUpTo;rw[wC];exact Nat.le_trans (List.length_filter_le _ _) Te
def Fin.sub{q72:World}{q7w:Gh}{q7z:List (Nat×ag)}{G:Gh}{hp l:List (Nat×ag)}{w:World}(a:Fin q72 q7w q7z G hp w)(h:∀m b,af l m=some b->af hp m=some b):Fin q72 q7w q7z G l w:=
 ⟨⟨a.mem.agree,a.mem.one,fun m b j=>a.mem.holds m b (h m b j),fun m k b f c d e g i=>a.mem.apart m k b f c (h _ _ d) (h _ _ e) g i,a.mem.tab⟩,a.bel,a.imm_le,a.imm_new,fun m b c d e=>a.base m b c (h _ _ d) e,a.keep,a.keepOwn⟩
def di.shorter{P:Program}{f:FuncId}{τ:Ty}{l l':List τ.den}{E:TypeId}(h:∀(w:World)(G:Gh)(ad:Option Addr)(c:Nat)(us:List Value),ld w E τ.sz ad l.length c us->ao (l.flatMap τ.enc) G.data us ->
  Calls P f #[.slice ad l.length c] w fun e w'=>e = .returned (.slice ad l'.length c)/\∃i,ld w' E τ.sz ad l'.length c i/\ao (l'.flatMap τ.enc) G.data i/\cr (fun b=>eu ad=some b) w w') :
  di P f [.own 0] [(0,.row τ l E)] (.own 1) [(0,.dead),(1,.row τ l' E)]:=by
 intro w G I B a;have u:af [(0,ag.row τ l E)] 0=some (.row τ l E):=rfl;have r:∀m b,af [(0,ag.row τ l E)] m=some b->m=0/\b = .row τ l E:=fun m b d=>by
  simp only[af]at d;cases g:Nat.beq 0 m
  ·rw[g]at d;cases d
  ·rw[g]at d;simp only[qT,qI]at d;exact⟨(qN g).symm,d.symm⟩
 have o:∀n b,af [(0,ag.row τ l E)] n=some b->bf [(0,0)] n=some n/\fk (bf [(0,0)]) b=b:=fun n b d=>by
  obtain⟨rfl,rfl⟩:=r n b d;exact⟨rfl,rfl⟩
 have p:=B.only o;obtain⟨ad,c,us,t,x,y,z⟩:=(p.holds 0 _ u).rowAt;have q:G.own 0=some (ad,l.length,c):=t
 match I,a with
 |[v],a=>
  obtain⟨⟨J,L,K,s,rfl⟩,_⟩:=a;rw[q]at s;simp only[qI,qP]at s;obtain⟨rfl,rfl,rfl⟩:=s;refine(h w (G.view [(0,0)]) ad c us x y).mono ?_;rintro e w' ⟨rfl,i,C,F,H⟩
  have A:=(y7 p).take (k:=0) (k':=1) u t rfl rfl z H (.inl rfl) C F;refine⟨_,_,rfl,(A.sub fun m b d => ?_).only o,ad,l'.length,c,Gh.addOwn_self,rfl⟩
  simp only[af]at d ⊢;cases g:Nat.beq 0 m
  ·rw[g]at d;cases j:Nat.beq 1 m
   ·rw[j]at d;cases d
   ·rw[j]at d;exact d
  ·rw[g]at d;have:=qN g;subst this;exact d
 |[],a=>exact a.elim|_::_::_,a=>exact a.2.elim
def qh3(w:World)(n g:Nat)(d:Array Int)(k:Nat)(a:k≠g):(putRow (Value.int .i64) (Sort.ahead w n) g 0 d).heap[k]? = w.heap[k]? := by
 show(w.heap.modify g (onCells (putCells (Value.int .i64) 0 d)))[k]? = _;rw[Array.getElem?_modify,qW]
def qh4(w:World)(n g:Nat)(d:Array Int){a:Array Value}{e:TypeId}{fr:Nat×Nat}(b:w.heap[g]? = some (.cells a e fr)) :
  (putRow (Value.int .i64) (Sort.ahead w n) g 0 d).heap[g]? = some (.cells (putCells (Value.int .i64) 0 d a) e fr):=by
 show(w.heap.modify g (onCells (putCells (Value.int .i64) 0 d)))[g]? = _;rw[Array.getElem?_modify,qX rfl,b];rfl
def qkq(l:List Int)(A:l.length<=ax):di Tryz.prog 103 [.own 0] [(0,.row (.int .i64) l 3)] (.own 1) [(0,.dead),(1,.row (.int .i64) (li l) 3)]:=by
 unfold ax at A;refine di.shorter (τ := .int .i64) (l:=l) (l':=li l) (fun w G B c y a b => ?_)
 rw[K9]at b ⊢;have o:=LT b;obtain⟨x,a⟩:=a;have n:=qkp l;by_cases i:l=[]
 ·subst i;have N:li []=[]:=List.eq_nil_of_length_eq_zero (by simpa using n)
  rw[N];refine(Tryz.slices_Compact_int_empty B c w).mono ?_;rintro e P ⟨rfl,rfl⟩
  exact⟨rfl,y,⟨x,a⟩,by rw[o];trivial,⟨rfl,rfl,rfl,wF _,fun _ _ _=>rfl⟩⟩
 ·rcases a with⟨rfl,p,rfl⟩|⟨g,f,F,rfl,p,z,H,I,J,K,L⟩
  ·exact absurd (List.eq_nil_of_length_eq_zero p) i
  ·have j:l.length<=c:=H;have r:f.size=c:=by have:f.size=c*1:=J;omega
   have s:f.toList.take l.length=y:=by have:f.toList.take (l.length*1)=y:=K;rwa [Nat.mul_one]at this
   have M:=Rp p z j r s o;refine(Tryz.slices_Compact_int g 0 c l w M Ta j).mono ?_
   rintro e P ⟨rfl,q,rfl⟩
   obtain⟨d,t⟩:∃d,d=li l++List.replicate (l.length-(li l).length) 0:=⟨_,rfl⟩;have u:d.length=l.length:=by rw[t];simp;omega
   rw[show Lib.compact l++List.replicate (l.length-(Lib.compact l).length) 0=d from t.symm]
   refine⟨rfl,(li l).map (Value.int .i64),⟨by show((li l).map (Value.int .i64)).length=(li l).length*1;simp,.inr ⟨g,putCells (Value.int .i64) 0 d.toArray f,F,rfl,qh4 w q g _ p,?_,?_,I,?_,?_,?_⟩⟩,LU _,⟨rfl,rfl,rfl,?_,fun k _ i=>qh3 w q g _ k (fun e=>i (by subst e;rfl))⟩⟩
   ·have:(putCells (Value.int .i64) 0 d.toArray f).size=f.size:=by unfold putCells;rw[Array.size_mapIdx]
    rw[this];exact z
   ·exact Nat.le_trans n j
   ·unfold putCells;rw[Array.size_mapIdx];show f.size=c*1;omega
   ·show List.take ((li l).length*1) _=_;rw[Nat.mul_one];have C:=SU d f (by rw[u];omega)
    have E:List.take (li l).length (List.take d.length (putCells (Value.int .i64) 0 d.toArray f).toList)=List.take (li l).length (putCells (Value.int .i64) 0 d.toArray f).toList:=by
     rw[List.take_take,Nat.min_eq_left Ta]
    rw[← E,C,t,List.map_append,List.take_append_of_le_length Te,List.take_of_length_le Te]
   ·intro v O;rcases ST _ _ _ O with h|⟨m,rfl⟩
    ·exact L v h
    ·rfl
   ·show w.heap.size<=(w.heap.modify g _).size;simp
def OD(r:TD->Option Ji):dc:={ key := .fn 103,args:=[.own 0],hp:=[(0,.row (.int .i64) 3)],R:=Ji,F:=fun _ a=>r a.1,out := .one (α:=List Int) (.own 1) [(0,.dead),(1,.row (.int .i64) 3)] (fun r=>((),((),(r,())))) (fun y=>y.2.2.1) (fun _=>rfl) }
def qgr:(OD CA).Sound Tryz.prog:=fun d a r h=>by
 refine⟨call103,?_⟩;have h:(bif decide (List.length (α:=Int) a.1<=ax) then some (li a.1) else none)=some r:=h
 cases b:decide (List.length (α:=Int) a.1<=ax)<;>rw[b]at h
 ·cases h
 have h:=qJ h;subst h;exact qkq a.1 (of_decide_eq_true b)
end Go.Sym
namespace Go.Sym
open Go.RowKit
def qs3{P:Program}{b:Frame}{a:Act}{k:List Item}{cs:List Frame}{w:World}{ops:Array Oper}{i:Nat}{rest:List Nat}{o:Oper}{c:Call}{dd:Deferred}(n:ops[i]? = some o)(r:o.guard=none)(g:o.op = .defer c)(d:o.dst=none)(m:b.roundOf=none)(h:(resolve a.eval c o.type).run P w = .ok dd w) :
  step P (lone (b.atR a (.inRegion ops (i::rest)::k)) cs w) = .next (lone (b.atR { a with defers:=dd::a.defers } (.inRegion ops rest::k)) cs w):=by
 have s:Region.wanted o (yielded ops a.tmps)=true:=by simp[Region.wanted,r]
 have f:=stepGR_op (P:=P) (b:=b) (a:=a) (k:=k) (cs:=cs) (w:=w) (rest:=rest) n s;rw[m,Oper.semAt_none]at f;have l:(execOp a.eval o).run P w = .ok (.defer dd) w:=by
  obtain⟨p,u,v,t,j,guard⟩:=o;simp only at g;subst g;simp[execOp,h]
 have e:({ b.atR a (.inRegion ops (i::rest)::k) with defers:=dd::a.defers }:Frame).finish undef=b.atR { a with defers:=dd::a.defers } (.inRegion ops rest::k):=by
  have:=Frame.finish_atR b { a with defers:=dd::a.defers } ops i rest k undef
  rw[n]at this;simp only[qB,d]at this;exact this
 refine step_lone_go ?_;rw[f];simp only[stepG.apply,Sem.runT_eq,l,GStep.bare_after];exact congrArg (fun q=>GStep.go { frame:=q,callers:=cs,status := .running,dying:=none } w) e
section
variable[LC]
def Fin.wild{q72:World}{q7w:Gh}{q7z:List (Nat×ag)}{G:Gh}{hp:List (Nat×ag)}{w w':World}(a:Fin q72 q7w q7z G hp w){S:Nat->Prop}(c:cr S w w')(f:∀b,S b->(∀o,G.imm b o=none)/\(q72.heap.size<=b\/qv q7w q7z b)):Fin q72 q7w q7z G [] w':=by
 have d:∀b o v,G.imm b o=some v->w'.heap[b]? = w.heap[b]? := fun b o v h=>by
  refine c.block b (World.block_lt_of_cell? _ _ (a.mem.agree b o v h)) fun e => ?_
  rw[(f b e).1 o]at h;cases h
 refine⟨⟨fun b o v h => ?_,a.mem.one,fun n bx h=>(by cases h),fun n m bx j b h=>(by cases h),LC.mono (fun _ _ _ h=>h) d a.mem.tab⟩,⟨c.os.trans a.bel.os,c.tape.trans a.bel.tape,c.output.trans a.bel.output,Nat.le_trans a.bel.size c.size,fun k i g => ?_⟩,a.imm_le,a.imm_new,fun n bx b h=>(by cases h),a.keep,a.keepOwn⟩
 ·rw[World.cell?_of_block (w:=w) (d b o v h)];exact a.mem.agree b o v h
 ·rw[c.block k (Nat.lt_of_lt_of_le i a.bel.size) fun e => ?_]
  ·exact a.bel.block k i g
  ·rcases (f k e).2 with h|h
   ·omega
   ·exact g h
def aj.fresh_start{G:Gh}{hp:List (Nat×ag)}{w:World}{names:List (Nat×Nat)}(e:c8 (G.view names) hp w)(d:∀m,64<=m->bm names m=none){n:Nat}{fr:List (Nat×AV)}{tmps:Array Value}(c:tmps.size=n)(a:∀i x,af fr i=some x->∃v,tmps[i]? = some v/\ai x (G.view names) v) :
  aj w (G.view names) hp (G.view names) { n:=n,fr:=fr,hp:=hp,nx:=64,df:=[] } { tmps:=tmps,defers:=[] } w:=
 ⟨⟨[],rfl,rfl⟩,c,a,fun m b _=>by simp[Gh.view,d m b],y7 e⟩
end
def qah{x:AV}{G:Gh}{vs:Array Value}(h:ao [x] G vs.toList):∃u,vs=#[u]/\ai x G u:=by
 obtain⟨l⟩:=vs
 match l,h with|[u],h=>exact⟨u,rfl,h.1⟩|[],h=>exact h.elim|_::_::_,h=>exact h.2.elim
def qra{x y:AV}{G:Gh}{vs:Array Value}(h:ao [x,y] G vs.toList):∃u v,vs=#[u,v]:=by
 obtain⟨l⟩:=vs
 match l,h with|[u,v],h=>exact⟨u,v,rfl⟩|[],h=>exact h.elim|[_],h=>exact h.2.elim|_::_::_::_,h=>exact h.2.2.elim
def JQ{w:World}{a:Addr}{v:Value}:cr (fun b=>b=a.block) w (w.setCell a v):=
 ⟨rfl,rfl,rfl,by simp[World.setCell],fun k _ c=>by
  simp only[World.setCell,Array.getElem?_modify];rw[qW (fun e=>c e.symm)]⟩
def PT{w:World}{o:Obj}:cr (fun _=>False) w (w.alloc o):=
 ⟨rfl,rfl,rfl,by rw[World.size_alloc];omega,fun k a _=>by
  show(w.heap.push o)[k]? = _;rw[Array.getElem?_push,qW]⟩
def cr.wide{S T:Nat->Prop}{w w':World}(h:cr S w w')(k:∀b,S b->T b):cr T w w':=⟨h.os,h.tape,h.output,h.size,fun b c a=>h.block b c (fun d=>a (k b d))⟩
def cr.tr{S:Nat->Prop}{w d e:World}(h:cr S w d)(k:cr S d e):cr S w e:=⟨k.os.trans h.os,k.tape.trans h.tape,k.output.trans h.output,Nat.le_trans h.size k.size,fun b c a=>(k.block b (Nat.lt_of_lt_of_le c h.size) a).trans (h.block b c a)⟩
end Go.Sym
namespace Go.Sym
noncomputable section
open Go.Proofs
set_option linter.unusedVariables false
set_option maxRecDepth 100000
set_option maxHeartbeats 2000000
open Tryz
abbrev wT : Ty := .tree (.prod (.list (.prod .str .str)) (.list .byte))
abbrev wL : Ty := .list (.prod .str .str)
abbrev wP : Ty := .prod .str .str
abbrev wH : Pt := .h (.int .i64)
abbrev wI : Ty := .int .i64
abbrev wB : Ty := .list .byte
abbrev wN : Pt := .c .nilS
abbrev wS : Pt := .h .str
abbrev xR : Ty := .prod wI (.prod wI (.prod wI (.prod wI (.prod .bool (.prod (.list wI) (.prod (.list wI) (.list wI)))))))
abbrev xD : Ty := .prod wI (.prod wI (.prod wI (.prod wI (.prod wI (.prod wI wI)))))
abbrev xE : Ty := .prod .str (.prod wI (.prod wI (.prod .str (.prod .str (.prod .str (.prod (.list (.prod .str wI)) (.prod .str (.prod xD (.prod wI xR)))))))))
abbrev wG : Program := Tryz.prog
abbrev UI:Pt:=.h .bool
abbrev WH:Nat×bu:=(0,.cells [wS,wH,wH,wS,wS,wS,.own 1,wS,wH,wH,wH,wH,wH,wH,wH,wH,wH,wH,wH,wH,UI,.own 2,.own 3,.own 4,UI] 90)
abbrev Ub:Ty:=.prod .str wI
abbrev VC:bu:=.row Ub 74
abbrev UK:bu:=.row wI 3
abbrev UD:List (Nat×bu):=[WH,(1,VC),(2,UK),(3,UK),(4,UK)]
abbrev UZ:Ty:=.prod wI wI
abbrev VL:Ty:=.prod wI (.prod wI UZ)
abbrev UE:Ty:=.prod .str (.prod wI (.prod wI (.prod VL VL)))
abbrev UF:Nat×bu:=(0,.dat Ub 179)
abbrev Wm:bu:=.dat UZ 25
abbrev UG:Nat×bu:=(33,Wm)
abbrev VR:Ty:=.prod .str wP
abbrev UH:Ty:=.prod .str (.prod .bool (.list VR))
abbrev UJ:Nat×bu:=(32,Wm)
abbrev Ul:Ty:=.prod .byte .str
abbrev Vn:Ty:=.list Ul
abbrev UL:Nat×Pt:=(0,.h Vn)
abbrev X7:bu:=.cells [wS] 9
abbrev UM:Nat×bu:=(1,X7)
abbrev UN:Pt:=.ptr 32 0
abbrev YM:Pt:=.ptr 4 0
abbrev XV:Nat×Pt:=(3,YM)
abbrev XW:Nat×Pt:=(4,.ptr 5 0)
abbrev UO:Nat×bu:=(0,.loop .ready none 291 17 [XV,XW] [8] 0 6)
abbrev UP:Nat×bu:=(0,.loop .ready none 97 21 [(5,YM),(7,.ptr 5 0)] [13] 3 6)
abbrev WV:bu:=.cells [wH] 3
abbrev UQ:Nat×bu:=(3,WV)
abbrev UR:Nat×bu:=(32,.row Ul 160)
abbrev Vs:Pt:=.ptr 1 0
abbrev WD:Pt:=.ptr 2 0
abbrev US:Nat×bu:=(0,.loop .ready none 12 63 [(4,Vs),(5,WD)] [13] 2 3)
abbrev UT:Nat×bu:=(0,.loop .ready none 12 63 [(4,YM),(5,.ptr 5 0)] [13] 2 6)
abbrev U3:Pt:=.ptr 33 0
abbrev UU:Nat×Pt:=(2,U3)
abbrev WR:Pt:=.own 33
abbrev Wh:Pt:=.own 34
abbrev XX:Pt:=.own 35
abbrev V9:bu:=.cells [wS,wH,wH,wS,wS,wS,WR,wS,wH,wH,wH,wH,wH,wH,wH,wH,wH,wH,wH,wH,UI,Wh,XX,.own 36,UI] 90
abbrev UV:Nat×bu:=(7,V9)
abbrev UW:Nat×bu:=(2,X7)
abbrev UX:Nat×bu:=(0,.cells [wS,wH,wH,wS,wS,wS,.own 5,wS,wH,wH,wH,wH,wH,wH,wH,wH,wH,wH,wH,wH,UI,.own 6,.own 7,.own 8,UI] 90)
abbrev UY:Nat×bu:=(0,.loop .ready none 323 31 [(4,WD),(5,.ptr 3 0)] [13] 1 4)
abbrev Vy:bu:=.dat xR 35
abbrev Ua:Nat×bu:=(32,Vy)
abbrev Yd:bu:=.row Vn 154
abbrev Uc:Nat×bu:=(32,Yd)
abbrev Ud:Nat×bu:=(32,.dat xE 37)
abbrev VF:bu:=.row .byte 5
abbrev Ue:Nat×bu:=(32,VF)
abbrev Uf:Nat×bu:=(32,.dat UE 46)
abbrev Ug:Nat×bu:=(0,.loop .ready none 291 17 [(3,Vs),(4,WD)] [8] 0 3)
abbrev Uh:Nat×bu:=(0,.loop .ready none 97 21 [(5,Vs),(7,WD)] [13] 3 3)
abbrev Vr:Pt:=.tup [.u,.ifc 176 (.agg [wH])]
abbrev WX:Nat×bu:=(0,.dead)
abbrev Ui:=RS.mk Vr [WX]
abbrev Uj:bu:=.cells [wS,wH,wH,wS,wS,wS,.own 6,wS,wH,wH,wH,wH,wH,wH,wH,wH,wH,wH,wH,wH,UI,.own 7,.own 8,.own 9,UI] 90
abbrev Uk:Pt:=.ptr 0 0
abbrev XK:Ty:=.prod .str .bool
abbrev Um:Nat×bu:=(1,.row XK 259)
abbrev Un:Pt:=.own 32
abbrev Uo:List Pt:=[.yld 0,Vs,WD,.ptr 3 0]
abbrev Up:Nat×bu:=(32,.dat VR 109)
abbrev Uq:Pt:=.h (.list wI)
abbrev Ur:Nat×bu:=(6,.dfr)
abbrev Us:Nat×bu:=(33,.cells [wS,wH,wH,wS,wS,wS,Wh,wS,wH,wH,wH,wH,wH,wH,wH,wH,wH,wH,wH,wH,UI,XX,.own 36,.own 37,UI] 90)
abbrev Ut:Nat×bu:=(0,V9)
abbrev Uu:Nat×bu:=(4,.cells [wS,wH,wH,wS,wS,wS,.own 11,wS,wH,wH,wH,wH,wH,wH,wH,wH,wH,wH,wH,wH,UI,.own 12,.own 13,.own 14,UI] 90)
abbrev Uv:Nat×bu:=(7,.cells [wS,wH,wH,wS,wS,wS,.own 14,wS,wH,wH,wH,wH,wH,wH,wH,wH,wH,wH,wH,wH,UI,.own 15,.own 16,.own 17,UI] 90)
abbrev Uw:Nat×bu:=(5,.cells [wS,wH,wH,wS,wS,wS,.own 12,wS,wH,wH,wH,wH,wH,wH,wH,wH,wH,wH,wH,wH,UI,.own 13,.own 14,.own 15,UI] 90)
abbrev Ux:Nat×bu:=(7,.cells [wS,wH,wH,wS,wS,wS,.own 9,wS,wH,wH,wH,wH,wH,wH,wH,wH,wH,wH,wH,wH,UI,.own 10,.own 11,.own 12,UI] 90)
abbrev Uy:Nat×bu:=(0,.loop .ready none 49 93 [(7,YM),(16,.ptr 5 0)] [66] 4 6)
abbrev Uz:Nat×bu:=(2,WV)
abbrev U0:Nat×bu:=(0,.cells [wS,wH,wH,wS,wS,wS,.own 2,wS,wH,wH,wH,wH,wH,wH,wH,wH,wH,wH,wH,wH,UI,.own 3,.own 4,.own 5,UI] 90)
abbrev U1:Nat×Pt:=(2,WD)
abbrev U2:Nat×bu:=(32,.dat xD 32)
abbrev Vg:Pt:=.h (.list UH)
abbrev U4:Nat×Pt:=(0,Vg)
abbrev U5:Nat×bu:=(5,.cells [UI] 4)
abbrev U6:Nat×Pt:=(0,.yld 0)
abbrev U7:Nat×bu:=(33,.cells [.pn 33,Wh] 60)
abbrev U8:Nat×bu:=(4,.cells [.fn 1048668 [.ptr 7 0]] 72)
abbrev U9:Nat×bu:=(4,.cells [.fn 1048674 [.ptr 7 0]] 72)
abbrev V4:Ty:=.int .i32
abbrev VA:Nat×bu:=(0,.cells [.h V4] 21)
abbrev VB:Nat×bu:=(3,.dfr)
abbrev VD:Nat×Pt:=(1,Vs)
abbrev VE:Pt:=.h .byte
abbrev VG:Nat×bu:=(1,WV)
abbrev VH:Nat×bu:=(33,.dat xD 32)
abbrev VI:Nat×bu:=(4,.cells [.fn 189 []] 78)
abbrev VJ:Nat×bu:=(4,.cells [.fn 317 []] 78)
abbrev V7:List Pt:=[.h wB]
abbrev VK:Nat×bu:=(1,.cells V7 58)
abbrev Va:Nat×bu:=(1,.dead)
abbrev WY:Nat×bu:=(2,.dead)
abbrev WZ:Nat×bu:=(3,.dead)
abbrev Vb:Nat×bu:=(4,.dead)
abbrev VM:List (Nat×bu):=[UX,Va,WY,WZ,Vb,(5,VC),(6,UK),(7,UK),(8,UK)]
abbrev VN:bu:=.row .str 9
abbrev VO:Pt:=.c (.bool true)
abbrev VP:Nat×Pt:=(10,wH)
abbrev VQ:Nat×Pt:=(3,.ptr 3 0)
abbrev VS:Nat×bu:=(0,.loop .ready none 323 31 [(4,Vs),(5,WD)] [13] 1 3)
abbrev VT:Nat×bu:=(0,.loop .ready none 49 93 [(7,Vs),(16,WD)] [66] 4 3)
abbrev VU:Nat×bu:=(32,UK)
abbrev VV:Nat×bu:=(7,.dead)
abbrev VW:List (Nat×bu):=[(0,.cells [.pn 0,.own 1] 60),(1,VF)]
abbrev VX:Nat×bu:=(5,.cells [.c .nilPtr] 85)
abbrev Vt:Nat×bu:=(34,UK)
abbrev VY:List (Nat×bu):=[Ud,(33,.dat UE 46),Vt,(35,Wm),(36,Wm)]
abbrev VZ:Nat×bu:=(2,.cells [UI] 4)
abbrev Vc:Nat×bu:=(0,.dat Ub 74)
abbrev Vd:Nat×Pt:=(6,WR)
abbrev YB:bu:=.row V4 21
abbrev Ve:Nat×bu:=(33,YB)
abbrev Vf:Nat×bu:=(33,.row Ul 160)
abbrev Vh:Nat×bu:=(8,.dead)
abbrev Vi:Nat×bu:=(9,.dead)
abbrev Vj:Nat×bu:=(5,.cells [Un] 33)
abbrev Xc:Nat×bu:=(5,.dead)
abbrev Vk:List (Nat×bu):=[UY,VK,(2,.cells [Un] 58),UQ,(4,.dfr),Xc,Ue]
abbrev Vl:Nat×bu:=(32,.cells V7 58)
abbrev Vm:List Pt:=[wS,wS]
abbrev Vo:Nat×bu:=(0,X7)
abbrev Vp:Pt:=.tup []
abbrev Vq:Nat×bu:=(0,.cells [.pn 0,.own 2] 60)
abbrev Vu:Nat×bu:=(1,.cells [.fn 189 []] 78)
abbrev Vv:Nat×bu:=(1,.cells [.fn 317 []] 78)
abbrev Vw:Nat×bu:=(2,.cells [.c .nilPtr] 85)
abbrev Vx:bu:=.row xE 37
abbrev Vz:List Pt:=[.h UE,.h xD,.h xR,wH,wH]
abbrev V5:Nat×bu:=(35,UK)
abbrev V6:Nat×bu:=(4,.cells [Un] 22)
abbrev V8:Nat×bu:=(11,.cells [wS,wH,wH,wS,wS,wS,.own 16,wS,wH,wH,wH,wH,wH,wH,wH,wH,wH,wH,wH,wH,UI,.own 17,.own 18,.own 19,UI] 90)
abbrev WA:Nat×bu:=(9,.cells [wS,wH,wH,wS,wS,wS,.own 10,wS,wH,wH,wH,wH,wH,wH,wH,wH,wH,wH,wH,wH,UI,.own 11,.own 12,.own 13,UI] 90)
abbrev WB:Nat×bu:=(1,.cells [.fn 1048668 [YM]] 72)
abbrev WC:Nat×bu:=(1,.cells [.fn 1048674 [YM]] 72)
abbrev WE:Nat×Pt:=(11,wH)
abbrev WF:Nat×bu:=(6,.cells [wS,wH,wH,wS,wS,wS,.own 7,wS,wH,wH,wH,wH,wH,wH,wH,wH,wH,wH,wH,wH,UI,.own 8,.own 9,.own 10,UI] 90)
abbrev WG:Nat×bu:=(1,.cells [.own 10] 22)
abbrev WI:Pt:=.h UZ
abbrev WJ:Pt:=.tup [.own 0,.h UZ]
abbrev WK:List Pt:=[wH,wH]
abbrev WL:Nat×bu:=(2,.cells [.own 5] 33)
abbrev WM:Nat×bu:=(5,.cells [.own 8] 33)
abbrev WN:Nat×Pt:=(4,.fn 364 [UN])
abbrev WO:Nat×bu:=(32,.row UH 107)
abbrev WP:Nat×bu:=(33,.row UH 107)
abbrev WQ:Nat×bu:=(33,.dat UH 107)
abbrev WS:Nat×bu:=(36,UK)
abbrev WT:Pt:=.h (.list Ub)
abbrev WU:List (Nat×Pt):=[UL,(1,UI),(5,Un),Vd,(7,UI),(8,wH)]
abbrev WW:Nat×Pt:=(0,.h wB)
abbrev Wa:List Pt:=[wH,wH,wH]
abbrev XD:Nat×bu:=(1,.cells [.own 4] 22)
abbrev Wz:Nat×bu:=(2,.cells [.ptr 5 0] 85)
abbrev Wb:List (Nat×bu):=[US,XD,Wz,VB,(4,Vx),(5,Uj),(6,VC),(7,UK),(8,UK),(9,UK)]
abbrev Wc:List (Nat×bu):=[Ua,UG]
abbrev Wd:Nat×bu:=(10,.dead)
abbrev We:Nat×bu:=(11,.dead)
abbrev Wf:Nat×bu:=(12,.dead)
abbrev Wg:Nat×Pt:=(13,wH)
abbrev Wi:Nat×Pt:=(10,.ptr 35 0)
abbrev Wj:Nat×Pt:=(11,.ptr 36 0)
abbrev Wk:Pt:=.h (.list .str)
abbrev Wl:Nat×bu:=(32,X7)
abbrev Wn:Pt:=.own 0
abbrev Wo:List (Nat×bu):=[UO,UM,UW,UQ,VI,U5,Ur]
abbrev Wp:List (Nat×bu):=[UO,UM,UW,UQ,VJ,U5,Ur]
abbrev XG:Nat×bu:=(1,.dat xD 32)
abbrev XH:Nat×bu:=(3,.dat UE 46)
abbrev Wq:List (Nat×bu):=[Uy,XG,(2,Vy),XH,(4,Vy),(5,.cells [.own 7] 33),Ur,(7,UK)]
abbrev Wr:Nat×bu:=(32,.cells [wS,UI,wN] 107)
abbrev Ws:Nat×bu:=(34,.cells [wS,VO,wN] 107)
abbrev W3:Pt:=.c .nilIface
abbrev Wt:Nat×bu:=(1,.cells [.h (.int .u32),.h V4,.h (.int .u32),W3,.own 2] 219)
abbrev Wu:Nat×bu:=(0,.cells V7 58)
abbrev Wv:Nat×bu:=(33,Yd)
abbrev Ww:List Pt:=[.own 0,.fn 101 [Vs,WD]]
abbrev Wx:List Pt:=[Uk,wS]
abbrev Wy:List Pt:=[.h xD]
abbrev W4:List (Nat×bu):=[UT,UM,UW,UQ,V6,(5,.cells [U3] 85),Ur,VV,(32,Vx),Us,(34,VC),V5,WS,(37,UK)]
abbrev W5:Nat×bu:=(13,UK)
abbrev W6:Nat×bu:=(32,.dat VL 44)
abbrev W7:Nat×bu:=(33,.dat xE 37)
abbrev W8:Nat×bu:=(2,.cells [.own 10] 33)
abbrev W9:Nat×bu:=(5,.cells [.own 13] 33)
abbrev XA:Nat×bu:=(6,.dead)
abbrev XB:List (Nat×Pt):=[(0,wS),(3,UN),(4,U3),(5,wH),(6,wH)]
abbrev XC:Pt:=.ptr 34 0
abbrev XE:Nat×bu:=(1,.cells [.own 5] 22)
abbrev XF:Nat×bu:=(4,.cells [.own 8] 22)
abbrev XI:List (Nat×Pt):=[(1,UN),UU]
abbrev XJ:List Pt:=[Uq,wH]
abbrev XL:Nat×bu:=(33,VC)
abbrev Xq:Nat×bu:=(10,UK)
abbrev Xr:Nat×bu:=(12,UK)
abbrev XM:List (Nat×bu):=[UP,UM,UW,UQ,U8,WM,Ur,Ux,(8,UK),(9,VC),Xq,(11,UK),Xr]
abbrev XN:List (Nat×bu):=[UP,UM,UW,UQ,U9,WM,Ur,Ux,(8,UK),(9,VC),Xq,(11,UK),Xr]
abbrev XO:List (Nat×bu):=[(0,UK),VG,Uz]
abbrev XP:Pt:=.tup [wS,.h UZ]
abbrev XQ:List (Nat×bu):=[(0,.cells [.own 2] 61),(1,.cells [.own 3] 61),(2,VN),(3,VN)]
abbrev XR:List Pt:=[.h UE,.h xD,.h xR]
abbrev XS:Nat×Pt:=(1,.fn 101 [Vs,WD])
abbrev XT:List Pt:=[.h xE,.h UE,wH,wH]
abbrev XU:Nat×bu:=(2,.cells [wN] 101)
abbrev XY:Nat×Pt:=(1,.h wB)
abbrev XZ:Nat×Pt:=(9,.h Vn)
abbrev Xa:Pt:=.h (.list xE)
abbrev Xb:List (Nat×Pt):=[U6,VD,U1,VQ]
abbrev Xd:List (Nat×Pt):=[(0,wS),(4,Un),(5,wH),(7,wH)]
abbrev Xe:List (Nat×Pt):=[(0,wS),(4,Un),(5,wH),(8,wS)]
abbrev Xf:List (Nat×bu):=[Uh,WB,WL,VB,(4,Uj),(5,UK),(6,VC),(7,UK),(8,UK),(9,UK)]
abbrev Xg:List (Nat×bu):=[UP,UM,UW,UQ,U8,Vj,Ur,UV,Vh,Vi,Wd,We,Wf,VU,XL,Vt,V5,WS]
abbrev Xh:List (Nat×bu):=[(0,Uj),Va,WY,WZ,Vb,(5,UK),(6,VC),(7,UK),(8,UK),(9,UK)]
abbrev Xi:List (Nat×bu):=[Uh,WC,WL,VB,(4,Uj),(5,UK),(6,VC),(7,UK),(8,UK),(9,UK)]
abbrev Xj:List (Nat×bu):=[UP,UM,UW,UQ,U9,Vj,Ur,UV,Vh,Vi,Wd,We,Wf,VU,XL,Vt,V5,WS]
abbrev Xk:=RS.mk (.ifc 259 (.agg [wS,UI])) [UF]
abbrev Xl:List Pt:=[.h VR]
abbrev Xm:Nat×Pt:=(17,wH)
abbrev Xn:Nat×Pt:=(6,.ifc 270 (.u))
abbrev Xo:List (Nat×bu):=[UJ,U7,(34,VF)]
abbrev Xp:List LB:=[lb 208 [(0,wS),(3,wH)]]
abbrev Xs:Nat×bu:=(34,Vy)
abbrev Xt:Pt:=.fn 208 [Uk,Vs,WD]
abbrev Xu:List (Nat×bu):=[Ud,UG]
abbrev Xv:List Pt:=[WT,.fn 75 [Uk]]
abbrev Xw:List (Nat×Pt):=[(1,wH),(4,UN),(5,U3),(6,wH),(7,wH),(8,wH),(9,wH)]
abbrev Xx:Nat×bu:=(32,.dat UH 107)
abbrev Xy:List Pt:=[wS,wS,wH]
abbrev Xz:List (Nat×bu):=[UY,VK,(2,.cells [.own 5] 58),UQ,(4,.dfr),(5,VF)]
abbrev X0:List (Nat×bu):=[UT,UM,UW,UQ,(4,.cells [.own 7] 22),VX,Ur,(7,Vx)]
abbrev X1:List (Nat×Pt):=[UL,(3,wS),(4,wH),(5,wS)]
abbrev X2:List Pt:=[wS,.fn 189 []]
abbrev X3:List Pt:=[wS,.fn 317 []]
abbrev X4:Pt:=.tup [.own 0,UI]
abbrev X5:Pt:=.agg [wS,.fn 361 [Uk],.fn 362 [Uk]]
abbrev X6:List (Nat×Pt):=[(1,wH),(2,wH),(3,UN),(7,wH),(8,wH),(9,UI),VP]
abbrev X8:Pt:=.tup [wH,.h UZ]
abbrev X9:List LB:=[lb 464 [(0,wH),(1,wH),(7,wH),(8,wH)]]
abbrev YA:Nat×Pt:=(11,.ptr 37 0)
abbrev YC:=RS.mk (.ifc 183 (VE)) [UF]
abbrev YD:Nat×Pt:=(27,UI)
abbrev YE:Nat×Pt:=(18,Vg)
abbrev YF:Nat×Pt:=(19,wH)
abbrev YG:Nat×Pt:=(20,wH)
abbrev YH:Nat×Pt:=(11,wS)
abbrev YI:List Pt:=[.h xR]
abbrev YJ:Nat×Pt:=(18,wH)
abbrev YK:List Pt:=[.h Vn]
abbrev YL:Nat×Pt:=(6,.h V4)
abbrev YN:=RS.mk Vp [UF]
abbrev YO:List (Nat×bu):=[VT,(1,Vy),(2,.cells [.own 4] 33),VB,(4,UK)]
abbrev YP:Nat×bu:=(33,VN)
abbrev YQ:Nat×bu:=(14,UK)
abbrev YR:Nat×bu:=(15,UK)
abbrev YS:List (Nat×Pt):=[(2,wH),(3,wH),(4,UN),(5,U3),(9,Wh),Wi,Wj]
abbrev YT:List (Nat×Pt):=[(0,wS),(3,wS),(4,wH)]
abbrev YU:List (Nat×Pt):=[(0,wS),(3,Un),(4,wH)]
abbrev YV:List Pt:=[.h VL,wH,wH]
abbrev YW:List Pt:=[.h UE,wH,wH]
abbrev YX:List Pt:=[.h UE,.h xD]
abbrev YY:Nat×Pt:=(8,.ptr 35 0)
abbrev YZ:Nat×Pt:=(9,.ptr 36 0)
abbrev Ya:Pt:=.c (.bool false)
abbrev Yb:List (Nat×Pt):=[(3,wH),(4,wH),(7,UN),(11,WR),(12,Wh),Wg]
abbrev Yc:List (Nat×Pt):=[(0,Uk),(3,Un)]
abbrev Ye:List (Nat×bu):=[VS,(1,.cells [.own 4] 58),Uz,VB,(4,VF)]
abbrev Yf:=RS.mk (.h VR) [UF,Um]
section
variable(fu:Nat)
def KC:Nat->Option ((τ:Ty)×List τ.den)|0=>some ⟨.byte,Mu⟩|1=>some ⟨.prod .byte .byte,Mv⟩|3=>some ⟨.int .u64,qtl⟩|_=>none
abbrev Al(f:Nat)(p:List Nat):Option (Code×Code):=some (y9 0 (sub (y8 (rf wG f)) p),y9 1 (sub (y8 (rf wG f)) p))
def qol:Nat->Option (Code×Code)|0=>Al 291 [0,1,0,1]|1=>Al 323 [0,1,0,1,1,1,1]|2=>Al 12 [0,1,0,1,1,1,1]|3=>Al 97 [0,1,0,1,1,1]|4=>Al 49 [0,1,0,1,1,1,1,1,1,1]|_=>none
instance[HB]:LC:=⟨qol,KC,[2],[4,5],[(0,256),(1,32),(3,20)],HB.b⟩
def Jr:wG.follows .mixedOrders=true:=Tc
def etys:List (Nat×Ty):=[(3,.int .i64),(5,.byte),(9,.str),(21,.int .i32),(37,.prod .str (.prod wI (.prod wI (.prod .str (.prod .str (.prod .str (.prod (.list (.prod .str wI)) (.prod .str (.prod xD (.prod wI xR)))))))))),(74,.prod .str wI),(107,.prod .str (.prod .bool (.list (.prod .str wP)))),(109,.prod .str wP),(154,.list (.prod .byte .str)),(160,.prod .byte .str),(259,.prod .str .bool)]
abbrev fx{i:IF}(b:List (EP wG):=[])(e:List LB:=[])(sub:Bool:=false)(a:List (List Nat×Nat):=[])(d:∀p t,qc p a=some t->∀g ps x y,Sym.sub (y8 (rf wG (gQ i.key))) p = .rangeFunc g ps x y->LC.lc t=some (x,y):=by exact ly)(c:wG.funcs[gQ i.key]? = some (rf wG (gQ i.key)):=by kernel_rfl):Fx wG i:=Fx.at etys Jr (gQ i.key) b e sub a d c
abbrev fy{i:IF}(f:FuncId)(b:List (EP wG):=[])(e:List LB:=[])(sub:Bool:=false)(a:List (List Nat×Nat):=[])(d:∀p t,qc p a=some t->∀g ps x y,Sym.sub (y8 (rf wG f)) p = .rangeFunc g ps x y->LC.lc t=some (x,y):=by exact ly)(c:wG.funcs[f]? = some (rf wG f):=by kernel_rfl):Fx wG i:=Fx.at etys Jr f b e sub a d c
def qgm:(Hu 253 BY).Sound wG:=qgl func253 Tc Tc Tc Tc
def qgo:(Hv 283 bF).Sound wG:=qgn func283 Tc Tc Tc Tc
def qgq:(Hw 367 bF).Sound wG:=qgp func367 Tc Tc Tc Tc
def x0s:EI wG ⟨.fn 54,[],[],_,RS.mk (.h xR) []⟩:=(fx).fi On
def x1s:EI wG ⟨.fn 17,[],[],_,RS.mk (.h xE) []⟩:=(fx [x0s.p]).fi tO
def io:EI wG ⟨.fn 20,WK,[],_,RS.mk WI []⟩:=(fx).fi bw
def x3s:EI wG ⟨.fn 35,[VE],[],_,RS.mk (UI) []⟩:=(fx).fi Ck
def x4(fu:Nat):Fx wG ⟨.fn 34,[wS,.fn 35 []],[],_,RS.mk (UI) []⟩:=fx [x3s.p] [lb 104 [(0,wS),(1,.fn 35 []),(7,wH),(8,wH)]]
def q4x:Nat->(x4 fu).L 0:=Fx.lq (uF fu) (Hk fu) (fun a=>[a.s])
def x4s:=(x4 fu).fi (Hj fu) [(q4x fu fu).s]
def gP:LC.glob 0=some ⟨.byte,Mu⟩:=rfl
def gC:LC.glob 1=some ⟨.prod .byte .byte,Mv⟩:=rfl
def gO:mM Mu=true:=Tc
def gB:mN Mv=true:=Tc
def dU:EI wG ⟨.fn 127,Vm,[],_,RS.mk (wH) []⟩:=(fx [⟨Mj.e vx,qbh Tf⟩]).fi jh
def x6s:EI wG ⟨.fn 71,Vm,[],_,RS.mk (UI) []⟩:=(fx [dU.p]).fi I1
def x7s:EI wG ⟨.fn 36,[wS],[],_,RS.mk (wH) []⟩:=(fx [⟨M3.e vy,qcv gP gC gO gB⟩,x6s.p]).fi fR
def x8s:EI wG ⟨.fn 285,[VE],[],_,RS.mk (UI) []⟩:=(fx).fi uH
def jE:EI wG ⟨.thr 132 [],[Uk],[UF],_,RS.mk Vr [WX]⟩:=(fx).ft oo
def xn(fu:Nat):Fx wG ⟨.thr 286 [],[Uk],[UF],_,.two Ui YN⟩:=fx [jE.p] [lb 194 [(0,Uk),(2,wH)] [UF],lb 192 [(0,Uk),(2,wH)] [UF]]
def qvi(r0:(xn fu).L 1):(xn fu).L 0:=Fx.jm (He fu r0.f) [r0.s]
def qvh:Nat->(xn fu).L 1:=Fx.lq (fE fu) (Hd fu) (fun a=>[(qvi fu a).s])
def qvj:=(xn fu).ft (Oo fu) [(qvh fu fu).s]
def oQ:Fx wG ⟨.thr 232 [],[Uk],[UF],_,.two Ui YN⟩:=fx [x8s.p,(qvj fu).p] [lb 16 [(0,Uk)] [UF]]
def qv9:Nat->(oQ fu).L 0:=Fx.lq (tj fu) (tY fu) (fun a=>[a.s])
def qwa:=(oQ fu).ft (tX fu) [(qv9 fu fu).s]
def xp(fu:Nat):Fx wG ⟨.thr 233 [],[Uk],[UF],_,.two Ui (RS.mk (wS) [UF])⟩:=fx [jE.p] [lb 123357 Yc [UF,Ue],lb 962 Yc [UF,Ue],lb 960 Yc [UF,Ue]]
def qwt(r0:(xp fu).L 2):(xp fu).L 0:=Fx.jm (BN fu r0.f) [r0.s]
def qws(r0:(xp fu).L 2):(xp fu).L 1:=Fx.jm (kQ fu r0.f) [(qwt fu r0).s,r0.s]
def qwr:Nat->(xp fu).L 2:=Fx.lq (yj fu) (BM fu) (fun a=>[(qws fu a).s])
def qwu:=(xp fu).ft (BL fu) [(qwr fu fu).s]
def qw8:EI wG ⟨.fn 228,[wS,VE],[],_,RS.mk (wH) []⟩:=(fx [⟨Hv 283 bF,qgo⟩]).fi Ox
def qds:EI wG ⟨.fn 234,[wS,VE],[],_,RS.mk (wH) []⟩:=(fx [qw8.p]).fi bK
def MY:EI wG ⟨.fn 139,[VE],[],_,RS.mk (UI) []⟩:=(fx).fi BV
def qd0:EI wG ⟨.fn 189,[VE],[],_,RS.mk (UI) []⟩:=(fx [MY.p,qds.p]).fi yg
def oV:Fx wG ⟨.thr 180 [],[Uk],[UF],_,.two Ui (.two (RS.mk (W3) [UF]) (.two Xk YC))⟩:=fx [(qwa fu).p,(qwu fu).p,qds.p,qd0.p,jE.p] [lb 8162 [(0,Uk),(4,wH)] [UF],lb 8161 [(0,Uk),(4,wH),(81,UI)] [UF],lb 8160 [(0,Uk),(4,wH)] [UF]]
def qyy(r0:(oV fu).L 2):(oV fu).L 0:=Fx.jm (BK fu r0.f) [r0.s]
def qyx(r0:(oV fu).L 2):(oV fu).L 1:=Fx.jm (vt fu r0.f) [(qyy fu r0).s]
def qyw:Nat->(oV fu).L 2:=Fx.lq (vq fu) (BJ fu) (fun a=>[(qyx fu a).s])
def F5:=(oV fu).ft (ti fu) [(qyw fu fu).s]
def Np:EI wG ⟨.thr 129 [],[Uk],[UF],_,.two Ui (.two (RS.mk (W3) [UF]) (.two Xk YC))⟩:=(fx [(F5 fu).p]).ft (nu fu)
def x19:Fx wG ⟨.thr 181 [],[Uk],[UF],_,.two Ui (RS.mk (.own 1) [UF,Um])⟩:=fx [(Np fu).p,(F5 fu).p] [lb 112 Yc [UF,(32,.row XK 259)]]
def q0f:Nat->(x19 fu).L 0:=Fx.lq (fG fu) (BO fu) (fun a=>[a.s])
def qer:=(x19 fu).ft (fF fu) [(q0f fu fu).s]
def F7:EI wG ⟨.thr 131 [],[Uk,VE],[UF],_,.two Ui (RS.mk (UI) [UF])⟩:=(fx [(Np fu).p,(F5 fu).p]).ft (po fu)
def q14:EI wG ⟨.fn 316,[VE],[],_,RS.mk (UI) []⟩:=(fx).fi aX
def x22(fu:Nat):Fx wG ⟨.fn 34,[wS,.fn 316 []],[],_,RS.mk (UI) []⟩:=fx [q14.p] [lb 104 [(0,wS),(1,.fn 316 []),(7,wH),(8,wH)]]
def q2m:Nat->(x22 fu).L 0:=Fx.lq (kT fu) (Hl fu) (fun a=>[a.s])
def q2n:=(x22 fu).fi (BQ fu) [(q2m fu fu).s]
def qfb:EI wG ⟨.fn 287,[wS],[],_,RS.mk (UI) []⟩:=(fx [(q2n fu).p]).fi (th fu)
def q30:EI wG ⟨.fn 147,Xy,[],_,RS.mk Xt [Vo,UM,Uz]⟩:=(fx).fi bL
def AK:EI wG ⟨.fn 89,Vm,[],_,RS.mk Xt [Vo,UM,Uz]⟩:=(fx [q30.p]).fi qq
def x26(fu:Nat):Fx wG ⟨.fn 34,X2,[],_,RS.mk (UI) []⟩:=fx [qd0.p] [lb 104 [(0,wS),(1,.fn 189 []),(7,wH),(8,wH)]]
def q31:Nat->(x26 fu).L 0:=Fx.lq (kU fu) (Hm fu) (fun a=>[a.s])
def q32:=(x26 fu).fi (BR fu) [(q31 fu fu).s]
def q33:EI wG ⟨.yld 0,[wS],[Ug,Vu,VZ,VB],_,.two (RS.mk (Ya) [(0,.loop .done (some .ret) 291 17 [(3,Vs),(4,WD)] [8] 0 3),Vu,VZ,VB]) (RS.mk (VO) [Ug,Vu,VZ,VB])⟩:=(fy 291 [(q32 fu).p] [] false [([0,1,0,1],0)] (ob rfl ly)).fo (vo fu) [] 0 [0,1,0,1]
def NF:Fx wG ⟨.fn 208,Uo,Wo,_,.two (RS.mk Vp [(0,.loop .done (some .ret) 291 17 [XV,XW] [8] 0 6),UM,UW,UQ,VI,U5,Ur]) (RS.mk Vp Wo)⟩:=fx [⟨mW.e oq,yM gP gC gO gB⟩,(q33 fu).p,dU.p] [lb 320 [U6,U1] Wo,lb 96 Xb Wo]
def q34:Nat->(NF fu).L 0:=Fx.lq (I5 fu) (OM fu) (fun a=>[a.s])
def q35:Nat->(NF fu).L 1:=Fx.lq (lJ fu) (ON fu) (fun a=>[a.s])
def q36:=(NF fu).fi (vR fu) [(q34 fu fu).s,(q35 fu fu).s]
def q37:EI wG ⟨.fn 291,X2,[],_,RS.mk (UI) []⟩:=(fx [AK.p,(q36 fu).p] [] false [([0,1,0,1],0)] (ob rfl ly)).fi (tT fu)
def qfi:EI wG ⟨.fn 240,[wS],[],_,RS.mk (UI) []⟩:=(fx [(q37 fu).p]).fi (vm fu)
def NG:EI wG ⟨.thr 184 [],[Uk,VE],[UF],_,.two Ui YN⟩:=(fx [(F7 fu).p,jE.p]).ft (aZ fu)
def q38:EI wG ⟨.fn 317,[VE],[],_,RS.mk (UI) []⟩:=(fx [MY.p]).fi aV
def x33(fu:Nat):Fx wG ⟨.fn 34,X3,[],_,RS.mk (UI) []⟩:=fx [q38.p] [lb 104 [(0,wS),(1,.fn 317 []),(7,wH),(8,wH)]]
def q39:Nat->(x33 fu).L 0:=Fx.lq (kV fu) (Hn fu) (fun a=>[a.s])
def q4a:=(x33 fu).fi (BS fu) [(q39 fu fu).s]
def q4b:EI wG ⟨.yld 0,[wS],[Ug,Vv,VZ,VB],_,.two (RS.mk (Ya) [(0,.loop .done (some .ret) 291 17 [(3,Vs),(4,WD)] [8] 0 3),Vv,VZ,VB]) (RS.mk (VO) [Ug,Vv,VZ,VB])⟩:=(fy 291 [(q4a fu).p] [] false [([0,1,0,1],0)] (ob rfl ly)).fo (vp fu) [] 0 [0,1,0,1]
def NH:Fx wG ⟨.fn 208,Uo,Wp,_,.two (RS.mk Vp [(0,.loop .done (some .ret) 291 17 [XV,XW] [8] 0 6),UM,UW,UQ,VJ,U5,Ur]) (RS.mk Vp Wp)⟩:=fx [⟨mW.e oq,yM gP gC gO gB⟩,(q4b fu).p,dU.p] [lb 320 [U6,U1] Wp,lb 96 Xb Wp]
def q4c:Nat->(NH fu).L 0:=Fx.lq (I6 fu) (OO fu) (fun a=>[a.s])
def q4d:Nat->(NH fu).L 1:=Fx.lq (lK fu) (OP fu) (fun a=>[a.s])
def q4e:=(NH fu).fi (vS fu) [(q4c fu fu).s,(q4d fu fu).s]
def q4f:EI wG ⟨.fn 291,X3,[],_,RS.mk (UI) []⟩:=(fx [AK.p,(q4e fu).p] [] false [([0,1,0,1],0)] (ob rfl ly)).fi (tU fu)
def qfk:EI wG ⟨.fn 288,[wS],[],_,RS.mk (UI) []⟩:=(fx [(q4f fu).p]).fi (qo fu)
def NI:Fx wG ⟨.thr 235 [],[Uk,.own 1],[UF,Um],_,.two (RS.mk Vr [WX,Va]) Yf⟩:=fx [(qfb fu).p,(qfi fu).p,jE.p,(NG fu).p,(F5 fu).p,(qfk fu).p] [lb 14 [(0,Uk),(1,.own 1),(4,UN)] [UF,Um,Up],lb 13 [(0,Uk),(1,.own 1),(4,UN),(32,UI)] [UF,Um,Up]]
def q4h:(NI fu).L 0:=Fx.jm (tZ fu)
def q4g:(NI fu).L 1:=Fx.jm (bC fu) [(q4h fu).s]
def q4i:=(NI fu).ft (bA fu) [(q4g fu).s]
def qfl:EI wG ⟨.fn 261,Vm,[],_,RS.mk (UI) []⟩:=(fx).fi Ci
def q4k:EI wG ⟨.fn 225,Vm,[],_,RS.mk (UI) []⟩:=(fx [qfl.p]).fi vO
def x41(fu:Nat):Fx wG ⟨.fn 252,[wS],[],_,RS.mk (wH) []⟩:=fx [] [lb 104 [(2,wH),(4,UN)] [(32,.it)]]
def q4l:Nat->(x41 fu).L 0:=Fx.lq (IP fu) (OU fu) (fun a=>[a.s])
def q4m:=(x41 fu).fi (OT fu) [(q4l fu fu).s]
def x42:Fx wG ⟨.fn 206,Vm,[],_,RS.mk (wH) []⟩:=fx [(q4m fu).p,⟨Hu 253 BY,qgm⟩,dU.p] [lb 496 [(0,wS),(1,wS),(5,wH)]]
def q4n:Nat->(x42 fu).L 0:=Fx.lq (I2 fu) (OJ fu) (fun a=>[a.s])
def q4o:=(x42 fu).fi (OI fu) [(q4n fu fu).s]
def NK:Fx wG ⟨.fn 211,[wS,wS,wH,wH],[],_,RS.mk (Wk) []⟩:=fx [(q4o fu).p,dU.p] [lb 16352 [(0,wS),(1,wS),(2,wH),(3,wH),(9,Un),VP] [(32,VN)],lb 62 [(0,wS),(1,wS),(2,wH),(3,wH)]]
def q4q:Nat->(NK fu).L 0:=Fx.lq (vQ fu) (I4 fu) (fun a=>[a.s])
def q4p:(NK fu).L 1:=Fx.jm (CI fu) [(q4q fu fu).s]
def qfo:=(NK fu).fi (CH fu) [(q4p fu).s]
def q4r:EI wG ⟨.fn 318,Xy,[],_,RS.mk (Wk) []⟩:=(fx [(qfo fu).p]).fi (CG fu)
def ip:EI wG ⟨.fn 27,[],[],_,RS.mk WI []⟩:=(fx).fi fc
def q4s:EI wG ⟨.fn 357,[.h wB,VE],[],_,RS.mk (wH) []⟩:=(fx [⟨Hw 367 bF,qgq⟩]).fi Ou
def x47(fu:Nat):Fx wG ⟨.fn 337,V7,[],_,RS.mk WJ [(0,VF)]⟩:=fx [io.p,ip.p,q4s.p] [lb 1000 [(3,UN),(4,WR),(5,wH),(6,wH),(14,.h wB),(15,wH),(16,wH)] [UJ,(33,VF)]]
def q4t:Nat->(x47 fu).L 0:=Fx.lq (uA fu) (Hg fu) (fun a=>[a.s])
def q4u:=(x47 fu).fi (BP fu) [(q4t fu fu).s]
def q4v:EI wG ⟨.fn 349,V7,[],_,RS.mk (.fn 366 [Uk]) [Wu]⟩:=(fx).fi Hh
def q4w:EI wG ⟨.yld 0,[.agg [VE,VE,VE,VE]],Ye,_,RS.mk (VO) [VS,(1,.cells [.own 5] 58),Uz,VB,Vb,(5,VF)]⟩:=(fy 323 [] [] false [([0,1,0,1,1,1,1],1)] (ob rfl ly)).fo ju [] 0 [0,1,0,1,1,1,1]
def dT(fu:Nat):Fx wG ⟨.fn 366,[.yld 0,Vs],Xz,_,RS.mk Vp [UY,VK,(2,.cells [.own 6] 58),UQ,(4,.dfr),Xc,(6,VF)]⟩:=fx [q4w.p] [lb 9639 [U6,VD,(3,wH),(4,wH),(14,.c (.int .i64 2))] Vk,lb 9639 [U6,VD,(3,wH),(4,wH),(14,.c (.int .i64 1))] Vk,lb 9639 [U6,VD,(3,wH),(4,wH),(14,.c (.int .i64 0))] Vk,lb 16 [U6,VD] Vk]
def q42(r0:(dT fu).L 3):(dT fu).L 0:=Fx.jm (uE fu r0.f) [r0.s]
def q41(r0:(dT fu).L 3):(dT fu).L 1:=Fx.jm (uC fu r0.f) [(q42 fu r0).s]
def q40(r0:(dT fu).L 3):(dT fu).L 2:=Fx.jm (uB fu r0.f) [(q41 fu r0).s]
def q4z:Nat->(dT fu).L 3:=Fx.lq (yl fu) (Hi fu) (fun a=>[(q40 fu a).s])
def q43:=(dT fu).fi (Oq fu) [(q4z fu fu).s]
def q44:EI wG ⟨.fn 323,V7,[],_,RS.mk WJ [(0,VF)]⟩:=(fx [io.p,q4v.p,(q43 fu).p,ip.p] [] false [([0,1,0,1,1,1,1],1)] (ob rfl ly)).fi (Hf fu)
def q45:EI wG ⟨.fn 296,V7,[],_,RS.mk (wS) []⟩:=(fx [(q44 fu).p,⟨LP.e yt,qaf Tf⟩]).fi (CL fu)
def NP:Fx wG ⟨.fn 358,[VE],[],_,RS.mk (.tup [VE,UI]) []⟩:=fx [] [lb 103 [(0,VE),(13,UI)],lb 25 [(0,VE),(4,UI)]]
def q47:NP.L 0:=Fx.jm Hs
def q46:NP.L 1:=Fx.jm Hr [(q47).s]
def q48:=NP.fi kW [(q46).s]
def q49:EI wG ⟨.fn 338,[wS],[],_,RS.mk (.tup [VE,UI]) []⟩:=(fx [q48.p]).fi BX
def pO:Fx wG ⟨.fn 319,Vm,[],_,RS.mk X4 [(0,VF)]⟩:=fx [(q4u fu).p,(q45 fu).p,q49.p] [lb 7055647 [(1,wS),(8,Un),(9,wH),(65,UI)] [Ue],lb 55120 [(1,wS),(8,Un),(9,wH)] [Ue],lb 215 [(1,wS),YD],lb 53 [(1,wS),(12,wS),(13,UI)]]
def q5d(a:(pO fu).L 1):(pO fu).L 0:=Fx.jm (vY fu a.f) [a.s]
def q5c:Nat->(pO fu).L 1:=Fx.lq (lL fu) (IR fu) (fun a=>[a.s,(q5d fu a).s])
def q5b:(pO fu).L 2:=Fx.jm (vX fu) [(q5c fu fu).s]
def q5a:(pO fu).L 3:=Fx.jm (vW fu) [(q5b fu).s]
def q5e:=(pO fu).fi (CK fu) [(q5a fu).s]
def q5f:EI wG ⟨.fn 342,[wS,.h V4],[],_,RS.mk (X5) [VA]⟩:=(fx).fi Ca
def x57(fu:Nat):Fx wG ⟨.fn 365,[wS],[],_,RS.mk (wS) []⟩:=fx [] [lb 232 [(3,Un),(8,Un),(9,wH),VP] [Ue]]
def q5g:Nat->(x57 fu).L 0:=Fx.lq (ym fu) (kX fu) (fun a=>[a.s])
def q5h:=(x57 fu).fi (fJ fu) [(q5g fu fu).s]
def q5i:EI wG ⟨.fn 348,Vm,[],_,RS.mk (UI) []⟩:=(fx [(q5h fu).p]).fi (bD fu)
def q5j:EI wG ⟨.fn 322,[wS],[],_,.two (RS.mk (.tup [X5,UI]) [VA]) (.two (RS.mk (.tup [.agg [wS,.fn 343 [],.fn 344 []],UI]) []) (.two (RS.mk (.tup [.agg [wS,.fn 346 [],.fn 347 []],UI]) []) (RS.mk (.tup [.agg [wS,.c .nilFunc,.c .nilFunc],UI]) [])))⟩:=(fx [q5f.p,(q5i fu).p]).fi (fK fu)
def x60(fu:Nat):Fx wG ⟨.fn 361,[.h wB,Uk],[VA],_,RS.mk (.own 1) [VA,(1,YB)]⟩:=fx [] [lb 232 [(1,Uk),(4,Un),(8,.h wB),(9,wH),VP] [VA,(32,YB)]]
def q5k:Nat->(x60 fu).L 0:=Fx.lq (uI fu) (Hz fu) (fun a=>[a.s])
def q5l:=(x60 fu).fi (Hy fu) [(q5k fu fu).s]
def q5m:EI wG ⟨.fn 343,V7,[],_,RS.mk Wn [(0,YB)]⟩:=(fx).fi Hx
def q5n:EI wG ⟨.fn 364,[wH,Uk],[Wu],_,RS.mk (.h V4) [Wu]⟩:=(fx).fi uJ
def dV(fu:Nat):Fx wG ⟨.fn 346,V7,[],_,RS.mk Wn [(0,YB)]⟩:=fx [q5n.p] [lb 62620 [(1,UN),(3,WR),WN,(5,wH),YL] [Vl,Ve],lb 250475 [(1,UN),(3,WR),WN,(5,wH),YL,(7,.h V4),(48,UI)] [Vl,Ve],lb 31309 [(1,UN),(3,WR),WN,(5,wH),YL,(38,UI)] [Vl,Ve],lb 976 [(1,UN),(3,WR),WN,(5,wH)] [Vl,Ve]]
def qft(r0:(dV fu).L 3):(dV fu).L 0:=Fx.jm (fL fu r0.f) [r0.s]
def q5q(r0:(dV fu).L 3):(dV fu).L 1:=Fx.jm (uK fu r0.f) [(qft fu r0).s]
def q5p(r0:(dV fu).L 3):(dV fu).L 2:=Fx.jm (kY fu r0.f) [(q5q fu r0).s,(qft fu r0).s]
def q5o:Nat->(dV fu).L 3:=Fx.lq (bG fu) (H1 fu) (fun a=>[(q5p fu a).s])
def q5r:=(dV fu).fi (H0 fu) [(q5o fu fu).s]
def q5s:EI wG ⟨.fn 320,[wS,.h wB],[],_,RS.mk XP []⟩:=(fx [io.p,(q5j fu).p,(q5l fu).p,ip.p,q5m.p,(q5r fu).p]).fi (BZ fu)
def np:EI wG ⟨.fn 21,[.h UZ],[],_,RS.mk (UI) []⟩:=(fx).fi fq
def NS:Fx wG ⟨.fn 289,[wS],[],_,RS.mk (.tup [wS,wH,UI]) []⟩:=fx [q4k.p,(q4r fu).p,(q5e fu).p,(q5s fu).p,np.p] [lb 62 [(5,Wk)],lb 61 [(5,Wk),(28,UI)]]
def q5u:(NS fu).L 0:=Fx.jm (IS fu)
def q5t:(NS fu).L 1:=Fx.jm (vZ fu) [(q5u fu).s]
def q5v:=(NS fu).fi (CM fu) [(q5t fu).s]
def q5w:EI wG ⟨.fn 290,[Uk,VE],VW,_,RS.mk (W3) [Vq,Va,(2,VF)]⟩:=(fx [⟨Ke.e bH,Q2⟩]).fi CE
def qfu:EI wG ⟨.fn 23,Wx,VW,_,RS.mk (.tup [wH,W3]) [Vq,Va,(2,VF)]⟩:=(fx [⟨Ke.e bH,Q2⟩]).fi fS
def dW:Fx wG ⟨.fn 237,[wS],[],_,RS.mk XP []⟩:=fx [io.p,(q5v fu).p,q5w.p,qfu.p,⟨JS.e fI,Qd⟩,ip.p,x8s.p] [lb 256342 XB Xo,lb 256341 [(0,wS),(3,UN),(4,U3),(5,wH),(6,wH),(42,UI)] Xo,lb 256340 XB Xo,lb 2000 XB Xo]
def q50(r0:(dW fu).L 3):(dW fu).L 0:=Fx.jm (vV fu r0.f) [r0.s]
def q5z(r0:(dW fu).L 3):(dW fu).L 1:=Fx.jm (vU fu r0.f) [(q50 fu r0).s]
def q5y(r0:(dW fu).L 3):(dW fu).L 2:=Fx.jm (vT fu r0.f) [(q5z fu r0).s]
def q5x:Nat->(dW fu).L 3:=Fx.lq (bM fu) (IQ fu) (fun a=>[(q5y fu a).s,a.s])
def q51:=(dW fu).fi (CJ fu) [(q5x fu fu).s]
def q53:EI wG ⟨.fn 236,[Uk,Vs],XQ,_,RS.mk Vp [(0,.cells [.own 4] 61),(1,.cells [.own 5] 61),WY,WZ,(4,VN),(5,VN)]⟩:=(fx [⟨nP.e kz,zM⟩,(q51 fu).p]).fi (tR fu)
def x71:Fx wG ⟨.fn 183,[.h (.list XK)],[],_,RS.mk (wS) []⟩:=fx [(q53 fu).p,⟨nP.e kz,zM⟩] [lb 488 [(3,UN),(4,U3),(5,.fn 236 [U3,UN]),(9,.h (.list XK)),VP,WE] [(32,.cells [Wh] 61),(33,.cells [XX] 61),(34,VN),(35,VN)]]
def q54:Nat->(x71 fu).L 0:=Fx.lq (tS fu) (Hc fu) (fun a=>[a.s])
def qfw:=(x71 fu).fi (kP fu) [(q54 fu fu).s]
def q55:EI wG ⟨.thr 182 [],[Uk,.own 1],[UF,Um],_,.two (RS.mk Vr [WX,Va]) Yf⟩:=(fx [(F7 fu).p,(q4i fu).p,(qer fu).p,(qfw fu).p,(NG fu).p]).ft (yh fu)
def NU:Fx wG ⟨.thr 130 [],[Uk],[UF],_,.two Ui (RS.mk (.h UH) [UF])⟩:=fx [(qer fu).p,(F7 fu).p,(q55 fu).p,(qfw fu).p,jE.p,(NG fu).p] [lb 2032 [(0,Uk),(2,UN),(4,U3)] [UF,Wr,(33,.cells [wS,VO,Wh] 107),(34,.row VR 109)],lb 252 [(0,Uk),(2,UN),(4,U3)] [UF,Wr,(33,.cells [wS,VO,wN] 107)]]
def q57:Nat->(NU fu).L 0:=Fx.lq (aY fu) (tV fu) (fun a=>[a.s])
def q56:(NU fu).L 1:=Fx.jm (tW fu) [(q57 fu fu).s]
def q58:=(NU fu).ft (yi fu) [(q56 fu).s]
def qfx:EI wG ⟨.fn 238,[wS],[],_,RS.mk (wH) []⟩:=(fx [⟨M3.e vy,qcv gP gC gO gB⟩]).fi vl
def q59:EI wG ⟨.fn 239,Xl,[],_,RS.mk WI []⟩:=(fx [qfx.p,io.p,(qfb fu).p,(qfk fu).p,ip.p]).fi (aU fu)
def FD:Fx wG ⟨.fn 185,[.h UH],[],_,RS.mk (wH) []⟩:=fx [qfx.p,(q59 fu).p,np.p] [lb 488 [(31,.h (.list VR)),(32,wH),(33,wH)],lb 60 [(1,UN)] [Xx],lb 29 [(1,UN),(29,UI)] [Xx]]
def q6c:Nat->(FD fu).L 0:=Fx.lq (vn fu) (kO fu) (fun a=>[a.s])
def q6b:(FD fu).L 1:=Fx.jm (tQ fu) [(q6c fu fu).s]
def q6a:(FD fu).L 2:=Fx.jm (qp fu) [(q6b fu).s]
def q6d:=(FD fu).fi (aW fu) [(q6a fu).s]
def AL:Fx wG ⟨.fn 133,[Vg],[],_,RS.mk WI []⟩:=fx [io.p,(q6d fu).p,ip.p] [lb 1000 [(2,UN),(29,Vg),(30,wH),(31,wH)] [UJ],lb 124 [U4,(2,UN)] [UJ],lb 61 [U4,(2,UN),YD] [UJ],lb 232 [U4,(2,UN),(3,wH),(9,Vg),VP,WE] [UJ]]
def q6h:Nat->(AL fu).L 0:=Fx.lq (vk fu) (kK fu) (fun a=>[a.s])
def q6g:(AL fu).L 1:=Fx.jm (tP fu) [(q6h fu fu).s]
def q6f:(AL fu).L 2:=Fx.jm (vj fu) [(q6g fu).s]
def q6e:Nat->(AL fu).L 3:=Fx.lq (vi fu) (kJ fu) (fun a=>[a.s,(q6f fu).s])
def qfy:=(AL fu).fi (aR fu) [(q6e fu fu).s]
def NZ:IF:=⟨.thr 72 [(2,2),(3,3)],[],[UM,XU,(3,.cells WK 25)],_,.two (RS.mk Vr [UM,(2,.cells [.u] 101),(3,.cells [.u,.u] 25)]) (RS.mk (.tup [Vg,.h UZ]) [Va,WY,WZ])⟩
def q6i:List (EP wG):=[(Np fu).p,(q58 fu).p,(qfy fu).p,np.p,io.p,ip.p,(F7 fu).p,jE.p]
section
variable[iHB:HB]
abbrev fxb{i:IF}(a:List (EP wG):=[])(c:List LB:=[])(b:wG.funcs[gQ i.key]? = some (rf wG (gQ i.key)):=by kernel_rfl):Fx wG i:=Fx.at etys Jr (gQ i.key) a c false [] ly b
def jD:Fx wG NZ:=fxb ((q6i fu).map fun x=>EP.cv x) [lb 252 [U1,VQ] [UM,(2,.cells [Un] 101),(3,Wm),WO],lb 16032 [U1,VQ,(4,UN)] [UM,(2,.cells [WR] 101),(3,Wm),(32,.dat Ub 179),WP],lb 30 [VD,U1,VQ] [UM,XU,(3,Wm)]]
def qf1:(jD fu).L 0:=Fx.jm (fD fu)
def q6k:Nat->(jD fu).L 1:=Fx.lq (mh fu) (fB fu) (fun a=>[a.s,(qf1 fu).s])
def q6j:(jD fu).L 2:=Fx.jm (fC fu) [(qf1 fu).s,(q6k fu fu).s]
end
def dY(fu:Nat):Fx wG ⟨.fn 72,[wS],[],_,RS.mk (.tup [Vg,.h UZ]) []⟩:=fx [io.p] [lb 14 [(1,UN),UU,(3,XC)] [Wl,(33,.cells [wN] 101),(34,Wm)]]
def ql9(c a:Int)(w:World):Calls wG 20 #[.int .i64 c,.int .i64 a] w fun e w'=>e = .returned (.agg #[.int .i64 c,.int .i64 a])/\w'=w.alloc (.cells #[.int .i64 c,.int .i64 a] 25):=by
 go_enter func20,Tryz.ntmps20
 go_wp2
 simp[bodyPost,results,Tryz.results20,go_sem]
def qj0(p q r:Addr)(w:World) :
  CallsD wG 128 #[.pointer (some p),.pointer (some q),.pointer (some r)] .returning w fun e d w'=>e = .returned (.tuple #[])/\d = .returning/\w'=w:=by
 have a:∀w:World,(binOp BinOp.eql 20 .nilIface .nilIface).run wG w = .ok (.bool true) w:=fun _=>Tc
 refine callsD_of_wpS func128 rfl fun b f c => ?_
 apply wpS_seq;apply wpS_region;simp[wpOpsS,go_sem,recoverD,c,Tryz.ntmps128,Exit.thenS];refine wpS_of_wp ?_;apply wp_block;apply wp_seq;apply wp_region;simp[wpOps,go_sem,a,Exit.then,Oper.upon]
 repeat refine Or.inl ?_
 refine wp_cond_true ?_ ?_
 ·simp[Act.eval]
 apply wp_region;simp[wpOps,go_sem,Exit.inBlock,bodyPostS,results,Tryz.results128,Oper.upon]
 repeat refine Or.inl ?_
 cases b
 simp_all
def qj1(g f c:Nat)(s:Bs)(n:Int)(x y z:Value)(w:World)(I:w.cell? ⟨g,0,none⟩=some (.string ⟨s.toArray⟩))(J:w.heap[f]? = some (.cells #[x] 101 (0,0)))(K:w.heap[c]? = some (.cells #[y,z] 25 (0,0)))(C:f≠c) :
  CallsD wG 128 #[.pointer (some ⟨g,0,none⟩),.pointer (some ⟨f,0,none⟩),.pointer (some ⟨c,0,none⟩)] (.panicking [{ v:=wv 176 n,recovered:=false }]) w fun e X w'=>e = .returned (.tuple #[])/\X = .panicking [{ v:=wv 176 n,recovered:=true }] /\
   w'=((((w.alloc (.cells #[.int .i64 n] 176)).alloc (.cells #[.int .i64 11,.int .i64 (if(s.length:Int)<n then s.length else n)] 25)).setCell ⟨f,0,none⟩ (.slice none 0 0)).setCell ⟨c,0,none⟩ (.int .i64 11)).setCell ⟨c,1,none⟩ (.int .i64 (if(s.length:Int)<n then s.length else n)):=by
 have l:∀(t:TypeId)(v:Value)(w:World),(binOp BinOp.eql 20 (.iface t v) .nilIface).run wG w = .ok (.bool false) w:=fun t v w=>by
  have F:wG.underlying 20=some (.interface #[]):=Tc
  have q:∀d,(Op.equalIn (d+1) 20 (.iface t v) .nilIface).run wG w = .ok false w:=fun d=>by simp[Op.equalIn,ce F]
  have e:(Op.equal 20 (.iface t v) .nilIface).run wG w = .ok false w:=q 9999;simp[binOp,e]
 have E:∀w:World,(Instr.typeAssert (.iface 176 (.agg #[.int .i64 n])) 20 176 true).run wG w = .ok (.tuple #[.agg #[.int .i64 n],.bool true]) w:=fun w=>by
  have u:(match wG.underlying 176 with|some (.struct _)=>true|_=>false)=true:=Tc
  cases A:wG.underlying 176 with
  |none=>rw[A]at u;cases u
  |some d=>
   rw[A]at u;cases d<;>first
    |(simp[Instr.typeAssert,underlying,A];done)
    |cases u
 refine callsD_of_wpS func128 rfl fun W Y F => ?_
 apply wpS_seq;apply wpS_region;simp[wpOpsS,go_sem,recoverD,F,Tryz.ntmps128,Exit.thenS];refine wpS_of_wp ?_;apply wp_block;apply wp_seq;apply wp_region;simp[wpOps,go_sem,wv,l,Exit.then,Oper.upon]
 repeat refine Or.inl ?_
 refine wp_cond_false ?_ ?_
 ·simp[Act.eval]
 apply wp_seq;apply wp_region;simp[wpOps,go_sem,E,Exit.then,Oper.upon]
 repeat refine Or.inl ?_
 refine wp_cond_true ?_ ?_
 ·simp[Act.eval]
 apply wp_seq;apply wp_region;simp[wpOps,go_sem,Exit.then,Oper.upon]
 repeat refine Or.inl ?_
 have S:w.heap[g]? ≠ none:=fun e=>by simp[World.cell?,e]at I
 have T:g<w.heap.size:=by
  rcases Nat.lt_or_ge g w.heap.size with h|h
  ·exact h
  ·exact absurd (Array.getElem?_eq_none h) S
 have U:f<w.heap.size:=(Array.getElem?_eq_some_iff.1 J).1;have V:c<w.heap.size:=(Array.getElem?_eq_some_iff.1 K).1;apply wp_region;have j:∀(w:World)(o:Obj)(B:Nat),B<w.heap.size->(w.alloc o).heap[B]? = w.heap[B]? := fun w o B h=>by
  show(w.heap.push o)[B]? = _;rw[Array.getElem?_push,qW]
 have c1:(w.alloc (.cells #[.int .i64 n] 176)).cell? ⟨g,0,none⟩=some (.string ⟨s.toArray⟩):=by
  rw[World.cell?_of_block (w:=w) (j w _ g T)];exact I
 have k:∀(a b:Int)(w:World),(Builtin.min_ #[3,3] 3 #[.int .i64 a,.int .i64 b]).run wG w = .ok (.int .i64 (if b<a then b else a)) w:=fun a b w=>by
  simp[Builtin.min_,Builtin.min2]
 simp[wpOps,go_sem,Exit.then,Oper.upon,c1,k]
 repeat refine Or.inl ?_
 refine(ql9 _ _ _).mono ?_;rintro e w' ⟨rfl,rfl⟩
 generalize m:(w.alloc (Obj.cells #[Value.int IntKind.i64 n] 176)).alloc (Obj.cells #[Value.int IntKind.i64 11,Value.int IntKind.i64 (if(s.length:Int)<n then(s.length:Int) else n)] 25)=w2
 have G:w2.heap[f]? = some (.cells #[x] 101 (0,0)):=by
  rw[← m,j _ _ _ (by rw[World.size_alloc];omega),j _ _ _ U];exact J
 have O:w2.heap[c]? = some (.cells #[y,z] 25 (0,0)):=by
  rw[← m,j _ _ _ (by rw[World.size_alloc];omega),j _ _ _ V];exact K
 have L:w2.cell? ⟨f,0,none⟩=some x:=by simp[World.cell?,G]
 have P:w2.frozen? ⟨f,0,none⟩=false:=by simp[World.frozen?,G]
 generalize p:w2.setCell ⟨f,0,none⟩ (.slice none 0 0)=w3;have i:w3.heap[c]? = some (.cells #[y,z] 25 (0,0)):=by
  rw[← p];simp only[World.setCell,Array.getElem?_modify];rw[qW C];exact O
 have M:w3.cell? ⟨c,0,none⟩=some y:=by simp[World.cell?,i]
 have Q:w3.frozen? ⟨c,0,none⟩=false:=by simp[World.frozen?,i]
 generalize r:w3.setCell ⟨c,0,none⟩ (.int .i64 11)=w4;have H:w4.heap[c]? = some (.cells #[.int .i64 11,z] 25 (0,0)):=by
  rw[← r];simp[World.setCell,Array.getElem?_modify,i]
 have N:w4.cell? ⟨c,1,none⟩=some z:=by simp[World.cell?,H]
 have R:w4.frozen? ⟨c,1,none⟩=false:=by simp[World.frozen?,H]
 simp[wpOps,go_sem,Exit.then,Oper.upon,L,P,p,storeCells,M,Q,r,N,R,Addr.add]
 repeat refine Or.inl ?_
 refine⟨rfl,_,rfl,.tuple #[],?_,rfl,rfl,rfl⟩;simp[results,Tryz.results128]
def kj(p:List Nat):Code:=sub (y8 (rf wG 72)) p
def ik(i:Nat):Oper:=match kj [0,1,1] with|.region _ ops _=>ops[i]?.getD default|_=>default
def qqh:kj [0,1,1] = .region 3 #[ik 0,ik 1] false:=Tc
def qqj:kj [1,1,1] = .seq (kj [0,1,1,1]) (kj [1,1,1,1]):=Tc
def qqb:(ik 0).op = .makeFunc (.func 128) #[] #[.tmp 1,.tmp 2,.tmp 3]:=Tc
def qqc:(ik 0).dst=some 10:=Tc
def qqd:(ik 0).guard=none:=Tc
def qqe:(ik 1).op = .defer { callee := .value (.tmp 10),args:=#[],argTypes:=#[] }:=Tc
def qqf:(ik 1).dst=none:=Tc
def qqg:(ik 1).guard=none:=Tc
def qp8:e9 (nd (dY fu).body (kl 0 (dY fu).ls).1)=[.code (kj [0,1,1]),.code (kj [1,1,1])]:=Tc
def qql[HB](fu:Nat):e9 (nd (jD fu).body (kl 2 (jD fu).ls).1)=[.code (kj [0,1,1,1]),.code (kj [1,1,1,1])]:=Tc
def rr(a b c:Nat):Deferred:={ target := .fn (.func 128) #[.pointer (some ⟨a,0,none⟩),.pointer (some ⟨b,0,none⟩),.pointer (some ⟨c,0,none⟩)],args:=#[] }
def qp6{b:Frame}{a:Act}{k:List Item}{cs:List Frame}{w:World}{d f g:Nat}(j:b.roundOf=none)(y:b.kind = .normal)(m:10<a.tmps.size)(p:a.tmps[1]? = some (.pointer (some ⟨d,0,none⟩)))(q:a.tmps[2]? = some (.pointer (some ⟨f,0,none⟩)))(r:a.tmps[3]? = some (.pointer (some ⟨g,0,none⟩))) :
  ∃v,Steps wG (lone (b.atR a (.code (kj [0,1,1])::k)) cs w) (lone (b.atR { tmps:=a.tmps.setIfInBounds 10 v,defers:=rr d f g::a.defers } k) cs w):=by
 refine⟨.func (.func 128) #[] #[.pointer (some ⟨d,0,none⟩),.pointer (some ⟨f,0,none⟩),.pointer (some ⟨g,0,none⟩)],?_⟩;rw[qqh];have e:∀t v,a.tmps[t]? = some v->a.eval (.tmp t)=v:=fun t v h=>by
  show a.tmps.getD t undef=v;rw[Array.getD_eq_getD_getElem?,h];rfl
 have x:∀(rest:List Nat),step wG (lone (b.atR a (.inRegion #[ik 0,ik 1] (0::rest)::k)) cs w) = .next (lone (b.atR { tmps:=a.tmps.setIfInBounds 10 (.func (.func 128) #[] #[.pointer (some ⟨d,0,none⟩),.pointer (some ⟨f,0,none⟩),.pointer (some ⟨g,0,none⟩)]),defers:=a.defers } (.inRegion #[ik 0,ik 1] rest::k)) cs w):=by
  intro rest;have o:(#[ik 0,ik 1]:Array Oper)[0]? = some (ik 0):=rfl;have u:Region.wanted (ik 0) (yielded #[ik 0,ik 1] a.tmps)=true:=by simp[Region.wanted,qqd]
  have n:=stepGR_op (P:=wG) (b:=b) (a:=a) (k:=k) (cs:=cs) (w:=w) (rest:=rest) o u;rw[j,Oper.semAt_none]at n;have s:(execOp a.eval (ik 0)).run wG w = .ok (.value (.func (.func 128) #[] #[.pointer (some ⟨d,0,none⟩),.pointer (some ⟨f,0,none⟩),.pointer (some ⟨g,0,none⟩)])) w:=by
   simp[execOp,qqb,Instr.makeFunc,e 1 _ p,e 2 _ q,e 3 _ r]
  have c:=Frame.finish_atR b a #[ik 0,ik 1] 0 rest k (.func (.func 128) #[] #[.pointer (some ⟨d,0,none⟩),.pointer (some ⟨f,0,none⟩),.pointer (some ⟨g,0,none⟩)]);rw[o]at c;simp only[qB,qqc]at c;refine step_lone_go ?_;rw[n];simp[stepG.apply,s];rw[c];rfl
 refine(Steps.one stepR_region).trans ?_;show Steps wG (lone (b.atR a (.inRegion #[ik 0,ik 1] [0,1]::k)) cs w) _;refine(Steps.one (x [1])).trans ((Steps.one (qs3 (i:=1) rfl qqg qqe qqf j (dd:=rr d f g) ?_)).trans (.one stepR_region_end));have l:({ tmps:=a.tmps.setIfInBounds 10 (.func (.func 128) #[] #[.pointer (some ⟨d,0,none⟩),.pointer (some ⟨f,0,none⟩),.pointer (some ⟨g,0,none⟩)]),defers:=a.defers }:Act).eval (.tmp 10) = .func (.func 128) #[] #[.pointer (some ⟨d,0,none⟩),.pointer (some ⟨f,0,none⟩),.pointer (some ⟨g,0,none⟩)]:=by
  show(a.tmps.setIfInBounds 10 _).getD 10 undef=_;rw[Array.getD_eq_getD_getElem?,Array.getElem?_setIfInBounds_self_of_lt m];rfl
 simp[resolve,l,Deferred.ofValue,rr]
abbrev mc:List (Nat×Nat):=[(1,32),(2,33),(3,34)]
abbrev CZ:Ty := .list (.prod .str (.prod .bool (.list (.prod .str wP))))
def SD(a b c:Nat)(w':World):(invoke (.fn (.func 128) #[.pointer (some ⟨a,0,none⟩),.pointer (some ⟨b,0,none⟩),.pointer (some ⟨c,0,none⟩)]) #[]).run wG w' = .ok (.enter 128 #[.pointer (some ⟨a,0,none⟩),.pointer (some ⟨b,0,none⟩),.pointer (some ⟨c,0,none⟩)]) w':=by
 simp[go_sem]
def qqi{S:Bs}{f0:Int×Int}{q72:World}{q7w G G':Gh}{a:Act}{w w':World}{s:St}(o:s.hp=[(32,.cells [.str S] 9),(33,.cells [.val (.slice none 0 0)] 101),(34,.cells [.int .i64 f0.1,.int .i64 f0.2] 25)])(p:s.nx=64)(hrel:aj q72 q7w [] G s a w)
  {x:Machine} {cs:List Frame} {fr:Frame} {u y z:Nat} {v:Value} {c:Func} {l:List (Bs×Bool×List (Bs×Bs×Bs))} {A B:Int}
  (P:Steps wG x (lone fr cs w')) (F:fr.fn=72) (g:fr.mode = .returning) (i:fr.defers=[rr u y z]) (d:fr.kind = .normal) (j:wG.funcs[fr.fn]? = some c) (t:(results c fr.tmps).run wG w' = .ok v w')
  (N:Fin w (G.view mc) [(1,.cells [.str S] 9),(2,.cells [.val (.slice none 0 0)] 101),(3,.cells [.int .i64 f0.1,.int .i64 f0.2] 25)] G' [(1,.dead),(2,.dead),(3,.dead)] w')
  (q:ai (.tup [.sl (.prod .str (.prod .bool (.list (.prod .str wP)))) l,.agg [.int .i64 A,.int .i64 B]]) G' v) :
  sr wG none 72 x cs (fun v w'=>∃G',Fin q72 q7w [] G' [] w'/\ai (.tup [.sl (.prod .str (.prod .bool (.list (.prod .str wP)))) l,.agg [.int .i64 A,.int .i64 B]]) G' v):=by
 have K:Leaves wG c fr.tmps (fun e b=>e = .returned v/\b=w') [rr u y z] .returning w':=by
  refine leaves_cons (f:=128) Te (SD u y z w') ((qj0 _ _ _ w').mono ?_)
  rintro e W b ⟨rfl,rfl,rfl⟩
  exact⟨v,t,rfl,rfl⟩
 obtain⟨e,b,E,⟨rfl,rfl⟩,M,m,O⟩:=leaves_steps [rr u y z] .returning w' fr cs g i rfl j d K;obtain⟨Q,R,T,C,U,V⟩:=O;refine⟨v,b,E,?_,P.trans M,m.trans F,Q,R,T,C,U,V⟩;obtain⟨n,I,hp,nx,df⟩:=s;simp only at o p;subst o p;obtain⟨G2,X,H,J,_,L⟩:=zS (r := .tup [.sl (.prod .str (.prod .bool (.list (.prod .str wP)))) l,.agg [.int .i64 A,.int .i64 B]]) (names:=mc) (e := .returned v) hrel (k:=64) (by rfl) (by rfl) (wF _) (hpv:=[(1,.cells [.str S] 9),(2,.cells [.val (.slice none 0 0)] 101),(3,.cells [.int .i64 f0.1,.int .i64 f0.2] 25)]) (by rfl) (hp:=[(1,.cells [.str S] 9),(2,.cells [.val (.slice none 0 0)] 101),(3,.cells [.int .i64 f0.1,.int .i64 f0.2] 25)]) (hp':=[(1,.dead),(2,.dead),(3,.dead)]) (by rfl) (by simp[ay,AV.ren,AV.rens,pb]) ⟨v,G',rfl,N,q⟩
 cases H
 exact⟨G2,(ji.less L.lt (s':={ n:=43,fr:=[],hp:=[],nx:=64,df:=df }) rfl (fun _ _ h=>by cases h) (fun _ _ h=>by cases h)).fin,J⟩
def qqk{S:Bs}{f0:Int×Int}{q72:World}{q7w G G':Gh}{a:Act}{w w':World}{s:St}(I:s.hp=[(32,.cells [.str S] 9),(33,.cells [.val (.slice none 0 0)] 101),(34,.cells [.int .i64 f0.1,.int .i64 f0.2] 25)])(K:s.nx=64)(hrel:aj q72 q7w [] G s a w)
  {x:Machine} {cs:List Frame} {fr:Frame} {A u y:Nat} {n:Int} {g:Bs} (g1:G.box 32=some A) (T:G.box 33=some u) (U:G.box 34=some y)
  (hs:Steps wG x (lone fr cs w')) (F:fr.fn=72) (l:fr.mode = .panicking [{ v:=wv 176 n,recovered:=false }]) (E:fr.defers=[rr A u y]) (j:fr.kind = .normal)
  (t2:fr.tmps[2]? = some (.pointer (some ⟨u,0,none⟩))) (t3:fr.tmps[3]? = some (.pointer (some ⟨y,0,none⟩)))
  (i:Fin w (G.view mc) [(1,.cells [.str S] 9),(2,.cells [.val (.slice none 0 0)] 101),(3,.cells [.int .i64 f0.1,.int .i64 f0.2] 25)] G' [(1,.cells [.str g] 9),(2,.cells [.undef] 101),(3,.cells [.undef,.undef] 25)] w') :
  sr wG none 72 x cs (fun v w'=>∃G',Fin q72 q7w [] G' [] w'/\ai (.tup [.sl (.prod .str (.prod .bool (.list (.prod .str wP)))) [],.agg [.int .i64 11,.int .i64 (if(g.length:Int)<n then(g.length:Int) else n)]]) G' v):=by
 obtain⟨C1,ab,c1,h1,r1,_⟩:=i.mem.holds 1 _ rfl;obtain⟨C2,ac,c2,P,r2,_⟩:=i.mem.holds 2 _ rfl;obtain⟨C3,ad,c3,Q,r3,_⟩:=i.mem.holds 3 _ rfl;have e1:C1=A:=by
  have:=i.keep 1 _ A rfl (show(G.view mc).box 1=some A from g1)
  rw[c1]at this;exact qJ this
 have e2:C2=u:=by
  have:=i.keep 2 _ u rfl (show(G.view mc).box 2=some u from T)
  rw[c2]at this;exact qJ this
 have e3:C3=y:=by
  have:=i.keep 3 _ y rfl (show(G.view mc).box 3=some y from U)
  rw[c3]at this;exact qJ this
 subst e1 e2 e3;have p:C2≠C3:=fun e=>by
  have:=i.mem.apart 2 3 _ _ C2 rfl rfl c2 (by rw[e];exact c3)
  omega
 obtain⟨u1,rfl,Y⟩:=qah r1;simp only[ai]at Y;subst Y;obtain⟨Z,rfl,_⟩:=qah r2;obtain⟨y3,z3,rfl⟩:=qra r3;have d1:w'.cell? ⟨C1,0,none⟩=some (.string ⟨g.toArray⟩):=by simp[World.cell?,h1]
 generalize hm:(if(g.length:Int)<n then(g.length:Int) else n)=m
 have c:=qj1 C1 C2 C3 g n Z y3 z3 w' d1 P Q p;rw[hm]at c;generalize q:(w'.alloc (.cells #[.int .i64 n] 176)).alloc (.cells #[.int .i64 11,.int .i64 m] 25)=w1 at c;have b1:cr (fun b=>b=C2\/b=C3) w' w1:=by
  rw[← q];exact(PT.wide fun _ h=>h.elim).tr (PT.wide fun _ h=>h.elim)
 have l2:C2<w'.heap.size:=(Array.getElem?_eq_some_iff.1 P).1;have l3:C3<w'.heap.size:=(Array.getElem?_eq_some_iff.1 Q).1;have z:∀(w:World)(o:Obj)(B:Nat),B<w.heap.size->(w.alloc o).heap[B]? = w.heap[B]? := fun w o B h=>by
  show(w.heap.push o)[B]? = _;rw[Array.getElem?_push,qW]
 have k2:w1.heap[C2]? = some (.cells #[Z] 101 (0,0)):=by
  rw[← q,z _ _ _ (by rw[World.size_alloc];omega),z _ _ _ l2];exact P
 have k3:w1.heap[C3]? = some (.cells #[y3,z3] 25 (0,0)):=by
  rw[← q,z _ _ _ (by rw[World.size_alloc];omega),z _ _ _ l3];exact Q
 generalize t:((w1.setCell ⟨C2,0,none⟩ (.slice none 0 0)).setCell ⟨C3,0,none⟩ (.int .i64 11)).setCell ⟨C3,1,none⟩ (.int .i64 m)=w4 at c;have b4:cr (fun b=>b=C2\/b=C3) w' w4:=by
  rw[← t];exact((b1.tr (JQ.wide fun _ h => .inl h)).tr (JQ.wide fun _ h => .inr h)).tr (JQ.wide fun _ h => .inr h)
 have j2:w4.heap[C2]? = some (.cells #[.slice none 0 0] 101 (0,0)):=by
  rw[← t];simp[World.setCell,Array.getElem?_modify,k2,(Ne.symm p:¬C3=C2)]
 have V:w4.heap[C3]? = some (.cells #[.int .i64 11,.int .i64 m] 25 (0,0)):=by
  rw[← t];simp[World.setCell,Array.getElem?_modify,k3,p]
 have i2:w4.cell? ⟨C2,0,none⟩=some (.slice none 0 0):=by simp[World.cell?,j2]
 have i3:w4.cell? ⟨C3,0,none⟩=some (.int .i64 11):=by simp[World.cell?,V]
 have i4:w4.cell? ⟨C3,1,none⟩=some (.int .i64 m):=by simp[World.cell?,V]
 have L:(results f72 fr.tmps).run wG w4 = .ok (.tuple #[.slice none 0 0,.agg #[.int .i64 11,.int .i64 m]]) w4:=by
  simp[results,Tryz.results72,go_sem,t2,t3,i2,i3,i4]
 have hL:Leaves wG f72 fr.tmps (fun e d=>e = .returned (.tuple #[.slice none 0 0,.agg #[.int .i64 11,.int .i64 m]])/\d=w4) [rr C1 C2 C3] (.panicking [{ v:=wv 176 n,recovered:=false }]) w':=by
  refine leaves_cons (f:=128) Te (SD C1 C2 C3 w') (c.mono ?_)
  rintro e u' d ⟨rfl,rfl,rfl⟩
  exact⟨_,L,rfl,rfl⟩
 obtain⟨e,d,O,⟨rfl,rfl⟩,hc,H,hl⟩:=leaves_steps [rr C1 C2 C3] _ w' fr cs l E rfl (by rw[F];exact func72) j hL
 obtain⟨m1,m2,m3,N,m4,m5⟩:=hl;refine⟨_,d,O,?_,hs.trans hc,H.trans F,m1,m2,m3,N,m4,m5⟩;obtain⟨nn,aa,hp,nx,df⟩:=s;simp only at I K;subst I K;obtain⟨G2,v2,_,_,J,C⟩:=zS (r := .undef) (names:=mc) (e := .returned undef) hrel (k:=64) (by rfl) (by rfl) (wF _) (hpv:=[(1,.cells [.str S] 9),(2,.cells [.val (.slice none 0 0)] 101),(3,.cells [.int .i64 f0.1,.int .i64 f0.2] 25)]) (by rfl) (hp:=[(1,.cells [.str S] 9),(2,.cells [.val (.slice none 0 0)] 101),(3,.cells [.int .i64 f0.1,.int .i64 f0.2] 25)]) (hp':=[(1,.cells [.str g] 9),(2,.cells [.undef] 101),(3,.cells [.undef,.undef] 25)]) (by rfl) (by simp[ay,AV.ren,AV.rens,pb]) ⟨undef,G',rfl,i,trivial⟩
 have W:G2.box 33=some C2:=J.box _ _ T;have X:G2.box 34=some C3:=J.box _ _ U;refine⟨G2,C.fin.wild b4 fun b z => ?_,_,rfl,⟨none,0,rfl,Te,.inl rfl⟩,⟨_,rfl,rfl,rfl,trivial⟩,trivial⟩
 rcases z with rfl|rfl
 ·obtain⟨B,vs,M,_,_,_,R⟩:=C.fin.mem.holds 33 (.cells [.undef] 101) rfl;rw[W]at M;cases M;exact⟨R,C.fin.base 33 (.cells [.undef] 101) _ rfl W⟩
 ·obtain⟨B,vs,M,_,_,_,R⟩:=C.fin.mem.holds 34 (.cells [.undef,.undef] 25) rfl;rw[X]at M;cases M;exact⟨R,C.fin.base 34 (.cells [.undef,.undef] 25) _ rfl X⟩
def qp5{S:Bs}{f0:Int×Int}{r:Jd}(j:fA fu S f0=some r){q72:World}{q7w G:Gh}{a:Act}{w:World}
  (hrel:aj q72 q7w [] G { n:=43,fr:=[(1,.ptr 32 0),(2,.ptr 33 0),(3,.ptr 34 0)],hp:=[(32,.cells [.str S] 9),(33,.cells [.val (.slice none 0 0)] 101),(34,.cells [.int .i64 f0.1,.int .i64 f0.2] 25)],nx:=64,df:=[] } a w)
  {b:Frame} (cs:List Frame) (s:b.fn=72) (N:b.kind = .normal) (H:b.roundOf=none) :
  sr wG none 72 (lone (b.atR a.bs [.code (kj [0,1,1]),.code (kj [1,1,1])]) cs w) cs (fun v w'=>∃G',Fin q72 q7w [] G' [] w'/\ai (.tup [.sl (.prod .str (.prod .bool (.list (.prod .str wP)))) r.1,.agg [.int .i64 r.2.1,.int .i64 r.2.2]]) G' v):=by
 obtain⟨v1,t1,B1,g1,rfl⟩:=hrel.frame 1 _ rfl;obtain⟨v2,t2,B2,g2,rfl⟩:=hrel.frame 2 _ rfl;obtain⟨v3,t3,B3,g3,rfl⟩:=hrel.frame 3 _ rfl;have aa:a.defers=[]:=by
  obtain⟨bs,X,I⟩:=hrel.defers;have:bs=[]:=by cases bs with|nil=>rfl|cons _ _=>simp at I
  rw[X,this];rfl
 have ah:a.tmps.size=43:=hrel.size;have L:a.bs=a:=by
  obtain⟨tm,df⟩:=a;show({ tmps:=tm,defers:=df++[] }:Act)=_;rw[List.append_nil]
 rw[L];obtain⟨K,q⟩:=qp6 (k:=[.code (kj [1,1,1])]) (cs:=cs) (w:=w) H N Ta t1 t2 t3
 rw[aa]at q;have u:Steps wG (lone (b.atR a [.code (kj [0,1,1]),.code (kj [1,1,1])]) cs w) (lone (b.atR { tmps:=a.tmps.setIfInBounds 10 K,defers:=[rr B1 B2 B3] } [.code (kj [0,1,1,1]),.code (kj [1,1,1,1])]) cs w):=by
  refine q.trans (.one ?_);rw[qqj];exact stepR_seq
 refine sr.head u ?_
 -- what is known of the body behind
 unfold fA at j
 cases hz:fC fu S f0 with
 |none=>
  rw[show kL fu S f0.1 f0.2=fC fu S f0 from rfl,hz]at j;cases j
 |some z=>
 rw[show kL fu S f0.1 f0.2=fC fu S f0 from rfl,hz]at j
 have j:az z (fun W=>some (([]:CZ.den),((11:Int),if(W.2.length:Int)<W.1 then(W.2.length:Int) else W.1))) (fun b3=>some b3)=some r:=j
 have hv:ja (bf mc) [(32,.cells [.str S] 9),(33,.cells [.val (.slice none 0 0)] 101),(34,.cells [.int .i64 f0.1,.int .i64 f0.2] 25)] mc=some [(1,.cells [.str S] 9),(2,.cells [.val (.slice none 0 0)] 101),(3,.cells [.int .i64 f0.1,.int .i64 f0.2] 25)]:=rfl;have A:eh mc=true:=rfl;have hm:c8 (G.view mc) [(1,.cells [.str S] 9),(2,.cells [.val (.slice none 0 0)] 101),(3,.cells [.int .i64 f0.1,.int .i64 f0.2] 25)] w:=hrel.fin.mem.view hv (cC A)
 let s:HB:=⟨[rr B1 B2 B3]⟩
 have g:LC.Same (@instLCOfHB instHB) (@instLCOfHB s):=⟨rfl,rfl,rfl,rfl,rfl⟩;have ac:=c8.cv g hm;have J:∀(k m:Nat),k≠m->Nat.beq k m=false:=fun k m h=>by
  cases hq:Nat.beq k m
  ·rfl
  ·exact absurd (qN hq) h
 have p:∀i v,i≠10->a.tmps[i]? = some v->(a.tmps.setIfInBounds 10 K)[i]? = some v:=fun i v hi h=>by
  rw[Array.getElem?_setIfInBounds,qW (fun e=>hi e.symm)];exact h
 have F:=@aj.fresh_start (@instLCOfHB s) G _ w mc ac (fun m hm=>by
  simp only[mc,bm,J 1 m Ta,J 2 m Ta,J 3 m Ta,qF]) 43 [(1,.ptr 1 0),(2,.ptr 2 0),(3,.ptr 3 0)] (a.tmps.setIfInBounds 10 K) (by simpa using ah) (fun i x V=>by
  by_cases X:i=1
  ·subst X;cases V;exact⟨_,p 1 _ Ta t1,B1,g1,rfl⟩
  by_cases I:i=2
  ·subst I;cases V;exact⟨_,p 2 _ Ta t2,B2,g2,rfl⟩
  by_cases Y:i=3
  ·subst Y;cases V;exact⟨_,p 3 _ Ta t3,B3,g3,rfl⟩
  simp only[af,J 1 i (fun e=>X e.symm),J 2 i (fun e=>I e.symm),J 3 i (fun e=>Y e.symm),qF]at V
  cases V)
 have C:=(q6j (iHB:=s) fu).h ((S,()),((),()),((f0.1,(f0.2,())),())) (((),(),(),()),((S,()),((),()),(f0,()))) z hz w (G.view mc) (G.view mc) _ w F b cs ‹b.fn=72› N H;rw[H]at C;have T:∀y,Steps wG (lone (b.atR (@Act.bs (@instLCOfHB s) { tmps:=a.tmps.setIfInBounds 10 K,defers:=[] }) (e9 (nd (jD (iHB:=s) fu).body (kl 2 (jD (iHB:=s) fu).ls).1))) cs w) y->Steps wG (lone (b.atR { tmps:=a.tmps.setIfInBounds 10 K,defers:=[rr B1 B2 B3] } [.code (kj [0,1,1,1]),.code (kj [1,1,1,1])]) cs w) y:=fun y R=>by
  rw[← @qql s fu];exact R
 cases z with
 |inr y=>
  obtain⟨l,f1,f2⟩:=y;have j:some (l,(f1,f2))=some r:=j;have j:=qJ j;subst j;rcases C with⟨_,v,w',fr,⟨G',hf,P⟩,R,B,f,o,d,av,M,Q⟩|⟨c,w',fr,aT,hT,_⟩
  ·exact qqi rfl rfl hrel (T _ R) B f o d M Q (Fin.cv g.symm hf) P
  ·obtain⟨t,n',E,_⟩:@Db (@instLCOfHB s) [(2,2),(3,3)] _ _ NZ.out w (G.view mc) (.inr (l,f1,f2)) c aT w':=hT;cases E
 |inl y=>
  obtain⟨n,Z⟩:=y;have j:=qJ (show some (([]:CZ.den),((11:Int),if(List.length Z:Int)<n then(List.length Z:Int) else n))=some r from j);subst j
  rcases C with⟨ad,_⟩|⟨c,w',fr,aT,hT,R,B,f,d,o,U⟩
  ·cases (show some (176,n)=none from ad)
  ·obtain⟨t,n',E,rfl,ab,O,G',hf⟩:@Db (@instLCOfHB s) [(2,2),(3,3)] _ _ NZ.out w (G.view mc) (.inl (n,Z)) c aT w':=hT;cases (show some (176,n)=some (t,n') from E)
   obtain⟨C2,q1,q2⟩:=O (2,2) Te
   obtain⟨C3,q3,q4⟩:=O (3,3) Te
   have I:=q2 _ B2 rfl g2;have Y:=q4 _ B3 rfl g3;subst I Y;exact qqk rfl rfl hrel g1 g2 g3 (T _ R) B f (by rw[o,ab];rfl) d (by rw[U];exact q1) (by rw[U];exact q3) (Fin.cv g.symm hf)
def qp9(e:ic ([]:List (Nat×bu))):pp (dY fu).cx ((dY fu).cx.TT (cf [] e) (RS.mk (.tup [.h CZ,.h (.prod wI wI)]) [])) (cf [] e) (RS.mk (.tup [.h CZ,.h (.prod wI wI)]) []) (dY fu).body ((kl 0 (dY fu).ls).lab (fA fu)):=by
 intro d r f g i G a w hrel b cs hb hkd hrd;have c:b.roundOf=none:=hrd;refine .inl ⟨trivial,?_⟩;obtain⟨⟨j,k,l,m⟩,⟨⟨S,n⟩,⟨⟨o,p⟩,⟨f0,q⟩⟩⟩⟩:=d;have h:=qp5 fu (S:=S) (f0:=f0) (r:=r) f hrel cs hb hkd c;rw[← qp8 fu,← c]at h;exact h
def q6l:(dY fu).L 0:=⟨fA fu,qp9 fu⟩
def q6m:=(dY fu).fi (eZ fu) [(q6l fu).s]
end
end
noncomputable section
open Go.Proofs
set_option linter.unusedVariables false
set_option maxRecDepth 100000
set_option maxHeartbeats 2000000
open Tryz
section
variable(fu:Nat)
def qf2:EI wG ⟨.fn 110,[.own 0],[(0,VN)],_,RS.mk (Vs) [WX,Wt,(2,VN)]⟩:=(fx [] [] true).fi CF
def q6o:EI wG ⟨.fn 190,[wS],[],_,RS.mk (wS) []⟩:=(fx [qf2.p,⟨LQ.e yq,qag⟩]).fi BI
def q6p:EI wG ⟨.fn 186,Xl,[],_,RS.mk (wS) []⟩:=(fx [(qfi fu).p,q6o.p]).fi (kS fu)
def q6q:EI wG ⟨.fn 134,Xl,[],_,RS.mk (wS) []⟩:=(fx [(q6p fu).p]).fi (BH fu)
def dZ:Fx wG ⟨.fn 73,[Vg],[],_,RS.mk XP []⟩:=fx [(qfy fu).p,np.p,⟨nP.e kz,zM⟩,io.p,ip.p,(q6q fu).p] [lb 1959 [(3,UN),(5,WR),YE,YF,YG] [UJ,YP],lb 125343 [(3,UN),(5,WR),YH,YE,YF,YG] [UJ,YP],lb 501352 [(3,UN),(5,XX),(7,U3),(8,Wh),YE,YF,YG,(25,.h (.list VR)),(26,wH),(27,wH)] [UJ,WQ,(34,VN),(35,VN)],lb 488 [(3,UN),(5,WR),YE,YF,YG] [UJ,YP]]
def q6u(r0:(dZ fu).L 3):(dZ fu).L 0:=Fx.jm (Hb fu r0.f) [r0.s]
def q6t(r0:(dZ fu).L 3):(dZ fu).L 1:=Fx.jm (Ha fu r0.f) [(q6u fu r0).s]
def q6s(r0:(dZ fu).L 3):Nat->(dZ fu).L 2:=Fx.lq (kN fu r0.f) (BG fu r0.f) (fun a=>[a.s,(q6t fu r0).s])
def q6r:Nat->(dZ fu).L 3:=Fx.lq (aS fu) (BF fu) (fun a=>[(q6s fu a fu).s])
def q6v:=(dZ fu).fi (kM fu) [(q6r fu fu).s]
def Oc:Fx wG ⟨.fn 37,[wS],[],_,RS.mk (UI) []⟩:=fx [(q6m fu).p,np.p,(q6v fu).p] [lb 30 [(0,wS),(3,Vg),(4,UN)] [UJ],lb 29 [(0,wS),(3,Vg),(4,UN),(33,UI)] [UJ]]
def q6x:(Oc fu).L 0:=Fx.jm (Cr fu)
def q6w:(Oc fu).L 1:=Fx.jm (bJ fu) [(q6x fu).s]
def qf3:=(Oc fu).fi (yp fu) [(q6w fu).s]
def q6y:EI wG ⟨.fn 75,[.h Ub,Uk],[Vc],_,RS.mk (UI) [Vc]⟩:=(fx).fi Ia
def x87(fu:Nat):Fx wG ⟨.fn 137,Xv,[Vc],_,RS.mk (wH) [Vc]⟩:=fx [q6y.p] [lb 104 [(0,WT),(1,.fn 75 [Uk]),(7,wH),(8,wH)] [Vc]]
def q6z:Nat->(x87 fu).L 0:=Fx.lq (vL fu) (Iu fu) (fun a=>[a.s])
def q60:=(x87 fu).fi (It fu) [(q6z fu fu).s]
def q61:EI wG ⟨.fn 74,Xv,[Vc],_,RS.mk (UI) [Vc]⟩:=(fx [(q60 fu).p]).fi (CB fu)
def FE:Fx wG ⟨.fn 38,[WT],[],_,RS.mk WI []⟩:=fx [io.p,(qf3 fu).p,ip.p,(q61 fu).p] [lb 59799 [(0,WT),(2,UN),(3,wH),(4,U3),(9,WT),VP,WE,(23,UI)] [UJ,(33,.dat Ub 74)],lb 232 [(0,WT),(2,UN),(9,WT),VP,WE] [UJ]]
def q63(r0:(FE fu).L 1):(FE fu).L 0:=Fx.jm (vA fu r0.f) [r0.s]
def q62:Nat->(FE fu).L 1:=Fx.lq (fP fu) (Ib fu) (fun a=>[(q63 fu a).s])
def q64:=(FE fu).fi (HY fu) [(q62 fu fu).s]
def q65:EI wG ⟨.fn 138,[VE],[],_,RS.mk (UI) []⟩:=(fx [MY.p]).fi Ht
def x91(fu:Nat):Fx wG ⟨.fn 34,[wS,.fn 138 []],[],_,RS.mk (UI) []⟩:=fx [q65.p] [lb 104 [(0,wS),(1,.fn 138 []),(7,wH),(8,wH)]]
def q66:Nat->(x91 fu).L 0:=Fx.lq (uG fu) (Hp fu) (fun a=>[a.s])
def q67:=(x91 fu).fi (Ho fu) [(q66 fu fu).s]
def q68:EI wG ⟨.fn 76,[wS],[],_,RS.mk (UI) []⟩:=(fx [(q67 fu).p]).fi (BW fu)
def FG:EI wG ⟨.fn 77,Wa,[],_,RS.mk (UI) []⟩:=(fx).fi qr
def Oe:EI wG ⟨.fn 78,[.h UE],[],_,RS.mk (UI) []⟩:=(fx).fi lO
def q69:EI wG ⟨.fn 79,[.h VL],[],_,RS.mk (UI) []⟩:=(fx [FG.p]).fi fU
def FH:Fx wG ⟨.fn 39,[.h UE],[],_,RS.mk WI []⟩:=fx [(q68 fu).p,io.p,FG.p,Oe.p,q69.p,ip.p] [lb 490 [(2,UN)] [UJ],lb 489 [(2,UN),(23,UI)] [UJ],lb 249 [(1,UN),UU,(26,UI)] [Uf,UG]]
def q7c:(FH fu).L 0:=Fx.jm (IT fu)
def q7a:(FH fu).L 1:=Fx.jm (CP fu) [(q7c fu).s]
def q7b:(FH fu).L 2:=Fx.jm (CQ fu)
def FI:=(FH fu).fi (fT fu) [(q7a fu).s,(q7b fu).s]
def qga:EI wG ⟨.fn 191,Wa,[],_,RS.mk (UI) []⟩:=(fx).fi tk
def q7d:EI wG ⟨.fn 246,[wH],[],_,RS.mk (UI) []⟩:=(fx).fi Ch
def qgb:EI wG ⟨.fn 192,WK,[],_,RS.mk (wH) []⟩:=(fx [q7d.p]).fi uO
def MD:EI wG ⟨.fn 140,Wy,[],_,RS.mk WI []⟩:=(fx [qga.p,qgb.p,io.p,ip.p]).fi lB
def qu2:EI wG ⟨.fn 193,[wH],[],_,RS.mk (wH) []⟩:=(fx).fi uM
def qc9(fu:Nat):Fx wG ⟨.fn 141,Wa,[],_,RS.mk (wH) []⟩:=fx [qu2.p,qgb.p] X9
def qu3:Nat->(qc9 fu).L 0:=Fx.lq (uN fu) (H4 fu) (fun a=>[a.s])
def ME:=(qc9 fu).fi (vv fu) [(qu3 fu fu).s]
def MF:EI wG ⟨.fn 80,Wy,[],_,RS.mk X8 []⟩:=(fx [MD.p,np.p,(ME fu).p,ip.p]).fi (fM fu)
def A4:EI wG ⟨.fn 83,[wH],[],_,RS.mk (UI) []⟩:=(fx).fi vu
def qda:EI wG ⟨.fn 194,WK,[],_,RS.mk (.tup WK) []⟩:=(fx).fi uP
def z7:Fx wG ⟨.fn 142,WK,[],_,RS.mk (.tup [.h xD,.h UZ]) []⟩:=fx [A4.p,io.p,qga.p,qda.p,(ME fu).p,ip.p] [lb 8147 Xw [U2,UG],lb 32585 [(1,wH),(4,UN),(5,U3),(6,wH),(7,wH),(8,wH),(9,wH),(54,UI)] [U2,UG],lb 16352 [(1,wH),(4,UN),(5,U3),(6,wH),(7,wH),(8,wH),VP] [U2,UG],lb 8144 Xw [U2,UG],lb 126 [(1,wH),(4,UN),(5,U3),(6,wH),(7,wH)] [U2,UG],lb 125 [(1,wH),(4,UN),(5,U3),(6,wH),(7,wH),(36,UI)] [U2,UG]]
def qu8(a:(z7 fu).L 3):(z7 fu).L 0:=Fx.jm (Cg fu a.f) [a.s]
def qu7(a:(z7 fu).L 3):(z7 fu).L 1:=Fx.jm (Cf fu a.f) [(qu8 fu a).s]
def qu9:Nat->(z7 fu).L 2:=Fx.lq (uL fu) (H2 fu) (fun a=>[a.s])
def qu6:Nat->(z7 fu).L 3:=Fx.lq (lA fu) (Cd fu) (fun a=>[(qu7 fu a).s,(qu9 fu fu).s])
def qu5:(z7 fu).L 4:=Fx.jm (H3 fu) [(qu6 fu fu).s]
def qu4:(z7 fu).L 5:=Fx.jm (Ce fu) [(qu5 fu).s]
def qdb:=(z7 fu).fi (kZ fu) [(qu4 fu).s]
def qdc:EI wG ⟨.fn 213,Wy,[],_,RS.mk X8 []⟩:=(fx [MD.p,np.p,(ME fu).p,qda.p,ip.p]).fi (lC fu)
def MG:Fx wG ⟨.fn 195,YV,[],_,RS.mk (wH) []⟩:=fx [(qdc fu).p,MD.p,np.p,(MF fu).p] [lb 254 [(2,wH),(3,UN),(7,U3)] [W6,VH],lb 253 [(2,wH),(3,UN),(7,U3),(46,UI)] [W6,VH]]
def qvb:(MG fu).L 0:=Fx.jm (CS fu)
def qva:(MG fu).L 1:=Fx.jm (CR fu) [(qvb fu).s]
def qvc:=(MG fu).fi (wR fu) [(qva fu).s]
def oO:Fx wG ⟨.fn 143,YW,[],_,RS.mk (wH) []⟩:=fx [Oe.p,(qvc fu).p] [lb 7826 X6 [Uf],lb 15651 [(1,wH),(2,wH),(3,UN),(7,wH),(8,wH),(9,UI),VP,WE,(44,UI)] [Uf],lb 976 X6 [Uf]]
def qvf(r0:(oO fu).L 2):(oO fu).L 0:=Fx.jm (CT fu r0.f) [r0.s]
def qve(r0:(oO fu).L 2):(oO fu).L 1:=Fx.jm (wX fu r0.f) [(qvf fu r0).s]
def qvd:Nat->(oO fu).L 2:=Fx.lq (tp fu) (wW fu) (fun a=>[(qve fu a).s])
def qvg:=(oO fu).fi (lP fu) [(qvd fu fu).s]
def qvk:EI wG ⟨.fn 81,[.h UE,wH],[],_,RS.mk X8 []⟩:=(fx [(FI fu).p,np.p,A4.p,io.p,(qdb fu).p,FG.p,(qvg fu).p,ip.p]).fi (CO fu)
def MH:Fx wG ⟨.fn 40,YX,[],_,RS.mk WJ [(0,UK)]⟩:=fx [(FI fu).p,np.p,(MF fu).p,io.p,FG.p,Oe.p,(qvk fu).p,⟨I0 tn,OG⟩,ip.p] [lb 32744 [(2,UN),(5,U3),(7,wH),(10,XX),(49,Wh),(50,wH),(51,wH)] [Uf,UG,Vt,V5],lb 1022 [(2,UN),(5,U3),(7,wH),(9,Wh)] [Uf,UG,Vt]]
def qvm:Nat->(MH fu).L 0:=Fx.lq (vz fu) (lN fu) (fun a=>[a.s])
def qvl:(MH fu).L 1:=Fx.jm (CN fu) [(qvm fu fu).s]
def MI:=(MH fu).fi (lM fu) [(qvl fu).s]
def dP(fu:Nat):Fx wG ⟨.fn 84,YI,[],_,RS.mk WI []⟩:=fx [io.p,ip.p] [lb 14950 [(1,UN),UU,(3,wH),(4,wH),(16,Uq),Xm,YJ] Wc,lb 14949 [(1,UN),UU,(3,wH),(4,wH),(16,Uq),Xm,YJ,(28,UI)] Wc,lb 232 [(1,UN),UU,(16,Uq),Xm,YJ] Wc,lb 28 XI Wc,lb 13 [(1,UN),UU,(13,UI)] Wc]
def qvr(a:(dP fu).L 2):(dP fu).L 0:=Fx.jm (Iq fu a.f) [a.s]
def qvq(a:(dP fu).L 2):(dP fu).L 1:=Fx.jm (C8 fu a.f) [(qvr fu a).s]
def qvp:Nat->(dP fu).L 2:=Fx.lq (vH fu) (Io fu) (fun a=>[(qvq fu a).s])
def qvo:(dP fu).L 3:=Fx.jm (Ip fu) [(qvp fu fu).s]
def qvn:(dP fu).L 4:=Fx.jm (C7 fu) [(qvo fu).s]
def qvs:=(dP fu).fi (C6 fu) [(qvn fu).s]
def qdd(fu:Nat):Fx wG ⟨.fn 85,XJ,[],_,RS.mk WI []⟩:=fx [io.p,A4.p,ip.p] [lb 232 [(0,Uq),(1,wH),(4,UN),(12,Uq),Wg,(14,wH)] [UJ]]
def qvt:Nat->(qdd fu).L 0:=Fx.lq (vG fu) (Im fu) (fun a=>[a.s])
def qvu:=(qdd fu).fi (vF fu) [(qvt fu fu).s]
def iS:Fx wG ⟨.fn 41,YI,[],_,RS.mk WI []⟩:=fx [io.p,A4.p,(qvs fu).p,np.p,(qvu fu).p] [lb 28 XI Wc,lb 6655 [(1,UN),UU,(45,UI)] Wc,lb 1663 [(1,UN),UU,(35,UI)] Wc,lb 415 [(1,UN),UU,(25,UI)] Wc,lb 103 [(1,UN),UU,(15,UI)] Wc,lb 25 [(1,UN),UU,(5,UI)] Wc]
def qv0:(iS fu).L 0:=Fx.jm (Ik fu)
def qvz:(iS fu).L 1:=Fx.jm (Cy fu) [(qv0 fu).s]
def qvy:(iS fu).L 2:=Fx.jm (Cw fu) [(qvz fu).s]
def qvx:(iS fu).L 3:=Fx.jm (Cv fu) [(qvy fu).s]
def qvw:(iS fu).L 4:=Fx.jm (Cu fu) [(qvx fu).s]
def qvv:(iS fu).L 5:=Fx.jm (Ct fu) [(qvw fu).s]
def qde:=(iS fu).fi (vE fu) [(qvv fu).s]
def iT:Fx wG ⟨.fn 10,[.h xE],[],_,RS.mk WI []⟩:=fx [(x4s fu).p,io.p,x7s.p,(qf3 fu).p,(q64 fu).p,np.p,(FI fu).p,(MI fu).p,(qde fu).p,ip.p] [lb 253 [(1,UN),UU,(104,UI)] Xu,lb 28 XI Xu,lb 26623 [(1,UN),UU,(62,UI)] Xu,lb 415 [(1,UN),UU,(34,UI)] Xu,lb 103 [(1,UN),UU,(24,UI)] Xu,lb 25 [(1,UN),UU,(7,UI)] Xu]
def qv6:(iT fu).L 0:=Fx.jm (uV fu)
def qv5:(iT fu).L 1:=Fx.jm (Cl fu) [(qv6 fu).s]
def qv4:(iT fu).L 2:=Fx.jm (uU fu) [(qv5 fu).s]
def qv3:(iT fu).L 3:=Fx.jm (uT fu) [(qv4 fu).s]
def qv2:(iT fu).L 4:=Fx.jm (uS fu) [(qv3 fu).s]
def qv1:(iT fu).L 5:=Fx.jm (lE fu) [(qv2 fu).s]
def ML:=(iT fu).fi (fN fu) [(qv1 fu).s]
def qdg:EI wG ⟨.fn 55,[],[],_,RS.mk Wn [(0,VN)]⟩:=(fx).fi Id
def Ac:LC.glob 3=some ⟨.int .u64,Lib.pow10Tab⟩:=rfl
def Ad:(3,20)∈LC.sizes:=Tf
def qv7:EI wG ⟨.fn 57,[wS],[],_,RS.mk (wS) []⟩:=(fx [qf2.p,⟨LQ.e yq,qag⟩]).fi HU
def qdh:EI wG ⟨.fn 58,[],[],_,RS.mk Wn [(0,VN)]⟩:=(fx).fi Ij
def qv8:EI wG ⟨.fn 112,WK,[],_,RS.mk (wS) []⟩:=(fx [⟨nO.e mj,zL Ac Ad⟩,⟨qae.e vP,qq6⟩]).fi fQ
def qwb:EI wG ⟨.fn 59,Wy,[],_,RS.mk (wS) []⟩:=(fx [qv8.p]).fi OB
def qdi:EI wG ⟨.fn 114,[],[],_,RS.mk Wn [(0,VN)]⟩:=(fx).fi HV
def qdj(fu:Nat):Fx wG ⟨.fn 61,[Uq],[],_,RS.mk (wS) []⟩:=fx [⟨nO.e mj,zL Ac Ad⟩,⟨nP.e kz,zM⟩] [lb 232 [(3,Un),(6,Uq),(7,wH),(8,wH)] [(32,VN)]]
def qwc:Nat->(qdj fu).L 0:=Fx.lq (Ie fu) (O8 fu) (fun a=>[a.s])
def qdk:=(qdj fu).fi (Cq fu) [(qwc fu fu).s]
def qdl:Fx wG ⟨.fn 60,YI,[],_,RS.mk (wS) []⟩:=fx [⟨nO.e mj,zL Ac Ad⟩,qdi.p,(qdk fu).p,⟨nP.e kz,zM⟩] [lb 30 [(1,UN),(3,wS)] [Ua]]
def qwd:(qdl fu).L 0:=Fx.jm (Ii fu)
def qwe:=(qdl fu).fi (OA fu) [(qwd fu).s]
def qdm:Fx wG ⟨.fn 22,[.h xE],[],_,RS.mk Wn [(0,VN)]⟩:=fx [qdg.p,⟨nO.e mj,zL Ac Ad⟩,qv7.p,qdh.p,qwb.p,(qwe fu).p,(qdk fu).p] [lb 232 [(1,UN),(3,WR),(33,WT),(34,wH),(35,wH)] [Ud,YP]]
def qwf:Nat->(qdm fu).L 0:=Fx.lq (Ic fu) (O7 fu) (fun a=>[a.s])
def qwg:=(qdm fu).fi (O6 fu) [(qwf fu fu).s]
def qwh:EI wG ⟨.fn 25,[Uk],VW,_,RS.mk (wH) [Vq,Va,(2,VF)]⟩:=(fx).fi OH
def qwi:EI wG ⟨.fn 63,[VE],[],_,RS.mk (UI) []⟩:=(fx).fi OV
def Fz(fu:Nat):Fx wG ⟨.fn 24,[wS],[],_,RS.mk (wS) []⟩:=fx [qwi.p] [lb 59680 [(0,wS),(3,wS),(5,wH)],lb 464 YT]
def qwk(r0:(Fz fu).L 1):Nat->(Fz fu).L 0:=Fx.lq (H9 fu r0.f) (O5 fu r0.f) (fun a=>[a.s,r0.s])
def qwj:Nat->(Fz fu).L 1:=Fx.lq (H8 fu) (O4 fu) (fun a=>[(qwk fu a fu).s])
def qwl:=(Fz fu).fi (O3 fu) [(qwj fu fu).s]
def A8:Fx wG ⟨.fn 7,[Xa],[],_,RS.mk XP []⟩:=fx [io.p,(ML fu).p,np.p,(qwg fu).p,qwh.p,⟨JS.e fI,Qd⟩,ip.p,(qwl fu).p,qfu.p] [lb 256408 [(3,UN),(7,U3),(32,Xa),(33,wH),(34,wH),(39,Wh),(40,wH),(41,wH)] [UJ,(33,.cells [.pn 33,XX] 60),(34,VN),(35,VF)],lb 1000 [(3,UN),(7,U3),(32,Xa),(33,wH),(34,wH)] Xo,lb 232 [(0,Xa),(3,UN),(16,Xa),Xm,YJ] [UJ]]
def qwo(a:(A8 fu).L 1):Nat->(A8 fu).L 0:=Fx.lq (H7 fu a.f) (O2 fu a.f) (fun b=>[b.s,a.s])
def qwn:Nat->(A8 fu).L 1:=Fx.lq (H6 fu) (O1 fu) (fun a=>[(qwo fu a fu).s])
def qwm:Nat->(A8 fu).L 2:=Fx.lq (H5 fu) (O0 fu) (fun a=>[a.s,(qwn fu fu).s])
def qwp:=(A8 fu).fi (Oz fu) [(qwm fu fu).s]
def qwq:EI wG ⟨.fn 47,[wS],[],_,RS.mk Xt [Vo,UM,Uz]⟩:=(fx [⟨LP.e yt,qaf Tf⟩,AK.p]).fi OC
def qwv:EI wG ⟨.yld 0,[wS],[US,XD,Vw,VB,(4,Vx)],_,.two (RS.mk (VO) [US,XE,(2,.cells [.ptr 6 0] 85),VB,Vb,(5,Vx),WF,(7,VC),(8,UK),(9,UK),Xq]) (RS.mk (VO) [US,XE,Vw,VB,Vb,(5,Vx)])⟩:=(fy 12 [] [] false [([0,1,0,1,1,1,1],2)] (ob rfl ly)).fo Cj [] 0 [0,1,0,1,1,1,1]
def qww:EI wG ⟨.fn 148,Vm,[],_,RS.mk (.tup [wS,wS,UI]) []⟩:=(fx [⟨Mj.e vx,qbh Tf⟩]).fi Ov
def qdn:EI wG ⟨.fn 90,Vm,[],_,RS.mk (.tup [wS,wS,UI]) []⟩:=(fx [qww.p]).fi I3
def qdo(fu:Nat):Fx wG ⟨.fn 149,[Wk,wS],[],_,RS.mk (wH) []⟩:=fx [] [lb 104 [(0,Wk),(1,wS),(7,wH),(8,wH)]]
def qwx:Nat->(qdo fu).L 0:=Fx.lq (Iz fu) (OF fu) (fun a=>[a.s])
def qwy:=(qdo fu).fi (OE fu) [(qwx fu fu).s]
def F0:EI wG ⟨.fn 150,[Uk,UI],UD,_,RS.mk Vp UD⟩:=(fx [] [] true).fi bI (h:=by rintro⟨_,s,_⟩ ⟨⟨t,u,v,w,x,y,_,z,A,B,a,c,d,e,f,g,i,j,k,l,m,_,_,_,n,_⟩,o,p,q,r,_⟩;exact Eq.trans (b:=bI s t u v w x y z A B a c d e f g i j k l m n o p q r) Tc Tc)
def MS:EI wG ⟨.fn 91,[Uk,.own 1,wS],[U0,(1,VN),(2,VC),(3,UK),(4,UK),(5,UK)],_,RS.mk (wH) [U0,Va,(2,VC),(3,UK),(4,UK),(5,UK)]⟩:=(fx [(qwy fu).p,F0.p] [] true).fi (uY fu) (h:=by rintro⟨_,_,u,_⟩ ⟨⟨v,w,x,y,z,A,_,B,C,E,a,c,d,e,f,g,i,j,k,l,m,_,_,_,n,_⟩,o,q,r,s,t,_⟩;exact Eq.trans (b:=uY fu u v w x y z A B C E a c d e f g i j k l m n o q r s t) Tc Tc)
def qdp(fu:Nat):Fx wG ⟨.fn 152,[wS],[],_,RS.mk (UI) []⟩:=fx [] [lb 104 [(0,wS),(5,wH),(6,wH)]]
def qwz:Nat->(qdp fu).L 0:=Fx.lq (Hq fu) (Ot fu) (fun a=>[a.s])
def qdq:=(qdp fu).fi (BU fu) [(qwz fu fu).s]
def AA:Fx wG ⟨.fn 92,Wx,UD,_,RS.mk (wH) UD⟩:=fx [⟨JF.e fH,PQ Tf Tf⟩,(qdq fu).p,⟨nO.e mj,zL Ac Ad⟩,F0.p] [lb 30 [(0,Uk),(1,wS),(5,wH),(6,W3)] UD,lb 29 [(0,Uk),(1,wS),(5,wH),(6,W3),(22,Ya)] UD,lb 30 [(0,Uk),(1,wS),(5,wH),Xn] UD,lb 29 [(0,Uk),(1,wS),(5,wH),Xn,(22,UI)] UD] true
def qw2:(AA fu).L 0:=Fx.jm (HD fu) (h:=by rintro⟨⟨_,t,u,_,_⟩,⟨⟨v,w,x,y,z,A,_,B,C,a,c,d,e,f,g,i,j,k,l,m,n,_,_,_,o,_⟩,p,q,r,s,_⟩⟩;exact Eq.trans (b:=HD fu t u v w x y z A B C a c d e f g i j k l m n o p q r s) Tc Tc)
def qw0:(AA fu).L 1:=Fx.jm (HA fu) [(qw2 fu).s] (h:=by rintro⟨⟨_,u,v,_,_,_⟩,⟨⟨w,x,y,z,A,B,_,C,E,a,c,d,e,f,g,i,j,k,l,m,n,_,_,_,o,_⟩,p,q,r,t,_⟩⟩;exact Eq.trans (b:=HA fu u v w x y z A B C E a c d e f g i j k l m n o p q r t) Tc Tc)
def qw3:(AA fu).L 2:=Fx.jm (HF fu) (h:=by rintro⟨⟨_,t,u,_,_⟩,⟨⟨v,w,x,y,z,A,_,B,C,a,c,d,e,f,g,i,j,k,l,m,n,_,_,_,o,_⟩,p,q,r,s,_⟩⟩;exact Eq.trans (b:=HF fu t u v w x y z A B C a c d e f g i j k l m n o p q r s) Tc Tc)
def qw1:(AA fu).L 3:=Fx.jm (Cm fu) [(qw3 fu).s] (h:=by rintro⟨⟨_,v,w,_,x,_⟩,⟨⟨y,z,A,B,C,E,_,F,a,c,d,e,f,g,i,j,k,l,m,n,o,_,_,_,p,_⟩,q,r,t,u,_⟩⟩;exact Eq.trans (b:=Cm fu v w x y z A B C E F a c d e f g i j k l m n o p q r t u) Tc Tc)
def F1:=(AA fu).fi (yn fu) [(qw0 fu).s,(qw1 fu).s] (h:=by rintro⟨_,t,_⟩ ⟨⟨u,v,w,x,y,z,_,A,B,C,a,c,d,e,f,g,i,j,k,l,m,_,_,_,n,_⟩,o,p,q,r,_⟩;exact Eq.trans (b:=yn fu t u v w x y z A B C a c d e f g i j k l m n o p q r) Tc Tc)
def F2(fu:Nat):Fx wG ⟨.fn 93,[wS],[],_,RS.mk (wS) []⟩:=fx [] [lb 7461 [(0,wS),(3,Un),(4,wH),(5,VE),(23,UI)] [Ue],lb 464 YU [Ue]]
def qw5(r0:(F2 fu).L 1):(F2 fu).L 0:=Fx.jm (Ih fu r0.f) [r0.s]
def qw4:Nat->(F2 fu).L 1:=Fx.lq (Ig fu) (O9 fu) (fun a=>[(qw5 fu a).s])
def qw6:=(F2 fu).fi (If fu) [(qw4 fu fu).s]
def qw7:EI wG ⟨.fn 94,Wx,UD,_,RS.mk Vp VM⟩:=(fx [qdn.p,F0.p,qdh.p,(MS fu).p]).fi (HH fu) (h:=by rintro⟨_,t,_⟩ ⟨⟨u,v,w,x,y,z,_,A,B,C,a,c,d,e,f,g,i,j,k,l,m,_,_,_,n,_⟩,o,q,r,s,_⟩;exact Eq.trans (b:=HH fu t u v w x y z A B C a c d e f g i j k l m n o q r s) Tc Tc)
def qw9:EI wG ⟨.fn 153,[wH,wH,Uk],[Vo],_,RS.mk (wH) [Vo]⟩:=(fx [⟨JF.e fH,PQ Tf Tf⟩]).fi fO
def MU:Fx wG ⟨.fn 95,Wx,UD,_,RS.mk Vp VM⟩:=fx [(qdq fu).p,qw9.p] [lb 14 [(0,Uk),(3,UN)] [Ut,Va,WY,WZ,Vb,Wl,XL,Vt,V5,WS],lb 13 [(0,Uk),(3,UN),(24,UI)] [Ut,Va,WY,WZ,Vb,Wl,XL,Vt,V5,WS]]
def qxb:(MU fu).L 0:=Fx.jm (HQ fu) (h:=by rintro⟨⟨_,_,_⟩,⟨⟨s,t,u,v,w,x,_,y,z,A,B,a,c,d,e,f,g,i,j,k,l,_,_,_,m,_⟩,_,_,_,_,⟨n,_⟩,o,p,q,r,_⟩⟩;exact Eq.trans (b:=HQ fu s t u v w x y z A B a c d e f g i j k l m n o p q r) Tc Tc)
def qxa:(MU fu).L 1:=Fx.jm (lF fu) [(qxb fu).s] (h:=by rintro⟨⟨_,_,u,_⟩,⟨⟨v,w,x,y,z,A,_,B,C,E,a,c,d,e,f,g,i,j,k,l,m,_,_,_,n,_⟩,_,_,_,_,⟨o,_⟩,p,q,r,t,_⟩⟩;exact Eq.trans (b:=lF fu u v w x y z A B C E a c d e f g i j k l m n o p q r t) Tc Tc)
def qxc:=(MU fu).fi (HP fu) [(qxa fu).s] (h:=by rintro⟨_,t,_⟩ ⟨⟨u,v,w,x,y,z,_,A,B,C,a,c,d,e,f,g,i,j,k,l,m,_,_,_,n,_⟩,o,p,q,r,_⟩;exact Eq.trans (b:=HP fu t u v w x y z A B C a c d e f g i j k l m n o p q r) Tc Tc)
def qxd:EI wG ⟨.fn 154,Vm,[],_,RS.mk (Wk) []⟩:=(fx [(qfo fu).p]).fi (OL fu)
def qxe:EI wG ⟨.fn 212,Vm,[],_,RS.mk (.tup [wS,UI]) []⟩:=(fx [qfl.p]).fi Ow
end
end
noncomputable section
open Go.Proofs
set_option linter.unusedVariables false
set_option maxRecDepth 100000
set_option maxHeartbeats 2000000
open Tryz
section
variable(fu:Nat)
def qxf:EI wG ⟨.fn 155,Vm,[],_,RS.mk (.tup [wS,UI]) []⟩:=(fx [qxe.p]).fi OK
def qdr:EI wG ⟨.fn 98,Wx,UD,_,RS.mk (wH) UD⟩:=(fx [qxf.p,(F1 fu).p,F0.p] [] true).fi (Cp fu) (h:=by rintro⟨_,t,_⟩ ⟨⟨u,v,w,x,y,z,_,A,B,C,a,c,d,e,f,g,i,j,k,l,m,_,_,_,n,_⟩,o,q,r,s,_⟩;exact Eq.trans (b:=Cp fu t u v w x y z A B C a c d e f g i j k l m n o q r s) Tc Tc)
def qxg:EI wG ⟨.yld 0,[wS],Xf,_,RS.mk (VO) [Uh,WB,W8,VB,Uu,Xc,XA,VV,Vh,Vi,Xq,(11,VC),Xr,W5,YQ]⟩:=(fy 97 [(F1 fu).p] [] false [([0,1,0,1,1,1],3)] (ob rfl ly)).fo (uW fu) [] 0 [0,1,0,1,1,1] (h:=by rintro⟨u,_⟩ ⟨⟨_,_,_⟩,⟨⟨_,_⟩,_⟩,⟨_,_⟩,_,⟨v,w,x,y,z,A,_,B,C,E,a,c,d,e,f,g,i,j,k,l,m,_,_,_,n,_⟩,o,q,r,s,t,_⟩;exact Eq.trans (b:=uW fu u v w x y z A B C E a c d e f g i j k l m n o q r s t) Tc Tc)
def MV:Fx wG ⟨.fn 208,Uo,XM,_,RS.mk Vp [UP,UM,UW,UQ,U8,W9,Ur,Uv,Vh,Vi,Wd,We,Wf,W5,(14,VC),YR,(16,UK),(17,UK)]⟩:=fx [⟨mW.e oq,yM gP gC gO gB⟩,(qxg fu).p,dU.p] [lb 320 [U6,U1] Xg,lb 96 Xb Xg]
def qxh:Nat->(MV fu).L 0:=Fx.lq (II fu) (IE fu) (fun v=>[v.s]) (h:=by rintro v ⟨⟨_,_,_⟩,⟨⟨_,_,_⟩,⟨w,_⟩,⟨x,_⟩,⟨y,_⟩,⟨⟨_,_⟩,_⟩,⟨_,_⟩,_,⟨z,A,B,C,E,F,_,G,a,c,d,e,f,g,i,j,k,l,m,n,o,_,_,_,p,_⟩,_,_,_,_,_,q,r,s,t,u,_⟩⟩;exact Eq.trans (b:=IE fu v.f w x y z A B C E F G a c d e f g i j k l m n o p q r s t u) Tc Tc)
def qxi:Nat->(MV fu).L 1:=Fx.lq (IJ fu) (IG fu) (fun v=>[v.s]) (h:=by rintro v ⟨⟨_,_,_,_,_⟩,⟨⟨_,_,_⟩,⟨w,_⟩,⟨x,_⟩,⟨y,_⟩,⟨⟨_,_⟩,_⟩,⟨_,_⟩,_,⟨z,A,B,C,E,F,_,G,a,c,d,e,f,g,i,j,k,l,m,n,o,_,_,_,p,_⟩,_,_,_,_,_,q,r,s,t,u,_⟩⟩;exact Eq.trans (b:=IG fu v.f w x y z A B C E F G a c d e f g i j k l m n o p q r s t u) Tc Tc)
def qxj:=(MV fu).fi (ID fu) [(qxh fu fu).s,(qxi fu fu).s] (h:=by rintro⟨_,_,_,_,_⟩ ⟨⟨_,_,_⟩,⟨w,_⟩,⟨x,_⟩,⟨y,_⟩,⟨⟨_,_⟩,_⟩,⟨_,_⟩,_,⟨z,A,B,C,E,F,_,G,a,c,d,e,f,g,i,j,k,l,m,n,o,_,_,_,p,_⟩,q,r,t,u,v,_⟩;exact Eq.trans (b:=ID fu w x y z A B C E F G a c d e f g i j k l m n o p q r t u v) Tc Tc)
def qxk:EI wG ⟨.fn 97,[Uk,wS,.fn 1048668 [Uk]],UD,_,RS.mk (.own 5) Xh⟩:=(fx [AK.p,(qxj fu).p] [] false [([0,1,0,1,1,1],3)] (ob rfl ly)).fi (Cn fu) (h:=by rintro⟨_,t,⟨_,_⟩,_⟩ ⟨⟨u,v,w,x,y,z,_,A,B,C,a,c,d,e,f,g,i,j,k,l,m,_,_,_,n,_⟩,o,q,r,s,_⟩;exact Eq.trans (b:=Cn fu t u v w x y z A B C a c d e f g i j k l m n o q r s) Tc Tc)
def qxl:EI wG ⟨.fn 96,Wx,UD,_,RS.mk Vp VM⟩:=(fx [(qxd fu).p,qdi.p,(MS fu).p,(F1 fu).p,(qdr fu).p,(qxk fu).p]).fi (HO fu) (h:=by rintro⟨_,t,_⟩ ⟨⟨u,v,w,x,y,z,_,A,B,C,a,c,d,e,f,g,i,j,k,l,m,_,_,_,n,_⟩,o,q,r,s,_⟩;exact Eq.trans (b:=HO fu t u v w x y z A B C a c d e f g i j k l m n o q r s) Tc Tc)
def qxm:EI wG ⟨.yld 0,[wS],Xi,_,RS.mk (VO) [Uh,WC,W8,VB,Uu,Xc,XA,VV,Vh,Vi,Xq,(11,VC),Xr,W5,YQ]⟩:=(fy 97 [(qdr fu).p] [] false [([0,1,0,1,1,1],3)] (ob rfl ly)).fo (uX fu) [] 0 [0,1,0,1,1,1] (h:=by rintro⟨u,_⟩ ⟨⟨_,_,_⟩,⟨⟨_,_⟩,_⟩,⟨_,_⟩,_,⟨v,w,x,y,z,A,_,B,C,E,a,c,d,e,f,g,i,j,k,l,m,_,_,_,n,_⟩,o,q,r,s,t,_⟩;exact Eq.trans (b:=uX fu u v w x y z A B C E a c d e f g i j k l m n o q r s t) Tc Tc)
def MW:Fx wG ⟨.fn 208,Uo,XN,_,RS.mk Vp [UP,UM,UW,UQ,U9,W9,Ur,Uv,Vh,Vi,Wd,We,Wf,W5,(14,VC),YR,(16,UK),(17,UK)]⟩:=fx [⟨mW.e oq,yM gP gC gO gB⟩,(qxm fu).p,dU.p] [lb 320 [U6,U1] Xj,lb 96 Xb Xj]
def qxn:Nat->(MW fu).L 0:=Fx.lq (IN fu) (IL fu) (fun v=>[v.s]) (h:=by rintro v ⟨⟨_,_,_⟩,⟨⟨_,_,_⟩,⟨w,_⟩,⟨x,_⟩,⟨y,_⟩,⟨⟨_,_⟩,_⟩,⟨_,_⟩,_,⟨z,A,B,C,E,F,_,G,a,c,d,e,f,g,i,j,k,l,m,n,o,_,_,_,p,_⟩,_,_,_,_,_,q,r,s,t,u,_⟩⟩;exact Eq.trans (b:=IL fu v.f w x y z A B C E F G a c d e f g i j k l m n o p q r s t u) Tc Tc)
def qxo:Nat->(MW fu).L 1:=Fx.lq (Za fu) (IM fu) (fun v=>[v.s]) (h:=by rintro v ⟨⟨_,_,_,_,_⟩,⟨⟨_,_,_⟩,⟨w,_⟩,⟨x,_⟩,⟨y,_⟩,⟨⟨_,_⟩,_⟩,⟨_,_⟩,_,⟨z,A,B,C,E,F,_,G,a,c,d,e,f,g,i,j,k,l,m,n,o,_,_,_,p,_⟩,_,_,_,_,_,q,r,s,t,u,_⟩⟩;exact Eq.trans (b:=IM fu v.f w x y z A B C E F G a c d e f g i j k l m n o p q r s t u) Tc Tc)
def qxp:=(MW fu).fi (IK fu) [(qxn fu fu).s,(qxo fu fu).s] (h:=by rintro⟨_,_,_,_,_⟩ ⟨⟨_,_,_⟩,⟨w,_⟩,⟨x,_⟩,⟨y,_⟩,⟨⟨_,_⟩,_⟩,⟨_,_⟩,_,⟨z,A,B,C,E,F,_,G,a,c,d,e,f,g,i,j,k,l,m,n,o,_,_,_,p,_⟩,q,r,t,u,v,_⟩;exact Eq.trans (b:=IK fu w x y z A B C E F G a c d e f g i j k l m n o p q r t u v) Tc Tc)
def qxq:EI wG ⟨.fn 97,[Uk,wS,.fn 1048674 [Uk]],UD,_,RS.mk (.own 5) Xh⟩:=(fx [AK.p,(qxp fu).p] [] false [([0,1,0,1,1,1],3)] (ob rfl ly)).fi (Co fu) (h:=by rintro⟨_,t,⟨_,_⟩,_⟩ ⟨⟨u,v,w,x,y,z,_,A,B,C,a,c,d,e,f,g,i,j,k,l,m,_,_,_,n,_⟩,o,q,r,s,_⟩;exact Eq.trans (b:=Co fu t u v w x y z A B C a c d e f g i j k l m n o q r s) Tc Tc)
def qxr:EI wG ⟨.fn 48,Wx,UD,_,RS.mk Vp VM⟩:=(fx [qdn.p,qdg.p,(MS fu).p,(F1 fu).p,(qw6 fu).p,(qw7 fu).p,(qxc fu).p,(qxl fu).p,(qxq fu).p]).fi (HK fu) (h:=by rintro⟨_,t,_⟩ ⟨⟨u,v,w,x,y,z,_,A,B,C,a,c,d,e,f,g,i,j,k,l,m,_,_,_,n,_⟩,o,q,r,s,_⟩;exact Eq.trans (b:=HK fu t u v w x y z A B C a c d e f g i j k l m n o q r s) Tc Tc)
def qxs:EI wG ⟨.yld 0,[wS],Wb,_,.two (RS.mk (VO) [US,WG,(2,.cells [.ptr 11 0] 85),VB,Vb,Uw,XA,VV,Vh,Vi,(10,Vx),V8,(12,VC),W5,YQ,YR,(16,VC),(17,UK),(18,UK),(19,UK)]) (.two (RS.mk (VO) [US,WG,Vw,VB,Vb,(5,.dat (.prod xE .bool) 90),XA,VV,Vh,Vi,(10,Vx)]) (RS.mk (VO) [US,WG,Wz,VB,Vb,Uw,XA,VV,Vh,Vi,(10,Vx),(12,VC),W5,YQ,YR]))⟩:=(fy 12 [(ML fu).p,np.p,(qxr fu).p] [] false [([0,1,0,1,1,1,1],2)] (ob rfl ly)).fo (uQ fu) [] 0 [0,1,0,1,1,1,1] (h:=by rintro⟨u,_⟩ ⟨⟨_,_,_⟩,⟨_,_⟩,⟨_,_⟩,_,v,⟨w,x,y,z,A,B,_,C,E,a,c,d,e,f,g,i,j,k,l,m,n,_,_,_,o,_⟩,q,r,s,t,_⟩;exact Eq.trans (b:=uQ fu u v w x y z A B C E a c d e f g i j k l m n o q r s t) Tc Tc)
def iV:Fx wG ⟨.fn 208,Uo,X0,_,.two (RS.mk Vp [UT,UM,UW,UQ,XF,VX,Ur,VV,(8,Vx)]) (RS.mk Vp [UT,UM,UW,UQ,XF,(5,.cells [.ptr 9 0] 85),Ur,VV,(8,Vx),WA,(10,VC),(11,UK),Xr,W5])⟩:=fx [⟨mW.e oq,yM gP gC gO gB⟩,qwv.p,dU.p,(qxs fu).p] [lb 320 [U6,U1] W4,lb 320 [U6,U1] [UT,UM,UW,UQ,V6,VX,Ur,VV,(32,Vx)],lb 96 Xb W4,lb 96 Xb [UT,UM,UW,UQ,V6,VX,Ur,VV,(32,Vx)]]
def qxv(r0:(iV fu).L 1):Nat->(iV fu).L 0:=Fx.lq (IB fu r0.f) (I7 fu r0.f) (fun v=>[v.s,r0.s]) (h:=by rintro v ⟨⟨_,_,_⟩,⟨⟨_,_,_⟩,⟨w,_⟩,⟨x,_⟩,⟨y,_⟩,⟨_,_⟩,⟨_,_⟩,_,_,z,⟨A,B,C,E,F,G,_,a,c,d,e,f,g,i,j,k,l,m,n,o,p,_,_,_,q,_⟩,r,s,t,u,_⟩⟩;exact Eq.trans (b:=I7 fu r0.f v.f w x y z A B C E F G a c d e f g i j k l m n o p q r s t u) Tc Tc)
def qxt:Nat->(iV fu).L 1:=Fx.lq (I9 fu) (OR fu) (fun a=>[(qxv fu a fu).s,a.s])
def qxw(a:(iV fu).L 3):Nat->(iV fu).L 2:=Fx.lq (IC fu a.f) (I8 fu a.f) (fun w=>[w.s,a.s]) (h:=by rintro w ⟨⟨_,_,_,_,_⟩,⟨⟨_,_,_⟩,⟨x,_⟩,⟨y,_⟩,⟨z,_⟩,⟨_,_⟩,⟨_,_⟩,_,_,A,⟨B,C,E,F,G,H,_,c,d,e,f,g,i,j,k,l,m,n,o,p,q,_,_,_,r,_⟩,s,t,u,v,_⟩⟩;exact Eq.trans (b:=I8 fu a.f w.f x y z A B C E F G H c d e f g i j k l m n o p q r s t u v) Tc Tc)
def qxu:Nat->(iV fu).L 3:=Fx.lq (IA fu) (OS fu) (fun a=>[(qxw fu a fu).s,a.s])
def qxx:=(iV fu).fi (OQ fu) [(qxt fu fu).s,(qxu fu fu).s]
def qxy:EI wG ⟨.fn 12,[wS],[],_,RS.mk WJ [(0,Vx)]⟩:=(fx [io.p,qwq.p,(qxx fu).p,ip.p] [] false [([0,1,0,1,1,1,1],2)] (ob rfl ly)).fi (Oy fu)
def qxz:EI wG ⟨.fn 99,XR,[],_,RS.mk (.fn 156 [Uk,Vs,WD]) [(0,.dat xD 32),(1,Vy),(2,.dat UE 46)]⟩:=(fx).fi C4
def qdt(fu:Nat):Fx wG ⟨.fn 262,XJ,[],_,RS.mk (wH) []⟩:=fx [] [lb 104 [(0,Uq),(1,wH),(7,wH),(8,wH)]]
def qx0:Nat->(qdt fu).L 0:=Fx.lq (vN fu) (Iy fu) (fun a=>[a.s])
def qx1:=(qdt fu).fi (Ix fu) [(qx0 fu fu).s]
def qx2:EI wG ⟨.fn 214,XJ,[],_,RS.mk (UI) []⟩:=(fx [(qx1 fu).p]).fi (CC fu)
def qdu:Fx wG ⟨.fn 157,[.h xR,.h xD,.h xD,wH],[],_,RS.mk (UI) []⟩:=fx [(qdc fu).p,(qx2 fu).p] [lb 32118 [(3,wH),(4,UN),WE,(14,UI)] [Ua]]
def qx3:(qdu fu).L 0:=Fx.jm (C0 fu)
def qx4:=(qdu fu).fi (Cz fu) [(qx3 fu).s]
def qx5:EI wG ⟨.fn 215,[wH],[],_,RS.mk (UI) []⟩:=(fx).fi Cc
def qx6:EI wG ⟨.fn 158,WK,[],_,RS.mk (UI) []⟩:=(fx [qx5.p]).fi Cb
def qx7:EI wG ⟨.fn 159,[wH],[],_,RS.mk (UI) []⟩:=(fx).fi CD
def qdv(fu:Nat):Fx wG ⟨.fn 100,XJ,[],_,RS.mk (.tup [wH,UI]) []⟩:=fx [qx6.p,qx7.p] [lb 480 [(0,Uq),(1,wH),(6,wH),(7,wH),(8,wH)]]
def qx8:Nat->(qdv fu).L 0:=Fx.lq (vI fu) (Ir fu) (fun a=>[a.s])
def qx9:=(qdv fu).fi (C9 fu) [(qx8 fu fu).s]
def qya:EI wG ⟨.yld 0,[wH],YO,_,RS.mk (VO) [VT,(1,Vy),WL,VB,Vb,(5,UK)]⟩:=(fy 49 [(qx9 fu).p] [] false [([0,1,0,1,1,1,1,1,1,1],4)] (ob rfl ly)).fo (vD fu) [] 0 [0,1,0,1,1,1,1,1,1,1]
def qdw:Fx wG ⟨.fn 156,Uo,Wq,_,RS.mk Vp [Uy,XG,(2,Vy),XH,(4,Vy),WM,Ur,VV,(8,UK)]⟩:=fx [(MF fu).p,(qdb fu).p,(qx4 fu).p,(MI fu).p,(qya fu).p] [lb 240 [U6,VD,U1,VQ,(5,wH),(7,wH),(8,wH)] [Uy,XG,(2,Vy),XH,(4,Vy),Vj,Ur,VV,VU]]
def qyb:Nat->(qdw fu).L 0:=Fx.lq (lI fu) (Il fu) (fun a=>[a.s])
def qyc:=(qdw fu).fi (C5 fu) [(qyb fu fu).s]
def qdx:EI wG ⟨.fn 101,[wH,Uk,Vs],[(0,WV),VG],_,RS.mk (UI) [(0,WV),VG]⟩:=(fx).fi vC
def qdy(fu:Nat):Fx wG ⟨.fn 160,Ww,XO,_,RS.mk (wH) XO⟩:=fx [qdx.p] [lb 104 [(0,.own 0),XS,(7,wH),(8,wH)] XO]
def qyd:Nat->(qdy fu).L 0:=Fx.lq (vM fu) (Iw fu) (fun a=>[a.s])
def qye:=(qdy fu).fi (Iv fu) [(qyd fu fu).s]
def qdz:Fx wG ⟨.fn 102,Ww,XO,_,RS.mk (.own 3) [WX,VG,Uz,(3,UK)]⟩:=fx [(qye fu).p,qdx.p] [lb 976 [(0,Un),XS,(5,wH),(6,wH)] [WX,VG,Uz,VU]] true
def qyf:Nat->(qdz fu).L 0:=Fx.lq (vK fu) (Is fu) (fun a=>[a.s])
def qyg:=(qdz fu).fi (vJ fu) [(qyf fu fu).s]
def Nf:Fx wG ⟨.fn 49,Vz,[],_,RS.mk WJ [(0,UK)]⟩:=fx [(FI fu).p,np.p,io.p,(MI fu).p,(qde fu).p,A4.p,qxz.p,(qyc fu).p,(qyg fu).p,⟨I0 tn,OG⟩,⟨OD CA,qgr⟩,ip.p] [lb 254 [(5,UN),(6,U3),(7,XC),YY,YZ,(10,wN),YA] [Uf,VH,Xs,(35,WV),(36,WV),(37,Wm)],lb 253 [(5,UN),(6,U3),(7,XC),YY,YZ,(10,wN),YA,(60,UI)] [Uf,VH,Xs,(35,WV),(36,WV),(37,Wm)]] false [([0,1,0,1,1,1,1,1,1,1],4)] (ob rfl ly)
def qyi:(Nf fu).L 0:=Fx.jm (lH fu)
def qyh:(Nf fu).L 1:=Fx.jm (lG fu) [(qyi fu).s]
def qyj:=(Nf fu).fi (vB fu) [(qyh fu).s]
def qd1:EI wG ⟨.fn 13,XT,[],_,RS.mk WJ [(0,UK)]⟩:=(fx [(ML fu).p,np.p,io.p,(qyj fu).p,ip.p]).fi (lD fu)
def qd2(fu:Nat):Fx wG ⟨.fn 15,[Uq,Uq],[],_,RS.mk (UI) []⟩:=fx [] [lb 464 [(0,Uq),(1,Uq),(5,wH)]]
def qyk:Nat->(qd2 fu).L 0:=Fx.lq (rA fu) (Gb fu) (fun a=>[a.s])
def Ng:=(qd2 fu).fi (aG fu) [(qyk fu fu).s]
def F4:Fx wG ⟨.fn 18,[.h xE,.h xE],[],_,RS.mk (UI) []⟩:=fx [(Ng fu).p] [lb 464 [(2,UN),(3,U3),(5,wH)] [Ud,W7],lb 28 [(2,UN),(3,U3)] [Ud,W7],lb 13 [(2,UN),(3,U3),(77,UI)] [Ud,W7]]
def qyn:Nat->(F4 fu).L 0:=Fx.lq (GV fu) (Ol fu) (fun a=>[a.s])
def qym:(F4 fu).L 1:=Fx.jm (Om fu) [(qyn fu fu).s]
def qyl:(F4 fu).L 2:=Fx.jm (tf fu) [(qym fu).s]
def qyo:=(F4 fu).fi (Oj fu) [(qyl fu).s]
def qd3(fu:Nat):Fx wG ⟨.fn 19,Xy,[],_,RS.mk (wH) []⟩:=fx [] [lb 208 [(0,wS),(1,wS),(7,wH)]]
def qyp:Nat->(qd3 fu).L 0:=Fx.lq (eN fu) (Bb fu) (fun a=>[a.s])
def Nj:=(qd3 fu).fi (qm fu) [(qyp fu fu).s]
def qyq:EI wG ⟨.fn 6,[],[],_,RS.mk (UI) []⟩:=(fx [x1s.p,(qwp fu).p,(qxy fu).p,(qd1 fu).p,(qyo fu).p,(Ng fu).p,(Nj fu).p]).fi (BE fu)
def aB:EI wG ⟨.fn 8,WK,[],_,RS.mk WI []⟩:=(fx).fi ck
def mg:EI wG ⟨.fn 28,Wa,[],_,RS.mk (UI) []⟩:=(fx).fi cn
def AB(fu:Nat):Fx wG ⟨.fn 86,[wS,wH],[],_,RS.mk (.tup WK) []⟩:=fx [mg.p] [lb 32720 [(0,wS),(1,wH),(7,wH),(8,wH),(9,wH),VP],lb 2044 [(0,wS),(1,wH),(7,wH),(8,wH),(9,wH)],lb 1021 [(0,wS),(1,wH),(7,wH),(8,wH),(9,wH),(43,UI)],lb 1020 [(0,wS),(1,wH),(7,wH),(8,wH),(9,wH)]]
def qyu:Nat->(AB fu).L 0:=Fx.lq (yd fu) (Bi fu) (fun a=>[a.s])
def qyt:(AB fu).L 1:=Fx.jm (Oi fu) [(qyu fu fu).s]
def qys:(AB fu).L 2:=Fx.jm (rR fu) [(qyt fu).s]
def qyr:(AB fu).L 3:=Fx.jm (yc fu) [(qys fu).s]
def qd4:=(AB fu).fi (rQ fu) [(qyr fu).s]
def qd6:Fx wG ⟨.fn 64,[wS],[],_,RS.mk (UI) []⟩:=fx [(qd4 fu).p] Xp
def qyv:Nat->(qd6 fu).L 0:=Fx.lq (sA fu) (G7 fu) (fun a=>[a.s])
def qd7:=(qd6 fu).fi (rZ fu) [(qyv fu fu).s]
def qyz:EI wG ⟨.fn 29,[wS],[],_,RS.mk (wH) []⟩:=(fx [(qd7 fu).p,(Nj fu).p]).fi (tg fu)
def qd8:EI wG ⟨.fn 170,[VE],[],_,RS.mk (UI) []⟩:=(fx).fi eI
def qd9:EI wG ⟨.fn 177,[VE],[],_,RS.mk (UI) []⟩:=(fx [mg.p]).fi pi
def qea(fu:Nat):Fx wG ⟨.fn 172,[VE,wS],[],_,RS.mk (UI) []⟩:=fx [] [lb 208 [(0,VE),(1,wS),(5,wH)]]
def qy0:Nat->(qea fu).L 0:=Fx.lq (rO fu) (Gr fu) (fun a=>[a.s])
def qeb:=(qea fu).fi (rN fu) [(qy0 fu fu).s]
end
end
noncomputable section
open Go.Proofs
set_option linter.unusedVariables false
set_option maxRecDepth 100000
set_option maxHeartbeats 2000000
open Tryz
section
variable(fu:Nat)
def qec:EI wG ⟨.fn 171,[VE],[],_,RS.mk (UI) []⟩:=(fx [qd9.p,(qeb fu).p]).fi (eH fu)
def fb:Fx wG ⟨.fn 116,[wS],[],_,RS.mk X4 [(0,.row Ul 160)]⟩:=fx [qd8.p,(qec fu).p,(qeb fu).p] [lb 15293724 Xd [UR],lb 7646860 Xd [UR],lb 1911712 Xd [UR],lb 61177226 Xe [UR],lb 61177225 [(0,wS),(4,Un),(5,wH),(8,wS),(76,UI)] [UR],lb 61177224 Xe [UR],lb 15294305 [(0,wS),(4,Un),(5,wH),(8,wS),(65,UI)] [UR],lb 15294304 Xe [UR],lb 61177668 [(0,wS),(4,Un),(5,wH),(9,wS)] [UR],lb 30588833 [(0,wS),(4,Un),(5,wH),(9,wS),(121,UI)] [UR],lb 30588832 [(0,wS),(4,Un),(5,wH),(9,wS)] [UR],lb 238975 [(0,wS),(4,Un),(5,wH),(6,VE),(99,UI)] [UR],lb 464 [(0,wS),(4,Un),(5,wH)] [UR]]
def qzb(r0:(fb fu).L 12)(a:(fb fu).L 2):(fb fu).L 0:=Fx.jm (pX fu r0.f a.f) [r0.s,a.s]
def qy8(r0:(fb fu).L 12)(a:(fb fu).L 2):(fb fu).L 1:=Fx.jm (pW fu r0.f a.f) [(qzb fu r0 a).s]
def qy2(r0:(fb fu).L 12):Nat->(fb fu).L 2:=Fx.lq (eF fu r0.f) (FO fu r0.f) (fun a=>[(qy8 fu r0 a).s])
def qy5(r0:(fb fu).L 12)(a:(fb fu).L 7):(fb fu).L 3:=Fx.jm (eG fu r0.f a.f) [a.s]
def qy3(r0:(fb fu).L 12)(a:(fb fu).L 7):(fb fu).L 4:=Fx.jm (jI fu r0.f a.f) [(qy5 fu r0 a).s]
def qzc(r0:(fb fu).L 12)(a:(fb fu).L 7):(fb fu).L 5:=Fx.jm (pY fu r0.f a.f) [(qy3 fu r0 a).s]
def qy9(r0:(fb fu).L 12)(a:(fb fu).L 7):(fb fu).L 6:=Fx.jm (aE fu r0.f a.f) [(qzc fu r0 a).s,r0.s]
def qy6(r0:(fb fu).L 12):Nat->(fb fu).L 7:=Fx.lq (sw fu r0.f) (AS fu r0.f) (fun a=>[(qy9 fu r0 a).s])
def qy4(r0:(fb fu).L 12)(a:(fb fu).L 10):(fb fu).L 8:=Fx.jm (pV fu r0.f a.f) [a.s]
def qzd(r0:(fb fu).L 12)(a:(fb fu).L 10):(fb fu).L 9:=Fx.jm (qk fu r0.f a.f) [(qy4 fu r0 a).s,r0.s]
def qza(r0:(fb fu).L 12):Nat->(fb fu).L 10:=Fx.lq (nq fu r0.f) (pU fu r0.f) (fun a=>[(qzd fu r0 a).s])
def qy7(r0:(fb fu).L 12):(fb fu).L 11:=Fx.jm (aD fu r0.f) [(qza fu r0 fu).s,r0.s]
def qy1:Nat->(fb fu).L 12:=Fx.lq (dp fu) (eD fu) (fun a=>[a.s,(qy2 fu a fu).s,(qy6 fu a fu).s,(qy7 fu a).s])
def qze:=(fb fu).fi (pT fu) [(qy1 fu fu).s]
def sh(fu:Nat):Fx wG ⟨.fn 117,[.h Vn,UI],[],_,RS.mk Wn [(0,Yd)]⟩:=fx [] [lb 32039 WU [Uc,Vf],lb 64077 [UL,(1,UI),(5,Un),Vd,(7,UI),(8,wH),(40,UI)] [Uc,Vf],lb 64076 WU [Uc,Vf],lb 32036 WU [Uc,Vf],lb 16017 [UL,(1,UI),(5,Un),Vd,(7,UI),(8,wH),(24,UI)] [Uc,Vf],lb 2000 WU [Uc,Vf]]
def qzk(r0:(sh fu).L 5):(sh fu).L 0:=Fx.jm (Bn fu r0.f) [r0.s]
def qzj(r0:(sh fu).L 5):(sh fu).L 1:=Fx.jm (sJ fu r0.f) [r0.s,(qzk fu r0).s]
def qzi(r0:(sh fu).L 5):(sh fu).L 2:=Fx.jm (sI fu r0.f) [(qzj fu r0).s]
def qzh(r0:(sh fu).L 5):(sh fu).L 3:=Fx.jm (sH fu r0.f) [(qzi fu r0).s]
def qzg(r0:(sh fu).L 5):(sh fu).L 4:=Fx.jm (sG fu r0.f) [(qzh fu r0).s]
def qzf:Nat->(sh fu).L 5:=Fx.lq (qn fu) (GA fu) (fun a=>[(qzg fu a).s])
def qzl:=(sh fu).fi (kC fu) [(qzf fu fu).s]
def qee(fu:Nat):Fx wG ⟨.fn 120,YK,[],_,RS.mk (UI) []⟩:=fx [] [lb 208 [UL,(3,wH)]]
def qzm:Nat->(qee fu).L 0:=Fx.lq (sR fu) (GG fu) (fun a=>[a.s])
def qef:=(qee fu).fi (Bp fu) [(qzm fu fu).s]
def qeg(fu:Nat):Fx wG ⟨.fn 176,[wS],[],_,RS.mk (UI) []⟩:=fx [mg.p] Xp
def qzn:Nat->(qeg fu).L 0:=Fx.lq (rI fu) (Gf fu) (fun a=>[a.s])
def qeh:=(qeg fu).fi (rH fu) [(qzn fu fu).s]
def qei:Fx wG ⟨.fn 123,[wS,UI],[],_,RS.mk (UI) []⟩:=fx [(qec fu).p,qd9.p] [lb 464 [(0,wS),(1,UI),(5,UI),(6,wH)]]
def qzo:Nat->(qei fu).L 0:=Fx.lq (qU fu) (FZ fu) (fun a=>[a.s])
def Nn:=(qei fu).fi (eM fu) [(qzo fu fu).s]
def Nq:Fx wG ⟨.fn 173,YK,[],_,RS.mk (.tup [.h VR,UI]) []⟩:=fx [(qeh fu).p,(Nn fu).p] [lb 14 [UL,(2,UN)] [Up],lb 13 [UL,(2,UN),(35,UI)] [Up]]
def qzq:(Nq fu).L 0:=Fx.jm (sN fu)
def qzp:(Nq fu).L 1:=Fx.jm (vh fu) [(qzq fu).s]
def qzr:=(Nq fu).fi (aM fu) [(qzp fu).s]
def qek(fu:Nat):Fx wG ⟨.fn 175,[.h Vn,wH],[],_,RS.mk (UI) []⟩:=fx [] [lb 464 [UL,(5,wH)]]
def qzs:Nat->(qek fu).L 0:=Fx.lq (sK fu) (GB fu) (fun a=>[a.s])
def qzt:=(qek fu).fi (Bo fu) [(qzs fu fu).s]
def qel(fu:Nat):Fx wG ⟨.fn 278,[wS],[],_,RS.mk (wS) []⟩:=fx [mg.p] [lb 464 [(3,Un),(4,wH)] [Ue]]
def qzu:Nat->(qel fu).L 0:=Fx.lq (ya fu) (jW fu) (fun a=>[a.s])
def Nr:=(qel fu).fi (xz fu) [(qzu fu fu).s]
def qzv:EI wG ⟨.fn 310,Vm,[],_,RS.mk (UI) []⟩:=(fx [(Nr fu).p]).fi (jJ fu)
def qem:Fx wG ⟨.fn 277,[wS],[],_,RS.mk (wH) []⟩:=fx [(qzv fu).p] [lb 464 YU [(32,VN)]]
def qzw:Nat->(qem fu).L 0:=Fx.lq (rU fu) (Gy fu) (fun a=>[a.s])
def qzx:=(qem fu).fi (Gx fu) [(qzw fu fu).s]
def qen(fu:Nat):Fx wG ⟨.fn 311,[VE],[],_,RS.mk (wH) []⟩:=fx [] [lb 208 [(0,VE),(3,wH)]]
def qzy:Nat->(qen fu).L 0:=Fx.lq (sQ fu) (GF fu) (fun a=>[a.s])
def qzz:=(qen fu).fi (GE fu) [(qzy fu fu).s]
def qeo(fu:Nat):Fx wG ⟨.fn 312,[Uq],[],_,RS.mk (wH) []⟩:=fx [] [lb 464 [(0,Uq),(3,wH),(4,wH)]]
def qz0:Nat->(qeo fu).L 0:=Fx.lq (aN fu) (sP fu) (fun a=>[a.s])
def qep:=(qeo fu).fi (sO fu) [(qz0 fu fu).s]
def oh:Fx wG ⟨.fn 279,V7,[],_,RS.mk Wn [(0,VF)]⟩:=fx [(qzz fu).p,(qep fu).p] [lb 119396 [WW,(3,Un),(4,wH),(5,wH),(6,wH)] [VU],lb 59697 [WW,(3,Un),(4,wH),(5,wH),(6,wH),(32,UI)] [VU],lb 59696 [WW,(3,Un),(4,wH),(5,wH),(6,wH)] [VU],lb 1864 [WW,(3,Un),(4,wH)] [VU],lb 2000 [(3,Uq),(7,WR),(8,wH)] [(33,VF)],lb 465 [WW,(3,Un),(4,wH),(19,UI)] [VU],lb 464 [WW,(3,Un),(4,wH)] [VU]]
def qz7(r0:(oh fu).L 6)(a:(oh fu).L 2):(oh fu).L 0:=Fx.jm (Gl fu r0.f a.f) [a.s]
def qz6(r0:(oh fu).L 6)(a:(oh fu).L 2):(oh fu).L 1:=Fx.jm (rK fu r0.f a.f) [(qz7 fu r0 a).s,r0.s]
def qz5(r0:(oh fu).L 6):Nat->(oh fu).L 2:=Fx.lq (jV fu r0.f) (Bg fu r0.f) (fun a=>[(qz6 fu r0 a).s])
def qz3(r0:(oh fu).L 6):(oh fu).L 3:=Fx.jm (Gk fu r0.f) [(qz5 fu r0 fu).s]
def qz4:Nat->(oh fu).L 4:=Fx.lq (rJ fu) (Gj fu) (fun a=>[a.s])
def qz2(r0:(oh fu).L 6):(oh fu).L 5:=Fx.jm (jU fu r0.f) [(qz3 fu r0).s,(qz4 fu fu).s]
def qz1:Nat->(oh fu).L 6:=Fx.lq (eO fu) (Gi fu) (fun a=>[(qz2 fu a).s])
def qz8:=(oh fu).fi (Gg fu) [(qz1 fu fu).s]
def qeq(fu:Nat):Fx wG ⟨.fn 313,V7,[],_,RS.mk Wn [(0,UK)]⟩:=fx [] [lb 464 [WW,(3,Un),(4,wH)] [VU]]
def qz9:Nat->(qeq fu).L 0:=Fx.lq (jK fu) (AT fu) (fun a=>[a.s])
def q0a:=(qeq fu).fi (FP fu) [(qz9 fu fu).s]
def F6:Fx wG ⟨.fn 280,V7,[],_,RS.mk (wS) []⟩:=fx [(q0a fu).p,(qep fu).p] [lb 2016 [(4,wS)],lb 2000 [(3,Uq),(4,wS),(5,wH)],lb 224 [(3,Un)] [VU]]
def q0d:Nat->(F6 fu).L 0:=Fx.lq (eK fu) (FR fu) (fun a=>[a.s])
def q0c:Nat->(F6 fu).L 1:=Fx.lq (eJ fu) (AW fu) (fun a=>[a.s,(q0d fu fu).s])
def q0b:Nat->(F6 fu).L 2:=Fx.lq (pZ fu) (FQ fu) (fun a=>[a.s,(q0c fu fu).s])
def q0e:=(F6 fu).fi (AU fu) [(q0b fu fu).s]
def qes:Fx wG ⟨.fn 315,[wS],[],_,RS.mk Wn [(0,UK)]⟩:=fx [(qd4 fu).p] [lb 464 YU [VU]]
def q0h:Nat->(qes fu).L 0:=Fx.lq (rS fu) (Gv fu) (fun a=>[a.s])
def q0i:=(qes fu).fi (Bj fu) [(q0h fu fu).s]
def N0:Fx wG ⟨.fn 314,[wH],[],_,RS.mk (wS) []⟩:=fx [mg.p] [lb 28 [(0,wH)],lb 13 [(0,wH),(9,UI)]]
def q0k:N0.L 0:=Fx.jm rY
def q0j:N0.L 1:=Fx.jm rX [(q0k).s]
def q0l:=N0.fi ph [(q0j).s]
def iX:Fx wG ⟨.fn 282,[wH,.h wB],[],_,RS.mk (wS) []⟩:=fx [(q0i fu).p,q0l.p,mg.p] [lb 7504 [(0,wH),XY,(5,wS),(6,wH)],lb 60336 [(5,wS),(8,Un),(9,wH)] [VU],lb 3865165 [XY,(5,wS),VP,WE,(93,UI)],lb 120784 [XY,(5,wS),VP],lb 117 [(0,wH),XY,(5,wS),Wg,(14,UI)]]
def q0o:Nat->(iX fu).L 0:=Fx.lq (jN fu) (FW fu) (fun a=>[a.s])
def q0p:Nat->(iX fu).L 1:=Fx.lq (qQ fu) (FX fu) (fun a=>[a.s])
def q0r(a:(iX fu).L 3):(iX fu).L 2:=Fx.jm (qR fu a.f) [a.s]
def q0q:Nat->(iX fu).L 3:=Fx.lq (eL fu) (FY fu) (fun a=>[(q0r fu a).s])
def q0n:(iX fu).L 4:=Fx.jm (qO fu) [(q0o fu fu).s,(q0p fu fu).s,(q0q fu fu).s]
def q0s:=(iX fu).fi (qK fu) [(q0n fu).s]
def qet:Fx wG ⟨.fn 281,[VE],[],_,RS.mk (wH) []⟩:=fx [(Nr fu).p] [lb 208 [(0,VE),(3,wH)]]
def q0t:Nat->(qet fu).L 0:=Fx.lq (qV fu) (Ga fu) (fun a=>[a.s])
def q0u:=(qet fu).fi (jO fu) [(q0t fu fu).s]
def dQ:Fx wG ⟨.fn 227,[wS,wH],[],_,RS.mk (.tup [wS,wH]) []⟩:=fx [(Nj fu).p,(qzx fu).p,(Nr fu).p,(qz8 fu).p,(q0e fu).p,(q0s fu).p,(q0u fu).p,mg.p] [lb 17179202143 [(1,wH),(8,wH),(9,wH),YH,(12,Un),Wg,(14,VE),(153,UI)] [Ue],lb 4294800535 [(1,wH),(8,wH),(9,wH),YH,(12,Un),Wg,(14,VE),(109,UI)] [Ue],lb 67106256 [(1,wH),(8,wH),(9,wH),YH,(12,Un),Wg] [Ue],lb 1022 [(0,wS),(1,wH),(6,wH),(7,wH),(8,wH)],lb 1021 [(0,wS),(1,wH),(6,wH),(7,wH),(8,wH),(58,UI)]]
def q0z(a:(dQ fu).L 2):(dQ fu).L 0:=Fx.jm (sD fu a.f) [a.s]
def q0y(a:(dQ fu).L 2):(dQ fu).L 1:=Fx.jm (eP fu a.f) [a.s,(q0z fu a).s]
def q0x:Nat->(dQ fu).L 2:=Fx.lq (aK fu) (G8 fu) (fun a=>[a.s,(q0y fu a).s])
def q0w:(dQ fu).L 3:=Fx.jm (G9 fu) [(q0x fu fu).s]
def q0v:(dQ fu).L 4:=Fx.jm (aJ fu) [(q0w fu).s]
def q00:=(dQ fu).fi (sC fu) [(q0v fu).s]
def si:Fx wG ⟨.fn 174,[wS],[],_,RS.mk (wS) []⟩:=fx [(q00 fu).p,qd8.p] [lb 478178 [(0,wS),(3,wS),(4,wH),(7,wH)],lb 59775 [(0,wS),(3,wS),(4,wH),(7,wH),(58,UI)],lb 478177 [(0,wS),(3,wS),(4,wH),(7,wH),(47,UI)],lb 478176 [(0,wS),(3,wS),(4,wH),(7,wH)],lb 464 YT]
def q04(r0:(si fu).L 4)(a:(si fu).L 3):(si fu).L 0:=Fx.jm (G6 fu r0.f a.f) [a.s]
def q05(r0:(si fu).L 4):(si fu).L 1:=Fx.jm (rW fu r0.f) [r0.s]
def q03(r0:(si fu).L 4)(a:(si fu).L 3):(si fu).L 2:=Fx.jm (rV fu r0.f a.f) [(q04 fu r0 a).s,(q05 fu r0).s]
def q02(r0:(si fu).L 4):Nat->(si fu).L 3:=Fx.lq (jZ fu r0.f) (G5 fu r0.f) (fun a=>[(q03 fu r0 a).s])
def q01:Nat->(si fu).L 4:=Fx.lq (vg fu) (G4 fu) (fun a=>[a.s,(q02 fu a fu).s])
def q06:=(si fu).fi (G3 fu) [(q01 fu fu).s]
def sj:Fx wG ⟨.fn 119,YK,[],_,RS.mk (wS) []⟩:=fx [(qzt fu).p,(q06 fu).p] [lb 477828 X1,lb 7468 X1,lb 238913 [UL,(3,wS),(4,wH),(5,wS),(34,UI)],lb 238912 X1,lb 464 [UL,(3,wS),(4,wH)]]
def q1a(r0:(sj fu).L 4)(a:(sj fu).L 3):(sj fu).L 0:=Fx.jm (Gq fu r0.f a.f) [a.s]
def qev(r0:(sj fu).L 4):(sj fu).L 1:=Fx.jm (rL fu r0.f) [r0.s]
def q09(r0:(sj fu).L 4)(a:(sj fu).L 3):(sj fu).L 2:=Fx.jm (rM fu r0.f a.f) [(q1a fu r0 a).s,(qev fu r0).s]
def q08(r0:(sj fu).L 4):Nat->(sj fu).L 3:=Fx.lq (jX fu r0.f) (Gn fu r0.f) (fun a=>[(q09 fu r0 a).s])
def q07:Nat->(sj fu).L 4:=Fx.lq (sy fu) (Gm fu) (fun a=>[(q08 fu a fu).s,(qev fu a).s])
def qew:=(sj fu).fi (Bh fu) [(q07 fu fu).s]
def pC:Fx wG ⟨.fn 118,YK,[],_,RS.mk (.tup [.h VR,UI]) []⟩:=fx [(qef fu).p,(qzr fu).p,(qew fu).p] [lb 3366 [UL,(2,UN),(4,wH)] [Up],lb 3365 [UL,(2,UN),(4,wH),(33,UI)] [Up],lb 208 [UL,(2,UN),(4,wH)] [Up]]
def q1d(r0:(pC fu).L 2):(pC fu).L 0:=Fx.jm (GD fu r0.f)
def q1c(r0:(pC fu).L 2):(pC fu).L 1:=Fx.jm (sL fu r0.f) [(q1d fu r0).s]
def q1b:Nat->(pC fu).L 2:=Fx.lq (yf fu) (GC fu) (fun a=>[a.s,(q1c fu a).s])
def q1e:=(pC fu).fi (eR fu) [(q1b fu fu).s]
def ol:Fx wG ⟨.fn 65,[wS],[],_,RS.mk X4 [(0,.row UH 107)]⟩:=fx [(qze fu).p,(qzl fu).p,(q1e fu).p,(qew fu).p,(qef fu).p] [lb 2073811 [Vd,(7,Un),(8,wH),XZ,VP,WE] [Uc,WP],lb 530906800 [(6,Un),(7,WR),(8,wH),(14,XC),(16,XX),Xm] [WO,Wv,(34,.cells [wS,VO,.own 36] 107),(35,Yd),(36,.row VR 109)],lb 1036926 [(6,Un),(7,WR),(8,wH),XZ,VP,(14,XC)] [WO,Wv,Ws],lb 1036925 [(6,Un),(7,WR),(8,wH),XZ,VP,(14,XC),(98,UI)] [WO,Wv,Ws],lb 2073808 [Vd,(7,Un),(8,wH),XZ,VP,WE] [Uc,WP],lb 4048 [Vd,(7,Un),(8,wH)] [Uc,WP],lb 30 [(4,Un)] [UR],lb 29 [(4,Un),(5,UI),(31,UI)] [UR]]
def q1j(b:(ol fu).L 5)(a:(ol fu).L 4):(ol fu).L 0:=Fx.jm (Bf fu b.f a.f) [a.s]
def q1m(a:(ol fu).L 5):Nat->(ol fu).L 1:=Fx.lq (rG fu a.f) (Gd fu a.f) (fun b=>[b.s,a.s])
def q1l(a:(ol fu).L 5):(ol fu).L 2:=Fx.jm (Ge fu a.f) [(q1m fu a fu).s,a.s]
def q1k(a:(ol fu).L 5):(ol fu).L 3:=Fx.jm (jS fu a.f) [(q1l fu a).s]
def q1i(a:(ol fu).L 5):Nat->(ol fu).L 4:=Fx.lq (xy fu a.f) (Gc fu a.f) (fun b=>[(q1j fu a b).s,a.s,(q1k fu a).s])
def q1h:Nat->(ol fu).L 5:=Fx.lq (nt fu) (rF fu) (fun a=>[(q1i fu a fu).s])
def q1g:(ol fu).L 6:=Fx.jm (Be fu) [(q1h fu fu).s]
def q1f:(ol fu).L 7:=Fx.jm (jR fu) [(q1g fu).s]
def q1n:=(ol fu).fi (jQ fu) [(q1f fu).s]
def qex:EI wG ⟨.fn 121,[wS],[],_,RS.mk (wH) []⟩:=(fx [(qd7 fu).p]).fi (ye fu)
def q1o:EI wG ⟨.fn 122,Xl,[],_,RS.mk WI []⟩:=(fx [(qex fu).p,aB.p,(qeh fu).p,(Nn fu).p]).fi (jH fu)
def ve:Fx wG ⟨.fn 66,[Vg],[],_,RS.mk WI []⟩:=fx [aB.p,(qex fu).p,(q1o fu).p] [lb 1025264 [U4,(2,UN),(5,wH),(6,U3),(7,wH)] [UJ,WQ],lb 64078 [U4,(2,UN),(5,wH),(6,U3)] [UJ,WQ],lb 64077 [U4,(2,UN),(5,wH),(6,U3),(72,UI)] [UJ,WQ],lb 2000 [U4,(2,UN),(5,wH)] [UJ],lb 124 [U4,(2,UN)] [UJ],lb 61 [U4,(2,UN),(29,UI)] [UJ],lb 464 [U4,(2,UN),(3,wH),(4,wH)] [UJ]]
def q1v(a:(ve fu).L 3):Nat->(ve fu).L 0:=Fx.lq (vf fu a.f) (rE fu a.f) (fun b=>[b.s,a.s])
def q1u(a:(ve fu).L 3):(ve fu).L 1:=Fx.jm (Bd fu a.f) [(q1v fu a fu).s]
def q1t(a:(ve fu).L 3):(ve fu).L 2:=Fx.jm (sx fu a.f) [(q1u fu a).s]
def q1s:Nat->(ve fu).L 3:=Fx.lq (nr fu) (rD fu) (fun a=>[(q1t fu a).s])
def q1r:(ve fu).L 4:=Fx.jm (Bc fu) [(q1s fu fu).s]
def q1q:(ve fu).L 5:=Fx.jm (jP fu) [(q1r fu).s]
def q1p:Nat->(ve fu).L 6:=Fx.lq (aH fu) (rC fu) (fun a=>[a.s,(q1q fu).s])
def q1w:=(ve fu).fi (rB fu) [(q1p fu fu).s]
def F8(fu:Nat):Fx wG ⟨.fn 124,[wS],[],_,RS.mk (wS) []⟩:=fx [] [lb 3729 [(0,wS),(3,wS),(4,wH),(20,UI)],lb 464 YT]
def q1y(r0:(F8 fu).L 1):(F8 fu).L 0:=Fx.jm (rP fu r0.f) [r0.s]
def q1x:Nat->(F8 fu).L 1:=Fx.lq (jY fu) (Gu fu) (fun a=>[(q1y fu a).s])
def q1z:=(F8 fu).fi (Gt fu) [(q1x fu fu).s]
def q10:EI wG ⟨.fn 67,Xl,[],_,RS.mk (wS) []⟩:=(fx [(Nn fu).p,(q1z fu).p]).fi (Bk fu)
def q11:EI wG ⟨.fn 30,[wS],[],_,RS.mk (UI) []⟩:=(fx [(q1n fu).p,(q1w fu).p,(q10 fu).p]).fi (pm fu)
def qey(fu:Nat):Fx wG ⟨.fn 31,[wS],[],_,RS.mk (UI) []⟩:=fx [mg.p] Xp
def q12:Nat->(qey fu).L 0:=Fx.lq (tJ fu) (GX fu) (fun a=>[a.s])
def qez:=(qey fu).fi (kF fu) [(q12 fu fu).s]
def qe0:EI wG ⟨.fn 178,[wH],[],_,RS.mk (UI) []⟩:=(fx).fi jT
def F9:EI wG ⟨.fn 125,WK,[],_,RS.mk (wH) []⟩:=(fx [qe0.p]).fi aI
def q13:EI wG ⟨.fn 68,Wy,[],_,RS.mk WI []⟩:=(fx [mg.p,aB.p,F9.p]).fi AX
def qe1:EI wG ⟨.fn 32,Wy,[],_,RS.mk WI []⟩:=(fx [q13.p,aB.p,mg.p]).fi ta
def qe3(fu:Nat):Fx wG ⟨.fn 69,[Uq],[],_,RS.mk (wH) []⟩:=fx [mg.p] [lb 464 [(0,Uq),(3,wH)]]
def q15:Nat->(qe3 fu).L 0:=Fx.lq (tM fu) (GZ fu) (fun a=>[a.s])
def q16:=(qe3 fu).fi (eW fu) [(q15 fu fu).s]
def sk:Fx wG ⟨.fn 33,YI,[],_,RS.mk WI []⟩:=fx [mg.p,aB.p,(q16 fu).p] [lb 16339 [(1,UN),UU,(3,wH)] Wc,lb 130707 [(1,UN),UU,(3,wH),(77,UI)] Wc,lb 16336 [(1,UN),UU,(3,wH)] Wc,lb 1020 XI Wc,lb 509 [(1,UN),UU,(45,UI)] Wc,lb 508 XI Wc,lb 253 [(1,UN),UU,(35,UI)] Wc,lb 252 XI Wc,lb 125 [(1,UN),UU,(26,UI)] Wc]
def q2f(a:(sk fu).L 2):(sk fu).L 0:=Fx.jm (GU fu a.f) [a.s]
def q2e(a:(sk fu).L 2):(sk fu).L 1:=Fx.jm (B9 fu a.f) [(q2f fu a).s]
def q2d:Nat->(sk fu).L 2:=Fx.lq (tD fu) (GQ fu) (fun a=>[(q2e fu a).s])
def q2c:(sk fu).L 3:=Fx.jm (GT fu) [(q2d fu fu).s]
def q2b:(sk fu).L 4:=Fx.jm (B8 fu) [(q2c fu).s]
def q2a:(sk fu).L 5:=Fx.jm (GS fu) [(q2b fu).s]
def q19:(sk fu).L 6:=Fx.jm (B7 fu) [(q2a fu).s]
def q18:(sk fu).L 7:=Fx.jm (GR fu) [(q19 fu).s]
def q17:(sk fu).L 8:=Fx.jm (B6 fu) [(q18 fu).s]
def qe4:=(sk fu).fi (aP fu) [(q17 fu).s]
def jA:Fx wG ⟨.fn 9,[.h xE],[],_,RS.mk WI []⟩:=fx [mg.p,aB.p,(qyz fu).p,(q11 fu).p,(qez fu).p,qe1.p,(qe4 fu).p] [lb 16765552 [(1,UN),UU,(4,wH),(5,wH)] Xu,lb 65488 [(1,UN),UU,(4,wH)] Xu,lb 2044 XI Xu,lb 1021 [(1,UN),UU,(61,UI)] Xu,lb 208 [(1,UN),UU,(3,wH)] Xu]
def q2k(a:(jA fu).L 1):Nat->(jA fu).L 0:=Fx.lq (sX fu a.f) (GL fu a.f) (fun b=>[b.s,a.s])
def q2j:Nat->(jA fu).L 1:=Fx.lq (kD fu) (GK fu) (fun a=>[(q2k fu a fu).s])
def q2i:(jA fu).L 2:=Fx.jm (Bv fu) [(q2j fu fu).s]
def q2h:(jA fu).L 3:=Fx.jm (eS fu) [(q2i fu).s]
def q2g:Nat->(jA fu).L 4:=Fx.lq (sW fu) (GJ fu) (fun a=>[a.s,(q2h fu).s])
def q2l:=(jA fu).fi (Bu fu) [(q2g fu fu).s]
def q2o:EI wG ⟨.fn 104,[.h VL],[],_,RS.mk (UI) []⟩:=(fx [mg.p]).fi kH
def AE:Fx wG ⟨.fn 50,[.h UE],[],_,RS.mk WI []⟩:=fx [(qez fu).p,aB.p,mg.p,q2o.p] [lb 1002 [(2,UN)] [UJ],lb 1001 [(2,UN),YD] [UJ],lb 508 XI [Uf,UG],lb 253 [(1,UN),UU,(42,UI)] [Uf,UG]]
def q2r:(AE fu).L 0:=Fx.jm (BB fu)
def q2p:(AE fu).L 1:=Fx.jm (tH fu) [(q2r fu).s]
def q2s:(AE fu).L 2:=Fx.jm (BC fu)
def q2q:(AE fu).L 3:=Fx.jm (tI fu) [(q2s fu).s]
def q2t:=(AE fu).fi (tG fu) [(q2p fu).s,(q2q fu).s]
def q2u:EI wG ⟨.fn 14,Vz,[],_,RS.mk WI []⟩:=(fx [(q2t fu).p,aB.p,qe1.p,(qe4 fu).p,mg.p]).fi (sS fu)
def AF(fu:Nat):Fx wG ⟨.fn 161,[wH],[],_,RS.mk (wH) []⟩:=fx [qe0.p] [lb 467 [(0,wH),(3,wH),(4,wH)],lb 976 [(3,wH),(5,wH)],lb 464 [(0,wH),(3,wH),(4,wH)]]
def q2w(r0:(AF fu).L 2):(AF fu).L 0:=Fx.jm (sE fu r0.f) [r0.s]
def q2x:Nat->(AF fu).L 1:=Fx.lq (eQ fu) (Bm fu) (fun a=>[a.s])
def q2v:Nat->(AF fu).L 2:=Fx.lq (kB fu) (Bl fu) (fun a=>[(q2w fu a).s,(q2x fu fu).s])
def qe5:=(AF fu).fi (kA fu) [(q2v fu fu).s]
def qe6:Fx wG ⟨.fn 105,Wa,[],_,RS.mk (wH) []⟩:=fx [(qe5 fu).p,F9.p] X9
def q2y:Nat->(qe6 fu).L 0:=Fx.lq (qG fu) (FV fu) (fun a=>[a.s])
def FA:=(qe6 fu).fi (aF fu) [(q2y fu fu).s]
def jB:Fx wG ⟨.fn 107,WK,[],_,RS.mk (.tup [.h xD,UI]) []⟩:=fx [(FA fu).p,(qe5 fu).p,F9.p] [lb 262112 [(1,wH),(4,UN),(7,wH),(8,wH),(9,wH),VP] [U2],lb 32736 [(1,wH),(4,UN),(7,wH),(8,wH),(9,wH)] [U2],lb 2044 [(1,wH),(4,UN),(7,wH),(8,wH),(9,wH)] [U2],lb 254 [(1,wH),(4,UN),(7,wH),(8,wH)] [U2],lb 253 [(1,wH),(4,UN),(7,wH),(8,wH),(32,UI)] [U2],lb 62 [(1,wH),(4,UN),(6,wH),(7,wH)] [U2]]
def q24:Nat->(jB fu).L 0:=Fx.lq (qD fu) (FT fu) (fun a=>[a.s])
def q23:Nat->(jB fu).L 1:=Fx.lq (jM fu) (Zb fu) (fun a=>[a.s,(q24 fu fu).s])
def q22:(jB fu).L 2:=Fx.jm (Ba fu) [(q23 fu fu).s]
def q21:(jB fu).L 3:=Fx.jm (AZ fu) [(q22 fu).s]
def q20:(jB fu).L 4:=Fx.jm (AY fu) [(q21 fu).s]
def q2z:(jB fu).L 5:=Fx.jm (qC fu) [(q20 fu).s]
def qe7:=(jB fu).fi (jL fu) [(q2z fu).s]
def qe9:EI wG ⟨.fn 162,Wa,[],_,RS.mk (wH) []⟩:=(fx [(FA fu).p]).fi (sB fu)
def qfa(fu:Nat):Fx wG ⟨.fn 52,XJ,[],_,RS.mk (UI) []⟩:=fx [] [lb 208 [(0,Uq),(1,wH),(5,wH)]]
def q25:Nat->(qfa fu).L 0:=Fx.lq (sY fu) (GM fu) (fun a=>[a.s])
def N9:=(qfa fu).fi (kE fu) [(q25 fu fu).s]
end
end
noncomputable section
open Go.Proofs
set_option linter.unusedVariables false
set_option maxRecDepth 100000
set_option maxHeartbeats 2000000
open Tryz
section
variable(fu:Nat)
def qfc:Fx wG ⟨.fn 106,[.h xD,.h xR,wH,wH],[],_,RS.mk (UI) []⟩:=fx [(qe7 fu).p,(qe9 fu).p,(N9 fu).p] [lb 251870 [(5,UN),Wg,(15,UI)] [Ua]]
def q26:(qfc fu).L 0:=Fx.jm (tC fu)
def q27:=(qfc fu).fi (B4 fu) [(q26 fu).s]
def qfd:EI wG ⟨.fn 163,Wy,[],_,RS.mk (wH) []⟩:=(fx [(FA fu).p]).fi (rT fu)
def qfe:Fx wG ⟨.fn 263,[.h VL,wH],[],_,RS.mk (wH) []⟩:=fx [(qe9 fu).p,F9.p] [lb 2000 [(1,wH),(2,UN),(5,wH),(6,wH),(7,wH),(8,wH)] [W6]]
def q28:Nat->(qfe fu).L 0:=Fx.lq (tE fu) (GW fu) (fun a=>[a.s])
def q29:=(qfe fu).fi (BA fu) [(q28 fu fu).s]
def q3a:EI wG ⟨.fn 216,YV,[],_,RS.mk (wH) []⟩:=(fx [(q29 fu).p,(qfd fu).p]).fi (tF fu)
def pF:Fx wG ⟨.fn 164,YW,[],_,RS.mk (wH) []⟩:=fx [(q3a fu).p] [lb 64078 [(1,wH),(2,wH),(3,UN),(7,wH),(8,wH),(9,wH),WE] [Uf],lb 64077 [(1,wH),(2,wH),(3,UN),(7,wH),(8,wH),(9,wH),VP,WE,(46,UI)] [Uf],lb 2000 [(1,wH),(2,wH),(3,UN),(7,wH),(8,wH),(9,wH)] [Uf]]
def q3d(r0:(pF fu).L 2):(pF fu).L 0:=Fx.jm (tB fu r0.f) [r0.s]
def q3c(r0:(pF fu).L 2):(pF fu).L 1:=Fx.jm (tA fu r0.f) [(q3d fu r0).s]
def q3b:Nat->(pF fu).L 2:=Fx.lq (tc fu) (sZ fu) (fun a=>[(q3c fu a).s])
def q3e:=(pF fu).fi (eU fu) [(q3b fu fu).s]
def NC:Fx wG ⟨.fn 108,YX,[],_,RS.mk Wn [(0,UK)]⟩:=fx [(qfd fu).p,(q3e fu).p] [lb 508 [(2,UN),(3,U3),(7,wH),(8,Wh)] [Uf,VH,Vt],lb 253 [(2,UN),(3,U3),(6,wH),(7,wH),(8,wN),(46,UI)] [Uf,VH]]
def q3g:(NC fu).L 0:=Fx.jm (By fu)
def q3f:(NC fu).L 1:=Fx.jm (Bx fu) [(q3g fu).s]
def q3h:=(NC fu).fi (Bw fu) [(q3f fu).s]
def pG:Fx wG ⟨.fn 51,XR,[],_,RS.mk Wn [(0,UK)]⟩:=fx [(FA fu).p,(q27 fu).p,(qe7 fu).p,(q3h fu).p] [lb 1001982 [(3,UN),(4,U3),(5,XC),(7,wH),(8,.own 36),(9,wH),(12,XX)] [Uf,VH,Xs,V5,WS],lb 1001981 [(3,UN),(4,U3),(5,XC),(7,wH),(8,.own 36),(9,wH),(12,XX),(63,UI)] [Uf,VH,Xs,V5,WS],lb 976 [(3,UN),(4,U3),(5,XC),(7,wH),(8,XX),(9,wH)] [Uf,VH,Xs,V5]]
def q3k(r0:(pG fu).L 2):(pG fu).L 0:=Fx.jm (GP fu r0.f) [r0.s]
def q3j(r0:(pG fu).L 2):(pG fu).L 1:=Fx.jm (B5 fu r0.f) [(q3k fu r0).s]
def q3i:Nat->(pG fu).L 2:=Fx.lq (eV fu) (GO fu) (fun a=>[a.s,(q3j fu a).s])
def q3l:=(pG fu).fi (GN fu) [(q3i fu fu).s]
def pH:Fx wG ⟨.fn 53,XJ,[],_,RS.mk (Uq) []⟩:=fx [(N9 fu).p] [lb 8009 [(0,Uq),(1,wH),(5,Un),(6,UI),(7,wH)] [VU],lb 16017 [(0,Uq),(1,wH),(5,Un),(6,UI),(7,wH),YD] [VU],lb 2000 [(0,Uq),(1,wH),(5,Un),(6,UI),(7,wH)] [VU]]
def q3o(r0:(pH fu).L 2):(pH fu).L 0:=Fx.jm (tL fu r0.f) [r0.s]
def q3n(r0:(pH fu).L 2):(pH fu).L 1:=Fx.jm (tK fu r0.f) [(q3o fu r0).s]
def q3m:Nat->(pH fu).L 2:=Fx.lq (kG fu) (GY fu) (fun a=>[(q3n fu a).s])
def q3p:=(pH fu).fi (BD fu) [(q3m fu fu).s]
def jC:Fx wG ⟨.fn 16,Vz,[],_,RS.mk (Uq) []⟩:=fx [(q3l fu).p,mg.p,(N9 fu).p,(q3p fu).p] [lb 979 Yb [Ua,(33,UK),Vt],lb 3913 [(3,wH),(4,wH),(7,UN),(11,WR),(12,Wh),Wg,(41,UI)] [Ua,(33,UK),Vt],lb 2000 [(3,wH),(4,wH),(7,UN),(12,Uq),(14,wH)] [Ua],lb 976 Yb [Ua,(33,UK),Vt]]
def q3t(r0:(jC fu).L 3):(jC fu).L 0:=Fx.jm (Bt fu r0.f) [r0.s]
def q3r(r0:(jC fu).L 3):(jC fu).L 1:=Fx.jm (Br fu r0.f) [(q3t fu r0).s]
def q3s:Nat->(jC fu).L 2:=Fx.lq (sV fu) (GI fu) (fun a=>[a.s])
def q3q:Nat->(jC fu).L 3:=Fx.lq (sU fu) (GH fu) (fun a=>[(q3r fu a).s,(q3s fu fu).s])
def q3u:=(jC fu).fi (Bq fu) [(q3q fu fu).s]
def NE:IF:=⟨.fn 5,XT,[],_,RS.mk (UI) []⟩
def AJ:Fx wG NE:=fx [(qyq fu).p,(qd1 fu).p,(q2l fu).p,aB.p,(q2u fu).p,(q3u fu).p,(Ng fu).p] [lb 508 YS VY,lb 253 [(2,wH),(3,wH),(4,UN),(5,U3),(9,Wh),Wi,Wj,(49,UI)] VY,lb 252 YS VY,lb 125 [(2,wH),(3,wH),(4,UN),(5,U3),(9,Wh),Wi,Wj,(33,UI)] VY]
def q3y:(AJ fu).L 0:=Fx.jm (eY fu)
def q3x:(AJ fu).L 1:=Fx.jm (eX fu) [(q3y fu).s]
def q3w:(AJ fu).L 2:=Fx.jm (aQ fu) [(q3x fu).s]
def q3v:(AJ fu).L 3:=Fx.jm (tN fu) [(q3w fu).s]
def q3z:EI wG NE:=(AJ fu).fi (kI fu) [(q3v fu).s]
def qgk:(NE.e (kI fu)).Sound wG:=(q3z fu).h
end
end
end Go.Sym
