/- What the claim rests on, part 5: gathered texts. -/
import Derived.Shelf.LaysC
import Derived.Shelf.LaysM
import Derived.Shelf.SlGeneric
import Derived.Ground.NamesProg
import Derived.Test.YtekaipjfmlnggaaGreatDoorProg
import Derived.Below
import Derived.Tactics
import Derived.Tactics2
import Derived.Laws.AppendOwn
import Derived.Shelf.Strconv.Itoa4
import Derived.Shelf.Strconv.AtoiAll
import Derived.Shelf.Strconv.ErrVarAll
import Derived.Shelf.Strings.BuilderCap
import Derived.Shelf.Unicode.DecodeAny
import Derived.Laws.DeepStrings4
import Derived.Deep.LoopGhost
import Derived.Deep.DeepCutAuto
import Derived.Deep.DeepFit
import Derived.Deep.DeepMust
import Derived.Shelf.Unicode.ValidAny
import Derived.Shelf.Strings.Count
import Derived.Deep.OwnRows
import Derived.Laws.CopyRow
import Derived.Laws.IdiomStrings
import Derived.Laws.CopyOwn
import Derived.Lib.SlBytesConst
import Derived.Test.YtekaipjfmlnggaaGreatDoorRows
import Derived.Defers
import Derived.Laws.Pointers
import Derived.Laws.LoneSync
import Derived.RegionTactic
import Derived.RegionCalls
import Derived.ChangeAlike
import Derived.Laws.NewBlocks
import Derived.Laws.ByValue
import Derived.Shelf.Strings.Repeat
import Derived.Shelf.Strings.Replace
import Derived.Shelf.Strings.BuilderK
import Derived.Shelf.Strings.OnBuilder
import Derived.Shelf.Strings.Search2
import Derived.Shelf.Lays2
import Derived.Ground.Names2Prog
import Derived.Shelf.Sort.Plain
import Derived.Shelf.Slices.In.SortNone
import Derived.Shelf.Slices.CompactI
import Derived.Recover
import Derived.Test.YtekaipjfmlnggaaGreatDoorSyX4
set_option maxRecDepth 100000
set_option linter.defProp false
set_option linter.unusedSimpArgs false
set_option linter.unusedVariables false
namespace Go.Proofs
open Go.Sym(Tc)
open Go.Shelf
def Tryz.lfn{α:Type}{a:Option α}{b c:α}(h:a=some b)(e:b=c:=by kernel_rfl):a=some c:=h.trans (congrArg some e)
def Tryz.uniR:Go.Shelf.Ren:=⟨fun|99=>225|105=>168|129=>205|138=>206|143=>127|154=>146|155=>88|156=>113|165=>169|166=>23|167=>290|169=>26|170=>25|171=>56|172=>151|195=>252|196=>70|197=>207|205=>301|206=>261|212=>224|217=>228|218=>253|219=>179|224=>230|225=>229|240=>62|241=>226|243=>109|244=>209|245=>210|246=>165|247=>255|259=>126|260=>254|263=>274|264=>275|266=>283|267=>231|276=>115|277=>276|279=>256|280=>257|281=>258|282=>259|283=>217|284=>218|285=>219|286=>220|287=>299|314=>284|316=>300|317=>264|318=>265|319=>266|320=>267|321=>326|322=>327|337=>302|338=>303|n=>n,fun|0=>0|2=>2|3=>3|4=>4|5=>5|9=>9|12=>12|20=>20|21=>21|31=>61|37=>58|46=>173|51=>207|53=>129|70=>57|72=>60|75=>64|76=>65|80=>69|85=>268|105=>243|109=>253|119=>169|127=>100|138=>171|139=>172|143=>345|145=>347|146=>292|148=>294|164=>152|167=>267|168=>270|171=>247|173=>249|175=>311|210=>314|212=>277|213=>278|232=>348|233=>349|n=>n,fun|1=>2|3=>0|4=>1|15=>4|16=>5|17=>3|18=>6|19=>7|n=>n⟩
abbrev Tryz.laysM171_ren:Go.Shelf.Ren:=Tryz.uniR
def Tryz.laysM171:Go.Proofs.LaysM.n171 Tryz.prog Tryz.laysM171_ren:={
 mixed:=Tc
 f129:=Tryz.lfn Tryz.func205
 f171:=Tryz.lfn Tryz.func56
 f243:=Tryz.lfn Tryz.func109
 f246:=Tryz.lfn Tryz.func165
 f283:=Tryz.lfn Tryz.func217
 f284:=Tryz.lfn Tryz.func218
 f285:=Tryz.lfn Tryz.func219
 f286:=Tryz.lfn Tryz.func220
 f317:=Tryz.lfn Tryz.func264
 f318:=Tryz.lfn Tryz.func265
 f319:=Tryz.lfn Tryz.func266
 f320:=Tryz.lfn Tryz.func267
 f337:=Tryz.lfn Tryz.func302
 f338:=Tryz.lfn Tryz.func303
 t0:=Tryz.underlying0
 a0:=Tryz.isAgg0
 z0:=Tryz.sizeOf0
 v0:=Tryz.zeroValue0
 t2:=Tryz.underlying2
 a2:=Tryz.isAgg2
 z2:=Tryz.sizeOf2
 v2:=Tryz.zeroValue2
 t3:=Tryz.underlying3
 a3:=Tryz.isAgg3
 z3:=Tryz.sizeOf3
 v3:=Tryz.zeroValue3
 t4:=Tryz.underlying4
 a4:=Tryz.isAgg4
 z4:=Tryz.sizeOf4
 v4:=Tryz.zeroValue4
 t5:=Tryz.underlying5
 a5:=Tryz.isAgg5
 z5:=Tryz.sizeOf5
 v5:=Tryz.zeroValue5
 t9:=Tryz.underlying9
 a9:=Tryz.isAgg9
 z9:=Tryz.sizeOf9
 v9:=Tryz.zeroValue9
 t20:=Tryz.underlying20
 a20:=Tryz.isAgg20
 z20:=Tryz.sizeOf20
 v20:=Tryz.zeroValue20
 t37:=Tryz.underlying58
 a37:=Tryz.isAgg58
 z37:=Tryz.sizeOf58
 v37:=Tryz.zeroValue58
 t46:=Tryz.underlying173
 a46:=Tryz.isAgg173
 z46:=Tryz.sizeOf173
 v46:=Tryz.zeroValue173
 t51:=Tryz.underlying207
 a51:=Tryz.isAgg207
 z51:=Tryz.sizeOf207
 v51:=Tryz.zeroValue207
 t53:=Tryz.underlying129
 a53:=Tryz.isAgg129
 z53:=Tryz.sizeOf129
 v53:=Tryz.zeroValue129
 t171:=Tryz.underlying247
 a171:=Tryz.isAgg247
 z171:=Tryz.sizeOf247
 v171:=Tryz.zeroValue247
 t173:=Tryz.underlying249
 a173:=Tryz.isAgg249
 z173:=Tryz.sizeOf249
 v173:=Tryz.zeroValue249
 t212:=Tryz.underlying277
 a212:=Tryz.isAgg277
 z212:=Tryz.sizeOf277
 v212:=Tryz.zeroValue277
 t213:=Tryz.underlying278
 a213:=Tryz.isAgg278
 z213:=Tryz.sizeOf278
 t232:=Tryz.underlying348
 a232:=Tryz.isAgg348
 z232:=Tryz.sizeOf348
 v232:=Tryz.zeroValue348
 t233:=Tryz.underlying349
 a233:=Tryz.isAgg349
 z233:=Tryz.sizeOf349
 v233:=Tryz.zeroValue349
 g17:=Tc
 g18:=Tc
 g19:=Tc
 i0:=Tc
 i2:=Tc
 i3:=Tc
 i4:=Tc
 i5:=Tc
 i9:=Tc
 i20:=Tc
 i37:=Tc
 i46:=Tc
 i51:=Tc
 i53:=Tc
 i171:=Tc
 i173:=Tc
 i212:=Tc
 i232:=Tc
 i233:=Tc
 m17:=Tc
 m18:=Tc
 m19:=by kernel_rfl }
abbrev Tryz.laysC172_ren:Go.Shelf.Ren:=Tryz.uniR
def Tryz.laysC172:Go.Proofs.LaysC.n172 Tryz.prog Tryz.laysC172_ren:={ Tryz.laysM171 with
 f172:=Tryz.lfn Tryz.func151
 f205:=Tryz.lfn Tryz.func301
 f244:=Tryz.lfn Tryz.func209
 f245:=Tryz.lfn Tryz.func210
 f247:=Tryz.lfn Tryz.func255
 f279:=Tryz.lfn Tryz.func256
 f280:=Tryz.lfn Tryz.func257
 f281:=Tryz.lfn Tryz.func258
 f282:=Tryz.lfn Tryz.func259
 f287:=Tryz.lfn Tryz.func299
 f316:=Tryz.lfn Tryz.func300
 f321:=Tryz.lfn Tryz.func326
 f322:=Tryz.lfn Tryz.func327
 t21:=Tryz.underlying21
 a21:=Tryz.isAgg21
 z21:=Tryz.sizeOf21
 v21:=Tryz.zeroValue21
 t75:=Tryz.underlying64
 a75:=Tryz.isAgg64
 z75:=Tryz.sizeOf64
 v75:=Tryz.zeroValue64
 t76:=Tryz.underlying65
 a76:=Tryz.isAgg65
 z76:=Tryz.sizeOf65
 v76:=Tryz.zeroValue65
 t85:=Tryz.underlying268
 a85:=Tryz.isAgg268
 z85:=Tryz.sizeOf268
 v85:=Tryz.zeroValue268
 t127:=Tryz.underlying100
 a127:=Tryz.isAgg100
 z127:=Tryz.sizeOf100
 v127:=Tryz.zeroValue100
 t143:=Tryz.underlying345
 a143:=Tryz.isAgg345
 z143:=Tryz.sizeOf345
 v143:=Tryz.zeroValue345
 t145:=Tryz.underlying347
 a145:=Tryz.isAgg347
 z145:=Tryz.sizeOf347
 v145:=Tryz.zeroValue347
 t167:=Tryz.underlying267
 a167:=Tryz.isAgg267
 z167:=Tryz.sizeOf267
 v167:=Tryz.zeroValue267
 t168:=Tryz.underlying270
 a168:=Tryz.isAgg270
 z168:=Tryz.sizeOf270
 v168:=Tryz.zeroValue270
 t175:=Tryz.underlying311
 a175:=Tryz.isAgg311
 z175:=Tryz.sizeOf311
 v175:=Tryz.zeroValue311
 t210:=Tryz.underlying314
 a210:=Tryz.isAgg314
 z210:=Tryz.sizeOf314
 v210:=Tryz.zeroValue314
 g15:=Tc
 g16:=Tc
 t80:=Tryz.underlying69
 a80:=Tryz.isAgg69
 z80:=Tryz.sizeOf69
 v80:=Tryz.zeroValue69
 i21:=Tc
 i75:=Tc
 i76:=Tc
 i80:=Tc
 i85:=Tc
 i127:=Tc
 i143:=Tc
 i145:=Tc
 i167:=Tc
 i168:=Tc
 i175:=Tc
 i210:=Tc
 m15:=Tc
 m16:=Tc
 c0:=Tc
 c2:=Tc
 c3:=Tc
 c4:=Tc
 c5:=Tc
 c9:=Tc
 c20:=Tc
 c21:=Tc
 c37:=Tc
 c46:=Tc
 c51:=Tc
 c53:=Tc
 c75:=Tc
 c76:=Tc
 c80:=Tc
 c85:=Tc
 c127:=Tc
 c143:=Tc
 c145:=Tc
 c167:=Tc
 c168:=Tc
 c171:=Tc
 c173:=Tc
 c175:=Tc
 c210:=Tc
 c212:=Tc
 c213:=Tc
 c232:=Tc
 c233:=by kernel_rfl }
abbrev Tryz.lays138_ren:Go.Shelf.Ren:=Tryz.uniR
def Tryz.lays138:Go.Proofs.Lays.n138 Tryz.prog Tryz.lays138_ren:={ Tryz.laysM171 with
 f138:=Tryz.lfn Tryz.func206
 f143:=Tryz.lfn Tryz.func127
 f195:=Tryz.lfn Tryz.func252
 f217:=Tryz.lfn Tryz.func228
 f218:=Tryz.lfn Tryz.func253
 f219:=Tryz.lfn Tryz.func179
 f224:=Tryz.lfn Tryz.func230
 f225:=Tryz.lfn Tryz.func229
 f266:=Tryz.lfn Tryz.func283
 f267:=Tryz.lfn Tryz.func231
 f314:=Tryz.lfn Tryz.func284
 t146:=Tryz.underlying292
 a146:=Tryz.isAgg292
 z146:=Tryz.sizeOf292
 v146:=Tryz.zeroValue292
 g1:=by kernel_rfl }
abbrev Tryz.lays165_ren:Go.Shelf.Ren:=Tryz.uniR
def Tryz.lays165:Go.Proofs.Lays.n165 Tryz.prog Tryz.lays165_ren:={ Tryz.laysM171 with
 f165:=Tryz.lfn Tryz.func169
 f240:=Tryz.lfn Tryz.func62
 f241:=Tryz.lfn Tryz.func226
 f276:=Tryz.lfn Tryz.func115
 f277:=Tryz.lfn Tryz.func276
 t70:=Tryz.underlying57
 a70:=Tryz.isAgg57
 z70:=Tryz.sizeOf57
 v70:=Tryz.zeroValue57
 t72:=Tryz.underlying60
 a72:=Tryz.isAgg60
 z72:=Tryz.sizeOf60
 v72:=Tryz.zeroValue60
 t164:=Tryz.underlying152
 a164:=Tryz.isAgg152
 z164:=Tryz.sizeOf152
 v164:=Tryz.zeroValue152 }
abbrev Tryz.lays169_ren:Go.Shelf.Ren:=Tryz.uniR
def Tryz.lays169:Go.Proofs.Lays.n169 Tryz.prog Tryz.lays169_ren:={ Tryz.laysM171,Tryz.lays165,Tryz.laysC172 with
 f169:=Tryz.lfn Tryz.func26 }
abbrev Tryz.lays196_ren:Go.Shelf.Ren:=Tryz.uniR
def Tryz.lays196:Go.Proofs.Lays.n196 Tryz.prog Tryz.lays196_ren:={ Tryz.laysM171 with
 f196:=Tryz.lfn Tryz.func70
 f259:=Tryz.lfn Tryz.func126
 t12:=Tryz.underlying12
 a12:=Tryz.isAgg12
 z12:=Tryz.sizeOf12
 v12:=Tryz.zeroValue12
 t119:=Tryz.underlying169
 a119:=Tryz.isAgg169
 z119:=Tryz.sizeOf169
 t138:=Tryz.underlying171
 a138:=Tryz.isAgg171
 z138:=Tryz.sizeOf171
 v138:=Tryz.zeroValue171
 t139:=Tryz.underlying172
 a139:=Tryz.isAgg172
 z139:=Tryz.sizeOf172
 v139:=Tryz.zeroValue172
 g3:=Tc
 g4:=by kernel_rfl }
abbrev Tryz.lays197_ren:Go.Shelf.Ren:=Tryz.uniR
def Tryz.lays197:Go.Proofs.Lays.n197 Tryz.prog Tryz.lays197_ren:={ Tryz.laysM171,Tryz.laysC172,Tryz.lays196 with
 f197:=Tryz.lfn Tryz.func207
 f260:=Tryz.lfn Tryz.func254
 t105:=Tryz.underlying243
 a105:=Tryz.isAgg243
 z105:=Tryz.sizeOf243
 v105:=Tryz.zeroValue243 }
abbrev Tryz.lays105_ren:Go.Shelf.Ren:=Tryz.uniR
def Tryz.lays105:Go.Proofs.Lays.n105 Tryz.prog Tryz.lays105_ren:={ Tryz.laysM171,Tryz.lays165,Tryz.lays169,Tryz.laysC172,Tryz.lays138 with
 f99:=Tryz.lfn Tryz.func225
 f105:=Tryz.lfn Tryz.func168
 f166:=Tryz.lfn Tryz.func23
 f170:=Tryz.lfn Tryz.func25
 f206:=Tryz.lfn Tryz.func261
 f212:=Tryz.lfn Tryz.func224
 f263:=Tryz.lfn Tryz.func274
 f264:=Tryz.lfn Tryz.func275
 t109:=Tryz.underlying253
 a109:=Tryz.isAgg253
 z109:=Tryz.sizeOf253
 v109:=Tryz.zeroValue253
 t148:=Tryz.underlying294
 a148:=Tryz.isAgg294
 z148:=Tryz.sizeOf294
 v148:=Tryz.zeroValue294 }
abbrev Tryz.lays155_ren:Go.Shelf.Ren:=Tryz.uniR
def Tryz.lays155:Go.Proofs.Lays.n155 Tryz.prog Tryz.lays155_ren:={ Tryz.laysM171,Tryz.lays138,Tryz.lays165,Tryz.lays105,Tryz.lays169,Tryz.lays197,Tryz.laysC172,Tryz.lays196 with
 f154:=Tryz.lfn Tryz.func146
 f155:=Tryz.lfn Tryz.func88 }
abbrev Tryz.lays156_ren:Go.Shelf.Ren:=Tryz.uniR
def Tryz.lays156:Go.Proofs.Lays.n156 Tryz.prog Tryz.lays156_ren:={ Tryz.laysM171,Tryz.lays165,Tryz.lays105,Tryz.lays169,Tryz.laysC172 with
 f156:=Tryz.lfn Tryz.func113
 t31:=Tryz.underlying61
 a31:=Tryz.isAgg61
 z31:=Tryz.sizeOf61
 v31:=Tryz.zeroValue61 }
abbrev Tryz.lays219_ren:Go.Shelf.Ren:=Tryz.uniR
def Tryz.lays219:Go.Proofs.Lays.n219 Tryz.prog Tryz.lays219_ren:={ Tryz.laysM171,Tryz.lays138 with }
end Go.Proofs
namespace Go.Sym
open Go.RowKit
variable[LC]
def cz.data{P:Program}{f:FuncId}{xs:List AV}{r:AV}
  (h:∀(w:World)(G:Gh)(vs:List Value),cm G [] w->ap xs G vs->Calls P f vs.toArray w fun e w'=>∃v,e = .returned v/\ak r G v/\du w w'):cz P f xs [] r []:=by
 intro w G vs a k;refine(h w G vs a k).mono ?_;rintro e w' ⟨v,rfl,d,i⟩
 refine⟨v,G,rfl,?_,d⟩;exact(z6 a).extend (new:=[]) (Gh.le.refl G) i (fun _ _ _ h => .inl h) (fun b o v d=>by
  have g:=a.agree b o v d;have c:=World.block_lt_of_cell? _ _ g;rw[World.cell?_of_block (w:=w) (i.block b c (fun h=>h))];exact g) a.one (fun n bx h=>by cases h) (fun n bx h=>by cases h) (fun n m bx j b h=>by cases h)
def du.of_below{w w':World}(h:Below w.heap.size w w'):du w w':=⟨h.os,h.tape,h.output,h.size,fun k a _=>h.block k a⟩
def du.refl(w:World):du w w:=⟨rfl,rfl,rfl,wF _,fun _ _ _=>rfl⟩
def cz.fresh{P:Program}{f:FuncId}{xs:List AV}{τ:Ty}{l:List τ.den}{E:TypeId}
  (h:∀(w:World)(G:Gh)(vs:List Value),cm G [] w->ap xs G vs->Calls P f vs.toArray w fun e w'=>∃ad c us,e = .returned (.slice ad l.length c)/\ke w' E τ.sz ad l.length c us/\ap (l.flatMap τ.enc) G.data us/\(∀b,ei ad=some b->w.heap.size<=b)/\du w w') :
  cz P f xs [] (.own 0) [(0,.row τ l E)]:=by
 intro w G vs p J;refine(h w G vs p J).mono ?_;rintro e w' ⟨ad,c,us,rfl,q,z,n,j⟩
 let s:Gh:={ imm:=G.imm,box:=fun _=>none,own:=fun m=>bif Nat.beq m 0 then some (ad,l.length,c) else none }
 have a:(s.own 0)=some (ad,l.length,c):=rfl;have u:∀b o v,G.imm b o=some v->w'.cell? ⟨b,o,none⟩=some v:=fun b o v A=>by
  have C:=p.agree b o v A;have g:=World.block_lt_of_cell? _ _ C;rw[World.cell?_of_block (w:=w) (j.block b g (fun h=>h))];exact C
 have g:∀b o v,G.imm b o=some v->b<w.heap.size:=fun b o v A=>World.block_lt_of_cell? _ _ (p.agree b o v A)
 have d:∀m b,af [(0,ai.row τ l E)] m=some b->m=0/\b = .row τ l E:=fun m b i=>by
  simp[af]at i;cases n:Nat.beq 0 m
  ·rw[n]at i;cases i
  ·rw[n]at i;simp at i;exact⟨(qN n).symm,i.symm⟩
 have x:s.at 0 (.row τ l E)=ei ad:=by
  simp[Gh.at,a];cases ad<;>rfl
 refine⟨.slice ad l.length c,s,rfl,⟨⟨u,p.one,fun m b i => ?_,fun m K b F B t r _ _ => ?_,LC.mono (fun _ _ _ h=>h) (fun b o v h=>j.block b (g b o v h) fun h=>h) p.tab⟩,⟨j.os,j.tape,j.output,j.size,fun k H _=>j.block k H fun h=>h⟩,fun _ _ _ h=>h,fun _ _ _ h => .inl h,fun m b B t r => ?_,fun _ _ _ h=>(by cases h),fun _ _ _ h=>(by cases h)⟩,ad,l.length,c,a,rfl⟩
 ·obtain⟨rfl,rfl⟩:=d m b i;refine dj.row a q (ap.data_le (fun _ _ _ h=>h) z) fun b y o => ?_
  cases I:G.imm b o with|none=>rfl|some v=>have:=g b o v I;have:=n b y;omega
 ·obtain⟨rfl,_⟩:=d m b t;obtain⟨rfl,_⟩:=d K F r;rfl
 ·obtain⟨rfl,rfl⟩:=d m b t;rw[x]at r;exact .inl (n B r)
end Go.Sym
namespace Go.Sym
open Go.Proofs Go.RowKit Go.Sort
open Go.Proofs.Tryz
variable[LC]
def du.below{w w':World}(h:du w w'):Below w.heap.size w w':=⟨h.os,h.tape,h.output,h.size,fun k a=>h.block k a (fun h=>h)⟩
def qqh{G:Gh}{w:World}(b:cm G [] w)(f:LC.glob 3=some ⟨.int .u64,Lib.pow10Tab⟩)(h:(3,20)∈LC.sizes):∃t fr,w.heap[3]? = some (.cells (Lib.pow10Tab.map fun z=>Value.int .u64 z).toArray t fr):=by
 obtain⟨_,k,t,fr,c,i⟩:=b.tab.2.2.2 _ h;refine⟨t,fr,c.trans ?_⟩;congr 2;apply Array.ext
 ·rw[i];simp[Lib.pow10Tab]
 ·intro j d e;have g:j<Lib.pow10Tab.length:=by simpa using e
  have a:=b.agree _ _ _ (b.tab.1 _ _ _ f j _ (List.getElem?_eq_getElem g));rw[show j*(Ty.int .u64).sz=j from Nat.mul_one j]at a
  simp only[World.cell?,c]at a;rw[Array.getElem?_eq_getElem d]at a;simp only[List.getElem_toArray,List.getElem_map];exact qJ a
def qns{G:Gh}{w:World}(h:cm G [] w)(d:LC.glob 3=some ⟨.int .u64,Lib.pow10Tab⟩)(i:(3,20)∈LC.sizes)(n:Int)(a : -9223372036854775808<=n)(b:n<=9223372036854775807) :
  Calls Tryz.prog 56 #[.int .i64 n] w fun e w'=>e = .returned (.string ⟨(Lib.itoa n).toArray⟩)/\du w w':=
 (Any.strconv_Itoa Tryz.laysM171 n a b w (by
  unfold Lib.TabIs World.var?;obtain⟨t,o,f⟩:=qqh h d i;rw[show Tryz.prog.globalNamed _=some 3 by kernel_rfl,qB,f])).mono fun e w'⟨c,k,m,l⟩=>⟨c,by
   subst l;refine⟨rfl,rfl,rfl,by simp[grow],fun j g _ => ?_⟩
   show(w.heap++m)[j]? = _;rw[Array.getElem?_append_left g]⟩
def oJ:IF:=⟨.fn 56,[.h (.int .i64)],[],_,RS.mk (.h .str) []⟩
def Ao(f:LC.glob 3=some ⟨.int .u64,Lib.pow10Tab⟩)(j:(3,20)∈LC.sizes):(oJ.e je).Sound Tryz.prog:=fun d m r h=>by
 have h:je d.1=some r:=h;unfold je at h;cases a:decide (-9223372036854775808<=(show Int from d.1)/\(show Int from d.1)<=9223372036854775807)<;>rw[a]at h<;>simp only[qT,qF,reduceCtorEq]at h
 have h:=qJ h;subst h;have a:=of_decide_eq_true a;refine⟨call56,cz.data fun w G l g i => ?_⟩
 match l,i with
 |[v],⟨b,_⟩=>
  have b:v = .int .i64 d.1:=b;subst b;exact(qns g f j _ a.1 a.2).mono fun e n⟨c,k⟩=>⟨_,c,rfl,k⟩
end Go.Sym
namespace Go.Sym
open Go.Proofs Go.RowKit Go.Sort
variable[LC]
def du.trans{w b c:World}(h:du w b)(k:du b c):du w c:=
 ⟨k.os.trans h.os,k.tape.trans h.tape,k.output.trans h.output,Nat.le_trans h.size k.size,fun j a _=>(k.block j (Nat.lt_of_lt_of_le a h.size) (fun h=>h)).trans (h.block j a (fun h=>h))⟩
end Go.Sym
set_option linter.unusedVariables false
namespace Go.Proofs.ToValid
open Go.Shelf Go.RowKit Go.Lib Go.Sym
def bx:Builder.Extra Tryz.prog Tryz.uniR:={
 sizeBuilder:=Tc
 liesBuilder:=Tc
 t5:=Tryz.laysM171.t5
 a5:=Tryz.laysM171.a5
 z5:=Tryz.laysM171.z5
 v5:=Tryz.laysM171.v5
 infoByte:=Tc
 cellsByte:=Tc
 sizeByte:=Tc
 neB5:=by decide }
def decC(s:ByteArray)(w:World)(a:Lib.Utf8Tabs 0 1 w) :
  Calls Tryz.prog 207 #[.string s] w fun e w'=>e = .returned (.tuple #[.int .i32 (Lib.decodeGo s).1,.int .i64 (Lib.decodeGo s).2])/\Below w.heap.size w w':=
 Any.utf8_DecodeRuneInString Tryz.lays197 s w a
end Go.Proofs.ToValid
namespace Go.Sym
open Go.Proofs Go.RowKit
open Go.Proofs.Tryz
variable[LC]
def nG(t:List UInt8):Bool:=(List.range 256).all fun c=>match t[c]? with|some x=>Nat.beq x.toNat (Lib.firstT c)|none=>false
def nH(t:List TZ):Bool:=(List.range 16).all fun c=>match t[c]? with|some x=>Nat.beq x.1.toNat (Lib.accLo c)&&Nat.beq x.2.toNat (Lib.accHi c)|none=>false
def qc4{G:Gh}{w:World}(d:cm G [] w){e:List UInt8}{f:List TZ}(k:LC.glob 0=some ⟨.byte,e⟩)(l:LC.glob 1=some ⟨.prod .byte .byte,f⟩)(g:nG e=true)(j:nH f=true):Lib.Utf8Tabs 0 1 w:=by
 refine⟨fun c m => ?_,fun i n => ?_⟩
 ·have h:=List.all_eq_true.1 g c (List.mem_range.2 m)
  cases a:e[c]? with
  |none=>rw[a]at h;cases h
  |some x=>
   rw[a]at h;have b:G.imm 0 (c*1)=some (.int .u8 x.toNat):=d.tab.1 _ _ _ k c x a;rw[Nat.mul_one]at b;rw[d.agree _ _ _ b,qN h]
 ·have h:=List.all_eq_true.1 j i (List.mem_range.2 n)
  cases a:f[i]? with
  |none=>rw[a]at h;cases h
  |some x=>
   rw[a]at h;simp only[qA]at h;have b:G.imm 1 (i*2)=some (.int .u8 x.1.toNat)/\G.imm 1 (i*2+1)=some (.int .u8 x.2.toNat):=d.tab.1 _ _ _ l i x a;rw[Nat.mul_comm]at b;exact⟨by rw[d.agree _ _ _ b.1,qN h.1],by rw[d.agree _ _ _ b.2,qN h.2]⟩
def qun{G:Gh}{w:World}(i:cm G [] w){a:List UInt8}{b:List TZ}(g:LC.glob 0=some ⟨.byte,a⟩)(h:LC.glob 1=some ⟨.prod .byte .byte,b⟩)(d:nG a=true)(f:nH b=true)(s:Bs)(c:s.length<=9223372036854775807) :
  Calls Tryz.prog 70 #[.string ⟨s.toArray⟩] w fun e w'=>e = .returned (.bool (Lib.validD s))/\du w w':=by
 refine(Any.utf8_ValidString Tryz.lays196 ⟨s.toArray⟩ w (by rw[nd];exact c) (qc4 i g h d f)).mono ?_
 rintro e w' ⟨rfl,j⟩
 exact⟨rfl,du.of_below j⟩
def MA:IF:=⟨.fn 70,[.h .str],[],_,RS.mk (.h .bool) []⟩
def qc6{c:List UInt8}{f:List TZ}(k:LC.glob 0=some ⟨.byte,c⟩)(l:LC.glob 1=some ⟨.prod .byte .byte,f⟩)(i:nG c=true)(j:nH f=true):(MA.e ww).Sound Tryz.prog:=fun d t r h=>by
 obtain⟨s,_⟩:=d;have h:ww s=some r:=h;unfold ww at h;cases b:decide (List.length (α:=UInt8) s<=9223372036854775807)<;>rw[b]at h<;>simp only[qT,qF,reduceCtorEq]at h
 have h:=qJ h;subst h;have g:=of_decide_eq_true b;refine⟨call70,cz.data fun w G q n o => ?_⟩
 match q,o with
 |[u],⟨a,_⟩=>
  have a:u = .string ⟨s.toArray⟩:=a;subst a;exact(qun n k l i j s g).mono fun e v⟨m,p⟩=>⟨_,m,rfl,p⟩
end Go.Sym
namespace Go.Sym
open Go.RowKit
variable[LC]
section
variable{P:Program}{q7z:World}{q7t:Gh}{q7w:List (Nat×ai)}{G:Gh}{s:St}{a:Act}{w:World}
def am.start{G:Gh}{hp:List (Nat×ai)}{w:World}{N:NM}(e:cm G hp w)(h:∀n b,af hp n=some b->bh N n=some n/\fb (bh N) b=b)(c:∀n,af hp n=none->bj N n=none)(k:Nat) :
  am w (G.view N) hp (G.view N) { n:=k,fr:=[],hp:=hp,nx:=64,df:=[] } { tmps:=Array.replicate k undef,defers:=[] } w:=by
 refine⟨⟨[],rfl,rfl⟩,Td,fun i x f=>(by cases f),fun m _ d => ?_,z6 (e.only h)⟩
 have:=c m d;simp[Gh.view,this]
end
end Go.Sym
set_option linter.unusedVariables false
namespace Go.Proofs.Repl
open Go.Shelf Go.RowKit Go.Lib Go.Sym
def rv(a b:UInt8)(f g d e:Nat)(c:UInt8):Value:=if c=a then .slice (some ⟨f,0,none⟩) 2 d else if c=b then .slice (some ⟨g,0,none⟩) 2 e else .slice none 0 0
structure ou(R:Nat)(a b a1 a2 b1 b2:UInt8)(w:World):Prop where
 ex:∃ga gb gt ca cb ct,(∀c:UInt8,w.cell? ⟨R,c.toNat,none⟩=some (rv a b ga gb ca cb c))/\w.cell? ⟨R,256,none⟩=some (.slice (some ⟨gt,0,none⟩) 2 ct) /\
  w.cell? ⟨gt,0,none⟩=some (.string ⟨#[b]⟩)/\w.cell? ⟨gt,1,none⟩=some (.string ⟨#[a]⟩) /\
  w.cell? ⟨ga,0,none⟩=some (.int .u8 a1.toNat)/\w.cell? ⟨ga,1,none⟩=some (.int .u8 a2.toNat)/\w.cell? ⟨gb,0,none⟩=some (.int .u8 b1.toNat)/\w.cell? ⟨gb,1,none⟩=some (.int .u8 b2.toNat)
def ou.below{R:Nat}{a b d e f g:UInt8}{w w':World}(h:ou R a b d e f g w)(A:Below w.heap.size w w'):ou R a b d e f g w':=by
 have k:∀{p:Addr}{v:Value},w.cell? p=some v->w'.cell? p=some v:=fun{p v} hc=>(A.cell (World.block_lt_of_cell? _ _ hc)).trans hc
 obtain⟨m,n,o,i,j,l,q,r,s,t,u,x,y,z⟩:=h.ex;exact⟨m,n,o,i,j,l,fun c=>k (q c),k r,k s,k t,k u,k x,k y,k z⟩
def Qr(s:ByteArray)(c:UInt8)(w:World) :
  Calls Tryz.prog 206 #[.string s,.string ⟨#[c]⟩] w fun e w'=>e = .returned (.int .i64 (Lib.countByte s.data.toList c))/\w'=w:=
 Any.strings_Count_one Tryz.lays138 s c w
def qrq{w:World}{g:Nat}{t:TypeId}{N:Nat}{f:Nat->Value}{a:Array Value}(m:w.heap[g]? = some (.cells a t (0,0)))(n:a.size=N)(d:∀i,i<N->a[i]? = some (f i)){j:Nat}(o:j+2<=N)(h k:Value) :
  (w.setRow g (a.toList.take j++[h,k]++a.toList.drop (j+2)).toArray).rowIs g t N (fun i=>if i=j then h else if i=j+1 then k else f i):=by
 have p:a.toList.length=N:=by simpa using n
 refine⟨_,setRow_heap w g a _ t _ m,Te,fun i e => ?_⟩
 simp only[List.getElem?_toArray];rw[qS];by_cases l:i<j
 ·rw[List.getElem?_append_left Te,List.getElem?_take,qX l,qW Ta,qW Ta,← d i e];simp
 ·rw[List.getElem?_append_right Te,show(a.toList.take j).length=j by simp;omega]
  by_cases b:i=j
  ·subst b;simp
  ·by_cases c:i=j+1
   ·subst c;rw[qW b,qX rfl,show j+1-j=1 by omega];rfl
   ·rw[qW b,qW c,List.getElem?_append_right Te,List.getElem?_drop,← d i e]
    simp;congr 1;omega
def J4(b o n:Nat):(⟨b,o,none⟩:Addr).add n=⟨b,o+n,none⟩:=by unfold Addr.add;split<;>simp_all
def Qp{w:World}{G g j M c:Nat}{f:Nat->Value}{x1 x2:UInt8}(e:w.rowIs G 5 M f)(m:j+2<=M)(k:w.cell? ⟨g,0,none⟩=some (.int .u8 x1.toNat))(l:w.cell? ⟨g,1,none⟩=some (.int .u8 x2.toNat)) :
  ∃b,(Builtin.copy_ #[58,58] 3 #[.slice (some ⟨G,j,none⟩) (M-j) (M-j),.slice (some ⟨g,0,none⟩) 2 c]).run Tryz.prog w = .ok (.int .i64 2) (w.setRow G b) /\
   (w.setRow G b).rowIs G 5 M (fun i=>if i=j then .int .u8 x1.toNat else if i=j+1 then .int .u8 x2.toNat else f i):=by
 obtain⟨d,h,n,o⟩:=e;refine⟨_,?_,qrq h n o m _ _⟩;exact run_copy_row (P:=Tryz.prog) w 58 58 3 5 G j (M-j) (M-j) ⟨g,0,none⟩ 2 c d 5 [.int .u8 x1.toNat,.int .u8 x2.toNat] Tryz.underlying58 Tc h
  (by show 2=Nat.min 2 (M-j);exact(Nat.min_eq_left Ta).symm)
  (fun i v a=>by
   rw[J4]
   match i,a with
   |0,a=>cases a;exact k
   |1,a=>cases a;exact l
   | i+2,a=>cases a)
  (by show j+2<=d.size;omega) (fun v a=>by
   rcases List.mem_cons.1 a with rfl|a
   ·rfl
   ·rcases List.mem_cons.1 a with rfl|a
    ·rfl
    ·cases a)
def bv(l:Bs)(j:Nat):Value := .int .u8 (l.getD j 0).toNat
def PX(l m:Bs)(j:Nat)(h:j<l.length):bv (l++m) j=bv l j:=by unfold bv;rw[List.getD_eq_getElem?_getD,List.getD_eq_getElem?_getD,List.getElem?_append_left h]
def PW(l m:Bs)(c:UInt8):bv (l++c::m) l.length = .int .u8 c.toNat:=by unfold bv;rw[List.getD_eq_getElem?_getD,List.getElem?_append_right (wF _),Nat.sub_self];rfl
def qjp(l m:Bs)(c d:UInt8):bv (l++c::d::m) (l.length+1) = .int .u8 d.toNat:=by unfold bv;rw[List.getD_eq_getElem?_getD,List.getElem?_append_right Ta,show l.length+1-l.length=1 by omega];rfl
def zE(l:Bs)(j:Nat)(h:l.length<=j:=by omega):bv l j = .int .u8 0:=by unfold bv;rw[List.getD_eq_getElem?_getD,List.getElem?_eq_none h];rfl
def PY(l:Bs)(c d:UInt8)(i:Nat):(if i=l.length then Value.int .u8 c.toNat else if i=l.length+1 then .int .u8 d.toNat else bv l i)=bv (l++[c,d]) i:=by
 by_cases h:i<l.length
 ·rw[qW Ta,qW Ta,PX _ _ _ h]
 ·by_cases a:i=l.length
  ·subst a;rw[qX rfl,PW]
  ·by_cases b:i=l.length+1
   ·subst b;rw[qW a,qX rfl,qjp]
   ·rw[qW a,qW b,zE _ _,zE _ _ Te]
def qjq(l:Bs)(c:UInt8)(i:Nat):(if i=l.length then Value.int .u8 c.toNat else bv l i)=bv (l++[c]) i:=by
 by_cases h:i<l.length
 ·rw[qW Ta,PX _ _ _ h]
 ·by_cases a:i=l.length
  ·subst a;rw[qX rfl,PW]
  ·rw[qW a,zE _ _,zE _ _ Te]
def F9(p:Nat):Value.int .i64 ((p:Int)+2) = .int .i64 ((p+2:Nat):Int):=by rw[Int.natCast_add];rfl
def F8(p:Nat):Value.int .i64 ((p:Int)+1) = .int .i64 ((p+1:Nat):Int):=by rw[Int.natCast_add];rfl
def qdk(n:Nat)(h:n<=4000000:=by omega):wrap64 (n:Int)=(n:Int):=by unfold wrap64;omega
def qo2(p:Addr)(n c:Nat)(w:World):(binOp .neq 58 (.slice (some p) n c) (.slice none 0 0)).run Tryz.prog w = .ok (.bool true) w:=Tc
def qo1(w:World):(binOp .neq 58 (.slice none 0 0) (.slice none 0 0)).run Tryz.prog w = .ok (.bool false) w:=Tc
def ql4(p:Addr)(n c:Nat)(w:World):(binOp .eql 58 (.slice (some p) n c) (.slice none 0 0)).run Tryz.prog w = .ok (.bool false) w:=Tc
def ql3(w:World):(binOp .eql 58 (.slice none 0 0) (.slice none 0 0)).run Tryz.prog w = .ok (.bool true) w:=Tc
set_option maxHeartbeats 4000000 in
set_option maxRecDepth 1000000 in
def qjm(R:Nat)(a b q r t u:UInt8)(s:ByteArray)(w:World)(I:a≠b)(hs:s.size<=1000000)(hB:ou R a b q r t u w) :
  Calls Tryz.prog 396 #[.pointer (some ⟨R,0,none⟩),.string s] w fun e w'=>e = .returned (.string ⟨(fk a b [q,r] [t,u] s.data.toList).toArray⟩)/\Below w.heap.size w w':=by
 obtain⟨ga,gb,gt,ca,cb,ct,-,hT,a0,a3,-⟩:=hB.ex;obtain⟨L,hL⟩:∃L,s.data.toList=L:=⟨_,rfl⟩;have U:L.length=s.size:=by rw[← hL];exact(Lib.size_eq s).symm
 rw[hL];have HB:Aside (ou R a b q r t u w):=hB;clear hB;have O:=fun w=>Qr s b w
 have N:=fun w=>Qr s a w
 rw[hL]at O N;obtain⟨Z,hZ⟩:∃Z,iy a b L=Z:=⟨_,rfl⟩;have HZ:Aside (iy a b L=Z):=hZ;have cx:Z<=2000000:=by
  rw[← hZ];unfold iy;have o:=List.count_le_length (a:=a) (l:=L);have v:=List.count_le_length (a:=b) (l:=L);omega
 clear hZ;obtain⟨M,hM⟩:∃M,s.size+Z=M:=⟨_,rfl⟩;have HM:Aside (s.size+Z=M):=hM;have cp:M<=3000000:=Ta
 clear hM;have c7:=qo2;have c8:=qo1
 go_enter Tryz.func396,Tryz.ntmps396
 go_upto_if 26 with(fail)
 go_cut [5,6] (fun s5 s6 wx=>s5 = .int .i64 (M:Nat)/\s6 = .bool (decide (0<Z))/\Below w.heap.size w wx)
 case first=>
  obtain⟨X,hX⟩:∃X,L.count b=X:=⟨_,rfl⟩;obtain⟨Y,hY⟩:∃Y,L.count a=Y:=⟨_,rfl⟩;have a4:Aside (Z=Y+X):=by show Z=Y+X;rw[← HZ.out];unfold iy;rw[hX,hY]
  have cs:X<=s.size:=by rw[← hX,← U];exact List.count_le_length
  have cv:Y<=s.size:=by rw[← hY,← U];exact List.count_le_length
  have O:∀w,Calls Tryz.prog 206 #[.string s,.string ⟨#[b]⟩] w fun e w'=>e = .returned (.int .i64 (X:Nat))/\w'=w:=fun w=>by rw[← hX];exact O w
  have N:∀w,Calls Tryz.prog 206 #[.string s,.string ⟨#[a]⟩] w fun e w'=>e = .returned (.int .i64 (Y:Nat))/\w'=w:=fun w=>by rw[← hY];exact N w
  clear hX hY
  go_wp2
  ·rename_i ah;clear ah
   go_loopg [5,6,32] 2 (fun gk s5 s6 s32 wx=>Below w.heap.size w wx/\((s32 = .int .i64 0/\s5 = .int .i64 (s.size:Nat)/\s6 = .bool false/\gk=2)\/(s32 = .int .i64 1/\s5 = .int .i64 ((s.size+X:Nat):Int)/\s6 = .bool (decide (0<X))/\gk=1)\/(s32 = .int .i64 2/\s5 = .int .i64 ((s.size+(Y+X):Nat):Int)/\s6 = .bool (decide (0<Y+X))/\gk=0)))
   case atStart=>exact⟨Below.refl _ _,Or.inl ⟨rfl,rfl,rfl,rfl⟩⟩
   case round=>
    obtain⟨f,h⟩:=hrel;have W:wr.cell? ⟨gt,0,none⟩=some (.string ⟨#[b]⟩):=(f.cell (World.block_lt_of_cell? _ _ a0)).trans a0;have aa:wr.cell? ⟨gt,1,none⟩=some (.string ⟨#[a]⟩):=(f.cell (World.block_lt_of_cell? _ _ a3)).trans a3;clear a0 a3;rcases h with⟨rfl,rfl,rfl,rfl⟩|⟨rfl,rfl,rfl,rfl⟩|⟨rfl,rfl,rfl,rfl⟩
    ·have cX:=O wr;by_cases T:X=0
     ·subst T
      go_wp2_with (go_at_call 206;go_must (refine cX.mono ?_;rintro e W1 ⟨rfl,rfl⟩))
      go_roundg 1
      case measure=>omega
      case rel=>exact⟨f,Or.inr (Or.inl ⟨rfl,rfl,rfl,rfl⟩)⟩
     ·have hz:¬((X:Int)=0):=Ta
      obtain⟨Q,S,ad,A,B,ab,H,-⟩:=(HB.out.below f).ex;have bk:wr.cell? ⟨R,b.toNat,none⟩=some (.slice (some ⟨S,0,none⟩) 2 B):=by rw[H b];unfold rv;rw[qW (fun h=>I h.symm),qX rfl]
      clear H;have g0:∀h,(⟨#[b]⟩:ByteArray)[0]'h=b:=fun _=>rfl
      have g1:(b.toNat:Int)<256:=by have:=b.toNat_lt;omega
      go_wp2_with (go_at_call 206;go_must (refine cX.mono ?_;rintro e W1 ⟨rfl,rfl⟩))
      go_region
      all_goals go_wp2
      go_roundg 1
      case measure=>omega
      case rel=>exact⟨f.drew,Or.inr (Or.inl ⟨rfl,congrArg _ Ta,by rw[decide_eq_true (Nat.pos_of_ne_zero T)],rfl⟩)⟩
    ·have cX:=N wr;by_cases T:Y=0
     ·subst T
      go_wp2_with (go_at_call 206;go_must (refine cX.mono ?_;rintro e W1 ⟨rfl,rfl⟩))
      go_roundg 0
      case measure=>omega
      case rel=>exact⟨f,Or.inr (Or.inr ⟨rfl,congrArg _ Ta,by rw[wO],rfl⟩)⟩
     ·have hz:¬((Y:Int)=0):=Ta
      obtain⟨Q,S,ad,A,B,ab,H,-⟩:=(HB.out.below f).ex;have bk:wr.cell? ⟨R,a.toNat,none⟩=some (.slice (some ⟨Q,0,none⟩) 2 A):=by rw[H a];unfold rv;rw[qX rfl]
      clear H;have g0:∀h,(⟨#[a]⟩:ByteArray)[0]'h=a:=fun _=>rfl
      have g1:(a.toNat:Int)<256:=by have:=a.toNat_lt;omega
      go_wp2_with (go_at_call 206;go_must (refine cX.mono ?_;rintro e W1 ⟨rfl,rfl⟩))
      go_region
      all_goals go_wp2
      go_roundg 0
      case measure=>omega
      case rel=>exact⟨f.drew,Or.inr (Or.inr ⟨rfl,congrArg _ Ta,by rw[decide_eq_true (show 0<Y+X by omega)],rfl⟩)⟩
    ·go_wp2
     go_meet
     case rel=>exact⟨by rw[← HM.out,a4.out],by rw[a4.out],f⟩
  ·rename_i ah;clear ah
   go_loopg [5,6,10] s.size (fun gk s5 s6 s10 wx=>wx=w/\∃k C:Nat,s10 = .int .i64 k/\s5 = .int .i64 ((s.size+C:Nat):Int)/\s6 = .bool (decide (0<C))/\k<=s.size/\s.size<=k+gk/\Aside (iy a b (L.take k)=C)/\C<=2000000)
   case atStart=>exact⟨rfl,0,0,rfl,rfl,rfl,Nat.zero_le _,Ta,rfl,Ta⟩
   case round=>
    obtain⟨rfl,k,C,rfl,rfl,rfl,hk,a8,HC,hC⟩:=hrel;by_cases x:k<s.size
    ·obtain⟨g,rfl⟩:∃g,gk=g+1:=⟨gk-1,Ta⟩
     obtain⟨c,hc⟩:∃c,s[k]'x=c:=⟨_,rfl⟩;have d:Aside (iy a b (L.take (k+1))=C+(if c=a then 1 else if c=b then 1 else 0)):=by
      have o:k<L.length:=by rw[U];exact x
      have v:L[k]'o=c:=by subst hL;exact hc
      show _=_;rw[qch L k o,Kc,HC.out,Kd I,v]
     have a5:Aside (iy a b (L.take (k+1))<=2000000):=by
      show _<=_;unfold iy;have o:=List.count_le_length (a:=a) (l:=L.take (k+1));have v:=List.count_le_length (a:=b) (l:=L.take (k+1));rw[List.length_take]at o v;omega
     obtain⟨Q,S,ad,A,B,ab,H,-⟩:=HB.out.ex;have n:=H c;unfold rv at n;clear H;have g1:(c.toNat:Int)<256:=by have:=c.toNat_lt;omega
     by_cases o:c=a
     ·rw[qX o]at n;rw[qX o]at d;clear o
      go_wp2
      go_roundg g
      case measure=>omega
      case rel=>exact⟨rfl,k+1,C+1,congrArg _ Ta,congrArg _ Ta,by rw[decide_eq_true (Nat.succ_pos C)],Ta,Ta,d,by have:=a5.out;rw[d.out]at this;exact this⟩
     ·rw[qW o]at n;rw[qW o]at d;by_cases v:c=b
      ·rw[qX v]at n;rw[qX v]at d;clear o v
       go_wp2
       go_roundg g
       case measure=>omega
       case rel=>exact⟨rfl,k+1,C+1,congrArg _ Ta,congrArg _ Ta,by rw[decide_eq_true (Nat.succ_pos C)],Ta,Ta,d,by have:=a5.out;rw[d.out]at this;exact this⟩
      ·rw[qW v]at n;rw[qW v]at d;clear o v
       go_wp2
       go_roundg g
       case measure=>omega
       case rel=>exact⟨rfl,k+1,C,congrArg _ Ta,congrArg _ Ta,rfl,Ta,Ta,d,hC⟩
    ·obtain rfl:k=s.size:=Ta
     have bb:C=Z:=by rw[← HC.out,← U,List.take_length,HZ.out]
     subst bb
     go_wp2
     go_meet
     case rel=>exact⟨by rw[HM.out],rfl,Below.refl _ _⟩
 case rest=>
  obtain⟨rfl,ba,f⟩:=hcut;cases T:decide (0<Z)<;>rw[T]at ba<;>subst ba
  ·have cl:=of_decide_eq_false T;have a9:=QO I [q,r] [t,u] L (by rw[HZ.out];omega)
   clear T cl;have HI:Aside (fk a b [q,r] [t,u] L=L):=a9;clear a9
   go_wp2
   go_ret
   exact⟨by rw[HI.out,← hL];rfl,f⟩
  ·clear T;have c6:∀w:World,(Instr.makeSlice 58 (.int .i64 (M:Int)) (.int .i64 (M:Int))).run Tryz.prog w = .ok (.slice (some ⟨w.heap.size,0,none⟩) M M) (w.alloc (.cells (madeCells #[.int .u8 0] M) 5)):=fun w=>
    run_make_row' (P:=Tryz.prog) 58 5 (.int .u8 0) 1 Tryz.underlying58 Tc rfl .i64 .i64 M Ta Ta w
   go_wp2
   obtain⟨G,hG⟩:∃G,wc.heap.size=G:=⟨_,rfl⟩;have z:=World.rowIs_made wc (.int .u8 0) M 5;have F:w.heap.size<=G:=by rw[← hG];exact f.size
   have V:=f.alloc f.size (Obj.cells (madeCells #[.int .u8 0] M) 5);rw[hG]at z ⊢;have bd:Aside (∀k,(fk a b [q,r] [t,u] (L.take k)).length<=M):=fun k=>by
    have o:fk a b [q,r] [t,u] L=fk a b [q,r] [t,u] (L.take k)++fk a b [q,r] [t,u] (L.drop k):=by rw[← zT,List.take_append_drop]
    have v:=congrArg List.length o;rw[hK I,U,HZ.out,HM.out,qM]at v;omega
   go_loopg [13,14] s.size (fun gk s13 s14 wx=>∃k j:Nat,s13 = .int .i64 j/\s14 = .int .i64 k/\k<=s.size/\s.size<=k+gk/\j<=M/\Aside ((fk a b [q,r] [t,u] (L.take k)).length=j)/\Aside (wx.rowIs G 5 M (bv (fk a b [q,r] [t,u] (L.take k))))/\Below w.heap.size w wx)
   case atStart=>exact⟨0,0,rfl,rfl,Nat.zero_le _,Ta,Nat.zero_le _,rfl,z.congr (fun i _=>(zE [] i (Nat.zero_le _)).symm),V⟩
   case round=>
    obtain⟨k,j,rfl,rfl,hk,a8,c5,HJ,p,J⟩:=hrel;clear z V;by_cases x:k<s.size
    ·obtain⟨g,rfl⟩:∃g,gk=g+1:=⟨gk-1,Ta⟩
     have HG:Aside (s.size<=k+1+g):=by show _<=_;omega
     clear a8 hk;obtain⟨c,hc⟩:∃c,s[k]'x=c:=⟨_,rfl⟩;have av:k<L.length:=by rw[U];exact x
     have a7:L[k]'av=c:=by subst hL;exact hc
     have d:Aside (fk a b [q,r] [t,u] (L.take (k+1))=fk a b [q,r] [t,u] (L.take k)++nz a b [q,r] [t,u] c):=by
      show _=_;rw[qch L k av,zT,a7];show _++(nz a b [q,r] [t,u] c++[])=_;rw[List.append_nil]
     have m:Aside (j+(nz a b [q,r] [t,u] c).length<=M):=by
      have:=bd.out (k+1);rw[d.out,qM,HJ.out]at this;exact this
     clear a7 av;obtain⟨Q,S,ad,A,B,ab,H,br,W,aa,bs,b3,b4,b5⟩:=(HB.out.below J).ex;have n:=H c;unfold rv at n;clear H br W aa;have g1:(c.toNat:Int)<256:=by have:=c.toNat_lt;omega
     unfold nz at d m;by_cases o:c=a
     ·rw[qX o]at n d m;have K:j+2<=M:=m.out;clear o;have be:¬M=j:=Ta
      obtain⟨ROW,cc,y⟩:=Qp (w:=wr.drew) (c:=A) p.out.drew K (by rw[World.cell?_drew];exact bs) (by rw[World.cell?_drew];exact b3)
      have HN:Aside (_):=y;have HW:Aside (wrap64 ((j:Int)+2)=(j:Int)+2):=by have:=qdk (j+2);rw[Int.natCast_add]at this;exact this
      clear y
      go_wp2
      go_region
      all_goals go_wp2
      go_roundg g
      case measure=>exact Nat.lt_succ_self _
      case rel=>exact⟨k+1,j+2,by first|exact F9 j|exact(congrArg (Value.int .i64) HW.out).trans (F9 j),F8 k,x,HG.out,K,by show _=_;rw[d.out,qM,HJ.out];rfl,World.rowIs.congr HN.out (fun i _=>by rw[d.out,← PY,HJ.out]),below_setRow J.drew F _⟩
     ·rw[qW o]at n d m;by_cases v:c=b
      ·rw[qX v]at n d m;have K:j+2<=M:=m.out;clear o v;have be:¬M=j:=Ta
       obtain⟨ROW,cc,y⟩:=Qp (w:=wr.drew) (c:=B) p.out.drew K (by rw[World.cell?_drew];exact b4) (by rw[World.cell?_drew];exact b5)
       have HN:Aside (_):=y;have HW:Aside (wrap64 ((j:Int)+2)=(j:Int)+2):=by have:=qdk (j+2);rw[Int.natCast_add]at this;exact this
       clear y
       go_wp2
       go_region
       all_goals go_wp2
       go_roundg g
       case measure=>exact Nat.lt_succ_self _
       case rel=>exact⟨k+1,j+2,by first|exact F9 j|exact(congrArg (Value.int .i64) HW.out).trans (F9 j),F8 k,x,HG.out,K,by show _=_;rw[d.out,qM,HJ.out];rfl,World.rowIs.congr HN.out (fun i _=>by rw[d.out,← PY,HJ.out]),below_setRow J.drew F _⟩
      ·rw[qW v]at n d m;have ch:j+1<=M:=m.out;clear o v;have b7:wr.cell? ⟨G,j,none⟩=some (bv (fk a b [q,r] [t,u] (L.take k)) j):=p.out.cell Ta
       have cj:wr.frozen? ⟨G,j,none⟩=false:=p.out.frozen j
       go_wp2
       go_roundg g
       case measure=>exact Nat.lt_succ_self _
       case rel=>exact⟨k+1,j+1,F8 j,F8 k,x,HG.out,ch,by show _=_;rw[d.out,qM,HJ.out];rfl,World.rowIs.congr (World.rowIs.set p.out j _) (fun i _=>by rw[d.out,← qjq,HJ.out]),J.setCell F _⟩
    ·obtain rfl:k=s.size:=Ta
     have HT:Aside (L.take s.size=L):=by show _=_;rw[← U,List.take_length]
     have HE:Aside (∃l,l=fk a b [q,r] [t,u] L/\l.length=M):=⟨_,rfl,by rw[hK I,U,HZ.out,HM.out]⟩
     obtain⟨E,hE,a6⟩:=HE.out;have c4:(convert 58 9 (.slice (some ⟨G,0,none⟩) M M)).run Tryz.prog wr = .ok (.string ⟨E.toArray⟩) wr:=by
      have h:=run_convert_bytes_back (P:=Tryz.prog) wr 58 9 5 ⟨G,0,none⟩ M E Tryz.underlying58 Tryz.underlying5 Tryz.underlying9 (fun i hi=>by
       rw[J4,wO,p.out.cell Ta,HT.out,← hE]
       unfold bv;rw[List.getD_eq_getElem?_getD,List.getElem?_eq_getElem hi];rfl)
      rw[a6]at h;exact h
     have HEq:Aside (E=fk a b [q,r] [t,u] L):=hE;clear hE a6
     go_wp2
     go_ret
     exact⟨by rw[← HEq.out];rfl,J⟩
end Go.Proofs.Repl
set_option linter.unusedVariables false
namespace Go.Proofs.Repl
open Go.Shelf Go.RowKit Go.Lib Go.Sym
def qm7:(Tryz.prog.info? 9).map (fun i=>(i.zero,i.size,i.bytes))=some (some (Value.string ⟨#[]⟩),1,16):=Tc
def mk2(w:World):(Instr.makeSlice 61 (.int .i64 0) (.int .i64 2)).run Tryz.prog w = .ok (.slice (some ⟨w.heap.size,0,none⟩) 0 2) (w.alloc (.cells #[.string ⟨#[]⟩,.string ⟨#[]⟩] 9)):=by
 obtain⟨i,c,a⟩:=Option.map_eq_some_iff.1 qm7;simp only[qP]at a;obtain⟨e,d,b⟩:=a;have h:=run_make (P:=Tryz.prog) w 61 9 i (.string ⟨#[]⟩) Tryz.underlying61 c e .i64 .i64 0 2 Tf Tf (by rw[b];decide) Tf
 rw[d,show madeCells (Value.string ⟨#[]⟩).cells (Int.toNat 2*1)=#[.string ⟨#[]⟩,.string ⟨#[]⟩] from Tc]at h
 exact h
def zr(V:Value)(j:Nat):Value:=if j=256 then V else .slice none 0 0
def z1(b:UInt8)(g c:Nat)(V:Value)(j:Nat):Value:=if j=b.toNat then .slice (some ⟨g,0,none⟩) 2 c else zr V j
def q7m:Tryz.zeroCells290.toList.length=257:=Tc
def q7j:Tryz.zeroCells290.toList.all (fun v=>v.oneCell')=true:=Tc
def pm:Option Value->Bool|some (.slice none n c)=>Nat.beq n 0&&Nat.beq c 0|_=>false
def qnd{v:Option Value}(h:pm v=true):v=some (.slice none 0 0):=by
 unfold pm at h;split at h
 ·simp only[qA]at h;rw[qN h.1,qN h.2]
 ·cases h
def q7k:(List.range 257).all (fun j=>pm Tryz.zeroCells290.toList[j]?)=true:=Tc
def qs3(w:World)(T:Nat):∃c,(storeCells ⟨w.heap.size,0,none⟩ (Tryz.zeroCells290.toList.set 256 (.slice (some ⟨T,0,none⟩) 0 2))).run Tryz.prog (w.alloc (.cells Tryz.zeroCells290 290)) = .ok () ((w.alloc (.cells Tryz.zeroCells290 290)).setRow w.heap.size c) /\
  ((w.alloc (.cells Tryz.zeroCells290 290)).setRow w.heap.size c).rowIs w.heap.size 290 257 (zr (.slice (some ⟨T,0,none⟩) 0 2)):=by
 have a:(w.alloc (.cells Tryz.zeroCells290 290)).heap[w.heap.size]? = some (.cells Tryz.zeroCells290 290):=heap_alloc_new w _;have b:=q7m;have h:=run_storeCells_at Tryz.prog w.heap.size 0 290 (Tryz.zeroCells290.toList.set 256 (.slice (some ⟨T,0,none⟩) 0 2)) 0 _ _ a (by rw[List.length_set,b,← Array.length_toList,b];decide) (fun v f=>by
  rcases List.mem_or_eq_of_mem_set f with f|rfl
  ·exact List.all_eq_true.1 q7j v f
  ·rfl)
 refine⟨_,h,?_⟩;refine⟨_,setRow_heap _ _ _ _ _ _ a,?_,fun i g => ?_⟩
 ·simp only[List.size_toArray,qM,List.length_set,List.length_take,List.length_drop,b];decide
 ·rw[List.getElem?_toArray,List.length_set,b,List.drop_eq_nil_of_le (by rw[b];decide),List.append_nil]
  show([]++_)[i]? = _;rw[List.nil_append,List.getElem?_set];unfold zr;by_cases d:256=i
  ·subst d;rw[qX rfl,qX rfl,b];rfl
  ·rw[qW d,qW (fun e=>d e.symm)]
   exact qnd (List.all_eq_true.1 q7k i (List.mem_range.2 g))
def nD(w:World)(x y:UInt8):Obj := .cells (bytesRow ⟨#[x,y]⟩ (grownCap w 2 0 5)) 5 ((bytesRow ⟨#[x,y]⟩ (grownCap w 2 0 5)).size,(bytesRow ⟨#[x,y]⟩ (grownCap w 2 0 5)).size+1)
def mZ(w:World):Nat:=grownCap w 2 0 5
def cv2(w:World)(x y:UInt8):(convert 9 58 (.string ⟨#[x,y]⟩)).run Tryz.prog w = .ok (.slice (some ⟨w.heap.size,0,none⟩) 2 (mZ w)) (w.drew.alloc (nD w x y)):=
 run_bytes_of_string (P:=Tryz.prog) w 9 58 5 ⟨#[x,y]⟩ Tryz.underlying9 Tryz.underlying58 Tryz.underlying5
def qjn(w W:World)(x y:UInt8):(W.alloc (nD w x y)).cell? ⟨W.heap.size,0,none⟩=some (.int .u8 x.toNat)/\(W.alloc (nD w x y)).cell? ⟨W.heap.size,1,none⟩=some (.int .u8 y.toNat):=by
 unfold nD;rw[World.cell?_alloc_mark,World.cell?_alloc_mark];exact⟨bytesRow_at ⟨#[x,y]⟩ _ 0 (by show 0<2;decide),bytesRow_at ⟨#[x,y]⟩ _ 1 (by show 1<2;decide)⟩
def cv1(w:World)(x:UInt8):(convert 58 9 (.slice (some ⟨w.heap.size,0,none⟩) 1 1)).run Tryz.prog (w.alloc (.cells #[.int .u8 x.toNat] 5)) = .ok (.string ⟨#[x]⟩) (w.alloc (.cells #[.int .u8 x.toNat] 5)):=
 run_convert_bytes_back (P:=Tryz.prog) _ 58 9 5 ⟨w.heap.size,0,none⟩ 1 [x] Tryz.underlying58 Tryz.underlying5 Tryz.underlying9 (fun i a=>by
  have:i=0:=by simpa using a
  subst this;rw[J4];show World.cell? _ ⟨w.heap.size,0,none⟩=_;unfold World.cell?;rw[show(w.alloc (.cells #[.int .u8 (x.toNat:Int)] 5)).heap[w.heap.size]? = _ from heap_alloc_new w _]
  rfl)
def w4(wr:World)(T k n:Nat)(c:UInt8):World:=(((wr.alloc (.cells #[.int .u8 c.toNat] 5)).alloc (.cells #[.string ⟨#[c]⟩] 9)).setCell ⟨T,k,none⟩ (.string ⟨#[c]⟩)).setCell ⟨T+1,256,none⟩ (.slice (some ⟨T,0,none⟩) n 2)
def w5(wr:World)(T k n:Nat)(c x y:UInt8):World:=(((w4 wr T k n c).alloc (nD (w4 wr T k n c) x y)).setCell ⟨T+1,c.toNat,none⟩ (.slice (some ⟨wr.heap.size+1+1,0,none⟩) 2 (mZ (w4 wr T k n c)))).drew
def qb4(wr:World)(T k n:Nat)(c x y:UInt8)(s:T+2<=wr.heap.size){f h:Nat->Value}(q:wr.rowIs (T+1) 290 257 f)(l:wr.rowIs T 9 2 h) :
  (w5 wr T k n c x y).rowIs (T+1) 290 257 (fun j=>if j=c.toNat then .slice (some ⟨wr.heap.size+1+1,0,none⟩) 2 (mZ (w4 wr T k n c)) else if j=256 then .slice (some ⟨T,0,none⟩) n 2 else f j)/\(w5 wr T k n c x y).rowIs T 9 2 (fun i=>if i=k then .string ⟨#[c]⟩ else h i) /\
   (w5 wr T k n c x y).cell? ⟨wr.heap.size+1+1,0,none⟩=some (.int .u8 x.toNat)/\(w5 wr T k n c x y).cell? ⟨wr.heap.size+1+1,1,none⟩=some (.int .u8 y.toNat)/\(∀p:Addr,T+2<=p.block->p.block<wr.heap.size->(w5 wr T k n c x y).cell? p=wr.cell? p)/\Below T wr (w5 wr T k n c x y)/\T+2<=(w5 wr T k n c x y).heap.size:=by
 unfold w5;generalize g:nD (w4 wr T k n c) x y=B;generalize (Value.slice (some ⟨wr.heap.size+1+1,0,none⟩) 2 (mZ (w4 wr T k n c)))=V3;have b:=fun W=>qjn (w4 wr T k n c) W x y
 rw[g]at b;unfold w4;clear g;generalize (Obj.cells #[.int .u8 c.toNat] 5)=o1;generalize (Obj.cells #[.string ⟨#[c]⟩] 9)=o2;generalize (Value.string ⟨#[c]⟩)=S;generalize (Value.slice (some ⟨T,0,none⟩) n 2)=V2;have e:((((wr.alloc o1).alloc o2).setCell ⟨T,k,none⟩ S).setCell ⟨T+1,256,none⟩ V2).heap.size=wr.heap.size+1+1:=by simp[World.setCell]
 have d:=b ((((wr.alloc o1).alloc o2).setCell ⟨T,k,none⟩ S).setCell ⟨T+1,256,none⟩ V2);rw[e]at d;refine⟨?_,?_,?_,?_,fun p r o => ?_,?_,?_⟩
 ·exact(((((q.alloc o1).alloc o2).setOther (a:=⟨T,k,none⟩) Td S).set 256 V2).alloc _).set _ V3
 ·exact(((((l.alloc o1).alloc o2).set k S).setOther (a:=⟨T+1,256,none⟩) Td V2).alloc _).setOther (a:=⟨T+1,c.toNat,none⟩) Td V3
 ·rw[World.cell?_drew,World.cell?_setCell_other _ _ _ _ (by intro h;have:=congrArg Addr.block h;simp at this;omega)];exact d.1
 ·rw[World.cell?_drew,World.cell?_setCell_other _ _ _ _ (by intro h;have:=congrArg Addr.block h;simp at this;omega)];exact d.2
 ·refine World.cell?_of_block (w:=wr) ?_;show(World.setCell _ _ _).heap[p.block]? = _;rw[Below.heap_setCell _ _ _ _ Te,Below.heap_alloc _ _ _ (by rw[e];omega),Below.heap_setCell _ _ _ _ Te,Below.heap_setCell _ _ _ _ Te,Below.heap_alloc _ _ _ Te,Below.heap_alloc _ _ _ o]
 ·have m:wr.heap.size+1+1=((((wr.alloc o1).alloc o2).setCell ⟨T,k,none⟩ S).setCell ⟨T+1,256,none⟩ V2).heap.size:=e.symm;exact(((((((Below.refl T wr).alloc Ta o1).alloc Te o2).setCell (p:=⟨T,k,none⟩) (wF _) S).setCell (p:=⟨T+1,256,none⟩) (Nat.le_succ _) V2).alloc Ta _).setCell (p:=⟨T+1,c.toNat,none⟩) (Nat.le_succ _) V3).drew
 ·show _<=(World.setCell _ _ _).heap.size;simp[World.setCell];omega
set_option maxHeartbeats 4000000 in
set_option maxRecDepth 1000000 in
def qjh(q x Z:Nat)(a b E F G H:UInt8)(w:World)(a4:a≠b)
  (hc:w.cell? ⟨q,4,none⟩=some (.slice (some ⟨x,0,none⟩) 4 Z)) (h0:w.cell? ⟨x,0,none⟩=some (.string ⟨#[a]⟩)) (k:w.cell? ⟨x,1,none⟩=some (.string ⟨#[E,F]⟩)) (r:w.cell? ⟨x,2,none⟩=some (.string ⟨#[b]⟩)) (h3:w.cell? ⟨x,3,none⟩=some (.string ⟨#[G,H]⟩)) :
  Calls Tryz.prog 223 #[.pointer (some ⟨q,0,none⟩)] w fun e w'=>∃R,e = .returned (.iface 291 (.pointer (some ⟨R,0,none⟩)))/\ou R a b E F G H w'/\Below w.heap.size w w':=by
 go_enter Tryz.func223,Tryz.ntmps223
 go_wp2
 go_loopg [4,5] 2 (fun gk s4 s5 wx=>wx=w/\((s5 = .int .i64 0/\s4 = .bool true/\gk=2)\/(s5 = .int .i64 2/\s4 = .bool false/\gk=1)\/(s5 = .int .i64 4/\s4 = .bool false/\gk=0)))
 case atStart=>exact⟨rfl,Or.inl ⟨rfl,rfl,rfl⟩⟩
 case round=>
  obtain⟨rfl,⟨rfl,rfl,rfl⟩|⟨rfl,rfl,rfl⟩|⟨rfl,rfl,rfl⟩⟩:=hrel
  ·go_wp2
   go_roundg 1
   case measure=>exact Nat.lt_succ_self _
   case rel=>exact⟨rfl,Or.inr (Or.inl ⟨rfl,rfl,rfl⟩)⟩
  ·go_wp2
   go_roundg 0
   case measure=>exact Nat.lt_succ_self _
   case rel=>exact⟨rfl,Or.inr (Or.inr ⟨rfl,rfl,rfl⟩)⟩
  ·have a5:=mk2;obtain⟨y,v⟩:∃y,wr.alloc (.cells #[.string ⟨#[]⟩,.string ⟨#[]⟩] 9)=y:=⟨_,rfl⟩;have U:y.heap.size=wr.heap.size+1:=by rw[← v];simp
   have K:y.rowIs wr.heap.size 9 2 (fun _ => .string ⟨#[]⟩):=by rw[← v];exact World.rowIs_alloc wr _ _ _ (fun i hi=>by match i,hi with|0,_=>rfl|1,_=>rfl)
   have A:Below wr.heap.size wr y:=by rw[← v];exact(Below.refl _ _).alloc (wF _) _
   obtain⟨ROW,C,s⟩:=qs3 y wr.heap.size;rw[U]at C s;have z:=(K.alloc (.cells Tryz.zeroCells290 290)).of_block (setRow_other (y.alloc (.cells Tryz.zeroCells290 290)) (wr.heap.size+1) wr.heap.size ROW Ta)
   have B:=below_setRow (A.alloc A.size (.cells Tryz.zeroCells290 290)) (Nat.le_succ wr.heap.size) ROW;obtain⟨I,L⟩:∃I,(y.alloc (.cells Tryz.zeroCells290 290)).setRow (wr.heap.size+1) ROW=I:=⟨_,rfl⟩;rw[L]at C s z B;have t:Aside (I.rowIs (wr.heap.size+1) 290 257 (zr (.slice (some ⟨wr.heap.size,0,none⟩) 0 2))/\I.rowIs wr.heap.size 9 2 (fun _ => .string ⟨#[]⟩)/\Below wr.heap.size wr I):=⟨s,z,B⟩
   clear s z B K A L
   go_wp2
   obtain⟨T,hT⟩:∃T,wr.heap.size=T:=⟨_,rfl⟩;rw[hT]at t ⊢;have J:Aside (wr.heap.size=T):=hT;clear C a5 U v hT
   go_loopg [12] 2 (fun gk s12 wx=>Below T wr wx/\T+2<=wx.heap.size/\(
    (s12 = .int .i64 2/\gk=2/\Aside (wx.rowIs (T+1) 290 257 (zr (.slice (some ⟨T,0,none⟩) 0 2))/\wx.rowIs T 9 2 (fun _ => .string ⟨#[]⟩))) \/
    (s12 = .int .i64 0/\gk=1/\∃u cb,T+2<=u/\u<wx.heap.size/\Aside (wx.rowIs (T+1) 290 257 (fun j=>if j=b.toNat then .slice (some ⟨u,0,none⟩) 2 cb else if j=256 then .slice (some ⟨T,0,none⟩) 1 2 else .slice none 0 0)/\wx.rowIs T 9 2 (fun i=>if i=0 then .string ⟨#[b]⟩ else .string ⟨#[]⟩)/\wx.cell? ⟨u,0,none⟩=some (.int .u8 G.toNat)/\wx.cell? ⟨u,1,none⟩=some (.int .u8 H.toNat))) \/
    (s12 = .int .i64 (-2)/\gk=0/\Aside (ou (T+1) a b E F G H wx))))
   case atStart=>exact⟨t.out.2.2,by have:=t.out.1.lt;omega,Or.inl ⟨rfl,rfl,t.out.1,t.out.2.1⟩⟩
   case round=>
    obtain⟨l,S,h⟩:=hrel;have k0:=(l.cell (p:=⟨x,0,none⟩) (by rw[← J.out];exact World.block_lt_of_cell? _ _ h0)).trans h0
    have k1:=(l.cell (p:=⟨x,1,none⟩) (by rw[← J.out];exact World.block_lt_of_cell? _ _ k)).trans k
    have k2:=(l.cell (p:=⟨x,2,none⟩) (by rw[← J.out];exact World.block_lt_of_cell? _ _ r)).trans r
    have k3:=(l.cell (p:=⟨x,3,none⟩) (by rw[← J.out];exact World.block_lt_of_cell? _ _ h3)).trans h3
    clear h0 k r h3 hc t;have e1:=ql4;have e2:=ql3;have e3:=cv1;have e4:=cv2;rcases h with⟨rfl,rfl,g⟩|⟨rfl,rfl,u,cb,M,P,g⟩|⟨rfl,rfl,g⟩
    ·have g0:∀h,(⟨#[b]⟩:ByteArray)[0]'h=b:=fun _=>rfl
     have g1:(b.toNat:Int)<256:=by have:=b.toNat_lt;omega
     have g2:b.toNat<256:=b.toNat_lt;have ad:wr.cell? ⟨T+1,b.toNat,none⟩=some (.slice none 0 0):=by
      rw[g.out.1.cell Ta];unfold zr;rw[qW (by have:=b.toNat_lt;omega)]
     have aa:wr.cell? ⟨T+1,256,none⟩=some (.slice (some ⟨T,0,none⟩) 0 2):=by rw[g.out.1.cell Tf];rfl
     have a0:∀c f,((wr.alloc c).alloc f).cell? ⟨T,0,none⟩=some (.string ⟨#[]⟩):=fun c f=>((g.out.2.alloc c).alloc f).cell Tf
     have a3:∀c f,((wr.alloc c).alloc f).frozen? ⟨T,0,none⟩=false:=fun c f=>((g.out.2.alloc c).alloc f).frozen _
     have ab:∀c f,((wr.alloc c).alloc f).cell? ⟨T+1,256,none⟩=some (.slice (some ⟨T,0,none⟩) 0 2):=fun c f=>by rw[((g.out.1.alloc c).alloc f).cell Tf];rfl
     have ah:∀c f,((wr.alloc c).alloc f).frozen? ⟨T+1,256,none⟩=false:=fun c f=>((g.out.1.alloc c).alloc f).frozen _
     have ac:∀c f n o m,(((((wr.alloc c).alloc f).setCell ⟨T,0,none⟩ n).setCell ⟨T+1,256,none⟩ o).alloc m).cell? ⟨T+1,b.toNat,none⟩=some (.slice none 0 0):=fun c f n o m=>by
      rw[((((((g.out.1.alloc c).alloc f).setOther (a:=⟨T,0,none⟩) Td n).set 256 o)).alloc m).cell Ta]
      rw[qW Ta];unfold zr;rw[qW (by have:=b.toNat_lt;omega)]
     have av:∀c f n o m,(((((wr.alloc c).alloc f).setCell ⟨T,0,none⟩ n).setCell ⟨T+1,256,none⟩ o).alloc m).frozen? ⟨T+1,b.toNat,none⟩=false:=fun c f n o m=>
      ((((((g.out.1.alloc c).alloc f).setOther (a:=⟨T,0,none⟩) Td n).set 256 o)).alloc m).frozen _
     clear g2
     go_wp2
     go_roundg 1
     case measure=>exact Nat.lt_succ_self _
     case rel=>
      have Y:=qb4 wr T 0 1 b G H S g.out.1 g.out.2;obtain⟨V,W,X,q4,q5,q6,q7⟩:=Y;have q8:=World.block_lt_of_cell? _ _ X;refine⟨l.trans q6,q7,Or.inr (Or.inl ⟨rfl,rfl,wr.heap.size+1+1,mZ (w4 wr T 0 1 b),Ta,q8,(?_:_/\_/\_/\_)⟩)⟩
      refine⟨V.congr (fun j _ => ?_),W,X,q4⟩
      ·show(if _ then _ else if _ then _ else zr _ j)=_
       unfold zr;by_cases k:j=b.toNat
       ·rw[qX k,qX k]
       ·by_cases r:j=256
        ·rw[qW k,qX r,qW k,qX r]
        ·rw[qW k,qW r,qW r,qW k,qW r]
    ·have g0:∀h,(⟨#[a]⟩:ByteArray)[0]'h=a:=fun _=>rfl
     have g1:(a.toNat:Int)<256:=by have:=a.toNat_lt;omega
     have g2:a.toNat<256:=a.toNat_lt;have Q:¬a.toNat=b.toNat:=fun h=>a4 (UInt8.toNat_inj.1 h)
     have a6:Aside (¬a.toNat=b.toNat):=Q;have ad:wr.cell? ⟨T+1,a.toNat,none⟩=some (.slice none 0 0):=by
      rw[g.out.1.cell Ta];rw[qW Ta,qW Ta]
     have aa:wr.cell? ⟨T+1,256,none⟩=some (.slice (some ⟨T,0,none⟩) 1 2):=by rw[g.out.1.cell Tf];rw[qW (by have:=b.toNat_lt;omega),qX rfl]
     have a0:∀c f,((wr.alloc c).alloc f).cell? ⟨T,1,none⟩=some (.string ⟨#[]⟩):=fun c f=>((g.out.2.1.alloc c).alloc f).cell Tf
     have a3:∀c f,((wr.alloc c).alloc f).frozen? ⟨T,1,none⟩=false:=fun c f=>((g.out.2.1.alloc c).alloc f).frozen _
     have ab:∀c f,((wr.alloc c).alloc f).cell? ⟨T+1,256,none⟩=some (.slice (some ⟨T,0,none⟩) 1 2):=fun c f=>by rw[((g.out.1.alloc c).alloc f).cell Tf];rw[qW (by have:=b.toNat_lt;omega),qX rfl]
     have ah:∀c f,((wr.alloc c).alloc f).frozen? ⟨T+1,256,none⟩=false:=fun c f=>((g.out.1.alloc c).alloc f).frozen _
     have ac:∀c f n o m,(((((wr.alloc c).alloc f).setCell ⟨T,1,none⟩ n).setCell ⟨T+1,256,none⟩ o).alloc m).cell? ⟨T+1,a.toNat,none⟩=some (.slice none 0 0):=fun c f n o m=>by
      rw[((((((g.out.1.alloc c).alloc f).setOther (a:=⟨T,1,none⟩) Td n).set 256 o)).alloc m).cell Ta]
      rw[qW Ta];rw[qW Ta,qW Ta]
     have av:∀c f n o m,(((((wr.alloc c).alloc f).setCell ⟨T,1,none⟩ n).setCell ⟨T+1,256,none⟩ o).alloc m).frozen? ⟨T+1,a.toNat,none⟩=false:=fun c f n o m=>
      ((((((g.out.1.alloc c).alloc f).setOther (a:=⟨T,1,none⟩) Td n).set 256 o)).alloc m).frozen _
     clear g2 Q
     go_wp2
     go_roundg 0
     case measure=>exact Nat.lt_succ_self _
     case rel=>
      have Y:=qb4 wr T 1 2 a E F S g.out.1 g.out.2.1;obtain⟨V,W,X,q4,q5,q6,q7⟩:=Y;have N:=(q5 ⟨u,0,none⟩ M P).trans g.out.2.2.1;have O:=(q5 ⟨u,1,none⟩ M P).trans g.out.2.2.2;have hB:ou (T+1) a b E F G H (w5 wr T 1 2 a E F):=by
       refine⟨wr.heap.size+1+1,u,T,mZ (w4 wr T 1 2 a),cb,2,fun d => ?_,?_,?_,?_,X,q4,N,O⟩
       ·rw[V.cell (by have:=d.toNat_lt;omega)]
        unfold rv;by_cases k:d=a
        ·rw[qX (congrArg _ k),qX k]
        ·rw[qW (fun h=>k (UInt8.toNat_inj.1 h)),qW k,qW (by have:=d.toNat_lt;omega)]
         by_cases r:d=b
         ·rw[qX (congrArg _ r),qX r]
         ·rw[qW (fun h=>r (UInt8.toNat_inj.1 h)),qW r,qW (by have:=d.toNat_lt;omega)]
       ·rw[V.cell Tf,qW (by have:=a.toNat_lt;omega),qX rfl]
       ·rw[W.cell Tf];rfl
       ·rw[W.cell Tf];rfl
      exact⟨l.trans q6,q7,Or.inr (Or.inr ⟨rfl,rfl,hB⟩)⟩
    ·go_wp2
     go_ret
     exact⟨T+1,rfl,g.out,by rw[J.out];exact l⟩
end Go.Proofs.Repl
namespace Go.Proofs.YtekaipjfmlnggaaGreatDoor.Once
open Go.Sym(Tc)
def disable(w:World):(callFunc 328 #[]).run Tryz.prog w = .ok (.value (.tuple #[])) w:=run_call_mark0 Tryz.func328 Tc Tc Tc .disable Tc w
def enable(w:World):(callFunc 330 #[]).run Tryz.prog w = .ok (.value (.tuple #[])) w:=run_call_mark0 Tryz.func330 Tc Tc Tc .enable Tc w
def acquire(a:Addr)(w:World):(callFunc 331 #[.pointer (some a)]).run Tryz.prog w = .ok (.value (.tuple #[])) w:=run_call_marked Tryz.func331 Tc Tc Tc .acquire Tc a w
def releaseMerge(a:Addr)(w:World):(callFunc 333 #[.pointer (some a)]).run Tryz.prog w = .ok (.value (.tuple #[])) w:=run_call_marked Tryz.func333 Tc Tc Tc .releaseMerge Tc a w
set_option maxHeartbeats 1600000 in
def qte(a:Addr)(x:Value)(u:FrameMode)(w:World)(g:w.cell? a=some x)(h:w.frozen? a=false) :
  CallsD Tryz.prog 271 #[.pointer (some a),.bool true] u w fun e f w'=>f=u/\(e = .returned (.tuple #[])/\w'=w.drew.setCell a (.int .u32 1)):=by
 have b:w.drew.cell? a=some x:=by go_simp
 have c:w.drew.frozen? a=false:=by go_simp
 have d:=run_call_store (P:=Tryz.prog) Tryz.func306 Tc Tc Tc Tc (k := .u32) (y:=1) b c
 go_enter_d Tryz.func271,Tryz.ntmps271
 go_wp2
 go_region_calls
 all_goals (go_end0;exact⟨rfl,rfl⟩)
set_option maxHeartbeats 1600000 in
def qui(a:Addr)(u:FrameMode)(w:World)(c:w.cell? a=some (.int .i32 1))(f:w.frozen? a=false) :
  CallsD Tryz.prog 270 #[.pointer (some a)] u w fun e g w'=>g=u/\(e = .returned (.tuple #[])/\w'=w.setCell a (.int .i32 0)):=by
 have h:=disable;have i:=enable;have j:=releaseMerge;have b:=run_call_add (P:=Tryz.prog) Tryz.func334 Tc Tc Tc .i32 Tc (y := -1) (s:=0) c f (by simp[go_sem];rfl)
 have d:=run_convert_to_unsafe (P:=Tryz.prog) (src:=350) (dst:=152) Tryz.underlying350 Tryz.underlying152 Tc c
 go_enter_d Tryz.func270,Tryz.ntmps270
 go_wp2
 go_end0
 go_wp2
 go_end0
 exact⟨rfl,rfl⟩
set_option maxHeartbeats 1600000 in
def qoj(a:Addr)(w:World)(c:w.cell? a=some (.int .i32 0))(g:w.frozen? a=false) :
  Calls Tryz.prog 269 #[.pointer (some a)] w fun e w'=>e = .returned (.tuple #[])/\w'=w.setCell a (.int .i32 1):=by
 have i:=disable;have j:=enable;have h:=acquire;have d:=run_call_cas_hit (P:=Tryz.prog) Tryz.func329 Tc Tc Tc .i32 Tc (y:=1) c g
 have b:(w.setCell a (.int .i32 1)).cell? a=some (.int .i32 1):=World.cell?_setCell_same w a _ c;have f:=run_convert_to_unsafe (P:=Tryz.prog) (src:=350) (dst:=152) Tryz.underlying350 Tryz.underlying152 Tc b
 go_enter Tryz.func269,Tryz.ntmps269
 go_wp2
 first|go_end0|(simp only[Exit.inBlock,Exit.then];refine bodyPost_ret (results_none rfl _ _ _) rfl ?_)|refine bodyPost_ret (results_none rfl _ _ _) rfl ?_
 go_wp2
 go_end0
 exact⟨rfl,rfl⟩
end Go.Proofs.YtekaipjfmlnggaaGreatDoor.Once
namespace Go.Proofs.YtekaipjfmlnggaaGreatDoor.Once
open Go.Sym(Tc Td)
set_option maxHeartbeats 1600000 in
def qsu(b:Nat)(w:World)(R:World->Prop)
  (l:w.cell? ⟨b,0,none⟩=some (.int .u32 0)) (s:w.cell? ⟨b,0+1,none⟩=some (.int .i32 0)) (f0:w.frozen? ⟨b,0,none⟩=false) (r:w.frozen? ⟨b,0+1,none⟩=false)
  (n:Calls Tryz.prog 167 #[.pointer (some ⟨b,0,none⟩)] (w.setCell ⟨b,0+1,none⟩ (.int .i32 1)) fun e w'=>e = .returned (.tuple #[])/\R w')
  (m:∀w',R w'->w'.cell? ⟨b,0,none⟩=some (.int .u32 0)/\w'.frozen? ⟨b,0,none⟩=false/\w'.cell? ⟨b,0+1,none⟩=some (.int .i32 1)/\w'.frozen? ⟨b,0+1,none⟩=false) :
  Calls Tryz.prog 222 #[.pointer (some ⟨b,0,none⟩),.func (.func 167) #[.pointer (some ⟨b,0,none⟩)] #[]] w fun e w'=>e = .returned (.tuple #[])/\∃k,R k/\w'=(k.drew.setCell ⟨b,0,none⟩ (.int .u32 1)).setCell ⟨b,0+1,none⟩ (.int .i32 0):=by
 have t:=run_call_load (P:=Tryz.prog) Tryz.func268 Tc Tc Tc .u32 Tc (w:=w.setCell ⟨b,0+1,none⟩ (.int .i32 1)) (a:=⟨b,0,none⟩) (x:=0) ((World.cell?_setCell_other _ ⟨b,0+1,none⟩ ⟨b,0,none⟩ _ Td).trans l)
 have i:∀(x:Bool)(w:World),(Op.unary .not (.bool x)).run Tryz.prog w = .ok (.bool (!x)) w:=fun _ _=>rfl
 go_enter_defers Tryz.func222,Tryz.ntmps222
 go_wp2_with (first|(go_at_call 269;refine(qoj ⟨b,0+1,none⟩ _ (by go_simp) (by go_simp)).mono ?_;rintro e w' ⟨rfl,rfl⟩)|(go_at_call 221;go_in)|(go_at_call 167;refine n.mono ?_;rintro e w' ⟨rfl,j⟩))
 obtain⟨o,d,p,g⟩:=m w' j
 first|go_end0|skip
 first|go_wp2|skip
 refine leaves_cons (f:=271) (args:=#[.pointer (some ⟨b,0,none⟩),.bool true]) Td (by simp[go_sem]) ?_
 refine(qte ⟨b,0,none⟩ (.int .u32 0) .returning _ o d).mono ?_;rintro e q h ⟨rfl,rfl,rfl⟩
 refine leaves_cons (f:=270) (args:=#[.pointer (some ⟨b,0+1,none⟩)]) (by simp[settle]) (by simp[go_sem]) ?_
 have c:(w'.drew.setCell ⟨b,0,none⟩ (.int .u32 1)).cell? ⟨b,0+1,none⟩=some (.int .i32 1):=by
  refine(World.cell?_setCell_other _ ⟨b,0,none⟩ ⟨b,0+1,none⟩ _ Td).trans ?_
  rw[World.cell?_drew];exact p
 refine(qui ⟨b,0+1,none⟩ _ _ c (by simp[g])).mono ?_
 rintro e q h ⟨rfl,rfl,rfl⟩
 simp[Leaves,settle,results,Tryz.results222];exact⟨w',j,rfl⟩
set_option maxHeartbeats 1600000 in
def qll(b:Nat)(w:World)(R:World->Prop)
  (d:w.cell? ⟨b,0,none⟩=some (.int .u32 0)) (h:w.cell? ⟨b,0+1,none⟩=some (.int .i32 0)) (f0:w.frozen? ⟨b,0,none⟩=false) (g:w.frozen? ⟨b,0+1,none⟩=false)
  (j:Calls Tryz.prog 167 #[.pointer (some ⟨b,0,none⟩)] (w.setCell ⟨b,0+1,none⟩ (.int .i32 1)) fun e w'=>e = .returned (.tuple #[])/\R w')
  (i:∀w',R w'->w'.cell? ⟨b,0,none⟩=some (.int .u32 0)/\w'.frozen? ⟨b,0,none⟩=false/\w'.cell? ⟨b,0+1,none⟩=some (.int .i32 1)/\w'.frozen? ⟨b,0+1,none⟩=false) :
  Calls Tryz.prog 166 #[.pointer (some ⟨b,0,none⟩),.func (.func 167) #[.pointer (some ⟨b,0,none⟩)] #[]] w fun e w'=>e = .returned (.tuple #[])/\∃a,R a/\w'=(a.drew.setCell ⟨b,0,none⟩ (.int .u32 1)).setCell ⟨b,0+1,none⟩ (.int .i32 0):=by
 have k:=run_call_load (P:=Tryz.prog) Tryz.func268 Tc Tc Tc .u32 Tc d
 have f:∀(x:Bool)(w:World),(Op.unary .not (.bool x)).run Tryz.prog w = .ok (.bool (!x)) w:=fun _ _=>rfl
 go_enter Tryz.func166,Tryz.ntmps166
 go_wp2_with (first|(go_at_call 221;go_in)|(go_at_call 222;refine(qsu b w R d h f0 g j i).mono ?_;rintro e w' ⟨rfl,a,c,rfl⟩))
 go_end0
 exact⟨rfl,a,c,rfl⟩
end Go.Proofs.YtekaipjfmlnggaaGreatDoor.Once
namespace Go.Proofs.YtekaipjfmlnggaaGreatDoor.Once
open Go.Sym(Td)
set_option maxHeartbeats 1600000 in
def replaceS_first(b:Nat)(s:ByteArray)(w:World)(R:World->Prop)(Q:Value->World->Prop)
  (h0:w.cell? ⟨b,0,none⟩=some (.int .u32 0)) (h1:w.cell? ⟨b,0+1,none⟩=some (.int .i32 0)) (f0:w.frozen? ⟨b,0,none⟩=false) (f1:w.frozen? ⟨b,0+1,none⟩=false)
  (hf:Calls Tryz.prog 167 #[.pointer (some ⟨b,0,none⟩)] (w.setCell ⟨b,0+1,none⟩ (.int .i32 1)) fun e w'=>e = .returned (.tuple #[])/\R w')
  (hR:∀w',R w'->w'.cell? ⟨b,0,none⟩=some (.int .u32 0)/\w'.frozen? ⟨b,0,none⟩=false/\w'.cell? ⟨b,0+1,none⟩=some (.int .i32 1)/\w'.frozen? ⟨b,0+1,none⟩=false)
  (hg:∀w',R w'->∃g,w'.cell? ⟨b,3,none⟩=some (.iface 291 (.pointer (some ⟨g,0,none⟩))) /\
   Calls Tryz.prog 396 #[.pointer (some ⟨g,0,none⟩),.string s] ((w'.drew.setCell ⟨b,0,none⟩ (.int .u32 1)).setCell ⟨b,0+1,none⟩ (.int .i32 0)) fun e w''=>∃v,e = .returned v/\Q v w'') :
  Calls Tryz.prog 111 #[.pointer (some ⟨b,0,none⟩),.string s] w fun e w'=>∃v,e = .returned v/\Q v w':=by
 have hme : ∀ (g : Nat) (w : World), (method 509 291 (.pointer (some ⟨g, 0, none⟩)) "Replace").run Tryz.prog w = .ok (396, .pointer (some ⟨g, 0, none⟩)) w := fun _ _ => by kernel_rfl
 go_enter Tryz.func111,Tryz.ntmps111
 go_wp2_with (first|(go_at_call 166;refine(qll b w R h0 h1 f0 f1 hf hR).mono ?_;rintro e w' ⟨rfl,w1,hw1,rfl⟩;obtain⟨g,hg1,hg2⟩:=hg w1 hw1;have hc3:((w1.drew.setCell ⟨b,0,none⟩ (.int .u32 1)).setCell ⟨b,0+1,none⟩ (.int .i32 0)).cell? ⟨b,3,none⟩=some (.iface 291 (.pointer (some ⟨g,0,none⟩))):=((World.cell?_setCell_other _ ⟨b,0+1,none⟩ ⟨b,3,none⟩ _ Td).trans ((World.cell?_setCell_other _ ⟨b,0,none⟩ ⟨b,3,none⟩ _ Td).trans (by rw[World.cell?_drew];exact hg1))))|(go_at_call 396;refine hg2.mono ?_;rintro e w' ⟨v,rfl,hq⟩))
 go_ret
 exact⟨_,rfl,hq⟩
end Go.Proofs.YtekaipjfmlnggaaGreatDoor.Once
namespace Go.Sym
open Go.RowKit
variable[LC]
def cm.blocks_none{G:Gh}{hp:List (Nat×ai)}{w:World}(u:cm G hp w){b:Nat}(h:rx G hp b)(o:Nat):G.imm b o=none:=by
 obtain⟨n,bx,t,d⟩:=h;have j:=u.holds n bx t
 cases bx with
 |cells y T=>obtain⟨B,x,e,_,_,_,i⟩:=j;simp only[Gh.at,e,qI]at d;subst d;exact i o
 |row τ l E=>
  obtain⟨a,c,e,q⟩:=j;rcases q with⟨rfl,_⟩|⟨g,x,A,rfl,_,_,_,_,_,_,_,r⟩
  ·simp only[Gh.at,e]at d;cases d
  ·simp only[Gh.at,e,qI]at d;subst d;exact r o
 |loop H C f m z F v D=>obtain⟨B,k,DB,e,_,_,_,_,i⟩:=j;simp only[Gh.at,e,qI]at d;subst d;exact i o
 |dfr=>obtain⟨B,e,_,i⟩:=j;simp only[Gh.at,e,qI]at d;subst d;exact i o
 |it s p=>obtain⟨B,e,_,i⟩:=j;simp only[Gh.at,e,qI]at d;subst d;exact i o
 |dead=>cases d
def cz.gone{P:Program}{f:FuncId}{xs:List AV}{hp:List (Nat×ai)}{r:AV}
  (h:∀(w:World)(G:Gh)(vs:List Value),cm G hp w->ap xs G vs->Calls P f vs.toArray w fun e w'=>∃v,e = .returned v/\ak r G v/\cg (rx G hp) w w'):cz P f xs hp r []:=by
 intro w G vs d k;refine(h w G vs d k).mono ?_;rintro e w' ⟨v,rfl,c,g⟩
 have a:∀b o v,G.imm b o=some v->w'.heap[b]? = w.heap[b]? := fun b o v c=>g.block b (World.block_lt_of_cell? _ _ (d.agree b o v c)) fun j=>by
  rw[d.blocks_none j o]at c;cases c
 refine⟨v,G,rfl,⟨⟨fun b o v c=>by rw[World.cell?_of_block (w:=w) (a b o v c)];exact d.agree b o v c,d.one,fun n bx h=>(by cases h),fun n m bx i b h=>(by cases h),LC.mono (fun _ _ _ h=>h) a d.tab⟩,g,fun _ _ _ h=>h,fun _ _ _ h => .inl h,fun n bx b h=>(by cases h),fun _ _ _ _ h=>h,fun _ _ _ _ h=>h⟩,c⟩
end Go.Sym
set_option linter.unusedVariables false
namespace Go.Proofs.Repl
open Go.Shelf Go.RowKit Go.Lib Go.Sym
def ou.setCell{R q n:Nat}{u:Int}{a b j l m r:UInt8}{w:World}(h:ou R a b j l m r w)(d:w.cell? ⟨q,0,none⟩=some (.int .u32 u))(v:Value):ou R a b j l m r (w.setCell ⟨q,n,none⟩ v):=by
 obtain⟨s,t,y,F,G,H,z,I,f,J,g,K,i,L⟩:=h.ex;have A:¬R=q:=fun e=>by
  have:=z 0;subst e;rw[show(0:UInt8).toNat=0 from rfl,d]at this
  unfold rv at this;split at this
  ·cases this
  ·split at this<;>cases this
 have E:¬y=q:=fun e=>by subst e;rw[d]at f;cases f
 have B:¬s=q:=fun e=>by subst e;rw[d]at g;cases g
 have C:¬t=q:=fun e=>by subst e;rw[d]at i;cases i
 have k:∀{p:Nat}{o:Nat}{x:Value},¬p=q->w.cell? ⟨p,o,none⟩=some x->(w.setCell ⟨q,n,none⟩ v).cell? ⟨p,o,none⟩=some x:=fun{p o x} hp hx=>by
  rw[World.cell?_of_block (w:=w) (Below.heap_setCell w ⟨q,n,none⟩ v p hp)];exact hx
 exact⟨s,t,y,F,G,H,fun c=>k A (z c),k A I,k E f,k E J,k B g,k B K,k C i,k C L⟩
structure Once(q:Nat)(w w':World):Prop where
 bel:cg (fun k=>k=q) w w'
 c0:w'.cell? ⟨q,0,none⟩=some (.int .u32 0)
 c1:w'.cell? ⟨q,0+1,none⟩=some (.int .i32 1)
 f0:w'.frozen? ⟨q,0,none⟩=false
 f1:w'.frozen? ⟨q,0+1,none⟩=false
def qi8(S:Nat->Prop)(w:World):cg S w w.drew:=⟨rfl,rfl,rfl,wF _,fun _ _ _=>rfl⟩
def JP{S:Nat->Prop}{w w':World}(h:Below w.heap.size w w'):cg S w w':=⟨h.os,h.tape,h.output,h.size,fun k a _=>h.block k a⟩
def zC{q:Nat}{w w':World}(h:cg (fun k=>k=q) w w')(n:Nat)(v:Value):cg (fun k=>k=q) w (w'.setCell ⟨q,n,none⟩ v):=
 ⟨h.os,h.tape,h.output,by simp[World.setCell];exact h.size,fun k b a=>(Below.heap_setCell w' ⟨q,n,none⟩ v k a).trans (h.block k b a)⟩
def JQ{S:Nat->Prop}{a b c:World}(h:cg S a b)(k:cg S b c):cg S a c:=
 ⟨k.os.trans h.os,k.tape.trans h.tape,k.output.trans h.output,Nat.le_trans h.size k.size,fun i d e=>(k.block i (Nat.lt_of_lt_of_le d h.size) e).trans (h.block i d e)⟩
set_option maxHeartbeats 1600000 in
def qjj(q d f:Nat)(J:Value)(a b k l m n:UInt8)(w:World)(t:a≠b)
  (c0:w.cell? ⟨q,0,none⟩=some (.int .u32 0)) (c1:w.cell? ⟨q,0+1,none⟩=some (.int .i32 1)) (z:∀j,w.frozen? ⟨q,j,none⟩=false) (c3:w.cell? ⟨q,3,none⟩=some J)
  (y:w.cell? ⟨q,4,none⟩=some (.slice (some ⟨d,0,none⟩) 4 f)) (F:w.cell? ⟨d,0,none⟩=some (.string ⟨#[a]⟩)) (G:w.cell? ⟨d,1,none⟩=some (.string ⟨#[k,l]⟩)) (H:w.cell? ⟨d,2,none⟩=some (.string ⟨#[b]⟩)) (I:w.cell? ⟨d,3,none⟩=some (.string ⟨#[m,n]⟩)) :
  Calls Tryz.prog 167 #[.pointer (some ⟨q,0,none⟩)] w fun e w'=>e = .returned (.tuple #[])/\Once q w w'/\∃R,w'.cell? ⟨q,3,none⟩=some (.iface 291 (.pointer (some ⟨R,0,none⟩)))/\ou R a b k l m n w':=by
 have h:q<w.heap.size:=World.block_lt_of_cell? _ _ c0;have x:=qjh q d f a b k l m n w t y F G H I
 go_enter Tryz.func167,Tryz.ntmps167
 go_wp2_with (go_at_call 223;go_must (refine x.mono ?_;rintro e W ⟨R,rfl,s,c⟩;have i:∀{j:Nat}{v:Value},w.cell? ⟨q,j,none⟩=some v->W.cell? ⟨q,j,none⟩=some v:=(fun A=>(c.cell (World.block_lt_of_cell? _ _ A)).trans A);have B:∀j,W.frozen? ⟨q,j,none⟩=false:=(fun j=>(c.frozen (p:=⟨q,j,none⟩) h).trans (z j));have u:=i c0;have C:=i c1;have E:=i c3;have K:=i y;clear x z i))
 have g:(W.setCell ⟨q,3,none⟩ (.iface 291 (.pointer (some ⟨R,0,none⟩)))).cell? ⟨q,0,none⟩=some (.int .u32 0):=by rw[World.cell?_setCell_other _ _ _ _ Td];exact u
 have o:(W.setCell ⟨q,3,none⟩ (.iface 291 (.pointer (some ⟨R,0,none⟩)))).cell? ⟨q,0+1,none⟩=some (.int .i32 1):=by rw[World.cell?_setCell_other _ _ _ _ Td];exact C
 have r:=World.cell?_setCell_same W ⟨q,3,none⟩ (.iface 291 (.pointer (some ⟨R,0,none⟩))) E
 go_end0
 refine⟨rfl,⟨zC (zC (JP c) 3 _) 4 _,?_,?_,?_,?_⟩,R,?_,(s.setCell u _).setCell g _⟩
 ·rw[World.cell?_setCell_other _ _ _ _ Td];exact g
 ·rw[World.cell?_setCell_other _ _ _ _ Td];exact o
 ·simp[B]
 ·simp[B]
 ·rw[World.cell?_setCell_other _ _ _ _ Td];exact r
def replS(q m n:Nat)(C:Value)(a b d f g i:UInt8)(s:ByteArray)(w:World)(r:a≠b)(K:s.size<=1000000)
  (c0:w.cell? ⟨q,0,none⟩=some (.int .u32 0)) (c1:w.cell? ⟨q,0+1,none⟩=some (.int .i32 0)) (A:∀j,w.frozen? ⟨q,j,none⟩=false) (c3:w.cell? ⟨q,3,none⟩=some C)
  (J:w.cell? ⟨q,4,none⟩=some (.slice (some ⟨m,0,none⟩) 4 n)) (t:w.cell? ⟨m,0,none⟩=some (.string ⟨#[a]⟩)) (F:w.cell? ⟨m,1,none⟩=some (.string ⟨#[d,f]⟩)) (G:w.cell? ⟨m,2,none⟩=some (.string ⟨#[b]⟩)) (H:w.cell? ⟨m,3,none⟩=some (.string ⟨#[g,i]⟩)) :
  Calls Tryz.prog 111 #[.pointer (some ⟨q,0,none⟩),.string s] w fun e w'=>∃v,e = .returned v/\v = .string ⟨(fk a b [d,f] [g,i] s.data.toList).toArray⟩/\cg (fun k=>k=q) w w':=by
 have c:¬m=q:=fun e=>by subst e;rw[c0]at t;cases t
 have k:∀{p:Addr}{x:Value},p≠⟨q,0+1,none⟩->w.cell? p=some x->(w.setCell ⟨q,0+1,none⟩ (.int .i32 1)).cell? p=some x:=fun{p x} hp hx=>by
  rw[World.cell?_setCell_other _ _ _ _ (fun e=>hp e.symm)];exact hx
 have L:cg (fun k=>k=q) w (w.setCell ⟨q,0+1,none⟩ (.int .i32 1)):=zC (JP (Below.refl _ _)) _ _
 refine Go.Proofs.YtekaipjfmlnggaaGreatDoor.Once.replaceS_first q s w (fun w'=>Once q (w.setCell ⟨q,0+1,none⟩ (.int .i32 1)) w'/\∃R,w'.cell? ⟨q,3,none⟩=some (.iface 291 (.pointer (some ⟨R,0,none⟩)))/\ou R a b d f g i w') (fun v w'=>v = .string ⟨(fk a b [d,f] [g,i] s.data.toList).toArray⟩/\cg (fun k=>k=q) w w') c0 c1 (A _) (A _) ?_ ?_ ?_
 ·exact qjj q m n C a b d f g i _ r (k Td c0) (World.cell?_setCell_same w _ _ c1) (fun j=>by simp[A]) (k Td c3) (k Td J) (k (by intro h;exact c (congrArg Addr.block h)) t) (k (by intro h;exact c (congrArg Addr.block h)) F) (k (by intro h;exact c (congrArg Addr.block h)) G) (k (by intro h;exact c (congrArg Addr.block h)) H)
 ·rintro w' ⟨l,_⟩
  exact⟨l.c0,l.f0,l.c1,l.f1⟩
 ·rintro w' ⟨l,R,I,y⟩
  refine⟨R,I,?_⟩;have B:w'.drew.cell? ⟨q,0,none⟩=some (.int .u32 0):=by rw[World.cell?_drew];exact l.c0
  have E:=World.cell?_setCell_same w'.drew ⟨q,0,none⟩ (.int .u32 1) B;have u:ou R a b d f g i ((w'.drew.setCell ⟨q,0,none⟩ (.int .u32 1)).setCell ⟨q,0+1,none⟩ (.int .i32 0)):=
   ((y.below (Below.refl _ w').drew).setCell B _).setCell E _
  have o:cg (fun k=>k=q) w ((w'.drew.setCell ⟨q,0,none⟩ (.int .u32 1)).setCell ⟨q,0+1,none⟩ (.int .i32 0)):=
   zC (zC (JQ (JQ L l.bel) (qi8 _ _)) 0 _) (0+1) _
  refine(qjm R a b d f g i s _ r K u).mono ?_;rintro e M ⟨rfl,z⟩
  exact⟨_,rfl,rfl,JQ o (JP z)⟩
end Go.Proofs.Repl
namespace Go.Sym
open Go.Proofs Go.RowKit
variable[LC]
def qq4(a b d f l m:UInt8)(s:Bs)(Y:Int)(r:a≠b)(U:s.length<=1000000) :
  cz Tryz.prog 111 [.ptr 0 0,.str s] [(0,.cells [.int .u32 0,.int .i32 0,.int .u32 Y,.val .nilIface,.own 1] 219),(1,.row .str [[a],[d,f],[b],[l,m]] 9)] (.str (fk a b [d,f] [l,m] s)) []:=by
 refine cz.gone fun w G vs J u => ?_
 match vs,u with
 |[v1,v2],u=>
 obtain⟨⟨q,I,rfl⟩,y,_⟩:=u;have y:v2 = .string ⟨s.toArray⟩:=y;subst y;obtain⟨B,N,F,H,o,g4,g5⟩:=J.holds 0 _ rfl;rw[show G.box 0=some q from I]at F
 cases F
 obtain⟨ad,c,z,V,W,X,o4⟩:=(J.holds 1 (.row .str [[a],[d,f],[b],[l,m]] 9) rfl).rowAt;obtain⟨Z,c0,x0⟩:=mz o (i:=0) rfl;obtain⟨u1,c1,x1⟩:=mz o (i:=1) rfl;obtain⟨u3,c3,x3⟩:=mz o (i:=3) rfl;obtain⟨u4,M,x4⟩:=mz o (i:=4) rfl;have x0:Z = .int .u32 0:=x0;have x1:u1 = .int .i32 0:=x1;obtain⟨L,n',c',K,x4⟩:=x4;rw[V]at K;cases K
 subst x0 x1 x4;have k:∀{i:Nat}{v:Value},N.toList[i]? = some v->w.cell? ⟨q,i,none⟩=some v:=fun{i v} h=>cell_of_heap H h
 obtain⟨T,t⟩:=W;rcases t with⟨_,Q,_⟩|⟨g,vr,fz,rfl,O,_,e3,e4,e5,P,_⟩
 ·cases Q
 ·have x:z=[.string ⟨#[a]⟩,.string ⟨#[d,f]⟩,.string ⟨#[b]⟩,.string ⟨#[l,m]⟩]:=by
   match z,X with
   |[y0,y1,y2,y3],⟨A,z1,C,E,_⟩=>
    have A:y0 = .string ⟨#[a]⟩:=A;have z1:y1 = .string ⟨#[d,f]⟩:=z1;have C:y2 = .string ⟨#[b]⟩:=C;have E:y3 = .string ⟨#[l,m]⟩:=E;rw[A,z1,C,E]
  have p:∀{i:Nat}{v:Value},z[i]? = some v->w.cell? ⟨g,i,none⟩=some v:=fun{i v} h=>by
   rw[← P,List.getElem?_take]at h;split at h
   ·exact cell_of_heap O h
   ·cases h
  subst x;refine(Go.Proofs.Repl.replS q g c u3 a b d f l m ⟨s.toArray⟩ w r (by rw[nd];exact U) (k c0) (k c1) (fun j=>by simp[World.frozen?,H]) (k c3) (k M) (p (i:=0) rfl) (p (i:=1) rfl) (p (i:=2) rfl) (p (i:=3) rfl)).mono ?_
  rintro e w' ⟨v,rfl,rfl,n⟩
  refine⟨_,rfl,rfl,⟨n.os,n.tape,n.output,n.size,fun k R S=>n.block k R (fun e=>S ?_)⟩⟩
  subst e;exact⟨0,_,rfl,I⟩
def LZ:IF:=⟨.fn 111,[.ptr 0 0,.h .str],[(0,.cells [.h (.int .u32),.h (.int .i32),.h (.int .u32),.c .nilIface,.own 1] 219),(1,.row .str 9)],_,RS.mk (.h .str) []⟩
def qar:(LZ.e wu).Sound Tryz.prog:=fun d k r h=>by
 obtain⟨_,s,_⟩:=d;obtain⟨⟨n,o,e,_,_,_⟩,m,_⟩:=k;have h:wu s n o e m=some r:=h;obtain⟨a,f,g,b,i,j,rfl,rfl,rfl,c,l,rfl⟩:=qq6 h;exact⟨Tryz.call111,qq4 a b f g i j s e c l⟩
end Go.Sym
namespace Go.Sym
open Go.Proofs Go.RowKit
open Go.Proofs.Tryz
variable[LC]
def PJ:Builder.Extra Tryz.prog Tryz.lays105_ren:={
 sizeBuilder:=Tc
 liesBuilder:=Tc
 t5:=Tryz.lays105.t5
 a5:=Tryz.lays105.a5
 z5:=Tryz.lays105.z5
 v5:=Tryz.lays105.v5
 infoByte:=Tc
 cellsByte:=Tc
 sizeByte:=Tc
 neB5:=by decide }
def qq0{w:World}(s:Bs)(n:Int)(g:0<=n)(h:n<=9223372036854775807)(b:s.length*n.toNat<=140737488355328) :
  Calls Tryz.prog 168 #[.string ⟨s.toArray⟩,.int .i64 n] w fun e w'=>e = .returned (.string ⟨(Lib.repeatL s n.toNat).toArray⟩)/\du w w':=by
 have d:n=((n.toNat:Nat):Int):=Ta
 have a:=Any.strings_Repeat Tryz.lays105 PJ ⟨s.toArray⟩ n.toNat w Ta (by rw[nd];exact b)
 rw[← d]at a;exact a.mono fun e w'⟨c,f⟩=>⟨c,du.of_below f⟩
def qap:IF:=⟨.fn 168,[.h .str,.h (.int .i64)],[],_,RS.mk (.h .str) []⟩
def qq2:(qap.e mA).Sound Tryz.prog:=fun d o r h=>by
 obtain⟨s,n,_⟩:=d;have h:mA s n=some r:=h;unfold mA at h;cases c:decide (0<=(show Int from n)/\(show Int from n)<=9223372036854775807/\List.length (α:=UInt8) s*(show Int from n).toNat<=140737488355328)<;>rw[c]at h<;>simp only[qT,qF,reduceCtorEq]at h
 have h:=qJ h;subst h;obtain⟨f,g,i⟩:=of_decide_eq_true c;refine⟨call168,cz.data fun w G m p k => ?_⟩
 match m,k with
 |[u,v],⟨a,b,_⟩=>
  have a:u = .string ⟨s.toArray⟩:=a;have b:v = .int .i64 n:=b;subst a b;exact(qq0 s n f g i).mono fun e q⟨j,l⟩=>⟨_,j,rfl,l⟩
def qjb:Builder.Extra Tryz.prog Tryz.lays155_ren:={
 sizeBuilder:=Tc
 liesBuilder:=Tc
 t5:=Tryz.lays155.t5
 a5:=Tryz.lays155.a5
 z5:=Tryz.lays155.z5
 v5:=Tryz.lays155.v5
 infoByte:=Tc
 cellsByte:=Tc
 sizeByte:=Tc
 neB5:=by decide }
def qq3{G:Gh}{w:World}(c:cm G [] w)(i:2∈LC.ints)(s o n:Bs)(a:1<=o.length)(d:s.length<4294967281)(f:s.length+s.length*n.length<=140737488355328) :
  Calls Tryz.prog 88 #[.string ⟨s.toArray⟩,.string ⟨o.toArray⟩,.string ⟨n.toArray⟩] w fun e w'=>e = .returned (.string ⟨(Lib.replaceAll s o n).toArray⟩)/\du w w':=by
 obtain⟨k,b⟩:=c.tab.2.1 _ i;have b:=c.agree _ _ _ b;have g:Lib.countB ⟨s.toArray⟩ ⟨o.toArray⟩<=s.length:=by
  have:=Lib.countB_mul_le (⟨o.toArray⟩:ByteArray) (by rw[nd];exact a) _ (⟨s.toArray⟩:ByteArray) (wF _)
  rw[nd,nd]at this;exact Nat.le_trans (Nat.le_mul_of_pos_right _ a) this
 exact(Any.strings_ReplaceAll Tryz.lays155 qjb ⟨s.toArray⟩ ⟨o.toArray⟩ ⟨n.toArray⟩ k w (by rw[nd];exact d) b (by rw[nd];exact a) (by
  rw[nd,nd];exact Nat.le_trans (Nat.add_le_add_left (Nat.mul_le_mul_right _ g) _) f)).mono fun e w'⟨h,j⟩=>⟨h,du.of_below j⟩
def LY:IF:=⟨.fn 88,[.h .str,.h .str,.h .str],[],_,RS.mk (.h .str) []⟩
def qaq(l:2∈LC.ints):(LY.e qg).Sound Tryz.prog:=fun d y r h=>by
 obtain⟨s,o,n,_⟩:=d;have h:qg s o n=some r:=h;unfold qg at h;cases f:decide (1<=List.length (α:=UInt8) o/\List.length (α:=UInt8) s<4294967281/\List.length (α:=UInt8) s+List.length (α:=UInt8) s*List.length (α:=UInt8) n<=140737488355328)<;>rw[f]at h<;>simp only[qT,qF,reduceCtorEq]at h
 have h:=qJ h;subst h;obtain⟨g,i,j⟩:=of_decide_eq_true f;refine⟨call88,cz.data fun w G t m p => ?_⟩
 match t,p with
 |[u,v,x],⟨a,b,c,_⟩=>
  have a:u = .string ⟨s.toArray⟩:=a;have b:v = .string ⟨o.toArray⟩:=b;have c:x = .string ⟨n.toArray⟩:=c;subst a b c;exact(qq3 m l s o n g i j).mono fun e z⟨k,q⟩=>⟨_,k,rfl,q⟩
end Go.Sym
namespace Go.Sym
open Go.Proofs Go.RowKit Go.Shelf
def cg.refl(S:Nat->Prop)(w:World):cg S w w:=⟨rfl,rfl,rfl,wF _,fun _ _ _=>rfl⟩
def cg.drew(S:Nat->Prop)(w:World):cg S w w.drew:=⟨rfl,rfl,rfl,wF _,fun _ _ _=>rfl⟩
def cg.freeze{S:Nat->Prop}(w:World)(p:Addr)(n:Nat)(h:S p.block):cg S w (w.drew.freeze p n):=by
 unfold World.freeze;split
 ·exact cg.drew S w
 ·exact⟨rfl,rfl,rfl,Td,fun k b a=>by
   simp[Array.getElem?_modify];rw[qW (fun e=>a (by rw[← e];exact h))];rfl⟩
def cg.drew_alloc(S:Nat->Prop)(w:World)(o:Obj):cg S w (w.drew.alloc o):=⟨rfl,rfl,rfl,Td,fun k a _=>Below.heap_alloc w.drew _ k a⟩
def Qa{G:Gh}:∀{l:List UInt8}{us:List Value},ap (l.flatMap Ty.byte.enc) G us->us=Lib.byteCells l
 |[],[],_=>rfl|c::l,u::us,⟨a,b⟩=>by
  have a:u = .int .u8 c.toNat:=a;rw[a,Qa (l:=l) b];rfl
 |[],_::_,h=>h.elim|_::_,[],h=>h.elim
section
variable{P:Program}{ρ:Ren}
set_option maxHeartbeats 2000000 in
def qtf(L:Lays.n169 P ρ)(X:Builder.Extra P ρ)(b:Nat)(p:Value)(l:List UInt8)(g c:Nat)(w:World)(q:w.heap[b]? = some (.cells #[p,.slice (some ⟨g,0,none⟩) l.length c] (ρ.t 72) (0,0)))
  (a:Array Value) (o:Nat×Nat) (s:w.heap[g]? = some (.cells a (ρ.t 5) o)) (t:l.length<=c) (h:c<=maxLen) (r:a.size=c*1) (d:a.toList.take (l.length*1)=Lib.byteCells l) (y:l≠[]) :
  Calls P (ρ.f 169) #[.pointer (some ⟨b,0,none⟩)] w fun e w'=>e = .returned (.string ⟨l.toArray⟩)/\cg (fun k=>k=g) w w':=by
 have n8:l.length≠0:=by simpa using y
 have c1:w.drew.cell? ⟨b,1,none⟩=some (.slice (some ⟨g,0,none⟩) l.length c):=by
  have:w.drew.heap[b]? = some (.cells #[p,.slice (some ⟨g,0,none⟩) l.length c] (ρ.t 72) (0,0)):=q;rw[Lib.cell_of_heap this];rfl
 have H:(Builtin.unsafeSliceData_ #[(ρ.t 37)] (ρ.t 127) #[.slice (some ⟨g,0,none⟩) l.length c]).run P w.drew = .ok (.pointer (some ⟨g,0,none⟩)) w.drew:=
  Lib.run_unsafeSliceData_row _ _ _ _ _ _ Ta
 have I:(Builtin.unsafeString_ #[(ρ.t 127),(ρ.t 3)] (ρ.t 9) #[.pointer (some ⟨g,0,none⟩),.int .i64 l.length]).run P w.drew = .ok (.string ⟨l.toArray⟩) (w.drew.freeze ⟨g,0,none⟩ l.length):=by
  refine Lib.run_unsafeString_row w.drew (ρ.t 127) (ρ.t 3) (ρ.t 9) (ρ.t 5) L.t127 X.cellsByte g a.size (by have f:w.drew.heap[g]? = some (.cells a (ρ.t 5) o):=s;simp[World.shape?,f]) l y Ta (by unfold maxLen at h;omega) ?_
  intro j x J;have n:(a.toList.take (l.length*1))[j]? = some (.int .u8 x.toNat):=by rw[d];simp[Lib.byteCells,J]
  have m:a[j]? = some (.int .u8 x.toNat):=by
   rw[List.getElem?_take]at n;split at n
   ·simpa using n
   ·cases n
  have f:w.drew.heap[g]? = some (.cells a (ρ.t 5) o):=s;by_cases i:j=0
  ·subst i;simp[World.cell?,Addr.add,f,m]
  ·simp[World.cell?,Addr.add,i,f,m]
 have u:=L.mixed;have N:=L.t72;have G:=L.a72;have Y:=L.z72;have U:=L.v72;have R:=run_underlying L.t72;have M:=L.t70;have F:=L.a70;have W:=L.z70;have T:=L.v70;have Q:=run_underlying L.t70;have K:=L.t37;have E:=L.a37;have V:=L.z37;have S:=L.v37;have O:=run_underlying L.t37;have z:=L.t127;have v:=L.a127;have C:=L.z127;have B:=L.v127;have A:=run_underlying L.t127;have t3:=L.t3;have Z:=L.a3;have z3:=L.z3;have v3:=L.v3;have u3:=run_underlying L.t3;have t9:=L.t9;have a9:=L.a9;have z9:=L.z9;have v9:=L.v9;have u9:=run_underlying L.t9;have t5:=X.t5;have a5:=X.a5;have z5:=X.z5;have v5:=X.v5;have u5:=run_underlying X.t5;clear r d t h s
 go_enter L.f169,Body.n169_ntmps ρ
 go_wp2
 go_region_o
 all_goals (go_wp2;go_ret;exact⟨rfl,cg.freeze w ⟨g,0,none⟩ _ rfl⟩)
set_option maxHeartbeats 2000000 in
def qtg(L:Lays.n169 P ρ)(X:Builder.Extra P ρ)(b:Nat)(p:Value)(w:World)(a:w.heap[b]? = some (.cells #[p,.slice none 0 0] (ρ.t 72) (0,0))) :
  Calls P (ρ.f 169) #[.pointer (some ⟨b,0,none⟩)] w fun e w'=>e = .returned (.string ⟨#[]⟩)/\cg (fun _=>False) w w':=by
 have n:=Any.unsafeString_none L X;have c1:w.drew.cell? ⟨b,1,none⟩=some (.slice none 0 0):=by
  have:w.drew.heap[b]? = some (.cells #[p,.slice none 0 0] (ρ.t 72) (0,0)):=a;rw[Lib.cell_of_heap this];rfl
 have m:(Builtin.unsafeSliceData_ #[(ρ.t 37)] (ρ.t 127) #[.slice none 0 0]).run P w.drew = .ok (.pointer none) w.drew:=rfl;have c:=L.mixed;have r:=L.t72;have l:=L.a72;have B:=L.z72;have y:=L.v72;have u:=run_underlying L.t72;have q:=L.t70;have k:=L.a70;have A:=L.z70;have x:=L.v70;have t:=run_underlying L.t70;have o:=L.t37;have j:=L.a37;have z:=L.z37;have v:=L.v37;have s:=run_underlying L.t37;have f:=L.t127;have d:=L.a127;have i:=L.z127;have h:=L.v127;have g:=run_underlying L.t127;have G:=L.t3;have C:=L.a3;have R:=L.z3;have N:=L.v3;have J:=run_underlying L.t3;have I:=L.t9;have F:=L.a9;have T:=L.z9;have Q:=L.v9;have M:=run_underlying L.t9;have H:=X.t5;have E:=X.a5;have S:=X.z5;have O:=X.v5;have K:=run_underlying X.t5
 go_enter L.f169,Body.n169_ntmps ρ
 go_wp2
 go_region_o
 all_goals (go_wp2;go_ret;exact⟨rfl,cg.drew _ w⟩)
set_option maxHeartbeats 2000000 in
def qth(L:Lays.n169 P ρ)(X:Builder.Extra P ρ)(b g:Nat)(p:Value)(a:Array Value)(w:World)(c:w.heap[b]? = some (.cells #[p,.slice (some ⟨g,0,none⟩) 0 0] (ρ.t 72) (0,0)))(j:Nat×Nat)(u:w.heap[g]? = some (.cells a (ρ.t 5) j)) :
  Calls P (ρ.f 169) #[.pointer (some ⟨b,0,none⟩)] w fun e w'=>e = .returned (.string ⟨#[]⟩)/\cg (fun _=>False) w w':=by
 have t:=Any.unsafeString_none L X;have f:b<w.heap.size:=by
  rcases Nat.lt_or_ge b w.heap.size with h'|h'
  ·exact h'
  ·simp[Array.getElem?_eq_none h']at c
 have c1:w.drew.cell? ⟨b,1,none⟩=some (.slice (some ⟨g,0,none⟩) 0 0):=by
  have:w.drew.heap[b]? = some (.cells #[p,.slice (some ⟨g,0,none⟩) 0 0] (ρ.t 72) (0,0)):=c;rw[Lib.cell_of_heap this];rfl
 have s:(Builtin.unsafeSliceData_ #[(ρ.t 37)] (ρ.t 127) #[.slice (some ⟨g,0,none⟩) 0 0]).run P w.drew = .ok (.pointer (some ⟨w.drew.heap.size,0,none⟩)) (w.drew.alloc (.view ⟨g,0,none⟩ (ρ.t 5))):=
  Lib.run_unsafeSliceData_zero w.drew _ _ (ρ.t 5) L.t127 ⟨g,0,none⟩ 0 ((ρ.t 5),a.size) (by have d:w.drew.heap[g]? = some (.cells a (ρ.t 5) j):=u;simp[World.shape?,d])
 have c2:(w.drew.alloc (.view ⟨g,0,none⟩ (ρ.t 5))).cell? ⟨b,1,none⟩=some (.slice (some ⟨g,0,none⟩) 0 0):=by
  have:(w.drew.alloc (.view ⟨g,0,none⟩ (ρ.t 5))).heap[b]? = _:=(Lib.alloc_old w.drew _ b f).trans c;rw[Lib.cell_of_heap this];rfl
 have c3:(w.alloc (.view ⟨g,0,none⟩ (ρ.t 5))).drew.cell? ⟨b,1,none⟩=some (.slice (some ⟨g,0,none⟩) 0 0):=c2;have c0:w.cell? ⟨b,1,none⟩=some (.slice (some ⟨g,0,none⟩) 0 0):=c1;have h:=L.mixed;have y:=L.t72;have r:=L.a72;have I:=L.z72;have F:=L.v72;have B:=run_underlying L.t72;have x:=L.t70;have q:=L.a70;have H:=L.z70;have E:=L.v70;have A:=run_underlying L.t70;have v:=L.t37;have o:=L.a37;have G:=L.z37;have C:=L.v37;have z:=run_underlying L.t37;have k:=L.t127;have i:=L.a127;have n:=L.z127;have m:=L.v127;have l:=run_underlying L.t127;have N:=L.t3;have J:=L.a3;have Y:=L.z3;have U:=L.v3;have R:=run_underlying L.t3;have Q:=L.t9;have M:=L.a9;have z9:=L.z9;have W:=L.v9;have T:=run_underlying L.t9;have O:=X.t5;have K:=X.a5;have Z:=X.z5;have V:=X.v5;have S:=run_underlying X.t5
 go_enter L.f169,Body.n169_ntmps ρ
 go_wp2
 go_region_o
 all_goals (go_wp2;go_ret;exact⟨rfl,cg.drew_alloc _ w _⟩)
set_option maxHeartbeats 2000000 in
def qti(L:Lays.n169 P ρ)(X:Builder.Extra P ρ)(b g a:Nat)(p:Value)(w:World)(c:a≠0)(d:w.heap[b]? = some (.cells #[p,.slice (some ⟨g,0,none⟩) 0 a] (ρ.t 72) (0,0))) :
  Calls P (ρ.f 169) #[.pointer (some ⟨b,0,none⟩)] w fun e w'=>e = .returned (.string ⟨#[]⟩)/\cg (fun _=>False) w w':=by
 have r:=Any.unsafeString_none L X;have c1:w.drew.cell? ⟨b,1,none⟩=some (.slice (some ⟨g,0,none⟩) 0 a):=by
  have:w.drew.heap[b]? = some (.cells #[p,.slice (some ⟨g,0,none⟩) 0 a] (ρ.t 72) (0,0)):=d;rw[Lib.cell_of_heap this];rfl
 have q:(Builtin.unsafeSliceData_ #[(ρ.t 37)] (ρ.t 127) #[.slice (some ⟨g,0,none⟩) 0 a]).run P w.drew = .ok (.pointer (some ⟨g,0,none⟩)) w.drew:=
  Lib.run_unsafeSliceData_row _ _ _ _ _ _ c
 clear c;have f:=L.mixed;have u:=L.t72;have o:=L.a72;have F:=L.z72;have B:=L.v72;have y:=run_underlying L.t72;have t:=L.t70;have n:=L.a70;have E:=L.z70;have A:=L.v70;have x:=run_underlying L.t70;have s:=L.t37;have m:=L.a37;have C:=L.z37;have z:=L.v37;have v:=run_underlying L.t37;have i:=L.t127;have h:=L.a127;have l:=L.z127;have k:=L.v127;have j:=run_underlying L.t127;have J:=L.t3;have G:=L.a3;have U:=L.z3;have R:=L.v3;have N:=run_underlying L.t3;have M:=L.t9;have I:=L.a9;have W:=L.z9;have T:=L.v9;have Q:=run_underlying L.t9;have K:=X.t5;have H:=X.a5;have V:=X.z5;have S:=X.v5;have O:=run_underlying X.t5
 go_enter L.f169,Body.n169_ntmps ρ
 go_wp2
 go_region_o
 all_goals (go_wp2;go_ret;exact⟨rfl,cg.drew _ w⟩)
end
open Go.Proofs.Tryz
variable[LC]
def qi9{q:Nat}(w:World)(n:Nat)(v:Value):cg (fun k=>k=q) w (w.setCell ⟨q,n,none⟩ v):=
 ⟨rfl,rfl,rfl,by simp[World.setCell],fun k b a=>by simp only[World.setCell,Array.getElem?_modify];rw[qW (fun e=>a e.symm)]⟩
def cg.mono{S a:Nat->Prop}{w w':World}(h:cg S w w')(b:∀k,S k->a k):cg a w w':=⟨h.os,h.tape,h.output,h.size,fun k c d=>h.block k c fun q=>d (b k q)⟩
def Fin.same{q7z w:World}{q7t G:Gh}{q7w hp hp':List (Nat×ai)}(a:Fin q7z q7t q7w G hp' w)(h:∀n,af hp n=af hp' n):Fin q7z q7t q7w G hp w:=
 ⟨⟨a.mem.agree,a.mem.one,fun n bx d=>a.mem.holds n bx (by rw[← h];exact d),fun n m bx c b e f=>a.mem.apart n m bx c b (by rw[← h];exact e) (by rw[← h];exact f),a.mem.tab⟩,
  a.bel,a.imm_le,a.imm_new,fun n bx b d=>a.base n bx b (by rw[← h];exact d),a.keep,a.keepOwn⟩
abbrev JU:List (Nat×bt):=[(0,.cells [.pn 0,.own 1] 60),(1,.row .byte 5)]
def Kf:IF:=⟨.fn 62,[.ptr 0 0],JU,_,RS.mk (.tup []) JU⟩
def JT:IF:=⟨.fn 26,[.ptr 0 0],JU,_,RS.mk (.h .str) []⟩
abbrev DP(l:Bs):List (Nat×ai):=[(0,.cells [.pn 0,.own 1] 60),(1,.row .byte l 5)]
def PZ{G:Gh}{w:World}{l:Bs}{vs:List Value}(j:cm G (DP l) w)(s:ap [AV.ptr 0 0] G vs) :
  ∃B p ad c,vs=[.pointer (some ⟨B,0,none⟩)]/\G.box 0=some B/\G.own 1=some (ad,l.length,c)/\(p = .pointer none\/p = .pointer (some ⟨B,0,none⟩)) /\
   w.heap[B]? = some (.cells #[p,.slice ad l.length c] 60 (0,0))/\(∀o,G.imm B o=none):=by
 match vs,s with
 |[v],⟨⟨B,f,r⟩,_⟩=>
  obtain⟨B',e,b,g,t,_,u⟩:=j.holds 0 _ rfl;rw[f]at b;injection b with b;subst b
  match e,g,t with
  |⟨[]⟩,_,h=>exact h.elim|⟨[_]⟩,_,h=>exact h.2.elim|⟨_::_::_::_⟩,_,h=>exact h.2.2.elim|⟨[p,x]⟩,g,⟨⟨B2,d,y⟩,⟨a,n,c,i,z⟩,_⟩=>
   rw[f]at d;injection d with d;subst d
   obtain⟨m,q,k,_⟩:=j.holds 1 _ rfl;rw[k]at i;simp only[qI,qP]at i;obtain⟨rfl,rfl,rfl⟩:=i;subst z r;exact⟨B,p,m,q,rfl,f,k,y,g,u⟩
def Qq:(Kf.e zd).Sound Tryz.prog:=fun d k r h=>by
 obtain⟨u,l,_⟩:=k;have h:zd l=some r:=h;have h:=qJ h;subst h;refine⟨call62,?_⟩;show cz _ _ [.ptr 0 0] (DP l) (.tup []) (DP l);intro w G x f s;obtain⟨B,p,g,c,rfl,b,m,o,a,i⟩:=PZ f s;rcases o with rfl|rfl
 ·refine(Any.Builder_copyCheck_fresh { Tryz.lays165 with } ToValid.bx.toX72 B w (by rw[Lib.cell_of_heap a];rfl) (by have q:w.shape? B=some (60,2):=by{ simp[World.shape?,a] };exact q) (Lib.frozen_of_heap a 0)).mono ?_
  rintro e t ⟨rfl,rfl⟩
  refine⟨_,G,rfl,?_,#[],rfl,trivial⟩;refine((z6 f).update (n:=0) (bx := .cells [.pn 0,.own 1] 60) (bx' := .cells [.pn 0,.own 1] 60) (B:=B) rfl b b (qi9 w 0 _) ?_ i).same (fun n => ?_)
  ·exact⟨B,#[.pointer (some ⟨B,0,none⟩),.slice g l.length c],b,by simp[World.setCell,Array.getElem?_modify,a];rfl,⟨⟨B,b,.inr rfl⟩,⟨g,l.length,c,m,rfl⟩,trivial⟩,by intro v j;simp at j;rcases j with rfl|rfl<;>rfl,i⟩
  ·cases n<;>rfl
 ·refine(Any.Builder_copyCheck_used { Tryz.lays165 with } ToValid.bx.toX72 B w (by rw[Lib.cell_of_heap a];rfl)).mono ?_
  rintro e t ⟨rfl,rfl⟩
  exact⟨_,G,rfl,z6 f,#[],rfl,trivial⟩
def PT:(JT.e fT).Sound Tryz.prog:=fun d A r h=>by
 obtain⟨J,l,_⟩:=A;have h:fT l=some r:=h;have h:=qJ h;subst h;refine⟨call26,cz.gone fun w G N j C => ?_⟩
 have j:cm G (DP l) w:=j;obtain⟨B,p,H,c,rfl,K,y,L,i,M⟩:=PZ j C;obtain⟨F,I,s,E⟩:=j.holds 1 _ rfl;rw[y]at s;simp only[qI,qP]at s;obtain⟨rfl,-,rfl⟩:=s;rcases E with⟨rfl,rfl,rfl⟩|⟨g,u,v,rfl,z,_,o,m,n,f,_,_⟩
 ·refine(qtg Tryz.lays169 ToValid.bx B p w i).mono ?_;rintro e t ⟨rfl,a⟩
  exact⟨_,rfl,rfl,a.mono fun _ q=>q.elim⟩
 ·by_cases x:l=[]
  ·subst x;by_cases b:c=0
   ·subst b;refine(qth Tryz.lays169 ToValid.bx B g p u w i v z).mono ?_;rintro e t ⟨rfl,a⟩
    exact⟨_,rfl,rfl,a.mono fun _ q=>q.elim⟩
   ·refine(qti Tryz.lays169 ToValid.bx B g c p w b i).mono ?_;rintro e t ⟨rfl,a⟩
    exact⟨_,rfl,rfl,a.mono fun _ q=>q.elim⟩
  ·refine(qtf Tryz.lays169 ToValid.bx B p l g c w i u v z o m n (Qa f) x).mono ?_;rintro e t ⟨rfl,a⟩
   refine⟨_,rfl,rfl,a.mono fun k q => ?_⟩
   subst q;exact⟨1,.row .byte l 5,rfl,by simp only[Gh.at,y]⟩
end Go.Sym
namespace Go.Sym
open Go.Proofs Go.RowKit
open Go.Proofs.Tryz
variable[LC]
def PK:Builder.Extra Tryz.prog Tryz.lays156_ren:=PJ
def qnx{G:Gh}{w:World}(A:cm G [] w){l:List Bs}{u:Value}(a:Bs)(E:ak (.sl .str l) G u)(v:l.length<=140737488355328)(y:(Lib.join l a).length<=140737488355328) :
  Calls Tryz.prog 113 #[u,.string ⟨a.toArray⟩] w fun e w'=>e = .returned (.string ⟨(Lib.join l a).toArray⟩)/\du w w':=by
 obtain⟨p,c,rfl,z,B⟩:qj 1 (Ty.str.At G.imm) l u:=E;by_cases k:l=[]
 ·subst k;exact(Any.strings_Join_none Tryz.lays156 PK p c ⟨a.toArray⟩ w).mono fun e w'⟨i,n⟩=>⟨i,n▸du.refl _⟩
 ·rcases B with h|⟨g,o,rfl,b⟩
  ·exact absurd h k
  have e:(l.map fun s:Bs=>(⟨s.toArray⟩:ByteArray)).map (·.data.toList)=l:=by
   rw[List.map_map];exact(List.map_congr_left fun s _=>rfl).trans (List.map_id l)
  have d:∀(j:Nat) x,(l.map fun s:Bs=>(⟨s.toArray⟩:ByteArray))[j]? = some x->w.cell? ⟨g,o+j,none⟩=some (.string x):=fun j x r=>by
   rw[List.getElem?_map]at r;obtain⟨s,C,rfl⟩:=Option.map_eq_some_iff.1 r;have q:G.imm g (o+j*1)=some (.string ⟨s.toArray⟩):=b j s C;rw[Nat.mul_one]at q;exact A.agree _ _ _ q
  have m:g<w.heap.size:=by
   obtain⟨x,t,rfl⟩:=List.exists_cons_of_ne_nil k;exact World.block_lt_of_cell? _ _ (d 0 ⟨x.toArray⟩ rfl)
  have f:=Any.strings_Join Tryz.lays156 PK g o c (l.map fun s:Bs=>(⟨s.toArray⟩:ByteArray)) ⟨a.toArray⟩ w d m (by rw[wC];exact v) (by rw[wC];exact z) (by rw[e];exact y)
  rw[e,wC]at f;exact f.mono fun e w'⟨i,n⟩=>⟨i,du.of_below n⟩
def oK:IF:=⟨.fn 113,[.h (.list .str),.h .str],[],_,RS.mk (.h .str) []⟩
def Ar:(oK.e im).Sound Tryz.prog:=fun d o r h=>by
 obtain⟨l,s,_⟩:=d;have h:im l s=some r:=h;unfold im at h;cases b:decide (List.length (α:=Bs) l<=140737488355328/\List.length (Lib.join l s)<=140737488355328)<;>rw[b]at h<;>simp only[qT,qF,reduceCtorEq]at h
 have h:=qJ h;subst h;obtain⟨c,f⟩:=of_decide_eq_true b;refine⟨call113,cz.data fun w G n j k => ?_⟩
 match n,k with
 |[u,v],⟨g,a,_⟩=>
  have a:v = .string ⟨s.toArray⟩:=a;subst a;exact(qnx j s g c f).mono fun e p⟨i,m⟩=>⟨_,i,rfl,m⟩
def szl(a:Bs)(h:a.length<4294967281):(⟨a.toArray⟩:ByteArray).size<4294967281:=by rw[nd];exact h
def Mr:IF:=⟨.fn 179,[.h .str,.h .str],[],_,RS.mk (.h (.int .i64)) []⟩
def qbq(m:2∈LC.ints):(Mr.e qf).Sound Tryz.prog:=fun d q r h=>by
 obtain⟨a,b,_⟩:=d;have h:qf a b=some r:=h;unfold qf at h;cases c:decide (List.length (α:=UInt8) a<4294967281)<;>rw[c]at h<;>simp only[qT,qF,reduceCtorEq]at h
 have h:=qJ h;subst h;have c:=of_decide_eq_true c;refine⟨call179,cz.data fun w G p j n => ?_⟩
 match p,n with
 |[u,v],⟨f,g,_⟩=>
  have f:u = .string ⟨a.toArray⟩:=f;have g:v = .string ⟨b.toArray⟩:=g;subst f g;obtain⟨k,i⟩:=j.tab.2.1 _ m;have i:=j.agree _ _ _ i;exact(Any.stringslite_Index Tryz.lays219 ⟨a.toArray⟩ ⟨b.toArray⟩ k w (szl a c) i).mono fun e s⟨l,o⟩=>⟨_,l,rfl,o▸du.refl _⟩
def qlb(s:Bs):Lib.decodeGo ⟨s.toArray⟩=nO s:=by
 unfold Lib.decodeGo nO
 cases s with|nil=>rfl|cons c s=>rw[qW (by simp[ByteArray.size]),qW Td,← Lib.decodeL_drop];rfl
def qlc{G:Gh}{w:World}(i:cm G [] w){a:List UInt8}{b:List TZ}(f:LC.glob 0=some ⟨.byte,a⟩)(g:LC.glob 1=some ⟨.prod .byte .byte,b⟩)(c:nG a=true)(d:nH b=true)(s:Bs) :
  Calls Tryz.prog 207 #[.string ⟨s.toArray⟩] w fun e w'=>e = .returned (.tuple #[.int .i32 (nO s).1,.int .i64 (nO s).2])/\du w w':=by
 have k:=ToValid.decC ⟨s.toArray⟩ w (qc4 i f g c d);rw[qlb]at k;exact k.mono fun e w'⟨h,j⟩=>⟨h,du.of_below j⟩
def nP:IF:=⟨.fn 207,[.h .str],[],_,RS.mk (.tup [.h (.int .i32),.h (.int .i64)]) []⟩
def zO{b:List UInt8}{c:List TZ}(i:LC.glob 0=some ⟨.byte,b⟩)(j:LC.glob 1=some ⟨.prod .byte .byte,c⟩)(f:nG b=true)(g:nH c=true):(nP.e ox).Sound Tryz.prog:=fun d p r h=>by
 obtain⟨s,_⟩:=d;have h:ox s=some r:=h;unfold ox at h;have h:=qJ h;subst h;refine⟨call207,cz.data fun w G o l m => ?_⟩
 match o,m with
 |[u],⟨a,_⟩=>
  have a:u = .string ⟨s.toArray⟩:=a;subst a;exact(qlc l i j f g s).mono fun e q⟨k,n⟩=>⟨_,k,⟨_,rfl,rfl,rfl,trivial⟩,n⟩
end Go.Sym
namespace Go.Sym
open Go.Proofs Go.RowKit Go.Sort
open Go.Proofs.Tryz
variable[LC]
def JH:IF:=⟨.fn 151,[.h .str],[],_,.two (RS.mk (.tup [.h (.int .i64),.c .nilIface]) []) (RS.mk (.tup [.h (.int .i64),.ifc 270 .u]) [])⟩
def PE(q:4∈LC.ifs)(x:5∈LC.ifs):(JH.e y8).Sound Tryz.prog:=fun d C r h=>by
 obtain⟨s,_⟩:=d;have h:y8 s=some r:=h;unfold y8 at h;cases o:decide (List.length (α:=UInt8) s<=281474976710656)<;>rw[o]at h<;>simp only[qT,qF,reduceCtorEq]at h
 have E:List.length (α:=UInt8) s<=281474976710656:=of_decide_eq_true o;have h:=qJ h;subst h;have z:(⟨List.toArray (α:=UInt8) s⟩:ByteArray).size=List.length (α:=UInt8) s:=nd s;have b:(⟨List.toArray (α:=UInt8) s⟩:ByteArray).data.toList=s:=by simp;rfl
 cases c:Lib.atoiAll s with
 |ok v=>
  have g:zz s = .inl v:=by unfold zz;rw[c]
  rw[g];refine⟨call151,cz.data fun w G m f k => ?_⟩
  match m,k with
  |[u],⟨a,_⟩=>
   have a:u = .string ⟨List.toArray s⟩:=a;subst a;refine(Any.strconv_Atoi_ok Tryz.laysC172 ⟨List.toArray (α:=UInt8) s⟩ Ta v (by rw[b];exact c) w).mono fun e p⟨i,l⟩=>⟨_,i,⟨_,rfl,rfl,rfl,trivial⟩,?_⟩
   rcases l with rfl|⟨t,rfl⟩
   ·exact du.refl _
   ·refine⟨rfl,rfl,rfl,?_,fun j y _ => ?_⟩
    ·simp[Lib.bytesWorld,World.freeze]
    ·show((w.heap.push _).modify w.heap.size _)[j]? = _;rw[Array.getElem?_modify,qW Ta,Array.getElem?_push_lt Ta]
     exact(Array.getElem?_eq_getElem y).symm
 |range=>
  have g:zz s = .inr (Lib.atoiSat s):=by unfold zz;rw[c]
  rw[g];refine⟨call151,cz.data fun w G m f k => ?_⟩
  match m,k with
  |[u],⟨a,_⟩=>
   have a:u = .string ⟨List.toArray s⟩:=a;subst a;obtain⟨B,A,n⟩:=f.tab.2.2.1 _ x;exact(Any.strconv_Atoi_range Tryz.laysC172 ⟨List.toArray (α:=UInt8) s⟩ Ta (by rw[b];exact c) _ w (f.agree _ _ _ n) (.inr ⟨_,_,rfl⟩)).mono fun e p⟨N,i,_,_,l⟩=>⟨_,i,⟨_,rfl,by rw[b];rfl,⟨_,rfl,trivial⟩,trivial⟩,du.of_below l⟩
 |_=>
  have g:zz s = .inr 0:=by unfold zz;rw[c]
  rw[g];refine⟨call151,cz.data fun w G m f k => ?_⟩
  match m,k with
  |[u],⟨a,_⟩=>
   have a:u = .string ⟨List.toArray s⟩:=a;subst a;obtain⟨B,A,n⟩:=f.tab.2.2.1 _ q;exact(Any.strconv_Atoi_syntax Tryz.laysC172 ⟨List.toArray (α:=UInt8) s⟩ Ta (by rw[b];exact c) _ w (f.agree _ _ _ n) (.inr ⟨_,_,rfl⟩)).mono fun e p⟨N,i,_,_,l⟩=>⟨_,i,⟨_,rfl,rfl,⟨_,rfl,trivial⟩,trivial⟩,du.of_below l⟩
end Go.Sym
namespace Go.Proofs
open Go.Sym(Tc)
open Go.Shelf
def Tryz.lays189_ren:Go.Shelf.Ren:=⟨fun|189=>82|125=>145|257=>144|128=>204|129=>205|294=>196|295=>197|296=>198|297=>199|298=>200|299=>201|216=>158|300=>202|301=>203|328=>247|329=>248|330=>249|331=>250|332=>251|215=>215|343=>298|n=>n,fun|28=>33|3=>3|46=>173|0=>0|51=>207|53=>129|4=>4|183=>236|182=>235|131=>140|5=>5|9=>9|218=>261|222=>265|228=>309|229=>126|n=>n,fun|n=>n⟩
def Tryz.lays189:Go.Proofs.Lays.n189 Tryz.prog Tryz.lays189_ren:={
 mixed:=Tc
 f125:=Tryz.func145.trans (congrArg some Tc)
 f128:=Tryz.func204.trans (congrArg some Tc)
 f129:=Tryz.func205.trans (congrArg some Tc)
 f189:=Tryz.func82.trans (congrArg some Tc)
 f215:=Tryz.func215.trans (congrArg some Tc)
 f216:=Tryz.func158.trans (congrArg some Tc)
 f257:=Tryz.func144.trans (congrArg some Tc)
 f294:=Tryz.func196.trans (congrArg some Tc)
 f295:=Tryz.func197.trans (congrArg some Tc)
 f296:=Tryz.func198.trans (congrArg some Tc)
 f297:=Tryz.func199.trans (congrArg some Tc)
 f298:=Tryz.func200.trans (congrArg some Tc)
 f299:=Tryz.func201.trans (congrArg some Tc)
 f300:=Tryz.func202.trans (congrArg some Tc)
 f301:=Tryz.func203.trans (congrArg some Tc)
 f328:=Tryz.func247.trans (congrArg some Tc)
 f329:=Tryz.func248.trans (congrArg some Tc)
 f330:=Tryz.func249.trans (congrArg some Tc)
 f331:=Tryz.func250.trans (congrArg some Tc)
 f332:=Tryz.func251.trans (congrArg some Tc)
 f343:=Tryz.func298.trans (congrArg some Tc)
 t0:=Tryz.underlying0
 a0:=Tryz.isAgg0
 z0:=Tryz.sizeOf0
 v0:=Tryz.zeroValue0
 t3:=Tryz.underlying3
 a3:=Tryz.isAgg3
 z3:=Tryz.sizeOf3
 v3:=Tryz.zeroValue3
 t4:=Tryz.underlying4
 a4:=Tryz.isAgg4
 z4:=Tryz.sizeOf4
 v4:=Tryz.zeroValue4
 t5:=Tryz.underlying5
 a5:=Tryz.isAgg5
 z5:=Tryz.sizeOf5
 v5:=Tryz.zeroValue5
 t9:=Tryz.underlying9
 a9:=Tryz.isAgg9
 z9:=Tryz.sizeOf9
 v9:=Tryz.zeroValue9
 t28:=Tryz.underlying33
 a28:=Tryz.isAgg33
 z28:=Tryz.sizeOf33
 v28:=Tryz.zeroValue33
 t46:=Tryz.underlying173
 a46:=Tryz.isAgg173
 z46:=Tryz.sizeOf173
 v46:=Tryz.zeroValue173
 t51:=Tryz.underlying207
 a51:=Tryz.isAgg207
 z51:=Tryz.sizeOf207
 v51:=Tryz.zeroValue207
 t53:=Tryz.underlying129
 a53:=Tryz.isAgg129
 z53:=Tryz.sizeOf129
 v53:=Tryz.zeroValue129
 t131:=Tryz.underlying140
 a131:=Tryz.isAgg140
 z131:=Tryz.sizeOf140
 v131:=Tryz.zeroValue140
 t182:=Tryz.underlying235
 a182:=Tryz.isAgg235
 z182:=Tryz.sizeOf235
 v182:=Tryz.zeroValue235
 t183:=Tryz.underlying236
 a183:=Tryz.isAgg236
 z183:=Tryz.sizeOf236
 v183:=Tryz.zeroValue236
 t218:=Tryz.underlying261
 a218:=Tryz.isAgg261
 z218:=Tryz.sizeOf261
 v218:=Tryz.zeroValue261
 t222:=Tryz.underlying265
 a222:=Tryz.isAgg265
 z222:=Tryz.sizeOf265
 v222:=Tryz.zeroValue265
 t228:=Tryz.underlying309
 a228:=Tryz.isAgg309
 z228:=Tryz.sizeOf309
 v228:=Tryz.zeroValue309
 t229:=Tryz.underlying126
 a229:=Tryz.isAgg126
 z229:=Tryz.sizeOf126
 v229:=Tryz.zeroValue126 }
def Tryz.laysNm220_ren:Go.Shelf.Ren:=⟨fun|20=>103|n=>n,fun|22=>33|3=>3|4=>4|0=>0|n=>n,fun|n=>n⟩
def Tryz.laysNm220:Go.Proofs.Lays2.n20 Tryz.prog Tryz.laysNm220_ren:={
 mixed:=Tc
 f20:=Tryz.func103.trans (congrArg some Tc)
 t0:=Tryz.underlying0
 a0:=Tryz.isAgg0
 z0:=Tryz.sizeOf0
 v0:=Tryz.zeroValue0
 t3:=Tryz.underlying3
 a3:=Tryz.isAgg3
 z3:=Tryz.sizeOf3
 v3:=Tryz.zeroValue3
 t4:=Tryz.underlying4
 a4:=Tryz.isAgg4
 z4:=Tryz.sizeOf4
 v4:=Tryz.zeroValue4
 t22:=Tryz.underlying33
 a22:=Tryz.isAgg33
 z22:=Tryz.sizeOf33
 v22:=Tryz.zeroValue33
 i3:=by kernel_rfl }
end Go.Proofs
namespace Go.Sym
open Go.RowKit
def dj.cv{L c:LC}(h:LC.Same L c){G:Gh}{w:World}{n:Nat}{bx:ai}(k:@dj L G w n bx):@dj c G w n bx:=by
 cases bx with
 |loop s q f m p r o D=>
  obtain⟨B,a,DB,e,g,⟨b,d,i,j⟩,l⟩:=k;exact⟨B,a,DB,e,g,⟨b,d,by rw[h.lc];exact i,j⟩,l⟩
 |_=>exact k
def LC.tab_cv{L a:LC}(h:LC.Same L a){m:Nat->Nat->Option Value}{w:World}(k:@LC.tab L m w):@LC.tab a m w:=by
 unfold LC.tab at k ⊢;rw[h.glob,h.ints,h.ifs,h.sizes];exact k
def cm.cv{L a:LC}(h:LC.Same L a){G:Gh}{hp:List (Nat×ai)}{w:World}(k:@cm L G hp w):@cm a G hp w:=
 @cm.mk a _ _ _ (@cm.agree L _ _ _ k) (@cm.one L _ _ _ k) (fun n bx b=>dj.cv h (@cm.holds L _ _ _ k n bx b)) (@cm.apart L _ _ _ k) (LC.tab_cv h (@cm.tab L _ _ _ k))
def Fin.cv{L a:LC}(h:LC.Same L a){q7z:World}{q7t:Gh}{q7w:List (Nat×ai)}{G:Gh}{hp:List (Nat×ai)}{w:World}(k:@Fin L q7z q7t q7w G hp w):@Fin a q7z q7t q7w G hp w:=
 @Fin.mk a _ _ _ _ _ _ (cm.cv h (@Fin.mem L _ _ _ _ _ _ k)) (@Fin.bel L _ _ _ _ _ _ k) (@Fin.imm_le L _ _ _ _ _ _ k) (@Fin.imm_new L _ _ _ _ _ _ k) (@Fin.base L _ _ _ _ _ _ k) (@Fin.keep L _ _ _ _ _ _ k) (@Fin.keepOwn L _ _ _ _ _ _ k)
def LC.Same.symm{L a:LC}(h:LC.Same L a):LC.Same a L:=⟨h.lc.symm,h.glob.symm,h.ints.symm,h.ifs.symm,h.sizes.symm⟩
def nt.cv{L a:LC}(h:LC.Same L a){q7z:World}{q7t:Gh}{q7w:List (Nat×ai)}{r:AV}{hp:List (Nat×ai)}{e:Ending}{w:World}(k:@nt L q7z q7t q7w r hp e w):@nt a q7z q7t q7w r hp e w:=by
 obtain⟨v,G,b,c,d⟩:=k;exact⟨v,G,b,Fin.cv h c,d⟩
def cz.cv{L a:LC}(h:LC.Same L a){P:Program}{f:FuncId}{xs:List AV}{hp:List (Nat×ai)}{r:AV}{hp':List (Nat×ai)}(k:@cz L P f xs hp r hp'):@cz a P f xs hp r hp':=
 fun w G d b c=>(k w G d (cm.cv h.symm b) c).mono fun _ _ q=>nt.cv h q
def cu.Sound.cv{L n:LC}(h:LC.Same L n){P:Program}{e:cu}(k:@cu.Sound L P e):@cu.Sound n P e:=by
 intro d p r z;have:=k d p r z
 cases j:e.key with
 |fn f=>rw[j]at this;exact⟨this.1,cz.cv h this.2⟩|yld m=>
  rw[j]at this;intro w G i B g a y;obtain⟨lp,q,b⟩:=this w G i B (cm.cv h.symm g) a y;exact⟨lp,q,fun c o=>by
   obtain⟨s,v,E,t,u⟩:=b c o;exact⟨s,v,E,nt.cv h t,u⟩⟩
 |ext f=>rw[j]at this;exact fun w G i g a=>this w G i (cm.cv h.symm g) a
 |thr f F=>
  rw[j]at this;refine⟨this.1,?_⟩;have b:=this.2
  cases g:n9 (e.out.res r).1 with
  |none=>rw[g]at b;exact cz.cv h b|some x=>
   rw[g]at b;exact fun w G i l a=>(b w G i (cm.cv h.symm l) a).mono fun _ _⟨A,G',C⟩=>⟨A,G',Fin.cv h C⟩
def EP.cv{L a:LC}{P:Program}(x:@EP L P)(h:LC.Same L a:=by exact⟨rfl,rfl,rfl,rfl,rfl⟩):@EP a P:=@EP.mk a P (@EP.e L P x) (cu.Sound.cv h (@EP.h L P x))
end Go.Sym
namespace Go.Proofs
open Go.Shelf
open Go.Sort Go.RowKit in
def Tryz.slices_Sort_int(a b c:Nat)(f:List Int)(w:World)(h:Holds (Value.int .i64) w a b f.toArray)(d:a<w.heap.size)(g:f.length<4611686018427387904) :
  Calls Tryz.prog 82 #[.slice (some ⟨a,b,none⟩) f.length c] w fun e w'=>
   e = .returned (.tuple #[])/\∃n i,w'=grow (putRow (Value.int .i64) (Sort.ahead w n) a b (f.mergeSort fun x y=>decide (x<=y)).toArray) i:=Any.slices_Sort_int Tryz.lays189 a b c f w h d g
def Tryz.slices_Sort_int_none(p:Option Addr)(a:Nat)(w:World) :
  Calls Tryz.prog 82 #[.slice p 0 a] w fun e w'=>e = .returned (.tuple #[])/\w'=w:=Any.slices_Sort_int_none Tryz.lays189 p a w
open Go.RowKit Go.Lib Go.Sort in
def Tryz.slices_Compact_int(a b c:Nat)(d:List Int)(w:World)(h:Holds (Value.int .i64) w a b d.toArray)(g:d.length<=9223372036854775807)(f:d.length<=c) :
  Calls Tryz.prog 103 #[.slice (some ⟨a,b,none⟩) d.length c] w fun e w'=>e = .returned (.slice (some ⟨a,b,none⟩) (Lib.compact d).length c)/\∃q,w'=putRow (Value.int .i64) (Sort.ahead w q) a b (Lib.compact d++List.replicate (d.length-(Lib.compact d).length) 0).toArray:=Any.slices_Compact_int Tryz.laysNm220 a b c d w h g f
open Go.RowKit Go.Lib Go.Sort in
def Tryz.slices_Compact_int_empty(a:Option Addr)(b:Nat)(w:World) :
  Calls Tryz.prog 103 #[.slice a 0 b] w fun e w'=>e = .returned (.slice a 0 b)/\w'=w:=Any.slices_Compact_int_empty Tryz.laysNm220 a b w
end Go.Proofs
namespace Go.Sym
open Go.Proofs Go.Sort Go.RowKit
open Go.Proofs.Tryz
variable[LC]
def cz.inPlace{P:Program}{f:FuncId}{τ:Ty}{l l':List τ.den}{E:TypeId}(O:l'.length=l.length)(h:∀(w:World)(G:Gh)(ad:Option Addr)(c:Nat)(us:List Value),ke w E τ.sz ad l.length c us->ap (l.flatMap τ.enc) G.data us ->
  Calls P f #[.slice ad l.length c] w fun e w'=>e = .returned (.tuple #[])/\∃z,ke w' E τ.sz ad l.length c z/\ap (l'.flatMap τ.enc) G.data z/\cg (fun b=>ei ad=some b) w w') :
  cz P f [.own 0] [(0,.row τ l E)] (.tup []) [(0,.row τ l' E)]:=by
 intro w G W F d;have S:af [(0,ai.row τ l E)] 0=some (.row τ l E):=rfl;obtain⟨ad,c,us,q,C,I,Q⟩:=(F.holds 0 _ S).rowAt
 match W,d with
 |[v],d=>
  obtain⟨⟨X,Z,Y,N,rfl⟩,_⟩:=d;rw[q]at N;simp only[qI,qP]at N;obtain⟨rfl,rfl,rfl⟩:=N;refine(h w G ad c us C I).mono ?_;rintro e w' ⟨rfl,z,U,V,s⟩
  refine⟨_,G,rfl,?_,#[],rfl,trivial⟩;have r:=z6 F;have y:dj G w' 0 (.row τ l' E):=dj.row (by rw[O];exact q) (by rw[O];exact U) V (fun b x=>Q b x)
  cases p:ei ad with
  |none=>
   have A:du w w':=⟨s.os,s.tape,s.output,s.size,fun k J _=>s.block k J (fun e=>by rw[p]at e;cases e)⟩
   have g:=r.extend (new:=[]) (Gh.le.refl G) A (fun _ _ _ h => .inl h) (fun b o v T=>by
    have R:=F.agree b o v T;have K:=World.block_lt_of_cell? _ _ R;rw[World.cell?_of_block (w:=w) (A.block b K (fun h=>h))];exact R) F.one (fun n bx h=>by cases h) (fun n bx h=>by cases h) (fun n m bx bx' b h=>by cases h)
   have i:∀m b,af [(0,ai.row τ l' E)] m=some b->m=0/\b = .row τ l' E:=fun m b j=>by
    simp only[af]at j;cases x:Nat.beq 0 m
    ·rw[x]at j;cases j
    ·rw[x]at j;simp only[qT,qI]at j;exact⟨(qN x).symm,j.symm⟩
   have t:G.at 0 (.row τ l' E)=none:=by
    simp only[Gh.at,q]
    cases ad with|none=>rfl|some a=>cases p
   refine⟨⟨g.mem.agree,g.mem.one,fun m b j => ?_,fun m M b H c q u C _ => ?_,g.mem.tab⟩,g.bel,g.imm_le,g.imm_new,fun m b c q u => ?_,g.keep,g.keepOwn⟩
   ·obtain⟨rfl,rfl⟩:=i m b j;exact y
   ·obtain⟨rfl,_⟩:=i m b q;obtain⟨rfl,_⟩:=i M H u;rfl
   ·obtain⟨rfl,rfl⟩:=i m b q;rw[t]at u;cases u
  |some B=>
   have t:∀l:List τ.den,G.at 0 (.row τ l E)=some B:=fun l=>by
    simp only[Gh.at,q]
    cases ad with
    |none=>cases p
    |some a=>exact p
   have g:=r.update (bx' := .row τ l' E) S (t l) (t l') ⟨s.os,s.tape,s.output,s.size,fun k J L=>s.block k J (fun e=>by rw[p]at e;injection e with e;exact L e.symm)⟩ y (Q B p)
   have i:∀m b,af [(0,ai.row τ l' E)] m=some b->af (yc [(0,ai.row τ l E)] 0 (.row τ l' E)) m=some b:=fun m b j=>by
    simp only[af]at j;simp only[yc,af];cases x:Nat.beq 0 m
    ·rw[x]at j;cases j
    ·rw[x]at j;exact j
   exact⟨⟨g.mem.agree,g.mem.one,fun m b j=>g.mem.holds m b (i m b j),fun m M b H c q u C I=>g.mem.apart m M b H c (i _ _ q) (i _ _ u) C I,g.mem.tab⟩,g.bel,g.imm_le,g.imm_new,fun m b c q u=>g.base m b c (i _ _ q) u,g.keep,g.keepOwn⟩
 |[],d=>exact d.elim|_::_::_,d=>exact d.2.elim
def qql(w:World)(n g:Nat)(d:Array Int)(a:Array Obj)(k:Nat)(b:k<w.heap.size)(c:k≠g):(grow (putRow (Value.int .i64) (Sort.ahead w n) g 0 d) a).heap[k]? = w.heap[k]? := by
 show((w.heap.modify g (onCells (putCells (Value.int .i64) 0 d)))++a)[k]? = _;rw[Array.getElem?_append_left (by simpa using b),Array.getElem?_modify,qW Ta]
def qqm(w:World)(n g:Nat)(d:Array Int)(c:Array Obj){a:Array Value}{e:TypeId}{fr:Nat×Nat}(b:w.heap[g]? = some (.cells a e fr)) :
  (grow (putRow (Value.int .i64) (Sort.ahead w n) g 0 d) c).heap[g]? = some (.cells (putCells (Value.int .i64) 0 d a) e fr):=by
 have f:g<w.heap.size:=(Array.getElem?_eq_some_iff.1 b).1;show((w.heap.modify g (onCells (putCells (Value.int .i64) 0 d)))++c)[g]? = _;rw[Array.getElem?_append_left (by simpa using f),Array.getElem?_modify,qX rfl,b]
 rfl
def qae(b:List Int)(a:Array Value)(h:b.length<=a.size):(putCells (Value.int .i64) 0 b.toArray a).toList.take b.length=b.map (Value.int .i64):=by
 apply List.ext_getElem?;intro j;rw[List.getElem?_take,List.getElem?_map];by_cases c:j<b.length
 ·rw[qX c,Array.getElem?_toList];unfold putCells;rw[Array.getElem?_mapIdx,Array.getElem?_eq_getElem Ta]
  simp[c]
 ·rw[qW c,List.getElem?_eq_none Ta];rfl
def qqn(w:World)(n g:Nat)(d:Array Int)(a:Array Obj):w.heap.size<=(grow (putRow (Value.int .i64) (Sort.ahead w n) g 0 d) a).heap.size:=by
 show w.heap.size<=((w.heap.modify g (onCells (putCells (Value.int .i64) 0 d)))++a).size;simp
def qad(c:List Int)(a:Array Value)(v:Value)(b:v∈(putCells (Value.int .i64) 0 c.toArray a).toList):v∈a.toList\/∃n,v = .int .i64 n:=by
 unfold putCells at b;rw[Array.mem_toList_iff,Array.mem_mapIdx]at b;obtain⟨j,d,rfl⟩:=b;split
 ·exact .inr ⟨_,rfl⟩
 ·exact .inl Td
def KG:∀(l:List Int),List.flatMap (β:=AV) (Ty.int .i64).enc l=l.map (AV.int .i64)
 |[]=>rfl|c::b=>congrArg (AV.int .i64 c::·) (KG b)
def Mb{G:Gh}:∀{l:List Int}{us:List Value},ap (l.map (AV.int .i64)) G us->us=l.map (Value.int .i64)
 |[],[],_=>rfl|c::b,u::us,h=>by
  have a:u = .int .i64 c:=h.1;rw[List.map_cons,← Mb h.2,a]
 |[],_::_,h=>h.elim|_::_,[],h=>h.elim
def Mc{G:Gh}:∀(l:List Int),ap (l.map (AV.int .i64)) G (l.map (Value.int .i64))|[]=>trivial|_::b=>⟨rfl,Mc b⟩
def qbs(l:List Int):(ld l).length=l.length:=List.length_mergeSort l
def Rw{w:World}{g c:Nat}{vs:Array Value}{b:Nat×Nat}{E:TypeId}{l:List Int}{us:List Value}(e:w.heap[g]? = some (.cells vs E b))(f:b=(0,0)\/vs.size<=b.1)(n:l.length<=c)(o:vs.size=c)(i:vs.toList.take l.length=us)(d:us=l.map (Value.int .i64)):Holds (Value.int .i64) w g 0 l.toArray:=by
 intro j k;have a:j<l.length:=by simpa using k
 have m:j<vs.size:=Ta
 refine⟨?_,?_⟩
 ·have h:(vs.toList.take l.length)[j]? = some (.int .i64 l[j]):=by
   rw[i,d,List.getElem?_map,List.getElem?_eq_getElem a];rfl
  rw[List.getElem?_take,qX a]at h;simp only[World.cell?,e,wO];simpa [a] using h
 ·simp only[World.frozen?,e];rcases f with rfl|f
  ·simp
  ·simp;omega
def q7q(l:List Int)(E:l.length<=az):cz Tryz.prog 82 [.own 0] [(0,.row (.int .i64) l 3)] (.tup []) [(0,.row (.int .i64) (ld l) 3)]:=by
 unfold az at E;refine cz.inPlace (τ := .int .i64) (l:=l) (l':=ld l) (qbs l) (fun w G K c B b a => ?_)
 rw[KG]at a ⊢;have f:=Mb a;obtain⟨p,b⟩:=b;rcases b with⟨rfl,i,rfl⟩|⟨g,j,y,rfl,i,r,q,z,s,t,A⟩
 ·have o:l=[]:=List.eq_nil_of_length_eq_zero i;subst o;refine(Tryz.slices_Sort_int_none none 0 w).mono ?_;rintro e C ⟨rfl,rfl⟩
  exact⟨rfl,B,⟨p,.inl ⟨rfl,rfl,rfl⟩⟩,by rw[f];simp[ld,ap],⟨rfl,rfl,rfl,wF _,fun _ _ _=>rfl⟩⟩
 ·by_cases d:l=[]
  ·subst d;refine(Tryz.slices_Sort_int_none (some ⟨g,0,none⟩) c w).mono ?_;rintro e C ⟨rfl,rfl⟩
   exact⟨rfl,B,⟨p,.inr ⟨g,j,y,rfl,i,r,q,z,s,t,A⟩⟩,by rw[f];simp[ld,ap],⟨rfl,rfl,rfl,wF _,fun _ _ _=>rfl⟩⟩
  ·have u:g<w.heap.size:=(Array.getElem?_eq_some_iff.1 i).1;simp only[Ty.sz,Nat.mul_one]at s t;have H:=Rw i r q s t f;refine(Tryz.slices_Sort_int g 0 c l w H u Ta).mono ?_
   rintro e C ⟨rfl,n,x,rfl⟩
   have o:=qbs l;refine⟨rfl,(ld l).map (Value.int .i64),⟨by show((ld l).map (Value.int .i64)).length=List.length (α:=Int) l*1;rw[wC,o,Nat.mul_one],.inr ⟨g,putCells (Value.int .i64) 0 (ld l).toArray j,y,rfl,qqm w n g _ x i,?_,q,z,?_,?_,?_⟩⟩,Mc _,⟨rfl,rfl,rfl,qqn w n g _ x,fun k I d=>qql w n g _ x k I (fun e=>d (by subst e;rfl))⟩⟩
   ·have:(putCells (Value.int .i64) 0 (ld l).toArray j).size=j.size:=by unfold putCells;rw[Array.size_mapIdx]
    rw[this];exact r
   ·unfold putCells;rw[Array.size_mapIdx];show j.size=c*1;omega
   ·show List.take (List.length (α:=Int) l*1) _=_;rw[Nat.mul_one,← o];exact qae _ j (by rw[o];have F:List.length (α:=Int) l<=c:=q;omega)
   ·intro v J;rcases qad _ _ _ J with h|⟨m,rfl⟩
    ·exact A v h
    ·rfl
def I7(r:TJ->Option Jm):cu:={ key := .fn 82,args:=[.own 0],hp:=[(0,.row (.int .i64) 3)],R:=Jm,F:=fun _ a=>r a.1,out := .one (α:=List Int) (.tup []) [(0,.row (.int .i64) 3)] (fun r=>((),(r,()))) (fun y=>y.2.1) (fun _=>rfl) }
def OA:(I7 zi).Sound Tryz.prog:=fun d a r h=>by
 refine⟨call82,?_⟩;have h:(bif decide (List.length (α:=Int) a.1<=az) then some (ld a.1) else none)=some r:=h
 cases b:decide (List.length (α:=Int) a.1<=az)<;>rw[b]at h
 ·cases h
 have h:=qJ h;subst h;exact q7q a.1 (of_decide_eq_true b)
def qkl(l:List Int):(nu l).length<=l.length:=by
 unfold nu Lib.compact Lib.compactUpTo;rw[wC];exact Nat.le_trans (List.length_filter_le _ _) Td
def Fin.sub{q7z:World}{q7t:Gh}{q7w:List (Nat×ai)}{G:Gh}{hp l:List (Nat×ai)}{w:World}(a:Fin q7z q7t q7w G hp w)(h:∀m b,af l m=some b->af hp m=some b):Fin q7z q7t q7w G l w:=
 ⟨⟨a.mem.agree,a.mem.one,fun m b j=>a.mem.holds m b (h m b j),fun m k b f c d e g i=>a.mem.apart m k b f c (h _ _ d) (h _ _ e) g i,a.mem.tab⟩,a.bel,a.imm_le,a.imm_new,fun m b c d e=>a.base m b c (h _ _ d) e,a.keep,a.keepOwn⟩
def cz.shorter{P:Program}{f:FuncId}{τ:Ty}{l l':List τ.den}{E:TypeId}(h:∀(w:World)(G:Gh)(ad:Option Addr)(c:Nat)(us:List Value),ke w E τ.sz ad l.length c us->ap (l.flatMap τ.enc) G.data us ->
  Calls P f #[.slice ad l.length c] w fun e w'=>e = .returned (.slice ad l'.length c)/\∃i,ke w' E τ.sz ad l'.length c i/\ap (l'.flatMap τ.enc) G.data i/\cg (fun b=>ei ad=some b) w w') :
  cz P f [.own 0] [(0,.row τ l E)] (.own 1) [(0,.dead),(1,.row τ l' E)]:=by
 intro w G I B a;have u:af [(0,ai.row τ l E)] 0=some (.row τ l E):=rfl;have r:∀m b,af [(0,ai.row τ l E)] m=some b->m=0/\b = .row τ l E:=fun m b d=>by
  simp only[af]at d;cases g:Nat.beq 0 m
  ·rw[g]at d;cases d
  ·rw[g]at d;simp only[qT,qI]at d;exact⟨(qN g).symm,d.symm⟩
 have o:∀n b,af [(0,ai.row τ l E)] n=some b->bh [(0,0)] n=some n/\fb (bh [(0,0)]) b=b:=fun n b d=>by
  obtain⟨rfl,rfl⟩:=r n b d;exact⟨rfl,rfl⟩
 have p:=B.only o;obtain⟨ad,c,us,t,x,y,z⟩:=(p.holds 0 _ u).rowAt;have q:G.own 0=some (ad,l.length,c):=t
 match I,a with
 |[v],a=>
  obtain⟨⟨J,L,K,s,rfl⟩,_⟩:=a;rw[q]at s;simp only[qI,qP]at s;obtain⟨rfl,rfl,rfl⟩:=s;refine(h w (G.view [(0,0)]) ad c us x y).mono ?_;rintro e w' ⟨rfl,i,C,F,H⟩
  have A:=(z6 p).take (k:=0) (k':=1) u t rfl rfl z H (.inl rfl) C F;refine⟨_,_,rfl,(A.sub fun m b d => ?_).only o,ad,l'.length,c,Gh.addOwn_self,rfl⟩
  simp only[af]at d ⊢;cases g:Nat.beq 0 m
  ·rw[g]at d;cases j:Nat.beq 1 m
   ·rw[j]at d;cases d
   ·rw[j]at d;exact d
  ·rw[g]at d;have:=qN g;subst this;exact d
 |[],a=>exact a.elim|_::_::_,a=>exact a.2.elim
def qh6(w:World)(n g:Nat)(d:Array Int)(k:Nat)(a:k≠g):(putRow (Value.int .i64) (Sort.ahead w n) g 0 d).heap[k]? = w.heap[k]? := by
 show(w.heap.modify g (onCells (putCells (Value.int .i64) 0 d)))[k]? = _;rw[Array.getElem?_modify,qW Ta]
def qh7(w:World)(n g:Nat)(d:Array Int){a:Array Value}{e:TypeId}{fr:Nat×Nat}(b:w.heap[g]? = some (.cells a e fr)) :
  (putRow (Value.int .i64) (Sort.ahead w n) g 0 d).heap[g]? = some (.cells (putCells (Value.int .i64) 0 d a) e fr):=by
 show(w.heap.modify g (onCells (putCells (Value.int .i64) 0 d)))[g]? = _;rw[Array.getElem?_modify,qX rfl,b];rfl
def qkm(l:List Int)(A:l.length<=az):cz Tryz.prog 103 [.own 0] [(0,.row (.int .i64) l 3)] (.own 1) [(0,.dead),(1,.row (.int .i64) (nu l) 3)]:=by
 unfold az at A;refine cz.shorter (τ := .int .i64) (l:=l) (l':=nu l) (fun w G B c y a b => ?_)
 rw[KG]at b ⊢;have o:=Mb b;obtain⟨x,a⟩:=a;have n:=qkl l;by_cases i:l=[]
 ·subst i;have N:nu []=[]:=List.eq_nil_of_length_eq_zero (by simpa using n)
  rw[N];refine(Tryz.slices_Compact_int_empty B c w).mono ?_;rintro e P ⟨rfl,rfl⟩
  exact⟨rfl,y,⟨x,a⟩,by rw[o];trivial,⟨rfl,rfl,rfl,wF _,fun _ _ _=>rfl⟩⟩
 ·rcases a with⟨rfl,p,rfl⟩|⟨g,f,F,rfl,p,z,H,I,J,K,L⟩
  ·exact absurd (List.eq_nil_of_length_eq_zero p) i
  ·have j:l.length<=c:=H;have r:f.size=c:=by have:f.size=c*1:=J;omega
   have s:f.toList.take l.length=y:=by have:f.toList.take (l.length*1)=y:=K;rwa [Nat.mul_one]at this
   have M:=Rw p z j r s o;refine(Tryz.slices_Compact_int g 0 c l w M Ta j).mono ?_
   rintro e P ⟨rfl,q,rfl⟩
   obtain⟨d,t⟩:∃d,d=nu l++List.replicate (l.length-(nu l).length) 0:=⟨_,rfl⟩;have u:d.length=l.length:=by rw[t];simp;omega
   rw[show Lib.compact l++List.replicate (l.length-(Lib.compact l).length) 0=d from t.symm]
   refine⟨rfl,(nu l).map (Value.int .i64),⟨by show((nu l).map (Value.int .i64)).length=(nu l).length*1;simp,.inr ⟨g,putCells (Value.int .i64) 0 d.toArray f,F,rfl,qh7 w q g _ p,?_,?_,I,?_,?_,?_⟩⟩,Mc _,⟨rfl,rfl,rfl,?_,fun k _ i=>qh6 w q g _ k (fun e=>i (by subst e;rfl))⟩⟩
   ·have:(putCells (Value.int .i64) 0 d.toArray f).size=f.size:=by unfold putCells;rw[Array.size_mapIdx]
    rw[this];exact z
   ·exact Nat.le_trans n j
   ·unfold putCells;rw[Array.size_mapIdx];show f.size=c*1;omega
   ·show List.take ((nu l).length*1) _=_;rw[Nat.mul_one];have C:=qae d f (by rw[u];omega)
    have E:List.take (nu l).length (List.take d.length (putCells (Value.int .i64) 0 d.toArray f).toList)=List.take (nu l).length (putCells (Value.int .i64) 0 d.toArray f).toList:=by
     rw[List.take_take,Nat.min_eq_left Ta]
    rw[← E,C,t,List.map_append,List.take_append_of_le_length Td,List.take_of_length_le Td]
   ·intro v O;rcases qad _ _ _ O with h|⟨m,rfl⟩
    ·exact L v h
    ·rfl
   ·show w.heap.size<=(w.heap.modify g _).size;simp
def O3(r:TJ->Option Jl):cu:={ key := .fn 103,args:=[.own 0],hp:=[(0,.row (.int .i64) 3)],R:=Jl,F:=fun _ a=>r a.1,out := .one (α:=List Int) (.own 1) [(0,.dead),(1,.row (.int .i64) 3)] (fun r=>((),((),(r,())))) (fun y=>y.2.2.1) (fun _=>rfl) }
def qgv:(O3 Iy).Sound Tryz.prog:=fun d a r h=>by
 refine⟨call103,?_⟩;have h:(bif decide (List.length (α:=Int) a.1<=az) then some (nu a.1) else none)=some r:=h
 cases b:decide (List.length (α:=Int) a.1<=az)<;>rw[b]at h
 ·cases h
 have h:=qJ h;subst h;exact qkm a.1 (of_decide_eq_true b)
end Go.Sym
namespace Go.Sym
open Go.RowKit
def qtb{P:Program}{b:Frame}{a:Act}{k:List Item}{cs:List Frame}{w:World}{ops:Array Oper}{i:Nat}{rest:List Nat}{o:Oper}{c:Call}{dd:Deferred}(n:ops[i]? = some o)(r:o.guard=none)(g:o.op = .defer c)(d:o.dst=none)(m:b.roundOf=none)(h:(resolve a.eval c o.type).run P w = .ok dd w) :
  step P (lone (b.atR a (.inRegion ops (i::rest)::k)) cs w) = .next (lone (b.atR { a with defers:=dd::a.defers } (.inRegion ops rest::k)) cs w):=by
 have s:Region.wanted o (yielded ops a.tmps)=true:=by simp[Region.wanted,r]
 have f:=stepGR_op (P:=P) (b:=b) (a:=a) (k:=k) (cs:=cs) (w:=w) (rest:=rest) n s;rw[m,Oper.semAt_none]at f;have l:(execOp a.eval o).run P w = .ok (.defer dd) w:=by
  obtain⟨p,t,u,pos,j,guard⟩:=o;simp only at g;subst g;simp[execOp,h]
 have e:({ b.atR a (.inRegion ops (i::rest)::k) with defers:=dd::a.defers }:Frame).finish undef=b.atR { a with defers:=dd::a.defers } (.inRegion ops rest::k):=by
  have:=Frame.finish_atR b { a with defers:=dd::a.defers } ops i rest k undef
  rw[n]at this;simp only[qB,d]at this;exact this
 refine step_lone_go ?_;rw[f];simp only[stepG.apply,Sem.runT_eq,l,GStep.bare_after];exact congrArg (fun q=>GStep.go { frame:=q,callers:=cs,status := .running,dying:=none } w) e
section
variable[LC]
def Fin.wild{q7z:World}{q7t:Gh}{q7w:List (Nat×ai)}{G:Gh}{hp:List (Nat×ai)}{w w':World}(a:Fin q7z q7t q7w G hp w){S:Nat->Prop}(c:cg S w w')(f:∀b,S b->(∀o,G.imm b o=none)/\(q7z.heap.size<=b\/rx q7t q7w b)):Fin q7z q7t q7w G [] w':=by
 have d:∀b o v,G.imm b o=some v->w'.heap[b]? = w.heap[b]? := fun b o v h=>by
  refine c.block b (World.block_lt_of_cell? _ _ (a.mem.agree b o v h)) fun e => ?_
  rw[(f b e).1 o]at h;cases h
 refine⟨⟨fun b o v h => ?_,a.mem.one,fun n bx h=>(by cases h),fun n m bx j b h=>(by cases h),LC.mono (fun _ _ _ h=>h) d a.mem.tab⟩,⟨c.os.trans a.bel.os,c.tape.trans a.bel.tape,c.output.trans a.bel.output,Nat.le_trans a.bel.size c.size,fun k i g => ?_⟩,a.imm_le,a.imm_new,fun n bx b h=>(by cases h),a.keep,a.keepOwn⟩
 ·rw[World.cell?_of_block (w:=w) (d b o v h)];exact a.mem.agree b o v h
 ·rw[c.block k (Nat.lt_of_lt_of_le i a.bel.size) fun e => ?_]
  ·exact a.bel.block k i g
  ·rcases (f k e).2 with h|h
   ·omega
   ·exact g h
def am.fresh_start{G:Gh}{hp:List (Nat×ai)}{w:World}{names:List (Nat×Nat)}(e:cm (G.view names) hp w)(d:∀m,64<=m->bj names m=none){n:Nat}{fr:List (Nat×AV)}{tmps:Array Value}(c:tmps.size=n)(a:∀i x,af fr i=some x->∃v,tmps[i]? = some v/\ak x (G.view names) v) :
  am w (G.view names) hp (G.view names) { n:=n,fr:=fr,hp:=hp,nx:=64,df:=[] } { tmps:=tmps,defers:=[] } w:=
 ⟨⟨[],rfl,rfl⟩,c,a,fun m b _=>by simp[Gh.view,d m b],z6 e⟩
end
def qas{x:AV}{G:Gh}{vs:Array Value}(h:ap [x] G vs.toList):∃u,vs=#[u]/\ak x G u:=by
 obtain⟨l⟩:=vs
 match l,h with|[u],h=>exact⟨u,rfl,h.1⟩|[],h=>exact h.elim|_::_::_,h=>exact h.2.elim
def qq7{x y:AV}{G:Gh}{vs:Array Value}(h:ap [x,y] G vs.toList):∃u v,vs=#[u,v]:=by
 obtain⟨l⟩:=vs
 match l,h with|[u,v],h=>exact⟨u,v,rfl⟩|[],h=>exact h.elim|[_],h=>exact h.2.elim|_::_::_::_,h=>exact h.2.2.elim
def JR{w:World}{a:Addr}{v:Value}:cg (fun b=>b=a.block) w (w.setCell a v):=
 ⟨rfl,rfl,rfl,by simp[World.setCell],fun k _ c=>by
  simp only[World.setCell,Array.getElem?_modify];rw[qW (fun e=>c e.symm)]⟩
def PI{w:World}{o:Obj}:cg (fun _=>False) w (w.alloc o):=
 ⟨rfl,rfl,rfl,by rw[World.size_alloc];omega,fun k a _=>by
  show(w.heap.push o)[k]? = _;rw[Array.getElem?_push,qW Ta]⟩
def cg.wide{S T:Nat->Prop}{w w':World}(h:cg S w w')(k:∀b,S b->T b):cg T w w':=⟨h.os,h.tape,h.output,h.size,fun b c a=>h.block b c (fun d=>a (k b d))⟩
def cg.tr{S:Nat->Prop}{w d e:World}(h:cg S w d)(k:cg S d e):cg S w e:=⟨k.os.trans h.os,k.tape.trans h.tape,k.output.trans h.output,Nat.le_trans h.size k.size,fun b c a=>(k.block b (Nat.lt_of_lt_of_le c h.size) a).trans (h.block b c a)⟩
end Go.Sym
namespace Go.Sym
noncomputable section
open Go.Proofs
set_option linter.unusedVariables false
set_option maxRecDepth 100000
set_option maxHeartbeats 2000000
open Tryz
abbrev wT : Ty := .tree (.prod (.list (.prod .str .str)) (.list .byte))
abbrev wL : Ty := .list (.prod .str .str)
abbrev wP : Ty := .prod .str .str
abbrev wH : Pt := .h (.int .i64)
abbrev wI : Ty := .int .i64
abbrev wB : Ty := .list .byte
abbrev wN : Pt := .c .nilS
abbrev wS : Pt := .h .str
abbrev xR : Ty := .prod wI (.prod wI (.prod wI (.prod wI (.prod .bool (.prod (.list wI) (.prod (.list wI) (.list wI)))))))
abbrev xD : Ty := .prod wI (.prod wI (.prod wI (.prod wI (.prod wI (.prod wI wI)))))
abbrev xE : Ty := .prod .str (.prod wI (.prod wI (.prod .str (.prod .str (.prod .str (.prod (.list (.prod .str wI)) (.prod .str (.prod xD (.prod wI xR)))))))))
abbrev wG : Program := Tryz.prog
abbrev UO:Pt:=.h .bool
abbrev WM:Nat×bt:=(0,.cells [wS,wH,wH,wS,wS,wS,.own 1,wS,wH,wH,wH,wH,wH,wH,wH,wH,wH,wH,wH,wH,UO,.own 2,.own 3,.own 4,UO] 90)
abbrev Ue:Ty:=.prod .str wI
abbrev VI:bt:=.row Ue 74
abbrev UR:bt:=.row wI 3
abbrev UI:List (Nat×bt):=[WM,(1,VI),(2,UR),(3,UR),(4,UR)]
abbrev Ui:Ty:=.prod wI wI
abbrev W9:bt:=.dat Ui 25
abbrev UJ:Nat×bt:=(33,W9)
abbrev WA:Ty:=.prod wI (.prod wI Ui)
abbrev UK:Ty:=.prod .str (.prod wI (.prod wI (.prod WA WA)))
abbrev UL:Nat×bt:=(0,.dat Ue 179)
abbrev VW:Ty:=.prod .str wP
abbrev UM:Ty:=.prod .str (.prod .bool (.list VW))
abbrev UN:Nat×bt:=(32,W9)
abbrev Us:Ty:=.prod .byte .str
abbrev Vw:Ty:=.list Us
abbrev UP:Nat×Pt:=(0,.h Vw)
abbrev X9:bt:=.cells [wS] 9
abbrev UQ:Nat×bt:=(1,X9)
abbrev XP:Pt:=.ptr 32 0
abbrev US:Nat×Pt:=(1,XP)
abbrev YP:Pt:=.ptr 4 0
abbrev Xa:Nat×Pt:=(3,YP)
abbrev Xb:Nat×Pt:=(4,.ptr 5 0)
abbrev UT:Nat×bt:=(0,.loop .ready none 291 17 [Xa,Xb] [8] 0 6)
abbrev UU:Nat×bt:=(0,.loop .ready none 97 21 [(5,YP),(7,.ptr 5 0)] [13] 3 6)
abbrev WY:bt:=.cells [wH] 3
abbrev UV:Nat×bt:=(3,WY)
abbrev UW:Nat×bt:=(32,.row Us 160)
abbrev V5:Pt:=.ptr 1 0
abbrev WJ:Pt:=.ptr 2 0
abbrev UX:Nat×bt:=(0,.loop .ready none 12 63 [(4,V5),(5,WJ)] [13] 2 3)
abbrev UY:Nat×bt:=(0,.loop .ready none 12 63 [(4,YP),(5,.ptr 5 0)] [13] 2 6)
abbrev Wb:Pt:=.own 33
abbrev Xc:Pt:=.own 34
abbrev YO:Pt:=.own 35
abbrev WF:bt:=.cells [wS,wH,wH,wS,wS,wS,Wb,wS,wH,wH,wH,wH,wH,wH,wH,wH,wH,wH,wH,wH,UO,Xc,YO,.own 36,UO] 90
abbrev UZ:Nat×bt:=(7,WF)
abbrev Ua:Nat×bt:=(2,X9)
abbrev Ub:Nat×bt:=(0,.cells [wS,wH,wH,wS,wS,wS,.own 5,wS,wH,wH,wH,wH,wH,wH,wH,wH,wH,wH,wH,wH,UO,.own 6,.own 7,.own 8,UO] 90)
abbrev VZ:Pt:=.ptr 33 0
abbrev Uc:Nat×Pt:=(2,VZ)
abbrev Ud:Nat×bt:=(0,.loop .ready none 323 31 [(4,WJ),(5,.ptr 3 0)] [13] 1 4)
abbrev Yf:bt:=.row Vw 154
abbrev Uf:Nat×bt:=(32,Yf)
abbrev Ug:Nat×Pt:=(2,XP)
abbrev WX:bt:=.dat xR 35
abbrev Uh:Nat×bt:=(32,WX)
abbrev VN:bt:=.row .byte 5
abbrev Uj:Nat×bt:=(32,VN)
abbrev Uk:Nat×Pt:=(4,XP)
abbrev Ul:Nat×bt:=(0,.loop .ready none 291 17 [(3,V5),(4,WJ)] [8] 0 3)
abbrev Um:Nat×bt:=(0,.loop .ready none 97 21 [(5,V5),(7,WJ)] [13] 3 3)
abbrev Un:Nat×Pt:=(3,XP)
abbrev Uo:Nat×bt:=(32,.dat xE 37)
abbrev V4:Pt:=.tup [.u,.ifc 176 (.agg [wH])]
abbrev Wa:Nat×bt:=(0,.dead)
abbrev Up:=RS.mk V4 [Wa]
abbrev Uq:bt:=.cells [wS,wH,wH,wS,wS,wS,.own 6,wS,wH,wH,wH,wH,wH,wH,wH,wH,wH,wH,wH,wH,UO,.own 7,.own 8,.own 9,UO] 90
abbrev Ur:Pt:=.ptr 0 0
abbrev XL:Ty:=.prod .str .bool
abbrev Ut:Nat×bt:=(1,.row XL 259)
abbrev Uu:List Pt:=[.yld 0,V5,WJ,.ptr 3 0]
abbrev Uv:Pt:=.own 32
abbrev Uw:Nat×bt:=(32,.dat VW 109)
abbrev Ux:Nat×bt:=(6,.dfr)
abbrev Uy:Nat×bt:=(33,.cells [wS,wH,wH,wS,wS,wS,Xc,wS,wH,wH,wH,wH,wH,wH,wH,wH,wH,wH,wH,wH,UO,YO,.own 36,.own 37,UO] 90)
abbrev Uz:Nat×bt:=(0,WF)
abbrev U0:Nat×bt:=(4,.cells [wS,wH,wH,wS,wS,wS,.own 11,wS,wH,wH,wH,wH,wH,wH,wH,wH,wH,wH,wH,wH,UO,.own 12,.own 13,.own 14,UO] 90)
abbrev U1:Nat×bt:=(7,.cells [wS,wH,wH,wS,wS,wS,.own 14,wS,wH,wH,wH,wH,wH,wH,wH,wH,wH,wH,wH,wH,UO,.own 15,.own 16,.own 17,UO] 90)
abbrev U2:Nat×bt:=(5,.cells [wS,wH,wH,wS,wS,wS,.own 12,wS,wH,wH,wH,wH,wH,wH,wH,wH,wH,wH,wH,wH,UO,.own 13,.own 14,.own 15,UO] 90)
abbrev U3:Nat×bt:=(7,.cells [wS,wH,wH,wS,wS,wS,.own 9,wS,wH,wH,wH,wH,wH,wH,wH,wH,wH,wH,wH,wH,UO,.own 10,.own 11,.own 12,UO] 90)
abbrev U4:Nat×Pt:=(5,VZ)
abbrev U5:Nat×bt:=(0,.loop .ready none 49 93 [(7,YP),(16,.ptr 5 0)] [66] 4 6)
abbrev U6:Nat×bt:=(2,WY)
abbrev U7:Nat×bt:=(0,.cells [wS,wH,wH,wS,wS,wS,.own 2,wS,wH,wH,wH,wH,wH,wH,wH,wH,wH,wH,wH,wH,UO,.own 3,.own 4,.own 5,UO] 90)
abbrev U8:Nat×Pt:=(2,WJ)
abbrev Vn:Pt:=.h (.list UM)
abbrev U9:Nat×Pt:=(0,Vn)
abbrev VA:Nat×bt:=(5,.cells [UO] 4)
abbrev VB:Pt:=.h (.list wI)
abbrev VC:Nat×Pt:=(0,.yld 0)
abbrev VD:Nat×bt:=(33,.cells [.pn 33,Xc] 60)
abbrev VE:Nat×bt:=(4,.cells [.fn 1048668 [.ptr 7 0]] 72)
abbrev VF:Nat×bt:=(4,.cells [.fn 1048674 [.ptr 7 0]] 72)
abbrev WB:Ty:=.int .i32
abbrev VG:Nat×bt:=(0,.cells [.h WB] 21)
abbrev VH:Nat×bt:=(3,.dfr)
abbrev VJ:Nat×Pt:=(1,V5)
abbrev VK:bt:=.row .str 9
abbrev VM:Pt:=.h .byte
abbrev VO:Nat×bt:=(1,WY)
abbrev VP:Nat×bt:=(4,.cells [.fn 189 []] 78)
abbrev VQ:Nat×bt:=(4,.cells [.fn 317 []] 78)
abbrev WD:List Pt:=[.h wB]
abbrev VR:Nat×bt:=(1,.cells WD 58)
abbrev Vg:Nat×bt:=(1,.dead)
abbrev Wc:Nat×bt:=(2,.dead)
abbrev Wd:Nat×bt:=(3,.dead)
abbrev Vh:Nat×bt:=(4,.dead)
abbrev VS:List (Nat×bt):=[Ub,Vg,Wc,Wd,Vh,(5,VI),(6,UR),(7,UR),(8,UR)]
abbrev VT:Pt:=.c (.bool true)
abbrev VU:Nat×bt:=(32,.dat UK 46)
abbrev VV:Nat×Pt:=(3,.ptr 3 0)
abbrev VX:Nat×bt:=(0,.loop .ready none 323 31 [(4,V5),(5,WJ)] [13] 1 3)
abbrev VY:Nat×bt:=(0,.loop .ready none 49 93 [(7,V5),(16,WJ)] [66] 4 3)
abbrev Va:Nat×Pt:=(10,wH)
abbrev Vb:Nat×bt:=(7,.dead)
abbrev Vc:List (Nat×bt):=[(0,.cells [.pn 0,.own 1] 60),(1,VN)]
abbrev Vd:Nat×bt:=(5,.cells [.c .nilPtr] 85)
abbrev XA:Pt:=.h (.list xE)
abbrev Ve:Nat×Pt:=(0,XA)
abbrev Vf:Nat×bt:=(2,.cells [UO] 4)
abbrev Vi:Nat×bt:=(0,.dat Ue 74)
abbrev Vj:Nat×bt:=(32,UR)
abbrev Vk:Nat×Pt:=(6,Wb)
abbrev YC:bt:=.row WB 21
abbrev Vl:Nat×bt:=(33,YC)
abbrev Vm:Nat×bt:=(33,.row Us 160)
abbrev Vo:Nat×Pt:=(4,.fn 364 [XP])
abbrev Vp:Nat×bt:=(8,.dead)
abbrev Vq:Nat×bt:=(9,.dead)
abbrev Vr:Nat×bt:=(5,.cells [Uv] 33)
abbrev Vs:Nat×bt:=(32,.dat xD 32)
abbrev Xg:Nat×bt:=(5,.dead)
abbrev Vt:List (Nat×bt):=[Ud,VR,(2,.cells [Uv] 58),UV,(4,.dfr),Xg,Uj]
abbrev Vu:Nat×bt:=(32,.cells WD 58)
abbrev Vv:List Pt:=[wS,wS]
abbrev Vx:Nat×bt:=(0,X9)
abbrev Vy:Pt:=.tup []
abbrev Vz:Nat×bt:=(0,.cells [.pn 0,.own 2] 60)
abbrev V6:bt:=.row xE 37
abbrev V7:Nat×bt:=(1,.cells [.fn 189 []] 78)
abbrev V8:Nat×bt:=(1,.cells [.fn 317 []] 78)
abbrev V9:Nat×bt:=(2,.cells [.c .nilPtr] 85)
abbrev WC:Nat×bt:=(4,.cells [Uv] 22)
abbrev WE:Nat×bt:=(11,.cells [wS,wH,wH,wS,wS,wS,.own 16,wS,wH,wH,wH,wH,wH,wH,wH,wH,wH,wH,wH,wH,UO,.own 17,.own 18,.own 19,UO] 90)
abbrev WG:Nat×bt:=(9,.cells [wS,wH,wH,wS,wS,wS,.own 10,wS,wH,wH,wH,wH,wH,wH,wH,wH,wH,wH,wH,wH,UO,.own 11,.own 12,.own 13,UO] 90)
abbrev WH:Nat×bt:=(1,.cells [.fn 1048668 [YP]] 72)
abbrev WI:Nat×bt:=(1,.cells [.fn 1048674 [YP]] 72)
abbrev WK:Nat×bt:=(6,.cells [wS,wH,wH,wS,wS,wS,.own 7,wS,wH,wH,wH,wH,wH,wH,wH,wH,wH,wH,wH,wH,UO,.own 8,.own 9,.own 10,UO] 90)
abbrev WL:Nat×bt:=(1,.cells [.own 10] 22)
abbrev WN:Pt:=.tup [.own 0,.h Ui]
abbrev WO:List Pt:=[wH,wH]
abbrev WP:Nat×bt:=(2,.cells [.own 5] 33)
abbrev WQ:Nat×bt:=(5,.cells [.own 8] 33)
abbrev WR:Nat×bt:=(32,.row UM 107)
abbrev WS:Nat×bt:=(33,.row UM 107)
abbrev WT:Nat×bt:=(33,.dat UM 107)
abbrev WU:Pt:=.h (.list Ue)
abbrev WV:List (Nat×Pt):=[UP,(1,UO),(5,Uv),Vk,(7,UO),(8,wH)]
abbrev WW:Pt:=.h Ui
abbrev WZ:Nat×Pt:=(0,.h wB)
abbrev We:Nat×bt:=(33,.dat xD 32)
abbrev XI:Nat×bt:=(10,.dead)
abbrev XJ:Nat×bt:=(11,.dead)
abbrev XK:Nat×bt:=(12,.dead)
abbrev YT:Nat×bt:=(33,VI)
abbrev XN:Nat×bt:=(34,UR)
abbrev XO:Nat×bt:=(35,UR)
abbrev Xu:Nat×bt:=(36,UR)
abbrev Wf:List (Nat×bt):=[UU,UQ,Ua,UV,VE,Vr,Ux,UZ,Vp,Vq,XI,XJ,XK,Vj,YT,XN,XO,Xu]
abbrev Wg:List (Nat×bt):=[UU,UQ,Ua,UV,VF,Vr,Ux,UZ,Vp,Vq,XI,XJ,XK,Vj,YT,XN,XO,Xu]
abbrev XB:Nat×bt:=(1,.cells [.own 4] 22)
abbrev Wx:Nat×bt:=(2,.cells [.ptr 5 0] 85)
abbrev Wh:List (Nat×bt):=[UX,XB,Wx,VH,(4,V6),(5,Uq),(6,VI),(7,UR),(8,UR),(9,UR)]
abbrev Wi:List (Nat×bt):=[Uh,UJ]
abbrev Wj:Nat×Pt:=(11,wH)
abbrev Wk:Pt:=.h (.list .str)
abbrev Wl:Nat×bt:=(32,X9)
abbrev YW:Nat×bt:=(32,V6)
abbrev Wm:List (Nat×bt):=[UY,UQ,Ua,UV,WC,(5,.cells [VZ] 85),Ux,Vb,YW,Uy,(34,VI),XO,Xu,(37,UR)]
abbrev Wn:List (Nat×bt):=[UT,UQ,Ua,UV,VP,VA,Ux]
abbrev Wo:List (Nat×bt):=[UT,UQ,Ua,UV,VQ,VA,Ux]
abbrev XE:Nat×bt:=(1,.dat xD 32)
abbrev XF:Nat×bt:=(3,.dat UK 46)
abbrev Wp:List (Nat×bt):=[U5,XE,(2,WX),XF,(4,WX),(5,.cells [.own 7] 33),Ux,(7,UR)]
abbrev Wq:Nat×bt:=(32,.cells [wS,UO,wN] 107)
abbrev Wr:Nat×bt:=(34,.cells [wS,VT,wN] 107)
abbrev Wy:Pt:=.c .nilIface
abbrev Ws:Nat×bt:=(1,.cells [.h (.int .u32),.h WB,.h (.int .u32),Wy,.own 2] 219)
abbrev Wt:Nat×bt:=(0,.cells WD 58)
abbrev Wu:Nat×bt:=(33,Yf)
abbrev Wv:List Pt:=[.own 0,.fn 101 [V5,WJ]]
abbrev Ww:List Pt:=[Ur,wS]
abbrev Wz:Nat×bt:=(13,UR)
abbrev W3:Nat×bt:=(33,.dat xE 37)
abbrev W4:Nat×bt:=(2,.cells [.own 10] 33)
abbrev W5:Nat×bt:=(5,.cells [.own 13] 33)
abbrev W6:Nat×bt:=(6,.dead)
abbrev W7:Pt:=.own 0
abbrev W8:Nat×Pt:=(14,.ptr 34 0)
abbrev XC:Nat×bt:=(1,.cells [.own 5] 22)
abbrev XD:Nat×bt:=(4,.cells [.own 8] 22)
abbrev XG:List Pt:=[wH,wH,wH]
abbrev XH:List Pt:=[.h xD]
abbrev XM:Nat×bt:=(33,VK)
abbrev Xt:Nat×bt:=(10,UR)
abbrev Xv:Nat×bt:=(12,UR)
abbrev XQ:List (Nat×bt):=[UU,UQ,Ua,UV,VE,WQ,Ux,U3,(8,UR),(9,VI),Xt,(11,UR),Xv]
abbrev XR:List (Nat×bt):=[UU,UQ,Ua,UV,VF,WQ,Ux,U3,(8,UR),(9,VI),Xt,(11,UR),Xv]
abbrev XS:List (Nat×Pt):=[(0,wS),Un,(4,VZ),(5,wH),(6,wH)]
abbrev XT:List (Nat×Pt):=[(0,wS),(3,wS),(4,wH)]
abbrev XU:List (Nat×bt):=[(0,UR),VO,U6]
abbrev XV:Pt:=.tup [wS,.h Ui]
abbrev XW:List (Nat×bt):=[(0,.cells [.own 2] 61),(1,.cells [.own 3] 61),(2,VK),(3,VK)]
abbrev XX:List (Nat×Pt):=[Ve,(3,wS),Uk,U4,(6,wS),(7,wH)]
abbrev XY:Nat×Pt:=(1,.fn 101 [V5,WJ])
abbrev XZ:Nat×bt:=(2,.cells [wN] 101)
abbrev Xd:Nat×Pt:=(1,.h wB)
abbrev Xe:Nat×Pt:=(9,.h Vw)
abbrev Xf:List (Nat×Pt):=[VC,VJ,U8,VV]
abbrev Xh:List (Nat×Pt):=[(0,wS),(4,Uv),(5,wH),(7,wH)]
abbrev Xi:List (Nat×Pt):=[(0,wS),(4,Uv),(5,wH),(8,wS)]
abbrev Xj:List (Nat×bt):=[Um,WH,WP,VH,(4,Uq),(5,UR),(6,VI),(7,UR),(8,UR),(9,UR)]
abbrev Xk:List (Nat×bt):=[(0,Uq),Vg,Wc,Wd,Vh,(5,UR),(6,VI),(7,UR),(8,UR),(9,UR)]
abbrev Xl:List (Nat×bt):=[Um,WI,WP,VH,(4,Uq),(5,UR),(6,VI),(7,UR),(8,UR),(9,UR)]
abbrev Xm:=RS.mk (.ifc 259 (.agg [wS,UO])) [UL]
abbrev Xn:List Pt:=[.h VW]
abbrev Xo:Nat×Pt:=(17,wH)
abbrev Xp:Nat×Pt:=(13,wH)
abbrev Xq:Nat×Pt:=(6,.ifc 270 (.u))
abbrev Xr:List (Nat×bt):=[UN,VD,(34,VN)]
abbrev Xs:List LB:=[lb 208 [(0,wS),(3,wH)]]
abbrev Xw:Pt:=.fn 208 [Ur,V5,WJ]
abbrev Xx:List (Nat×bt):=[Uo,UJ]
abbrev Xy:List Pt:=[WU,.fn 75 [Ur]]
abbrev Xz:Nat×bt:=(32,.dat UM 107)
abbrev X0:List Pt:=[wS,wS,wH]
abbrev X1:List (Nat×bt):=[Ud,VR,(2,.cells [.own 5] 58),UV,(4,.dfr),(5,VN)]
abbrev X2:List (Nat×bt):=[UY,UQ,Ua,UV,(4,.cells [.own 7] 22),Vd,Ux,(7,V6)]
abbrev X3:List (Nat×Pt):=[UP,(3,wS),(4,wH),(5,wS)]
abbrev X4:List Pt:=[wS,.fn 189 []]
abbrev X5:List Pt:=[wS,.fn 317 []]
abbrev X6:Pt:=.tup [.own 0,UO]
abbrev X7:Pt:=.agg [wS,.fn 361 [Ur],.fn 362 [Ur]]
abbrev X8:Nat×bt:=(32,.dat WA 44)
abbrev YA:Pt:=.tup [wH,.h Ui]
abbrev YB:Nat×Pt:=(11,.ptr 37 0)
abbrev YD:=RS.mk (.ifc 183 (VM)) [UL]
abbrev YE:Nat×Pt:=(18,Vn)
abbrev YF:Nat×Pt:=(19,wH)
abbrev YG:Nat×Pt:=(20,wH)
abbrev YH:Nat×Pt:=(11,wS)
abbrev YI:List Pt:=[.h xR]
abbrev YJ:Nat×Pt:=(18,wH)
abbrev YK:List Pt:=[VB,wH]
abbrev YL:List Pt:=[.h xE]
abbrev YM:List Pt:=[.h Vw]
abbrev YN:Nat×Pt:=(6,.h WB)
abbrev YQ:=RS.mk Vy [UL]
abbrev YR:List (Nat×bt):=[VY,(1,WX),(2,.cells [.own 4] 33),VH,(4,UR)]
abbrev YS:Nat×bt:=(34,VK)
abbrev YU:Nat×bt:=(14,UR)
abbrev YV:Nat×bt:=(15,UR)
abbrev YX:List (Nat×Pt):=[(1,wH),Uk,U4,(6,wH),(7,wH),(8,wH),(9,wH)]
abbrev YY:List (Nat×Pt):=[(1,wH),(2,wH),Un,(7,wH),(8,wH),(9,UO),Va]
abbrev YZ:List (Nat×Pt):=[(0,wS),(3,Uv),(4,wH)]
abbrev Ya:Nat×Pt:=(7,.ptr 34 0)
abbrev Yb:Nat×Pt:=(8,.ptr 35 0)
abbrev Yc:Nat×Pt:=(9,.ptr 36 0)
abbrev Yd:Pt:=.c (.bool false)
abbrev Ye:List (Nat×Pt):=[(0,Ur),(3,Uv)]
abbrev Yg:List (Nat×bt):=[VX,(1,.cells [.own 4] 58),U6,VH,(4,VN)]
abbrev Yh:=RS.mk (.h VW) [UL,Ut]
section
variable(fu:Nat)
def Ag:Nat->Option ((τ:Ty)×List τ.den)|0=>some ⟨.byte,M2⟩|1=>some ⟨.prod .byte .byte,M3⟩|3=>some ⟨.int .u64,qtr⟩|_=>none
abbrev AN(f:Nat)(p:List Nat):Option (Code×Code):=some (aA 0 (sub (z7 (sh wG f)) p),aA 1 (sub (z7 (sh wG f)) p))
def qn5:Nat->Option (Code×Code)|0=>AN 291 [0,1,0,1]|1=>AN 323 [0,1,0,1,1,1,1]|2=>AN 12 [0,1,0,1,1,1,1]|3=>AN 97 [0,1,0,1,1,1]|4=>AN 49 [0,1,0,1,1,1,1,1,1,1]|_=>none
instance[HB]:LC:=⟨qn5,Ag,[2],[4,5],[(0,256),(1,32),(3,20)],HB.b⟩
def Jt:wG.follows .mixedOrders=true:=Tc
def etys:List (Nat×Ty):=[(3,.int .i64),(5,.byte),(9,.str),(21,.int .i32),(37,.prod .str (.prod wI (.prod wI (.prod .str (.prod .str (.prod .str (.prod (.list (.prod .str wI)) (.prod .str (.prod xD (.prod wI xR)))))))))),(74,.prod .str wI),(107,.prod .str (.prod .bool (.list (.prod .str wP)))),(109,.prod .str wP),(154,.list (.prod .byte .str)),(160,.prod .byte .str),(259,.prod .str .bool)]
abbrev fx{i:IF}(b:List (EP wG):=[])(e:List LB:=[])(sub:Bool:=false)(a:List (List Nat×Nat):=[])(d:∀p t,qt p a=some t->∀g ps x y,Sym.sub (z7 (sh wG (iC i.key))) p = .rangeFunc g ps x y->LC.lc t=some (x,y):=by exact lf)(c:wG.funcs[iC i.key]? = some (sh wG (iC i.key)):=by kernel_rfl):Fx wG i:=Fx.at etys Jt (iC i.key) b e sub a d c
abbrev fy{i:IF}(f:FuncId)(b:List (EP wG):=[])(e:List LB:=[])(sub:Bool:=false)(a:List (List Nat×Nat):=[])(d:∀p t,qt p a=some t->∀g ps x y,Sym.sub (z7 (sh wG f)) p = .rangeFunc g ps x y->LC.lc t=some (x,y):=by exact lf)(c:wG.funcs[f]? = some (sh wG f):=by kernel_rfl):Fx wG i:=Fx.at etys Jt f b e sub a d c
def qgq:(H8 253 Cu).Sound wG:=qgp func253 Tc Tc Tc Tc
def qgs:(H9 283 bV).Sound wG:=qgr func283 Tc Tc Tc Tc
def qgu:(HA 367 bV).Sound wG:=qgt func367 Tc Tc Tc Tc
def x0s:EI wG ⟨.fn 54,[],[],_,RS.mk (.h xR) []⟩:=(fx).fi Ot
def x1s:EI wG ⟨.fn 17,[],[],_,RS.mk (.h xE) []⟩:=(fx [x0s.p]).fi uB
def ik:EI wG ⟨.fn 20,WO,[],_,RS.mk WW []⟩:=(fx).fi bu
def x3s:EI wG ⟨.fn 35,[VM],[],_,RS.mk (UO) []⟩:=(fx).fi C9
def x4(fu:Nat):Fx wG ⟨.fn 34,[wS,.fn 35 []],[],_,RS.mk (UO) []⟩:=fx [x3s.p] [lb 104 [(0,wS),(1,.fn 35 []),(7,wH),(8,wH)]]
def q4t:Nat->(x4 fu).L 0:=Fx.lq (uT fu) (Hy fu) (fun a=>[a.s])
def x4s:=(x4 fu).fi (Hx fu) [(q4t fu fu).s]
def iB:LC.glob 0=some ⟨.byte,M2⟩:=rfl
def gQ:LC.glob 1=some ⟨.prod .byte .byte,M3⟩:=rfl
def iA:nG M2=true:=Tc
def gP:nH M3=true:=Tc
def eJ:EI wG ⟨.fn 127,Vv,[],_,RS.mk (wH) []⟩:=(fx [⟨Mr.e qf,qbq Tf⟩]).fi jf
def x6s:EI wG ⟨.fn 71,Vv,[],_,RS.mk (UO) []⟩:=(fx [eJ.p]).fi IA
def x7s:EI wG ⟨.fn 36,[wS],[],_,RS.mk (wH) []⟩:=(fx [⟨MA.e ww,qc6 iB gQ iA gP⟩,x6s.p]).fi gE
def x8s:EI wG ⟨.fn 285,[VM],[],_,RS.mk (UO) []⟩:=(fx).fi uV
def jS:EI wG ⟨.thr 132 [],[Ur],[UL],_,RS.mk V4 [Wa]⟩:=(fx).ft ov
def yj(fu:Nat):Fx wG ⟨.thr 286 [],[Ur],[UL],_,.two Up YQ⟩:=fx [jS.p] [lb 194 [(0,Ur),(2,wH)] [UL],lb 192 [(0,Ur),(2,wH)] [UL]]
def qvz(r0:(yj fu).L 1):(yj fu).L 0:=Fx.jm (Hs fu r0.f) [r0.s]
def qvy:Nat->(yj fu).L 1:=Fx.lq (fQ fu) (Hr fu) (fun a=>[(qvz fu a).s])
def qv0:=(yj fu).ft (Ou fu) [(qvy fu fu).s]
def pR:Fx wG ⟨.thr 232 [],[Ur],[UL],_,.two Up YQ⟩:=fx [x8s.p,(qv0 fu).p] [lb 16 [(0,Ur)] [UL]]
def qwq:Nat->(pR fu).L 0:=Fx.lq (ua fu) (uM fu) (fun a=>[a.s])
def qwr:=(pR fu).ft (uL fu) [(qwq fu fu).s]
def yl(fu:Nat):Fx wG ⟨.thr 233 [],[Ur],[UL],_,.two Up (RS.mk (wS) [UL])⟩:=fx [jS.p] [lb 123357 Ye [UL,Uj],lb 962 Ye [UL,Uj],lb 960 Ye [UL,Uj]]
def qw9(r0:(yl fu).L 2):(yl fu).L 0:=Fx.jm (Ck fu r0.f) [r0.s]
def qw8(r0:(yl fu).L 2):(yl fu).L 1:=Fx.jm (lD fu r0.f) [(qw9 fu r0).s,r0.s]
def qw7:Nat->(yl fu).L 2:=Fx.lq (y7 fu) (Cj fu) (fun a=>[(qw8 fu a).s])
def qxa:=(yl fu).ft (Ci fu) [(qw7 fu fu).s]
def qxo:EI wG ⟨.fn 228,[wS,VM],[],_,RS.mk (wH) []⟩:=(fx [⟨H9 283 bV,qgs⟩]).fi Oy
def qd6:EI wG ⟨.fn 234,[wS,VM],[],_,RS.mk (wH) []⟩:=(fx [qxo.p]).fi cC
def Nh:EI wG ⟨.fn 139,[VM],[],_,RS.mk (UO) []⟩:=(fx).fi Cq
def qef:EI wG ⟨.fn 189,[VM],[],_,RS.mk (UO) []⟩:=(fx [Nh.p,qd6.p]).fi y4
def pW:Fx wG ⟨.thr 180 [],[Ur],[UL],_,.two Up (.two (RS.mk (Wy) [UL]) (.two Xm YD))⟩:=fx [(qwr fu).p,(qxa fu).p,qd6.p,qef.p,jS.p] [lb 8162 [(0,Ur),(4,wH)] [UL],lb 8161 [(0,Ur),(4,wH),(81,UO)] [UL],lb 8160 [(0,Ur),(4,wH)] [UL]]
def qzd(r0:(pW fu).L 2):(pW fu).L 0:=Fx.jm (Ch fu r0.f) [r0.s]
def qzc(r0:(pW fu).L 2):(pW fu).L 1:=Fx.jm (wq fu r0.f) [(qzd fu r0).s]
def qzb:Nat->(pW fu).L 2:=Fx.lq (wo fu) (Cg fu) (fun a=>[(qzc fu a).s])
def FP:=(pW fu).ft (t8 fu) [(qzb fu fu).s]
def Nw:EI wG ⟨.thr 129 [],[Ur],[UL],_,.two Up (.two (RS.mk (Wy) [UL]) (.two Xm YD))⟩:=(fx [(FP fu).p]).ft (np fu)
def x19:Fx wG ⟨.thr 181 [],[Ur],[UL],_,.two Up (RS.mk (.own 1) [UL,Ut])⟩:=fx [(Nw fu).p,(FP fu).p] [lb 112 Ye [UL,(32,.row XL 259)]]
def q0u:Nat->(x19 fu).L 0:=Fx.lq (fS fu) (Cl fu) (fun a=>[a.s])
def qe6:=(x19 fu).ft (fR fu) [(q0u fu fu).s]
def FR:EI wG ⟨.thr 131 [],[Ur,VM],[UL],_,.two Up (RS.mk (UO) [UL])⟩:=(fx [(Nw fu).p,(FP fu).p]).ft (qe fu)
def q2m:EI wG ⟨.fn 316,[VM],[],_,RS.mk (UO) []⟩:=(fx).fi bO
def x22(fu:Nat):Fx wG ⟨.fn 34,[wS,.fn 316 []],[],_,RS.mk (UO) []⟩:=fx [q2m.p] [lb 104 [(0,wS),(1,.fn 316 []),(7,wH),(8,wH)]]
def q3k:Nat->(x22 fu).L 0:=Fx.lq (lF fu) (Hz fu) (fun a=>[a.s])
def q3l:=(x22 fu).fi (Cn fu) [(q3k fu fu).s]
def qfm:EI wG ⟨.fn 287,[wS],[],_,RS.mk (UO) []⟩:=(fx [(q3l fu).p]).fi (t7 fu)
def q3w:EI wG ⟨.fn 147,X0,[],_,RS.mk Xw [Vx,UQ,U6]⟩:=(fx).fi cD
def Bu:EI wG ⟨.fn 89,Vv,[],_,RS.mk Xw [Vx,UQ,U6]⟩:=(fx [q3w.p]).fi ow
def x26(fu:Nat):Fx wG ⟨.fn 34,X4,[],_,RS.mk (UO) []⟩:=fx [qef.p] [lb 104 [(0,wS),(1,.fn 189 []),(7,wH),(8,wH)]]
def q3x:Nat->(x26 fu).L 0:=Fx.lq (lG fu) (H0 fu) (fun a=>[a.s])
def q3y:=(x26 fu).fi (Co fu) [(q3x fu fu).s]
def q3z:EI wG ⟨.yld 0,[wS],[Ul,V7,Vf,VH],_,.two (RS.mk (Yd) [(0,.loop .done (some .ret) 291 17 [(3,V5),(4,WJ)] [8] 0 3),V7,Vf,VH]) (RS.mk (VT) [Ul,V7,Vf,VH])⟩:=(fy 291 [(q3y fu).p] [] false [([0,1,0,1],0)] (oc rfl lf)).fo (wm fu) [] 0 [0,1,0,1]
def NJ:Fx wG ⟨.fn 208,Uu,Wn,_,.two (RS.mk Vy [(0,.loop .done (some .ret) 291 17 [Xa,Xb] [8] 0 6),UQ,Ua,UV,VP,VA,Ux]) (RS.mk Vy Wn)⟩:=fx [⟨nP.e ox,zO iB gQ iA gP⟩,(q3z fu).p,eJ.p] [lb 320 [VC,U8] Wn,lb 96 Xf Wn]
def q30:Nat->(NJ fu).L 0:=Fx.lq (ID fu) (OC fu) (fun a=>[a.s])
def q31:Nat->(NJ fu).L 1:=Fx.lq (mC fu) (OD fu) (fun a=>[a.s])
def q32:=(NJ fu).fi (xJ fu) [(q30 fu fu).s,(q31 fu fu).s]
def q33:EI wG ⟨.fn 291,X4,[],_,RS.mk (UO) []⟩:=(fx [Bu.p,(q32 fu).p] [] false [([0,1,0,1],0)] (oc rfl lf)).fi (uH fu)
def qfo:EI wG ⟨.fn 240,[wS],[],_,RS.mk (UO) []⟩:=(fx [(q33 fu).p]).fi (wi fu)
def NK:EI wG ⟨.thr 184 [],[Ur,VM],[UL],_,.two Up YQ⟩:=(fx [(FR fu).p,jS.p]).ft (bQ fu)
def q34:EI wG ⟨.fn 317,[VM],[],_,RS.mk (UO) []⟩:=(fx [Nh.p]).fi bM
def x33(fu:Nat):Fx wG ⟨.fn 34,X5,[],_,RS.mk (UO) []⟩:=fx [q34.p] [lb 104 [(0,wS),(1,.fn 317 []),(7,wH),(8,wH)]]
def q35:Nat->(x33 fu).L 0:=Fx.lq (lH fu) (H1 fu) (fun a=>[a.s])
def q36:=(x33 fu).fi (Cp fu) [(q35 fu fu).s]
def q37:EI wG ⟨.yld 0,[wS],[Ul,V8,Vf,VH],_,.two (RS.mk (Yd) [(0,.loop .done (some .ret) 291 17 [(3,V5),(4,WJ)] [8] 0 3),V8,Vf,VH]) (RS.mk (VT) [Ul,V8,Vf,VH])⟩:=(fy 291 [(q36 fu).p] [] false [([0,1,0,1],0)] (oc rfl lf)).fo (wn fu) [] 0 [0,1,0,1]
def NL:Fx wG ⟨.fn 208,Uu,Wo,_,.two (RS.mk Vy [(0,.loop .done (some .ret) 291 17 [Xa,Xb] [8] 0 6),UQ,Ua,UV,VQ,VA,Ux]) (RS.mk Vy Wo)⟩:=fx [⟨nP.e ox,zO iB gQ iA gP⟩,(q37 fu).p,eJ.p] [lb 320 [VC,U8] Wo,lb 96 Xf Wo]
def q38:Nat->(NL fu).L 0:=Fx.lq (IE fu) (OE fu) (fun a=>[a.s])
def q39:Nat->(NL fu).L 1:=Fx.lq (mD fu) (OF fu) (fun a=>[a.s])
def q4a:=(NL fu).fi (xK fu) [(q38 fu fu).s,(q39 fu fu).s]
def q4b:EI wG ⟨.fn 291,X5,[],_,RS.mk (UO) []⟩:=(fx [Bu.p,(q4a fu).p] [] false [([0,1,0,1],0)] (oc rfl lf)).fi (uI fu)
def qfq:EI wG ⟨.fn 288,[wS],[],_,RS.mk (UO) []⟩:=(fx [(q4b fu).p]).fi (rm fu)
def NN:Fx wG ⟨.thr 235 [],[Ur,.own 1],[UL,Ut],_,.two (RS.mk V4 [Wa,Vg]) Yh⟩:=fx [(qfm fu).p,(qfo fu).p,jS.p,(NK fu).p,(FP fu).p,(qfq fu).p] [lb 14 [(0,Ur),(1,.own 1),Uk] [UL,Ut,Uw],lb 13 [(0,Ur),(1,.own 1),Uk,(32,UO)] [UL,Ut,Uw]]
def q4d:(NN fu).L 0:=Fx.jm (uN fu)
def q4c:(NN fu).L 1:=Fx.jm (bS fu) [(q4d fu).s]
def q4e:=(NN fu).ft (bR fu) [(q4c fu).s]
def qfr:EI wG ⟨.fn 261,Vv,[],_,RS.mk (UO) []⟩:=(fx).fi lO
def q4g:EI wG ⟨.fn 225,Vv,[],_,RS.mk (UO) []⟩:=(fx [qfr.p]).fi xB
def x41(fu:Nat):Fx wG ⟨.fn 252,[wS],[],_,RS.mk (wH) []⟩:=fx [] [lb 104 [(2,wH),Uk] [(32,.it)]]
def q4h:Nat->(x41 fu).L 0:=Fx.lq (IQ fu) (OI fu) (fun a=>[a.s])
def q4i:=(x41 fu).fi (OH fu) [(q4h fu fu).s]
def x42:Fx wG ⟨.fn 206,Vv,[],_,RS.mk (wH) []⟩:=fx [(q4i fu).p,⟨H8 253 Cu,qgq⟩,eJ.p] [lb 496 [(0,wS),(1,wS),(5,wH)]]
def q4j:Nat->(x42 fu).L 0:=Fx.lq (IB fu) (OB fu) (fun a=>[a.s])
def q4k:=(x42 fu).fi (CY fu) [(q4j fu fu).s]
def NP:Fx wG ⟨.fn 211,[wS,wS,wH,wH],[],_,RS.mk (Wk) []⟩:=fx [(q4k fu).p,eJ.p] [lb 16352 [(0,wS),(1,wS),(2,wH),(3,wH),(9,Uv),Va] [(32,VK)],lb 62 [(0,wS),(1,wS),(2,wH),(3,wH)]]
def q4m:Nat->(NP fu).L 0:=Fx.lq (mB fu) (IC fu) (fun a=>[a.s])
def q4l:(NP fu).L 1:=Fx.jm (xI fu) [(q4m fu fu).s]
def qfu:=(NP fu).fi (xH fu) [(q4l fu).s]
def q4n:EI wG ⟨.fn 318,X0,[],_,RS.mk (Wk) []⟩:=(fx [(qfu fu).p]).fi (Da fu)
def il:EI wG ⟨.fn 27,[],[],_,RS.mk WW []⟩:=(fx).fi e8
def q4o:EI wG ⟨.fn 357,[.h wB,VM],[],_,RS.mk (wH) []⟩:=(fx [⟨HA 367 bV,qgu⟩]).fi Ow
def x47(fu:Nat):Fx wG ⟨.fn 337,WD,[],_,RS.mk WN [(0,VN)]⟩:=fx [ik.p,il.p,q4o.p] [lb 1000 [Un,(4,Wb),(5,wH),(6,wH),(14,.h wB),(15,wH),(16,wH)] [UN,(33,VN)]]
def q4p:Nat->(x47 fu).L 0:=Fx.lq (uO fu) (Hu fu) (fun a=>[a.s])
def q4q:=(x47 fu).fi (Cm fu) [(q4p fu fu).s]
def q4r:EI wG ⟨.fn 349,WD,[],_,RS.mk (.fn 366 [Ur]) [Wt]⟩:=(fx).fi Hv
def q4s:EI wG ⟨.yld 0,[.agg [VM,VM,VM,VM]],Yg,_,RS.mk (VT) [VX,(1,.cells [.own 5] 58),U6,VH,Vh,(5,VN)]⟩:=(fy 323 [] [] false [([0,1,0,1,1,1,1],1)] (oc rfl lf)).fo jo [] 0 [0,1,0,1,1,1,1]
def eI(fu:Nat):Fx wG ⟨.fn 366,[.yld 0,V5],X1,_,RS.mk Vy [Ud,VR,(2,.cells [.own 6] 58),UV,(4,.dfr),Xg,(6,VN)]⟩:=fx [q4s.p] [lb 9639 [VC,VJ,(3,wH),(4,wH),(14,.c (.int .i64 2))] Vt,lb 9639 [VC,VJ,(3,wH),(4,wH),(14,.c (.int .i64 1))] Vt,lb 9639 [VC,VJ,(3,wH),(4,wH),(14,.c (.int .i64 0))] Vt,lb 16 [VC,VJ] Vt]
def q4y(r0:(eI fu).L 3):(eI fu).L 0:=Fx.jm (uS fu r0.f) [r0.s]
def q4x(r0:(eI fu).L 3):(eI fu).L 1:=Fx.jm (uQ fu r0.f) [(q4y fu r0).s]
def q4w(r0:(eI fu).L 3):(eI fu).L 2:=Fx.jm (uP fu r0.f) [(q4x fu r0).s]
def q4v:Nat->(eI fu).L 3:=Fx.lq (y9 fu) (Hw fu) (fun a=>[(q4w fu a).s])
def q4z:=(eI fu).fi (Ov fu) [(q4v fu fu).s]
def q40:EI wG ⟨.fn 323,WD,[],_,RS.mk WN [(0,VN)]⟩:=(fx [ik.p,q4r.p,(q4z fu).p,il.p] [] false [([0,1,0,1,1,1,1],1)] (oc rfl lf)).fi (Ht fu)
def q41:EI wG ⟨.fn 296,WD,[],_,RS.mk (wS) []⟩:=(fx [(q40 fu).p,⟨LY.e qg,qaq Tf⟩]).fi (Dj fu)
def NT:Fx wG ⟨.fn 358,[VM],[],_,RS.mk (.tup [VM,UO]) []⟩:=fx [] [lb 103 [(0,VM),(13,UO)],lb 25 [(0,VM),(4,UO)]]
def q43:NT.L 0:=Fx.jm H6
def q42:NT.L 1:=Fx.jm H5 [(q43).s]
def q44:=NT.fi lI [(q42).s]
def q45:EI wG ⟨.fn 338,[wS],[],_,RS.mk (.tup [VM,UO]) []⟩:=(fx [q44.p]).fi Ct
def rD:Fx wG ⟨.fn 319,Vv,[],_,RS.mk X6 [(0,VN)]⟩:=fx [(q4q fu).p,(q41 fu).p,q45.p] [lb 7055647 [(1,wS),(8,Uv),(9,wH),(65,UO)] [Uj],lb 55120 [(1,wS),(8,Uv),(9,wH)] [Uj],lb 215 [(1,wS),(27,UO)],lb 53 [(1,wS),(12,wS),(13,UO)]]
def q49(a:(rD fu).L 1):(rD fu).L 0:=Fx.jm (xV fu a.f) [a.s]
def q48:Nat->(rD fu).L 1:=Fx.lq (mF fu) (IS fu) (fun a=>[a.s,(q49 fu a).s])
def q47:(rD fu).L 2:=Fx.jm (xU fu) [(q48 fu fu).s]
def q46:(rD fu).L 3:=Fx.jm (xS fu) [(q47 fu).s]
def q5a:=(rD fu).fi (Di fu) [(q46 fu).s]
def q5b:EI wG ⟨.fn 342,[wS,.h WB],[],_,RS.mk (X7) [VG]⟩:=(fx).fi Cw
def x57(fu:Nat):Fx wG ⟨.fn 365,[wS],[],_,RS.mk (wS) []⟩:=fx [] [lb 232 [(3,Uv),(8,Uv),(9,wH),Va] [Uj]]
def q5c:Nat->(x57 fu).L 0:=Fx.lq (za fu) (lJ fu) (fun a=>[a.s])
def q5d:=(x57 fu).fi (fU fu) [(q5c fu fu).s]
def q5e:EI wG ⟨.fn 348,Vv,[],_,RS.mk (UO) []⟩:=(fx [(q5d fu).p]).fi (bU fu)
def q5f:EI wG ⟨.fn 322,[wS],[],_,.two (RS.mk (.tup [X7,UO]) [VG]) (.two (RS.mk (.tup [.agg [wS,.fn 343 [],.fn 344 []],UO]) []) (.two (RS.mk (.tup [.agg [wS,.fn 346 [],.fn 347 []],UO]) []) (RS.mk (.tup [.agg [wS,.c .nilFunc,.c .nilFunc],UO]) [])))⟩:=(fx [q5b.p,(q5e fu).p]).fi (fV fu)
def x60(fu:Nat):Fx wG ⟨.fn 361,[.h wB,Ur],[VG],_,RS.mk (.own 1) [VG,(1,YC)]⟩:=fx [] [lb 232 [(1,Ur),(4,Uv),(8,.h wB),(9,wH),Va] [VG,(32,YC)]]
def q5g:Nat->(x60 fu).L 0:=Fx.lq (uX fu) (HH fu) (fun a=>[a.s])
def q5h:=(x60 fu).fi (HF fu) [(q5g fu fu).s]
def q5i:EI wG ⟨.fn 343,WD,[],_,RS.mk W7 [(0,YC)]⟩:=(fx).fi HD
def q5j:EI wG ⟨.fn 364,[wH,Ur],[Wt],_,RS.mk (.h WB) [Wt]⟩:=(fx).fi uY
def eK(fu:Nat):Fx wG ⟨.fn 346,WD,[],_,RS.mk W7 [(0,YC)]⟩:=fx [q5j.p] [lb 62620 [US,(3,Wb),Vo,(5,wH),YN] [Vu,Vl],lb 250475 [US,(3,Wb),Vo,(5,wH),YN,(7,.h WB),(48,UO)] [Vu,Vl],lb 31309 [US,(3,Wb),Vo,(5,wH),YN,(38,UO)] [Vu,Vl],lb 976 [US,(3,Wb),Vo,(5,wH)] [Vu,Vl]]
def qfz(r0:(eK fu).L 3):(eK fu).L 0:=Fx.jm (fW fu r0.f) [r0.s]
def q5m(r0:(eK fu).L 3):(eK fu).L 1:=Fx.jm (vA fu r0.f) [(qfz fu r0).s]
def q5l(r0:(eK fu).L 3):(eK fu).L 2:=Fx.jm (lK fu r0.f) [(q5m fu r0).s,(qfz fu r0).s]
def q5k:Nat->(eK fu).L 3:=Fx.lq (bW fu) (HO fu) (fun a=>[(q5l fu a).s])
def q5n:=(eK fu).fi (HK fu) [(q5k fu fu).s]
def q5o:EI wG ⟨.fn 320,[wS,.h wB],[],_,RS.mk XV []⟩:=(fx [ik.p,(q5f fu).p,(q5h fu).p,il.p,q5i.p,(q5n fu).p]).fi (Cv fu)
def nh:EI wG ⟨.fn 21,[.h Ui],[],_,RS.mk (UO) []⟩:=(fx).fi fg
def NW:Fx wG ⟨.fn 289,[wS],[],_,RS.mk (.tup [wS,wH,UO]) []⟩:=fx [q4g.p,(q4n fu).p,(q5a fu).p,(q5o fu).p,nh.p] [lb 62 [(5,Wk)],lb 61 [(5,Wk),(28,UO)]]
def q5q:(NW fu).L 0:=Fx.jm (IT fu)
def q5p:(NW fu).L 1:=Fx.jm (xW fu) [(q5q fu).s]
def q5r:=(NW fu).fi (Dk fu) [(q5p fu).s]
def q5s:EI wG ⟨.fn 290,[Ur,VM],Vc,_,RS.mk (Wy) [Vz,Vg,(2,VN)]⟩:=(fx [⟨Kf.e zd,Qq⟩]).fi CX
def qf0:EI wG ⟨.fn 23,Ww,Vc,_,RS.mk (.tup [wH,Wy]) [Vz,Vg,(2,VN)]⟩:=(fx [⟨Kf.e zd,Qq⟩]).fi cB
def eL:Fx wG ⟨.fn 237,[wS],[],_,RS.mk XV []⟩:=fx [ik.p,(q5r fu).p,q5s.p,qf0.p,⟨JT.e fT,PT⟩,il.p,x8s.p] [lb 256342 XS Xr,lb 256341 [(0,wS),Un,(4,VZ),(5,wH),(6,wH),(42,UO)] Xr,lb 256340 XS Xr,lb 2000 XS Xr]
def q5w(r0:(eL fu).L 3):(eL fu).L 0:=Fx.jm (xQ fu r0.f) [r0.s]
def q5v(r0:(eL fu).L 3):(eL fu).L 1:=Fx.jm (xP fu r0.f) [(q5w fu r0).s]
def q5u(r0:(eL fu).L 3):(eL fu).L 2:=Fx.jm (xO fu r0.f) [(q5v fu r0).s]
def q5t:Nat->(eL fu).L 3:=Fx.lq (cE fu) (IR fu) (fun a=>[(q5u fu a).s,a.s])
def q5x:=(eL fu).fi (Dh fu) [(q5t fu fu).s]
def q5z:EI wG ⟨.fn 236,[Ur,V5],XW,_,RS.mk Vy [(0,.cells [.own 4] 61),(1,.cells [.own 5] 61),Wc,Wd,(4,VK),(5,VK)]⟩:=(fx [⟨oK.e im,Ar⟩,(q5x fu).p]).fi (uF fu)
def x71:Fx wG ⟨.fn 183,[.h (.list XL)],[],_,RS.mk (wS) []⟩:=fx [(q5z fu).p,⟨oK.e im,Ar⟩] [lb 488 [Un,(4,VZ),(5,.fn 236 [VZ,XP]),(9,.h (.list XL)),Va,Wj] [(32,.cells [Xc] 61),(33,.cells [YO] 61),YS,(35,VK)]]
def q50:Nat->(x71 fu).L 0:=Fx.lq (uG fu) (Hq fu) (fun a=>[a.s])
def qf2:=(x71 fu).fi (lC fu) [(q50 fu fu).s]
def q51:EI wG ⟨.thr 182 [],[Ur,.own 1],[UL,Ut],_,.two (RS.mk V4 [Wa,Vg]) Yh⟩:=(fx [(FR fu).p,(q4e fu).p,(qe6 fu).p,(qf2 fu).p,(NK fu).p]).ft (y5 fu)
def NZ:Fx wG ⟨.thr 130 [],[Ur],[UL],_,.two Up (RS.mk (.h UM) [UL])⟩:=fx [(qe6 fu).p,(FR fu).p,(q51 fu).p,(qf2 fu).p,jS.p,(NK fu).p] [lb 2032 [(0,Ur),Ug,(4,VZ)] [UL,Wq,(33,.cells [wS,VT,Xc] 107),(34,.row VW 109)],lb 252 [(0,Ur),Ug,(4,VZ)] [UL,Wq,(33,.cells [wS,VT,wN] 107)]]
def q53:Nat->(NZ fu).L 0:=Fx.lq (bP fu) (uJ fu) (fun a=>[a.s])
def q52:(NZ fu).L 1:=Fx.jm (uK fu) [(q53 fu fu).s]
def q54:=(NZ fu).ft (y6 fu) [(q52 fu).s]
def qf3:EI wG ⟨.fn 238,[wS],[],_,RS.mk (wH) []⟩:=(fx [⟨MA.e ww,qc6 iB gQ iA gP⟩]).fi wh
def q55:EI wG ⟨.fn 239,Xn,[],_,RS.mk WW []⟩:=(fx [qf3.p,ik.p,(qfm fu).p,(qfq fu).p,il.p]).fi (bL fu)
def FV:Fx wG ⟨.fn 185,[.h UM],[],_,RS.mk (wH) []⟩:=fx [qf3.p,(q55 fu).p,nh.p] [lb 488 [(31,.h (.list VW)),(32,wH),(33,wH)],lb 60 [US] [Xz],lb 29 [US,(29,UO)] [Xz]]
def q58:Nat->(FV fu).L 0:=Fx.lq (wj fu) (lB fu) (fun a=>[a.s])
def q57:(FV fu).L 1:=Fx.jm (uE fu) [(q58 fu fu).s]
def q56:(FV fu).L 2:=Fx.jm (rq fu) [(q57 fu).s]
def q59:=(FV fu).fi (bN fu) [(q56 fu).s]
def Bv:Fx wG ⟨.fn 133,[Vn],[],_,RS.mk WW []⟩:=fx [ik.p,(q59 fu).p,il.p] [lb 1000 [Ug,(29,Vn),(30,wH),(31,wH)] [UN],lb 124 [U9,Ug] [UN],lb 61 [U9,Ug,(27,UO)] [UN],lb 232 [U9,Ug,(3,wH),(9,Vn),Va,Wj] [UN]]
def q6d:Nat->(Bv fu).L 0:=Fx.lq (wg fu) (kX fu) (fun a=>[a.s])
def q6c:(Bv fu).L 1:=Fx.jm (uC fu) [(q6d fu fu).s]
def q6b:(Bv fu).L 2:=Fx.jm (we fu) [(q6c fu).s]
def q6a:Nat->(Bv fu).L 3:=Fx.lq (wb fu) (kW fu) (fun a=>[a.s,(q6b fu).s])
def qf4:=(Bv fu).fi (bJ fu) [(q6a fu fu).s]
def Od:IF:=⟨.thr 72 [(2,2),(3,3)],[],[UQ,XZ,(3,.cells WO 25)],_,.two (RS.mk V4 [UQ,(2,.cells [.u] 101),(3,.cells [.u,.u] 25)]) (RS.mk (.tup [Vn,.h Ui]) [Vg,Wc,Wd])⟩
def q6e:List (EP wG):=[(Nw fu).p,(q54 fu).p,(qf4 fu).p,nh.p,ik.p,il.p,(FR fu).p,jS.p]
section
variable[iHB:HB]
abbrev fxb{i:IF}(a:List (EP wG):=[])(c:List LB:=[])(b:wG.funcs[iC i.key]? = some (sh wG (iC i.key)):=by kernel_rfl):Fx wG i:=Fx.at etys Jt (iC i.key) a c false [] lf b
def jR:Fx wG Od:=fxb ((q6e fu).map fun x=>EP.cv x) [lb 252 [U8,VV] [UQ,(2,.cells [Uv] 101),(3,W9),WR],lb 16032 [U8,VV,Uk] [UQ,(2,.cells [Wb] 101),(3,W9),(32,.dat Ue 179),WS],lb 30 [VJ,U8,VV] [UQ,XZ,(3,W9)]]
def qf7:(jR fu).L 0:=Fx.jm (fP fu)
def q6g:Nat->(jR fu).L 1:=Fx.lq (mc fu) (fN fu) (fun a=>[a.s,(qf7 fu).s])
def q6f:(jR fu).L 2:=Fx.jm (fO fu) [(qf7 fu).s,(q6g fu fu).s]
end
def eN(fu:Nat):Fx wG ⟨.fn 72,[wS],[],_,RS.mk (.tup [Vn,.h Ui]) []⟩:=fx [ik.p] [lb 14 [US,Uc,(3,.ptr 34 0)] [Wl,(33,.cells [wN] 101),(34,W9)]]
def qmd(c a:Int)(w:World):Calls wG 20 #[.int .i64 c,.int .i64 a] w fun e w'=>e = .returned (.agg #[.int .i64 c,.int .i64 a])/\w'=w.alloc (.cells #[.int .i64 c,.int .i64 a] 25):=by
 go_enter func20,Tryz.ntmps20
 go_wp2
 simp[bodyPost,results,Tryz.results20,go_sem]
def qjv(p q r:Addr)(w:World) :
  CallsD wG 128 #[.pointer (some p),.pointer (some q),.pointer (some r)] .returning w fun e d w'=>e = .returned (.tuple #[])/\d = .returning/\w'=w:=by
 have a:∀w:World,(binOp BinOp.eql 20 .nilIface .nilIface).run wG w = .ok (.bool true) w:=fun _=>Tc
 refine callsD_of_wpS func128 rfl fun b f c => ?_
 apply wpS_seq;apply wpS_region;simp[wpOpsS,go_sem,recoverD,c,Tryz.ntmps128,Exit.thenS];refine wpS_of_wp ?_;apply wp_block;apply wp_seq;apply wp_region;simp[wpOps,go_sem,a,Exit.then,Oper.upon]
 repeat refine Or.inl ?_
 refine wp_cond_true ?_ ?_
 ·simp[Act.eval]
 apply wp_region;simp[wpOps,go_sem,Exit.inBlock,bodyPostS,results,Tryz.results128,Oper.upon]
 repeat refine Or.inl ?_
 cases b
 simp_all
def qjw(g f c:Nat)(s:Bs)(n:Int)(x y z:Value)(w:World)(I:w.cell? ⟨g,0,none⟩=some (.string ⟨s.toArray⟩))(J:w.heap[f]? = some (.cells #[x] 101 (0,0)))(K:w.heap[c]? = some (.cells #[y,z] 25 (0,0)))(C:f≠c) :
  CallsD wG 128 #[.pointer (some ⟨g,0,none⟩),.pointer (some ⟨f,0,none⟩),.pointer (some ⟨c,0,none⟩)] (.panicking [{ v:=wv 176 n,recovered:=false }]) w fun e X w'=>e = .returned (.tuple #[])/\X = .panicking [{ v:=wv 176 n,recovered:=true }] /\
   w'=((((w.alloc (.cells #[.int .i64 n] 176)).alloc (.cells #[.int .i64 11,.int .i64 (if(s.length:Int)<n then s.length else n)] 25)).setCell ⟨f,0,none⟩ (.slice none 0 0)).setCell ⟨c,0,none⟩ (.int .i64 11)).setCell ⟨c,1,none⟩ (.int .i64 (if(s.length:Int)<n then s.length else n)):=by
 have l:∀(t:TypeId)(v:Value)(w:World),(binOp BinOp.eql 20 (.iface t v) .nilIface).run wG w = .ok (.bool false) w:=fun t v w=>by
  have F:wG.underlying 20=some (.interface #[]):=Tc
  have q:∀d,(Op.equalIn (d+1) 20 (.iface t v) .nilIface).run wG w = .ok false w:=fun d=>by simp[Op.equalIn,bz F]
  have e:(Op.equal 20 (.iface t v) .nilIface).run wG w = .ok false w:=q 9999;simp[binOp,e]
 have E:∀w:World,(Instr.typeAssert (.iface 176 (.agg #[.int .i64 n])) 20 176 true).run wG w = .ok (.tuple #[.agg #[.int .i64 n],.bool true]) w:=fun w=>by
  have u:(match wG.underlying 176 with|some (.struct _)=>true|_=>false)=true:=Tc
  cases A:wG.underlying 176 with
  |none=>rw[A]at u;cases u
  |some d=>
   rw[A]at u;cases d<;>first
    |(simp[Instr.typeAssert,underlying,A];done)
    |cases u
 refine callsD_of_wpS func128 rfl fun W Y F => ?_
 apply wpS_seq;apply wpS_region;simp[wpOpsS,go_sem,recoverD,F,Tryz.ntmps128,Exit.thenS];refine wpS_of_wp ?_;apply wp_block;apply wp_seq;apply wp_region;simp[wpOps,go_sem,wv,l,Exit.then,Oper.upon]
 repeat refine Or.inl ?_
 refine wp_cond_false ?_ ?_
 ·simp[Act.eval]
 apply wp_seq;apply wp_region;simp[wpOps,go_sem,E,Exit.then,Oper.upon]
 repeat refine Or.inl ?_
 refine wp_cond_true ?_ ?_
 ·simp[Act.eval]
 apply wp_seq;apply wp_region;simp[wpOps,go_sem,Exit.then,Oper.upon]
 repeat refine Or.inl ?_
 have S:w.heap[g]? ≠ none:=fun e=>by simp[World.cell?,e]at I
 have T:g<w.heap.size:=by
  rcases Nat.lt_or_ge g w.heap.size with h|h
  ·exact h
  ·exact absurd (Array.getElem?_eq_none h) S
 have U:f<w.heap.size:=(Array.getElem?_eq_some_iff.1 J).1;have V:c<w.heap.size:=(Array.getElem?_eq_some_iff.1 K).1;apply wp_region;have j:∀(w:World)(o:Obj)(B:Nat),B<w.heap.size->(w.alloc o).heap[B]? = w.heap[B]? := fun w o B h=>by
  show(w.heap.push o)[B]? = _;rw[Array.getElem?_push,qW Ta]
 have c1:(w.alloc (.cells #[.int .i64 n] 176)).cell? ⟨g,0,none⟩=some (.string ⟨s.toArray⟩):=by
  rw[World.cell?_of_block (w:=w) (j w _ g T)];exact I
 have k:∀(a b:Int)(w:World),(Builtin.min_ #[3,3] 3 #[.int .i64 a,.int .i64 b]).run wG w = .ok (.int .i64 (if b<a then b else a)) w:=fun a b w=>by
  simp[Builtin.min_,Builtin.min2]
 simp[wpOps,go_sem,Exit.then,Oper.upon,c1,k]
 repeat refine Or.inl ?_
 refine(qmd _ _ _).mono ?_;rintro e w' ⟨rfl,rfl⟩
 generalize m:(w.alloc (Obj.cells #[Value.int IntKind.i64 n] 176)).alloc (Obj.cells #[Value.int IntKind.i64 11,Value.int IntKind.i64 (if(s.length:Int)<n then(s.length:Int) else n)] 25)=w2
 have G:w2.heap[f]? = some (.cells #[x] 101 (0,0)):=by
  rw[← m,j _ _ _ (by rw[World.size_alloc];omega),j _ _ _ U];exact J
 have O:w2.heap[c]? = some (.cells #[y,z] 25 (0,0)):=by
  rw[← m,j _ _ _ (by rw[World.size_alloc];omega),j _ _ _ V];exact K
 have L:w2.cell? ⟨f,0,none⟩=some x:=by simp[World.cell?,G]
 have P:w2.frozen? ⟨f,0,none⟩=false:=by simp[World.frozen?,G]
 generalize p:w2.setCell ⟨f,0,none⟩ (.slice none 0 0)=w3;have i:w3.heap[c]? = some (.cells #[y,z] 25 (0,0)):=by
  rw[← p];simp only[World.setCell,Array.getElem?_modify];rw[qW C];exact O
 have M:w3.cell? ⟨c,0,none⟩=some y:=by simp[World.cell?,i]
 have Q:w3.frozen? ⟨c,0,none⟩=false:=by simp[World.frozen?,i]
 generalize r:w3.setCell ⟨c,0,none⟩ (.int .i64 11)=w4;have H:w4.heap[c]? = some (.cells #[.int .i64 11,z] 25 (0,0)):=by
  rw[← r];simp[World.setCell,Array.getElem?_modify,i]
 have N:w4.cell? ⟨c,1,none⟩=some z:=by simp[World.cell?,H]
 have R:w4.frozen? ⟨c,1,none⟩=false:=by simp[World.frozen?,H]
 simp[wpOps,go_sem,Exit.then,Oper.upon,L,P,p,storeCells,M,Q,r,N,R,Addr.add]
 repeat refine Or.inl ?_
 refine⟨rfl,_,rfl,.tuple #[],?_,rfl,rfl,rfl⟩;simp[results,Tryz.results128]
def ju(p:List Nat):Code:=sub (z7 (sh wG 72)) p
def ig(i:Nat):Oper:=match ju [0,1,1] with|.region _ ops _=>ops[i]?.getD default|_=>default
def qp5:ju [0,1,1] = .region 3 #[ig 0,ig 1] false:=Tc
def qp7:ju [1,1,1] = .seq (ju [0,1,1,1]) (ju [1,1,1,1]):=Tc
def qpz:(ig 0).op = .makeFunc (.func 128) #[] #[.tmp 1,.tmp 2,.tmp 3]:=Tc
def qp0:(ig 0).dst=some 10:=Tc
def qp1:(ig 0).guard=none:=Tc
def qp2:(ig 1).op = .defer { callee := .value (.tmp 10),args:=#[],argTypes:=#[] }:=Tc
def qp3:(ig 1).dst=none:=Tc
def qp4:(ig 1).guard=none:=Tc
def qpw:ep (mq (eN fu).body (kl 0 (eN fu).ls).1)=[.code (ju [0,1,1]),.code (ju [1,1,1])]:=Tc
def qp9[HB](fu:Nat):ep (mq (jR fu).body (kl 2 (jR fu).ls).1)=[.code (ju [0,1,1,1]),.code (ju [1,1,1,1])]:=Tc
def sx(a b c:Nat):Deferred:={ target := .fn (.func 128) #[.pointer (some ⟨a,0,none⟩),.pointer (some ⟨b,0,none⟩),.pointer (some ⟨c,0,none⟩)],args:=#[] }
def qpu{b:Frame}{a:Act}{k:List Item}{cs:List Frame}{w:World}{d f g:Nat}(j:b.roundOf=none)(y:b.kind = .normal)(m:10<a.tmps.size)(p:a.tmps[1]? = some (.pointer (some ⟨d,0,none⟩)))(q:a.tmps[2]? = some (.pointer (some ⟨f,0,none⟩)))(r:a.tmps[3]? = some (.pointer (some ⟨g,0,none⟩))) :
  ∃v,Steps wG (lone (b.atR a (.code (ju [0,1,1])::k)) cs w) (lone (b.atR { tmps:=a.tmps.setIfInBounds 10 v,defers:=sx d f g::a.defers } k) cs w):=by
 refine⟨.func (.func 128) #[] #[.pointer (some ⟨d,0,none⟩),.pointer (some ⟨f,0,none⟩),.pointer (some ⟨g,0,none⟩)],?_⟩;rw[qp5];have e:∀t v,a.tmps[t]? = some v->a.eval (.tmp t)=v:=fun t v h=>by
  show a.tmps.getD t undef=v;rw[Array.getD_eq_getD_getElem?,h];rfl
 have x:∀(rest:List Nat),step wG (lone (b.atR a (.inRegion #[ig 0,ig 1] (0::rest)::k)) cs w) = .next (lone (b.atR { tmps:=a.tmps.setIfInBounds 10 (.func (.func 128) #[] #[.pointer (some ⟨d,0,none⟩),.pointer (some ⟨f,0,none⟩),.pointer (some ⟨g,0,none⟩)]),defers:=a.defers } (.inRegion #[ig 0,ig 1] rest::k)) cs w):=by
  intro rest;have o:(#[ig 0,ig 1]:Array Oper)[0]? = some (ig 0):=rfl;have u:Region.wanted (ig 0) (yielded #[ig 0,ig 1] a.tmps)=true:=by simp[Region.wanted,qp1]
  have n:=stepGR_op (P:=wG) (b:=b) (a:=a) (k:=k) (cs:=cs) (w:=w) (rest:=rest) o u;rw[j,Oper.semAt_none]at n;have s:(execOp a.eval (ig 0)).run wG w = .ok (.value (.func (.func 128) #[] #[.pointer (some ⟨d,0,none⟩),.pointer (some ⟨f,0,none⟩),.pointer (some ⟨g,0,none⟩)])) w:=by
   simp[execOp,qpz,Instr.makeFunc,e 1 _ p,e 2 _ q,e 3 _ r]
  have c:=Frame.finish_atR b a #[ig 0,ig 1] 0 rest k (.func (.func 128) #[] #[.pointer (some ⟨d,0,none⟩),.pointer (some ⟨f,0,none⟩),.pointer (some ⟨g,0,none⟩)]);rw[o]at c;simp only[qB,qp0]at c;refine step_lone_go ?_;rw[n];simp[stepG.apply,s];rw[c];rfl
 refine(Steps.one stepR_region).trans ?_;show Steps wG (lone (b.atR a (.inRegion #[ig 0,ig 1] [0,1]::k)) cs w) _;refine(Steps.one (x [1])).trans ((Steps.one (qtb (i:=1) rfl qp4 qp2 qp3 j (dd:=sx d f g) ?_)).trans (.one stepR_region_end));have l:({ tmps:=a.tmps.setIfInBounds 10 (.func (.func 128) #[] #[.pointer (some ⟨d,0,none⟩),.pointer (some ⟨f,0,none⟩),.pointer (some ⟨g,0,none⟩)]),defers:=a.defers }:Act).eval (.tmp 10) = .func (.func 128) #[] #[.pointer (some ⟨d,0,none⟩),.pointer (some ⟨f,0,none⟩),.pointer (some ⟨g,0,none⟩)]:=by
  show(a.tmps.setIfInBounds 10 _).getD 10 undef=_;rw[Array.getD_eq_getD_getElem?,Array.getElem?_setIfInBounds_self_of_lt m];rfl
 simp[resolve,l,Deferred.ofValue,sx]
abbrev mb:List (Nat×Nat):=[(1,32),(2,33),(3,34)]
abbrev Dw:Ty := .list (.prod .str (.prod .bool (.list (.prod .str wP))))
def SN(a b c:Nat)(w':World):(invoke (.fn (.func 128) #[.pointer (some ⟨a,0,none⟩),.pointer (some ⟨b,0,none⟩),.pointer (some ⟨c,0,none⟩)]) #[]).run wG w' = .ok (.enter 128 #[.pointer (some ⟨a,0,none⟩),.pointer (some ⟨b,0,none⟩),.pointer (some ⟨c,0,none⟩)]) w':=by
 simp[go_sem]
def qp6{S:Bs}{f0:Int×Int}{q7z:World}{q7t G G':Gh}{a:Act}{w w':World}{s:St}(o:s.hp=[(32,.cells [.str S] 9),(33,.cells [.val (.slice none 0 0)] 101),(34,.cells [.int .i64 f0.1,.int .i64 f0.2] 25)])(p:s.nx=64)(hrel:am q7z q7t [] G s a w)
  {x:Machine} {cs:List Frame} {fr:Frame} {u y z:Nat} {v:Value} {c:Func} {l:List (Bs×Bool×List (Bs×Bs×Bs))} {A B:Int}
  (P:Steps wG x (lone fr cs w')) (F:fr.fn=72) (g:fr.mode = .returning) (i:fr.defers=[sx u y z]) (d:fr.kind = .normal) (j:wG.funcs[fr.fn]? = some c) (t:(results c fr.tmps).run wG w' = .ok v w')
  (N:Fin w (G.view mb) [(1,.cells [.str S] 9),(2,.cells [.val (.slice none 0 0)] 101),(3,.cells [.int .i64 f0.1,.int .i64 f0.2] 25)] G' [(1,.dead),(2,.dead),(3,.dead)] w')
  (q:ak (.tup [.sl (.prod .str (.prod .bool (.list (.prod .str wP)))) l,.agg [.int .i64 A,.int .i64 B]]) G' v) :
  tk wG none 72 x cs (fun v w'=>∃G',Fin q7z q7t [] G' [] w'/\ak (.tup [.sl (.prod .str (.prod .bool (.list (.prod .str wP)))) l,.agg [.int .i64 A,.int .i64 B]]) G' v):=by
 have K:Leaves wG c fr.tmps (fun e b=>e = .returned v/\b=w') [sx u y z] .returning w':=by
  refine leaves_cons (f:=128) Td (SN u y z w') ((qjv _ _ _ w').mono ?_)
  rintro e W b ⟨rfl,rfl,rfl⟩
  exact⟨v,t,rfl,rfl⟩
 obtain⟨e,b,E,⟨rfl,rfl⟩,M,m,O⟩:=leaves_steps [sx u y z] .returning w' fr cs g i rfl j d K;obtain⟨Q,R,T,C,U,V⟩:=O;refine⟨v,b,E,?_,P.trans M,m.trans F,Q,R,T,C,U,V⟩;obtain⟨n,I,hp,nx,df⟩:=s;simp only at o p;subst o p;obtain⟨G2,X,H,J,_,L⟩:=Az (r := .tup [.sl (.prod .str (.prod .bool (.list (.prod .str wP)))) l,.agg [.int .i64 A,.int .i64 B]]) (names:=mb) (e := .returned v) hrel (k:=64) (by rfl) (by rfl) (wF _) (hpv:=[(1,.cells [.str S] 9),(2,.cells [.val (.slice none 0 0)] 101),(3,.cells [.int .i64 f0.1,.int .i64 f0.2] 25)]) (by rfl) (hp:=[(1,.cells [.str S] 9),(2,.cells [.val (.slice none 0 0)] 101),(3,.cells [.int .i64 f0.1,.int .i64 f0.2] 25)]) (hp':=[(1,.dead),(2,.dead),(3,.dead)]) (by rfl) (by simp[ay,AV.ren,AV.rens,pp]) ⟨v,G',rfl,N,q⟩
 cases H
 exact⟨G2,(jh.less L.lt (s':={ n:=43,fr:=[],hp:=[],nx:=64,df:=df }) rfl (fun _ _ h=>by cases h) (fun _ _ h=>by cases h)).fin,J⟩
def qp8{S:Bs}{f0:Int×Int}{q7z:World}{q7t G G':Gh}{a:Act}{w w':World}{s:St}(I:s.hp=[(32,.cells [.str S] 9),(33,.cells [.val (.slice none 0 0)] 101),(34,.cells [.int .i64 f0.1,.int .i64 f0.2] 25)])(K:s.nx=64)(hrel:am q7z q7t [] G s a w)
  {x:Machine} {cs:List Frame} {fr:Frame} {A u y:Nat} {n:Int} {g:Bs} (g1:G.box 32=some A) (T:G.box 33=some u) (U:G.box 34=some y)
  (hs:Steps wG x (lone fr cs w')) (F:fr.fn=72) (l:fr.mode = .panicking [{ v:=wv 176 n,recovered:=false }]) (E:fr.defers=[sx A u y]) (j:fr.kind = .normal)
  (t2:fr.tmps[2]? = some (.pointer (some ⟨u,0,none⟩))) (t3:fr.tmps[3]? = some (.pointer (some ⟨y,0,none⟩)))
  (i:Fin w (G.view mb) [(1,.cells [.str S] 9),(2,.cells [.val (.slice none 0 0)] 101),(3,.cells [.int .i64 f0.1,.int .i64 f0.2] 25)] G' [(1,.cells [.str g] 9),(2,.cells [.undef] 101),(3,.cells [.undef,.undef] 25)] w') :
  tk wG none 72 x cs (fun v w'=>∃G',Fin q7z q7t [] G' [] w'/\ak (.tup [.sl (.prod .str (.prod .bool (.list (.prod .str wP)))) [],.agg [.int .i64 11,.int .i64 (if(g.length:Int)<n then(g.length:Int) else n)]]) G' v):=by
 obtain⟨C1,ab,c1,h1,r1,_⟩:=i.mem.holds 1 _ rfl;obtain⟨C2,ac,c2,P,r2,_⟩:=i.mem.holds 2 _ rfl;obtain⟨C3,ad,c3,Q,r3,_⟩:=i.mem.holds 3 _ rfl;have e1:C1=A:=by
  have:=i.keep 1 _ A rfl (show(G.view mb).box 1=some A from g1)
  rw[c1]at this;exact qJ this
 have e2:C2=u:=by
  have:=i.keep 2 _ u rfl (show(G.view mb).box 2=some u from T)
  rw[c2]at this;exact qJ this
 have e3:C3=y:=by
  have:=i.keep 3 _ y rfl (show(G.view mb).box 3=some y from U)
  rw[c3]at this;exact qJ this
 subst e1 e2 e3;have p:C2≠C3:=fun e=>by
  have:=i.mem.apart 2 3 _ _ C2 rfl rfl c2 (by rw[e];exact c3)
  omega
 obtain⟨u1,rfl,Y⟩:=qas r1;simp only[ak]at Y;subst Y;obtain⟨Z,rfl,_⟩:=qas r2;obtain⟨y3,z3,rfl⟩:=qq7 r3;have d1:w'.cell? ⟨C1,0,none⟩=some (.string ⟨g.toArray⟩):=by simp[World.cell?,h1]
 generalize hm:(if(g.length:Int)<n then(g.length:Int) else n)=m
 have c:=qjw C1 C2 C3 g n Z y3 z3 w' d1 P Q p;rw[hm]at c;generalize q:(w'.alloc (.cells #[.int .i64 n] 176)).alloc (.cells #[.int .i64 11,.int .i64 m] 25)=w1 at c;have b1:cg (fun b=>b=C2\/b=C3) w' w1:=by
  rw[← q];exact(PI.wide fun _ h=>h.elim).tr (PI.wide fun _ h=>h.elim)
 have l2:C2<w'.heap.size:=(Array.getElem?_eq_some_iff.1 P).1;have l3:C3<w'.heap.size:=(Array.getElem?_eq_some_iff.1 Q).1;have z:∀(w:World)(o:Obj)(B:Nat),B<w.heap.size->(w.alloc o).heap[B]? = w.heap[B]? := fun w o B h=>by
  show(w.heap.push o)[B]? = _;rw[Array.getElem?_push,qW Ta]
 have k2:w1.heap[C2]? = some (.cells #[Z] 101 (0,0)):=by
  rw[← q,z _ _ _ (by rw[World.size_alloc];omega),z _ _ _ l2];exact P
 have k3:w1.heap[C3]? = some (.cells #[y3,z3] 25 (0,0)):=by
  rw[← q,z _ _ _ (by rw[World.size_alloc];omega),z _ _ _ l3];exact Q
 generalize t:((w1.setCell ⟨C2,0,none⟩ (.slice none 0 0)).setCell ⟨C3,0,none⟩ (.int .i64 11)).setCell ⟨C3,1,none⟩ (.int .i64 m)=w4 at c;have b4:cg (fun b=>b=C2\/b=C3) w' w4:=by
  rw[← t];exact((b1.tr (JR.wide fun _ h => .inl h)).tr (JR.wide fun _ h => .inr h)).tr (JR.wide fun _ h => .inr h)
 have j2:w4.heap[C2]? = some (.cells #[.slice none 0 0] 101 (0,0)):=by
  rw[← t];simp[World.setCell,Array.getElem?_modify,k2,(Ne.symm p:¬C3=C2)]
 have V:w4.heap[C3]? = some (.cells #[.int .i64 11,.int .i64 m] 25 (0,0)):=by
  rw[← t];simp[World.setCell,Array.getElem?_modify,k3,p]
 have i2:w4.cell? ⟨C2,0,none⟩=some (.slice none 0 0):=by simp[World.cell?,j2]
 have i3:w4.cell? ⟨C3,0,none⟩=some (.int .i64 11):=by simp[World.cell?,V]
 have i4:w4.cell? ⟨C3,1,none⟩=some (.int .i64 m):=by simp[World.cell?,V]
 have L:(results f72 fr.tmps).run wG w4 = .ok (.tuple #[.slice none 0 0,.agg #[.int .i64 11,.int .i64 m]]) w4:=by
  simp[results,Tryz.results72,go_sem,t2,t3,i2,i3,i4]
 have hL:Leaves wG f72 fr.tmps (fun e d=>e = .returned (.tuple #[.slice none 0 0,.agg #[.int .i64 11,.int .i64 m]])/\d=w4) [sx C1 C2 C3] (.panicking [{ v:=wv 176 n,recovered:=false }]) w':=by
  refine leaves_cons (f:=128) Td (SN C1 C2 C3 w') (c.mono ?_)
  rintro e u' d ⟨rfl,rfl,rfl⟩
  exact⟨_,L,rfl,rfl⟩
 obtain⟨e,d,O,⟨rfl,rfl⟩,hc,H,hl⟩:=leaves_steps [sx C1 C2 C3] _ w' fr cs l E rfl (by rw[F];exact func72) j hL
 obtain⟨m1,m2,m3,N,m4,m5⟩:=hl;refine⟨_,d,O,?_,hs.trans hc,H.trans F,m1,m2,m3,N,m4,m5⟩;obtain⟨nn,aa,hp,nx,df⟩:=s;simp only at I K;subst I K;obtain⟨G2,v2,_,_,J,C⟩:=Az (r := .undef) (names:=mb) (e := .returned undef) hrel (k:=64) (by rfl) (by rfl) (wF _) (hpv:=[(1,.cells [.str S] 9),(2,.cells [.val (.slice none 0 0)] 101),(3,.cells [.int .i64 f0.1,.int .i64 f0.2] 25)]) (by rfl) (hp:=[(1,.cells [.str S] 9),(2,.cells [.val (.slice none 0 0)] 101),(3,.cells [.int .i64 f0.1,.int .i64 f0.2] 25)]) (hp':=[(1,.cells [.str g] 9),(2,.cells [.undef] 101),(3,.cells [.undef,.undef] 25)]) (by rfl) (by simp[ay,AV.ren,AV.rens,pp]) ⟨undef,G',rfl,i,trivial⟩
 have W:G2.box 33=some C2:=J.box _ _ T;have X:G2.box 34=some C3:=J.box _ _ U;refine⟨G2,C.fin.wild b4 fun b z => ?_,_,rfl,⟨none,0,rfl,Td,.inl rfl⟩,⟨_,rfl,rfl,rfl,trivial⟩,trivial⟩
 rcases z with rfl|rfl
 ·obtain⟨B,vs,M,_,_,_,R⟩:=C.fin.mem.holds 33 (.cells [.undef] 101) rfl;rw[W]at M;cases M;exact⟨R,C.fin.base 33 (.cells [.undef] 101) _ rfl W⟩
 ·obtain⟨B,vs,M,_,_,_,R⟩:=C.fin.mem.holds 34 (.cells [.undef,.undef] 25) rfl;rw[X]at M;cases M;exact⟨R,C.fin.base 34 (.cells [.undef,.undef] 25) _ rfl X⟩
def qpt{S:Bs}{f0:Int×Int}{r:Jf}(j:fM fu S f0=some r){q7z:World}{q7t G:Gh}{a:Act}{w:World}
  (hrel:am q7z q7t [] G { n:=43,fr:=[(1,.ptr 32 0),(2,.ptr 33 0),(3,.ptr 34 0)],hp:=[(32,.cells [.str S] 9),(33,.cells [.val (.slice none 0 0)] 101),(34,.cells [.int .i64 f0.1,.int .i64 f0.2] 25)],nx:=64,df:=[] } a w)
  {b:Frame} (cs:List Frame) (s:b.fn=72) (N:b.kind = .normal) (H:b.roundOf=none) :
  tk wG none 72 (lone (b.atR a.bs [.code (ju [0,1,1]),.code (ju [1,1,1])]) cs w) cs (fun v w'=>∃G',Fin q7z q7t [] G' [] w'/\ak (.tup [.sl (.prod .str (.prod .bool (.list (.prod .str wP)))) r.1,.agg [.int .i64 r.2.1,.int .i64 r.2.2]]) G' v):=by
 obtain⟨v1,t1,B1,g1,rfl⟩:=hrel.frame 1 _ rfl;obtain⟨v2,t2,B2,g2,rfl⟩:=hrel.frame 2 _ rfl;obtain⟨v3,t3,B3,g3,rfl⟩:=hrel.frame 3 _ rfl;have aa:a.defers=[]:=by
  obtain⟨bs,X,I⟩:=hrel.defers;have:bs=[]:=by cases bs with|nil=>rfl|cons _ _=>simp at I
  rw[X,this];rfl
 have ah:a.tmps.size=43:=hrel.size;have L:a.bs=a:=by
  obtain⟨tm,df⟩:=a;show({ tmps:=tm,defers:=df++[] }:Act)=_;rw[List.append_nil]
 rw[L];obtain⟨K,q⟩:=qpu (k:=[.code (ju [1,1,1])]) (cs:=cs) (w:=w) H N Ta t1 t2 t3
 rw[aa]at q;have u:Steps wG (lone (b.atR a [.code (ju [0,1,1]),.code (ju [1,1,1])]) cs w) (lone (b.atR { tmps:=a.tmps.setIfInBounds 10 K,defers:=[sx B1 B2 B3] } [.code (ju [0,1,1,1]),.code (ju [1,1,1,1])]) cs w):=by
  refine q.trans (.one ?_);rw[qp7];exact stepR_seq
 refine tk.head u ?_
 -- what is known of the body behind
 unfold fM at j
 cases hz:fO fu S f0 with
 |none=>
  rw[show kY fu S f0.1 f0.2=fO fu S f0 from rfl,hz]at j;cases j
 |some z=>
 rw[show kY fu S f0.1 f0.2=fO fu S f0 from rfl,hz]at j
 have j:aw z (fun W=>some (([]:Dw.den),((11:Int),if(W.2.length:Int)<W.1 then(W.2.length:Int) else W.1))) (fun b3=>some b3)=some r:=j
 have hv:iw (bh mb) [(32,.cells [.str S] 9),(33,.cells [.val (.slice none 0 0)] 101),(34,.cells [.int .i64 f0.1,.int .i64 f0.2] 25)] mb=some [(1,.cells [.str S] 9),(2,.cells [.val (.slice none 0 0)] 101),(3,.cells [.int .i64 f0.1,.int .i64 f0.2] 25)]:=rfl;have A:ee mb=true:=rfl;have hm:cm (G.view mb) [(1,.cells [.str S] 9),(2,.cells [.val (.slice none 0 0)] 101),(3,.cells [.int .i64 f0.1,.int .i64 f0.2] 25)] w:=hrel.fin.mem.view hv (cP A)
 let s:HB:=⟨[sx B1 B2 B3]⟩
 have g:LC.Same (@instLCOfHB instHB) (@instLCOfHB s):=⟨rfl,rfl,rfl,rfl,rfl⟩;have ac:=cm.cv g hm;have J:∀(k m:Nat),k≠m->Nat.beq k m=false:=fun k m h=>by
  cases hq:Nat.beq k m
  ·rfl
  ·exact absurd (qN hq) h
 have p:∀i v,i≠10->a.tmps[i]? = some v->(a.tmps.setIfInBounds 10 K)[i]? = some v:=fun i v hi h=>by
  rw[Array.getElem?_setIfInBounds,qW (fun e=>hi e.symm)];exact h
 have F:=@am.fresh_start (@instLCOfHB s) G _ w mb ac (fun m hm=>by
  simp only[mb,bj,J 1 m Ta,J 2 m Ta,J 3 m Ta,qF]) 43 [(1,.ptr 1 0),(2,.ptr 2 0),(3,.ptr 3 0)] (a.tmps.setIfInBounds 10 K) (by simpa using ah) (fun i x V=>by
  by_cases X:i=1
  ·subst X;cases V;exact⟨_,p 1 _ Ta t1,B1,g1,rfl⟩
  by_cases I:i=2
  ·subst I;cases V;exact⟨_,p 2 _ Ta t2,B2,g2,rfl⟩
  by_cases Y:i=3
  ·subst Y;cases V;exact⟨_,p 3 _ Ta t3,B3,g3,rfl⟩
  simp only[af,J 1 i (fun e=>X e.symm),J 2 i (fun e=>I e.symm),J 3 i (fun e=>Y e.symm),qF]at V
  cases V)
 have C:=(q6f (iHB:=s) fu).h ((S,()),((),()),((f0.1,(f0.2,())),())) (((),(),(),()),((S,()),((),()),(f0,()))) z hz w (G.view mb) (G.view mb) _ w F b cs ‹b.fn=72› N H;rw[H]at C;have T:∀y,Steps wG (lone (b.atR (@Act.bs (@instLCOfHB s) { tmps:=a.tmps.setIfInBounds 10 K,defers:=[] }) (ep (mq (jR (iHB:=s) fu).body (kl 2 (jR (iHB:=s) fu).ls).1))) cs w) y->Steps wG (lone (b.atR { tmps:=a.tmps.setIfInBounds 10 K,defers:=[sx B1 B2 B3] } [.code (ju [0,1,1,1]),.code (ju [1,1,1,1])]) cs w) y:=fun y R=>by
  rw[← @qp9 s fu];exact R
 cases z with
 |inr y=>
  obtain⟨l,f1,f2⟩:=y;have j:some (l,(f1,f2))=some r:=j;have j:=qJ j;subst j;rcases C with⟨_,v,w',fr,⟨G',hf,P⟩,R,B,f,o,d,av,M,Q⟩|⟨c,w',fr,aT,hT,_⟩
  ·exact qp6 rfl rfl hrel (T _ R) B f o d M Q (Fin.cv g.symm hf) P
  ·obtain⟨t,n',E,_⟩:@D0 (@instLCOfHB s) [(2,2),(3,3)] _ _ Od.out w (G.view mb) (.inr (l,f1,f2)) c aT w':=hT;cases E
 |inl y=>
  obtain⟨n,Z⟩:=y;have j:=qJ (show some (([]:Dw.den),((11:Int),if(List.length Z:Int)<n then(List.length Z:Int) else n))=some r from j);subst j
  rcases C with⟨ad,_⟩|⟨c,w',fr,aT,hT,R,B,f,d,o,U⟩
  ·cases (show some (176,n)=none from ad)
  ·obtain⟨t,n',E,rfl,ab,O,G',hf⟩:@D0 (@instLCOfHB s) [(2,2),(3,3)] _ _ Od.out w (G.view mb) (.inl (n,Z)) c aT w':=hT;cases (show some (176,n)=some (t,n') from E)
   obtain⟨C2,q1,q2⟩:=O (2,2) Td
   obtain⟨C3,q3,q4⟩:=O (3,3) Td
   have I:=q2 _ B2 rfl g2;have Y:=q4 _ B3 rfl g3;subst I Y;exact qp8 rfl rfl hrel g1 g2 g3 (T _ R) B f (by rw[o,ab];rfl) d (by rw[U];exact q1) (by rw[U];exact q3) (Fin.cv g.symm hf)
def qpx(e:g7 ([]:List (Nat×bt))):qh (eN fu).cx ((eN fu).cx.TT (b6 [] e) (RS.mk (.tup [.h Dw,.h (.prod wI wI)]) [])) (b6 [] e) (RS.mk (.tup [.h Dw,.h (.prod wI wI)]) []) (eN fu).body ((kl 0 (eN fu).ls).lab (fM fu)):=by
 intro d r f i g G a w hrel b cs hb hkd hrd;have c:b.roundOf=none:=hrd;refine .inl ⟨trivial,?_⟩;obtain⟨⟨j,k,l,m⟩,⟨⟨S,n⟩,⟨⟨o,p⟩,⟨f0,q⟩⟩⟩⟩:=d;have h:=qpt fu (S:=S) (f0:=f0) (r:=r) f hrel cs hb hkd c;rw[← qpw fu,← c]at h;exact h
def q6h:(eN fu).L 0:=⟨fM fu,qpx fu⟩
def q6i:=(eN fu).fi (fL fu) [(q6h fu).s]
end
end
noncomputable section
open Go.Proofs
set_option linter.unusedVariables false
set_option maxRecDepth 100000
set_option maxHeartbeats 2000000
open Tryz
section
variable(fu:Nat)
def qf8:EI wG ⟨.fn 110,[.own 0],[(0,VK)],_,RS.mk (V5) [Wa,Ws,(2,VK)]⟩:=(fx [] [] true).fi xC
def q6k:EI wG ⟨.fn 190,[wS],[],_,RS.mk (wS) []⟩:=(fx [qf8.p,⟨LZ.e wu,qar⟩]).fi Cf
def q6l:EI wG ⟨.fn 186,Xn,[],_,RS.mk (wS) []⟩:=(fx [(qfo fu).p,q6k.p]).fi (lE fu)
def q6m:EI wG ⟨.fn 134,Xn,[],_,RS.mk (wS) []⟩:=(fx [(q6l fu).p]).fi (Ce fu)
def eO:Fx wG ⟨.fn 73,[Vn],[],_,RS.mk XV []⟩:=fx [(qf4 fu).p,nh.p,⟨oK.e im,Ar⟩,ik.p,il.p,(q6m fu).p] [lb 1959 [Un,(5,Wb),YE,YF,YG] [UN,XM],lb 125343 [Un,(5,Wb),YH,YE,YF,YG] [UN,XM],lb 501352 [Un,(5,YO),(7,VZ),(8,Xc),YE,YF,YG,(25,.h (.list VW)),(26,wH),(27,wH)] [UN,WT,YS,(35,VK)],lb 488 [Un,(5,Wb),YE,YF,YG] [UN,XM]]
def q6q(r0:(eO fu).L 3):(eO fu).L 0:=Fx.jm (Hp fu r0.f) [r0.s]
def q6p(r0:(eO fu).L 3):(eO fu).L 1:=Fx.jm (Ho fu r0.f) [(q6q fu r0).s]
def q6o(r0:(eO fu).L 3):Nat->(eO fu).L 2:=Fx.lq (lA fu r0.f) (Cd fu r0.f) (fun a=>[a.s,(q6p fu r0).s])
def q6n:Nat->(eO fu).L 3:=Fx.lq (bK fu) (Cc fu) (fun a=>[(q6o fu a fu).s])
def q6r:=(eO fu).fi (kZ fu) [(q6n fu fu).s]
def Og:Fx wG ⟨.fn 37,[wS],[],_,RS.mk (UO) []⟩:=fx [(q6i fu).p,nh.p,(q6r fu).p] [lb 30 [(0,wS),(3,Vn),Uk] [UN],lb 29 [(0,wS),(3,Vn),Uk,(33,UO)] [UN]]
def q6t:(Og fu).L 0:=Fx.jm (CI fu)
def q6s:(Og fu).L 1:=Fx.jm (cA fu) [(q6t fu).s]
def qf9:=(Og fu).fi (zh fu) [(q6s fu).s]
def q6u:EI wG ⟨.fn 75,[.h Ue,Ur],[Vi],_,RS.mk (UO) [Vi]⟩:=(fx).fi If
def x87(fu:Nat):Fx wG ⟨.fn 137,Xy,[Vi],_,RS.mk (wH) [Vi]⟩:=fx [q6u.p] [lb 104 [(0,WU),(1,.fn 75 [Ur]),(7,wH),(8,wH)] [Vi]]
def q6v:Nat->(x87 fu).L 0:=Fx.lq (wZ fu) (I2 fu) (fun a=>[a.s])
def q6w:=(x87 fu).fi (I1 fu) [(q6v fu fu).s]
def q6x:EI wG ⟨.fn 74,Xy,[Vi],_,RS.mk (UO) [Vi]⟩:=(fx [(q6w fu).p]).fi (CW fu)
def FW:Fx wG ⟨.fn 38,[WU],[],_,RS.mk WW []⟩:=fx [ik.p,(qf9 fu).p,il.p,(q6x fu).p] [lb 59799 [(0,WU),Ug,(3,wH),(4,VZ),(9,WU),Va,Wj,(23,UO)] [UN,(33,.dat Ue 74)],lb 232 [(0,WU),Ug,(9,WU),Va,Wj] [UN]]
def q6z(r0:(FW fu).L 1):(FW fu).L 0:=Fx.jm (vU fu r0.f) [r0.s]
def q6y:Nat->(FW fu).L 1:=Fx.lq (gC fu) (Ig fu) (fun a=>[(q6z fu a).s])
def q60:=(FW fu).fi (Ie fu) [(q6y fu fu).s]
def q61:EI wG ⟨.fn 138,[VM],[],_,RS.mk (UO) []⟩:=(fx [Nh.p]).fi H7
def x91(fu:Nat):Fx wG ⟨.fn 34,[wS,.fn 138 []],[],_,RS.mk (UO) []⟩:=fx [q61.p] [lb 104 [(0,wS),(1,.fn 138 []),(7,wH),(8,wH)]]
def q62:Nat->(x91 fu).L 0:=Fx.lq (uU fu) (H3 fu) (fun a=>[a.s])
def q63:=(x91 fu).fi (H2 fu) [(q62 fu fu).s]
def q64:EI wG ⟨.fn 76,[wS],[],_,RS.mk (UO) []⟩:=(fx [(q63 fu).p]).fi (Cr fu)
def FY:EI wG ⟨.fn 77,XG,[],_,RS.mk (UO) []⟩:=(fx).fi rr
def Oi:EI wG ⟨.fn 78,[.h UK],[],_,RS.mk (UO) []⟩:=(fx).fi mI
def q65:EI wG ⟨.fn 79,[.h WA],[],_,RS.mk (UO) []⟩:=(fx [FY.p]).fi gI
def FZ:Fx wG ⟨.fn 39,[.h UK],[],_,RS.mk WW []⟩:=fx [(q64 fu).p,ik.p,FY.p,Oi.p,q65.p,il.p] [lb 490 [Ug] [UN],lb 489 [Ug,(23,UO)] [UN],lb 249 [US,Uc,(26,UO)] [VU,UJ]]
def q68:(FZ fu).L 0:=Fx.jm (IU fu)
def q66:(FZ fu).L 1:=Fx.jm (Dn fu) [(q68 fu).s]
def q67:(FZ fu).L 2:=Fx.jm (Do fu)
def Ga:=(FZ fu).fi (gH fu) [(q66 fu).s,(q67 fu).s]
def qgd:EI wG ⟨.fn 191,XG,[],_,RS.mk (UO) []⟩:=(fx).fi ub
def q7c:EI wG ⟨.fn 246,[wH],[],_,RS.mk (UO) []⟩:=(fx).fi C5
def qge:EI wG ⟨.fn 192,WO,[],_,RS.mk (wH) []⟩:=(fx [q7c.p]).fi vF
def MK:EI wG ⟨.fn 140,XH,[],_,RS.mk WW []⟩:=(fx [qgd.p,qge.p,ik.p,il.p]).fi lM
def qvj:EI wG ⟨.fn 193,[wH],[],_,RS.mk (wH) []⟩:=(fx).fi vD
def qdm(fu:Nat):Fx wG ⟨.fn 141,XG,[],_,RS.mk (wH) []⟩:=fx [qvj.p,qge.p] [lb 464 [(0,wH),(1,wH),(7,wH),(8,wH)]]
def qvk:Nat->(qdm fu).L 0:=Fx.lq (vE fu) (HV fu) (fun a=>[a.s])
def ML:=(qdm fu).fi (wt fu) [(qvk fu fu).s]
def MN:EI wG ⟨.fn 80,XH,[],_,RS.mk YA []⟩:=(fx [MK.p,nh.p,(ML fu).p,il.p]).fi (fX fu)
def Bi:EI wG ⟨.fn 83,[wH],[],_,RS.mk (UO) []⟩:=(fx).fi zb
def qdn:EI wG ⟨.fn 194,WO,[],_,RS.mk (.tup WO) []⟩:=(fx).fi vG
def aW:Fx wG ⟨.fn 142,WO,[],_,RS.mk (.tup [.h xD,.h Ui]) []⟩:=fx [Bi.p,ik.p,qgd.p,qdn.p,(ML fu).p,il.p] [lb 8147 YX [Vs,UJ],lb 32585 [(1,wH),Uk,U4,(6,wH),(7,wH),(8,wH),(9,wH),(54,UO)] [Vs,UJ],lb 16352 [(1,wH),Uk,U4,(6,wH),(7,wH),(8,wH),Va] [Vs,UJ],lb 8144 YX [Vs,UJ],lb 126 [(1,wH),Uk,U4,(6,wH),(7,wH)] [Vs,UJ],lb 125 [(1,wH),Uk,U4,(6,wH),(7,wH),(36,UO)] [Vs,UJ]]
def qvp(a:(aW fu).L 3):(aW fu).L 0:=Fx.jm (C4 fu a.f) [a.s]
def qvo(a:(aW fu).L 3):(aW fu).L 1:=Fx.jm (C0 fu a.f) [(qvp fu a).s]
def qvq:Nat->(aW fu).L 2:=Fx.lq (vC fu) (HQ fu) (fun a=>[a.s])
def qvn:Nat->(aW fu).L 3:=Fx.lq (lL fu) (Cy fu) (fun a=>[(qvo fu a).s,(qvq fu fu).s])
def qvm:(aW fu).L 4:=Fx.jm (HU fu) [(qvn fu fu).s]
def qvl:(aW fu).L 5:=Fx.jm (Cz fu) [(qvm fu).s]
def qdo:=(aW fu).fi (vB fu) [(qvl fu).s]
def qdp:EI wG ⟨.fn 213,XH,[],_,RS.mk YA []⟩:=(fx [MK.p,nh.p,(ML fu).p,qdn.p,il.p]).fi (lN fu)
def MO:Fx wG ⟨.fn 195,[.h WA,wH,wH],[],_,RS.mk (wH) []⟩:=fx [(qdp fu).p,MK.p,nh.p,(MN fu).p] [lb 254 [(2,wH),Un,(7,VZ)] [X8,We],lb 253 [(2,wH),Un,(7,VZ),(46,UO)] [X8,We]]
def qvs:(MO fu).L 0:=Fx.jm (Dq fu)
def qvr:(MO fu).L 1:=Fx.jm (Dp fu) [(qvs fu).s]
def qvt:=(MO fu).fi (xX fu) [(qvr fu).s]
def pP:Fx wG ⟨.fn 143,[.h UK,wH,wH],[],_,RS.mk (wH) []⟩:=fx [Oi.p,(qvt fu).p] [lb 7826 YY [VU],lb 15651 [(1,wH),(2,wH),Un,(7,wH),(8,wH),(9,UO),Va,Wj,(44,UO)] [VU],lb 976 YY [VU]]
def qvw(r0:(pP fu).L 2):(pP fu).L 0:=Fx.jm (Dr fu r0.f) [r0.s]
def qvv(r0:(pP fu).L 2):(pP fu).L 1:=Fx.jm (xZ fu r0.f) [(qvw fu r0).s]
def qvu:Nat->(pP fu).L 2:=Fx.lq (ud fu) (xY fu) (fun a=>[(qvv fu a).s])
def qvx:=(pP fu).fi (mJ fu) [(qvu fu fu).s]
def qv1:EI wG ⟨.fn 81,[.h UK,wH],[],_,RS.mk YA []⟩:=(fx [(Ga fu).p,nh.p,Bi.p,ik.p,(qdo fu).p,FY.p,(qvx fu).p,il.p]).fi (Dm fu)
def MP:Fx wG ⟨.fn 40,[.h UK,.h xD],[],_,RS.mk WN [(0,UR)]⟩:=fx [(Ga fu).p,nh.p,(MN fu).p,ik.p,FY.p,Oi.p,(qv1 fu).p,⟨I7 zi,OA⟩,il.p] [lb 32744 [Ug,U4,(7,wH),(10,YO),(49,Xc),(50,wH),(51,wH)] [VU,UJ,XN,XO],lb 1022 [Ug,U4,(7,wH),(9,Xc)] [VU,UJ,XN]]
def qv3:Nat->(MP fu).L 0:=Fx.lq (wy fu) (mH fu) (fun a=>[a.s])
def qv2:(MP fu).L 1:=Fx.jm (Dl fu) [(qv3 fu fu).s]
def MQ:=(MP fu).fi (mG fu) [(qv2 fu).s]
def eC(fu:Nat):Fx wG ⟨.fn 84,YI,[],_,RS.mk WW []⟩:=fx [ik.p,il.p] [lb 14950 [US,Uc,(3,wH),(4,wH),(16,VB),Xo,YJ] Wi,lb 14949 [US,Uc,(3,wH),(4,wH),(16,VB),Xo,YJ,(28,UO)] Wi,lb 232 [US,Uc,(16,VB),Xo,YJ] Wi,lb 28 [US,Uc] Wi,lb 13 [US,Uc,(13,UO)] Wi]
def qv8(a:(eC fu).L 2):(eC fu).L 0:=Fx.jm (Iw fu a.f) [a.s]
def qv7(a:(eC fu).L 2):(eC fu).L 1:=Fx.jm (CU fu a.f) [(qv8 fu a).s]
def qv6:Nat->(eC fu).L 2:=Fx.lq (wY fu) (Iu fu) (fun a=>[(qv7 fu a).s])
def qv5:(eC fu).L 3:=Fx.jm (Iv fu) [(qv6 fu fu).s]
def qv4:(eC fu).L 4:=Fx.jm (CT fu) [(qv5 fu).s]
def qv9:=(eC fu).fi (CS fu) [(qv4 fu).s]
def qdq(fu:Nat):Fx wG ⟨.fn 85,YK,[],_,RS.mk WW []⟩:=fx [ik.p,Bi.p,il.p] [lb 232 [(0,VB),(1,wH),Uk,(12,VB),Xp,(14,wH)] [UN]]
def qwa:Nat->(qdq fu).L 0:=Fx.lq (wX fu) (It fu) (fun a=>[a.s])
def qwb:=(qdq fu).fi (wW fu) [(qwa fu fu).s]
def jI:Fx wG ⟨.fn 41,YI,[],_,RS.mk WW []⟩:=fx [ik.p,Bi.p,(qv9 fu).p,nh.p,(qwb fu).p] [lb 28 [US,Uc] Wi,lb 6655 [US,Uc,(45,UO)] Wi,lb 1663 [US,Uc,(35,UO)] Wi,lb 415 [US,Uc,(25,UO)] Wi,lb 103 [US,Uc,(15,UO)] Wi,lb 25 [US,Uc,(5,UO)] Wi]
def qwh:(jI fu).L 0:=Fx.jm (Io fu)
def qwg:(jI fu).L 1:=Fx.jm (CR fu) [(qwh fu).s]
def qwf:(jI fu).L 2:=Fx.jm (CQ fu) [(qwg fu).s]
def qwe:(jI fu).L 3:=Fx.jm (CP fu) [(qwf fu).s]
def qwd:(jI fu).L 4:=Fx.jm (CO fu) [(qwe fu).s]
def qwc:(jI fu).L 5:=Fx.jm (CN fu) [(qwd fu).s]
def qdr:=(jI fu).fi (wR fu) [(qwc fu).s]
def jJ:Fx wG ⟨.fn 10,YL,[],_,RS.mk WW []⟩:=fx [(x4s fu).p,ik.p,x7s.p,(qf9 fu).p,(q60 fu).p,nh.p,(Ga fu).p,(MQ fu).p,(qdr fu).p,il.p] [lb 253 [US,Uc,(104,UO)] Xx,lb 28 [US,Uc] Xx,lb 26623 [US,Uc,(62,UO)] Xx,lb 415 [US,Uc,(34,UO)] Xx,lb 103 [US,Uc,(24,UO)] Xx,lb 25 [US,Uc,(7,UO)] Xx]
def qwn:(jJ fu).L 0:=Fx.jm (vK fu)
def qwm:(jJ fu).L 1:=Fx.jm (CA fu) [(qwn fu).s]
def qwl:(jJ fu).L 2:=Fx.jm (vJ fu) [(qwm fu).s]
def qwk:(jJ fu).L 3:=Fx.jm (vI fu) [(qwl fu).s]
def qwj:(jJ fu).L 4:=Fx.jm (vH fu) [(qwk fu).s]
def qwi:(jJ fu).L 5:=Fx.jm (lQ fu) [(qwj fu).s]
def FI:=(jJ fu).fi (bX fu) [(qwi fu).s]
def qdt:EI wG ⟨.fn 55,[],[],_,RS.mk W7 [(0,VK)]⟩:=(fx).fi CG
def AD:LC.glob 3=some ⟨.int .u64,Lib.pow10Tab⟩:=rfl
def AE:(3,20)∈LC.sizes:=Tf
def qwo:EI wG ⟨.fn 57,[wS],[],_,RS.mk (wS) []⟩:=(fx [qf8.p,⟨LZ.e wu,qar⟩]).fi vT
def qdu:EI wG ⟨.fn 58,[],[],_,RS.mk W7 [(0,VK)]⟩:=(fx).fi CK
def qwp:EI wG ⟨.fn 112,WO,[],_,RS.mk (wS) []⟩:=(fx [⟨oJ.e je,Ao AD AE⟩,⟨qap.e mA,qq2⟩]).fi zg
def qws:EI wG ⟨.fn 59,XH,[],_,RS.mk (wS) []⟩:=(fx [qwp.p]).fi CJ
def qdv:EI wG ⟨.fn 114,[],[],_,RS.mk W7 [(0,VK)]⟩:=(fx).fi CE
def qdw(fu:Nat):Fx wG ⟨.fn 61,[VB],[],_,RS.mk (wS) []⟩:=fx [⟨oJ.e je,Ao AD AE⟩,⟨oK.e im,Ar⟩] [lb 232 [(3,Uv),(6,VB),(7,wH),(8,wH)] [(32,VK)]]
def qwt:Nat->(qdw fu).L 0:=Fx.lq (vW fu) (Ii fu) (fun a=>[a.s])
def qdx:=(qdw fu).fi (lY fu) [(qwt fu fu).s]
def qdy:Fx wG ⟨.fn 60,YI,[],_,RS.mk (wS) []⟩:=fx [⟨oJ.e je,Ao AD AE⟩,qdv.p,(qdx fu).p,⟨oK.e im,Ar⟩] [lb 30 [US,(3,wS)] [Uh]]
def qwu:(qdy fu).L 0:=Fx.jm (vY fu)
def qwv:=(qdy fu).fi (CH fu) [(qwu fu).s]
def qdz:Fx wG ⟨.fn 22,YL,[],_,RS.mk W7 [(0,VK)]⟩:=fx [qdt.p,⟨oJ.e je,Ao AD AE⟩,qwo.p,qdu.p,qws.p,(qwv fu).p,(qdx fu).p] [lb 232 [US,(3,Wb),(33,WU),(34,wH),(35,wH)] [Uo,XM]]
def qww:Nat->(qdz fu).L 0:=Fx.lq (vV fu) (Ih fu) (fun a=>[a.s])
def qwx:=(qdz fu).fi (CF fu) [(qww fu fu).s]
def qwy:EI wG ⟨.fn 25,[Ur],Vc,_,RS.mk (wH) [Vz,Vg,(2,VN)]⟩:=(fx).fi I9
def qwz:EI wG ⟨.fn 63,[VM],[],_,RS.mk (UO) []⟩:=(fx).fi Dg
def FJ(fu:Nat):Fx wG ⟨.fn 24,[wS],[],_,RS.mk (wS) []⟩:=fx [qwz.p] [lb 59680 [(0,wS),(3,wS),(5,wH)],lb 464 XT]
def qw1(r0:(FJ fu).L 1):Nat->(FJ fu).L 0:=Fx.lq (lU fu r0.f) (CB fu r0.f) (fun a=>[a.s,r0.s])
def qw0:Nat->(FJ fu).L 1:=Fx.lq (lT fu) (Ic fu) (fun a=>[(qw1 fu a fu).s])
def qw2:=(FJ fu).fi (vN fu) [(qw0 fu fu).s]
def Bm:Fx wG ⟨.fn 7,[XA],[],_,RS.mk XV []⟩:=fx [ik.p,(FI fu).p,nh.p,(qwx fu).p,qwy.p,⟨JT.e fT,PT⟩,il.p,(qw2 fu).p,qf0.p] [lb 256408 [Un,(7,VZ),(32,XA),(33,wH),(34,wH),(39,Xc),(40,wH),(41,wH)] [UN,(33,.cells [.pn 33,YO] 60),YS,(35,VN)],lb 1000 [Un,(7,VZ),(32,XA),(33,wH),(34,wH)] Xr,lb 232 [Ve,Un,(16,XA),Xo,YJ] [UN]]
def qw5(a:(Bm fu).L 1):Nat->(Bm fu).L 0:=Fx.lq (vM fu a.f) (Ib fu a.f) (fun b=>[b.s,a.s])
def qw4:Nat->(Bm fu).L 1:=Fx.lq (lS fu) (Ia fu) (fun a=>[(qw5 fu a fu).s])
def qw3:Nat->(Bm fu).L 2:=Fx.lq (vL fu) (HY fu) (fun a=>[a.s,(qw4 fu fu).s])
def qd0:=(Bm fu).fi (lR fu) [(qw3 fu fu).s]
def qw6:EI wG ⟨.fn 47,[wS],[],_,RS.mk Xw [Vx,UQ,U6]⟩:=(fx [⟨LY.e qg,qaq Tf⟩,Bu.p]).fi CL
def qxb:EI wG ⟨.yld 0,[wS],[UX,XB,V9,VH,(4,V6)],_,.two (RS.mk (VT) [UX,XC,(2,.cells [.ptr 6 0] 85),VH,Vh,(5,V6),WK,(7,VI),(8,UR),(9,UR),Xt]) (RS.mk (VT) [UX,XC,V9,VH,Vh,(5,V6)])⟩:=(fy 12 [] [] false [([0,1,0,1,1,1,1],2)] (oc rfl lf)).fo lP [] 0 [0,1,0,1,1,1,1]
def qxc:EI wG ⟨.fn 148,Vv,[],_,RS.mk (.tup [wS,wS,UO]) []⟩:=(fx [⟨Mr.e qf,qbq Tf⟩]).fi C6
def qd1:EI wG ⟨.fn 90,Vv,[],_,RS.mk (.tup [wS,wS,UO]) []⟩:=(fx [qxc.p]).fi gF
def qd2(fu:Nat):Fx wG ⟨.fn 149,[Wk,wS],[],_,RS.mk (wH) []⟩:=fx [] [lb 104 [(0,Wk),(1,wS),(7,wH),(8,wH)]]
def qxd:Nat->(qd2 fu).L 0:=Fx.lq (xA fu) (I6 fu) (fun a=>[a.s])
def qxe:=(qd2 fu).fi (I5 fu) [(qxd fu fu).s]
def FK:EI wG ⟨.fn 150,[Ur,UO],UI,_,RS.mk Vy UI⟩:=(fx [] [] true).fi zf (h:=by rintro⟨_,s,_⟩ ⟨⟨t,u,v,w,x,y,_,z,A,B,a,c,d,e,f,g,i,j,k,l,m,_,_,_,n,_⟩,o,p,q,r,_⟩;exact Eq.trans (b:=zf s t u v w x y z A B a c d e f g i j k l m n o p q r) Tc Tc)
def MZ:EI wG ⟨.fn 91,[Ur,.own 1,wS],[U7,(1,VK),(2,VI),(3,UR),(4,UR),(5,UR)],_,RS.mk (wH) [U7,Vg,(2,VI),(3,UR),(4,UR),(5,UR)]⟩:=(fx [(qxe fu).p,FK.p] [] true).fi (gB fu) (h:=by rintro⟨_,_,u,_⟩ ⟨⟨v,w,x,y,z,A,_,B,C,E,a,c,d,e,f,g,i,j,k,l,m,_,_,_,n,_⟩,o,q,r,s,t,_⟩;exact Eq.trans (b:=gB fu u v w x y z A B C E a c d e f g i j k l m n o q r s t) Tc Tc)
def qd3(fu:Nat):Fx wG ⟨.fn 152,[wS],[],_,RS.mk (UO) []⟩:=fx [] [lb 104 [(0,wS),(5,wH),(6,wH)]]
def qxf:Nat->(qd3 fu).L 0:=Fx.lq (uW fu) (H4 fu) (fun a=>[a.s])
def qd4:=(qd3 fu).fi (bT fu) [(qxf fu fu).s]
def Bo:Fx wG ⟨.fn 92,Ww,UI,_,RS.mk (wH) UI⟩:=fx [⟨JH.e y8,PE Tf Tf⟩,(qd4 fu).p,⟨oJ.e je,Ao AD AE⟩,FK.p] [lb 30 [(0,Ur),(1,wS),(5,wH),(6,Wy)] UI,lb 29 [(0,Ur),(1,wS),(5,wH),(6,Wy),(22,Yd)] UI,lb 30 [(0,Ur),(1,wS),(5,wH),Xq] UI,lb 29 [(0,Ur),(1,wS),(5,wH),Xq,(22,UO)] UI] true
def qxi:(Bo fu).L 0:=Fx.jm (vO fu) (h:=by rintro⟨⟨_,t,u,_,_⟩,⟨⟨v,w,x,y,z,A,_,B,C,a,c,d,e,f,g,i,j,k,l,m,n,_,_,_,o,_⟩,p,q,r,s,_⟩⟩;exact Eq.trans (b:=vO fu t u v w x y z A B C a c d e f g i j k l m n o p q r s) Tc Tc)
def qxg:(Bo fu).L 1:=Fx.jm (Id fu) [(qxi fu).s] (h:=by rintro⟨⟨_,u,v,_,_,_⟩,⟨⟨w,x,y,z,A,B,_,C,E,a,c,d,e,f,g,i,j,k,l,m,n,_,_,_,o,_⟩,p,q,r,t,_⟩⟩;exact Eq.trans (b:=Id fu u v w x y z A B C E a c d e f g i j k l m n o p q r t) Tc Tc)
def qxj:(Bo fu).L 2:=Fx.jm (CC fu) (h:=by rintro⟨⟨_,t,u,_,_⟩,⟨⟨v,w,x,y,z,A,_,B,C,a,c,d,e,f,g,i,j,k,l,m,n,_,_,_,o,_⟩,p,q,r,s,_⟩⟩;exact Eq.trans (b:=CC fu t u v w x y z A B C a c d e f g i j k l m n o p q r s) Tc Tc)
def qxh:(Bo fu).L 3:=Fx.jm (bY fu) [(qxj fu).s] (h:=by rintro⟨⟨_,v,w,_,x,_⟩,⟨⟨y,z,A,B,C,E,_,F,a,c,d,e,f,g,i,j,k,l,m,n,o,_,_,_,p,_⟩,q,r,t,u,_⟩⟩;exact Eq.trans (b:=bY fu v w x y z A B C E F a c d e f g i j k l m n o p q r t u) Tc Tc)
def FL:=(Bo fu).fi (uc fu) [(qxg fu).s,(qxh fu).s] (h:=by rintro⟨_,t,_⟩ ⟨⟨u,v,w,x,y,z,_,A,B,C,a,c,d,e,f,g,i,j,k,l,m,_,_,_,n,_⟩,o,p,q,r,_⟩;exact Eq.trans (b:=uc fu t u v w x y z A B C a c d e f g i j k l m n o p q r) Tc Tc)
def FM(fu:Nat):Fx wG ⟨.fn 93,[wS],[],_,RS.mk (wS) []⟩:=fx [] [lb 7461 [(0,wS),(3,Uv),(4,wH),(5,VM),(23,UO)] [Uj],lb 464 YZ [Uj]]
def qxl(r0:(FM fu).L 1):(FM fu).L 0:=Fx.jm (lZ fu r0.f) [r0.s]
def qxk:Nat->(FM fu).L 1:=Fx.lq (gD fu) (Ij fu) (fun a=>[(qxl fu a).s])
def qxm:=(FM fu).fi (vX fu) [(qxk fu fu).s]
def qxn:EI wG ⟨.fn 94,Ww,UI,_,RS.mk Vy VS⟩:=(fx [qd1.p,FK.p,qdu.p,(MZ fu).p]).fi (vP fu) (h:=by rintro⟨_,t,_⟩ ⟨⟨u,v,w,x,y,z,_,A,B,C,a,c,d,e,f,g,i,j,k,l,m,_,_,_,n,_⟩,o,q,r,s,_⟩;exact Eq.trans (b:=vP fu t u v w x y z A B C a c d e f g i j k l m n o q r s) Tc Tc)
def qxp:EI wG ⟨.fn 153,[wH,wH,Ur],[Vx],_,RS.mk (wH) [Vx]⟩:=(fx [⟨JH.e y8,PE Tf Tf⟩]).fi nq
def Nb:Fx wG ⟨.fn 95,Ww,UI,_,RS.mk Vy VS⟩:=fx [(qd4 fu).p,qxp.p] [lb 14 [(0,Ur),Un] [Uz,Vg,Wc,Wd,Vh,Wl,YT,XN,XO,Xu],lb 13 [(0,Ur),Un,(24,UO)] [Uz,Vg,Wc,Wd,Vh,Wl,YT,XN,XO,Xu]]
def qxr:(Nb fu).L 0:=Fx.jm (CD fu) (h:=by rintro⟨⟨_,_,_⟩,⟨⟨s,t,u,v,w,x,_,y,z,A,B,a,c,d,e,f,g,i,j,k,l,_,_,_,m,_⟩,_,_,_,_,⟨n,_⟩,o,p,q,r,_⟩⟩;exact Eq.trans (b:=CD fu s t u v w x y z A B a c d e f g i j k l m n o p q r) Tc Tc)
def qxq:(Nb fu).L 1:=Fx.jm (bZ fu) [(qxr fu).s] (h:=by rintro⟨⟨_,_,u,_⟩,⟨⟨v,w,x,y,z,A,_,B,C,E,a,c,d,e,f,g,i,j,k,l,m,_,_,_,n,_⟩,_,_,_,_,⟨o,_⟩,p,q,r,t,_⟩⟩;exact Eq.trans (b:=bZ fu u v w x y z A B C E a c d e f g i j k l m n o p q r t) Tc Tc)
def qxs:=(Nb fu).fi (vS fu) [(qxq fu).s] (h:=by rintro⟨_,t,_⟩ ⟨⟨u,v,w,x,y,z,_,A,B,C,a,c,d,e,f,g,i,j,k,l,m,_,_,_,n,_⟩,o,p,q,r,_⟩;exact Eq.trans (b:=vS fu t u v w x y z A B C a c d e f g i j k l m n o p q r) Tc Tc)
def qxt:EI wG ⟨.fn 154,Vv,[],_,RS.mk (Wk) []⟩:=(fx [(qfu fu).p]).fi (CZ fu)
def qxu:EI wG ⟨.fn 212,Vv,[],_,RS.mk (.tup [wS,UO]) []⟩:=(fx [qfr.p]).fi C7
end
end
noncomputable section
open Go.Proofs
set_option linter.unusedVariables false
set_option maxRecDepth 100000
set_option maxHeartbeats 2000000
open Tryz
section
variable(fu:Nat)
def qxv:EI wG ⟨.fn 155,Vv,[],_,RS.mk (.tup [wS,UO]) []⟩:=(fx [qxu.p]).fi gG
def qd5:EI wG ⟨.fn 98,Ww,UI,_,RS.mk (wH) UI⟩:=(fx [qxv.p,(FL fu).p,FK.p] [] true).fi (lX fu) (h:=by rintro⟨_,t,_⟩ ⟨⟨u,v,w,x,y,z,_,A,B,C,a,c,d,e,f,g,i,j,k,l,m,_,_,_,n,_⟩,o,q,r,s,_⟩;exact Eq.trans (b:=lX fu t u v w x y z A B C a c d e f g i j k l m n o q r s) Tc Tc)
def qxw:EI wG ⟨.yld 0,[wS],Xj,_,RS.mk (VT) [Um,WH,W4,VH,U0,Xg,W6,Vb,Vp,Vq,Xt,(11,VI),Xv,Wz,YU]⟩:=(fy 97 [(FL fu).p] [] false [([0,1,0,1,1,1],3)] (oc rfl lf)).fo (fZ fu) [] 0 [0,1,0,1,1,1] (h:=by rintro⟨u,_⟩ ⟨⟨_,_,_⟩,⟨⟨_,_⟩,_⟩,⟨_,_⟩,_,⟨v,w,x,y,z,A,_,B,C,E,a,c,d,e,f,g,i,j,k,l,m,_,_,_,n,_⟩,o,q,r,s,t,_⟩;exact Eq.trans (b:=fZ fu u v w x y z A B C E a c d e f g i j k l m n o q r s t) Tc Tc)
def Nd:Fx wG ⟨.fn 208,Uu,XQ,_,RS.mk Vy [UU,UQ,Ua,UV,VE,W5,Ux,U1,Vp,Vq,XI,XJ,XK,Wz,(14,VI),YV,(16,UR),(17,UR)]⟩:=fx [⟨nP.e ox,zO iB gQ iA gP⟩,(qxw fu).p,eJ.p] [lb 320 [VC,U8] Wf,lb 96 Xf Wf]
def qxx:Nat->(Nd fu).L 0:=Fx.lq (IN fu) (IM fu) (fun v=>[v.s]) (h:=by rintro v ⟨⟨_,_,_⟩,⟨⟨_,_,_⟩,⟨w,_⟩,⟨x,_⟩,⟨y,_⟩,⟨⟨_,_⟩,_⟩,⟨_,_⟩,_,⟨z,A,B,C,E,F,_,G,a,c,d,e,f,g,i,j,k,l,m,n,o,_,_,_,p,_⟩,_,_,_,_,_,q,r,s,t,u,_⟩⟩;exact Eq.trans (b:=IM fu v.f w x y z A B C E F G a c d e f g i j k l m n o p q r s t u) Tc Tc)
def qxy:Nat->(Nd fu).L 1:=Fx.lq (xM fu) (Dd fu) (fun v=>[v.s]) (h:=by rintro v ⟨⟨_,_,_,_,_⟩,⟨⟨_,_,_⟩,⟨w,_⟩,⟨x,_⟩,⟨y,_⟩,⟨⟨_,_⟩,_⟩,⟨_,_⟩,_,⟨z,A,B,C,E,F,_,G,a,c,d,e,f,g,i,j,k,l,m,n,o,_,_,_,p,_⟩,_,_,_,_,_,q,r,s,t,u,_⟩⟩;exact Eq.trans (b:=Dd fu v.f w x y z A B C E F G a c d e f g i j k l m n o p q r s t u) Tc Tc)
def qxz:=(Nd fu).fi (Dc fu) [(qxx fu fu).s,(qxy fu fu).s] (h:=by rintro⟨_,_,_,_,_⟩ ⟨⟨_,_,_⟩,⟨w,_⟩,⟨x,_⟩,⟨y,_⟩,⟨⟨_,_⟩,_⟩,⟨_,_⟩,_,⟨z,A,B,C,E,F,_,G,a,c,d,e,f,g,i,j,k,l,m,n,o,_,_,_,p,_⟩,q,r,t,u,v,_⟩;exact Eq.trans (b:=Dc fu w x y z A B C E F G a c d e f g i j k l m n o p q r t u v) Tc Tc)
def qx0:EI wG ⟨.fn 97,[Ur,wS,.fn 1048668 [Ur]],UI,_,RS.mk (.own 5) Xk⟩:=(fx [Bu.p,(qxz fu).p] [] false [([0,1,0,1,1,1],3)] (oc rfl lf)).fi (lV fu) (h:=by rintro⟨_,t,⟨_,_⟩,_⟩ ⟨⟨u,v,w,x,y,z,_,A,B,C,a,c,d,e,f,g,i,j,k,l,m,_,_,_,n,_⟩,o,q,r,s,_⟩;exact Eq.trans (b:=lV fu t u v w x y z A B C a c d e f g i j k l m n o q r s) Tc Tc)
def qx1:EI wG ⟨.fn 96,Ww,UI,_,RS.mk Vy VS⟩:=(fx [(qxt fu).p,qdv.p,(MZ fu).p,(FL fu).p,(qd5 fu).p,(qx0 fu).p]).fi (vR fu) (h:=by rintro⟨_,t,_⟩ ⟨⟨u,v,w,x,y,z,_,A,B,C,a,c,d,e,f,g,i,j,k,l,m,_,_,_,n,_⟩,o,q,r,s,_⟩;exact Eq.trans (b:=vR fu t u v w x y z A B C a c d e f g i j k l m n o q r s) Tc Tc)
def qx2:EI wG ⟨.yld 0,[wS],Xl,_,RS.mk (VT) [Um,WI,W4,VH,U0,Xg,W6,Vb,Vp,Vq,Xt,(11,VI),Xv,Wz,YU]⟩:=(fy 97 [(qd5 fu).p] [] false [([0,1,0,1,1,1],3)] (oc rfl lf)).fo (gA fu) [] 0 [0,1,0,1,1,1] (h:=by rintro⟨u,_⟩ ⟨⟨_,_,_⟩,⟨⟨_,_⟩,_⟩,⟨_,_⟩,_,⟨v,w,x,y,z,A,_,B,C,E,a,c,d,e,f,g,i,j,k,l,m,_,_,_,n,_⟩,o,q,r,s,t,_⟩;exact Eq.trans (b:=gA fu u v w x y z A B C E a c d e f g i j k l m n o q r s t) Tc Tc)
def Nf:Fx wG ⟨.fn 208,Uu,XR,_,RS.mk Vy [UU,UQ,Ua,UV,VF,W5,Ux,U1,Vp,Vq,XI,XJ,XK,Wz,(14,VI),YV,(16,UR),(17,UR)]⟩:=fx [⟨nP.e ox,zO iB gQ iA gP⟩,(qx2 fu).p,eJ.p] [lb 320 [VC,U8] Wg,lb 96 Xf Wg]
def qx3:Nat->(Nf fu).L 0:=Fx.lq (IP fu) (Za fu) (fun v=>[v.s]) (h:=by rintro v ⟨⟨_,_,_⟩,⟨⟨_,_,_⟩,⟨w,_⟩,⟨x,_⟩,⟨y,_⟩,⟨⟨_,_⟩,_⟩,⟨_,_⟩,_,⟨z,A,B,C,E,F,_,G,a,c,d,e,f,g,i,j,k,l,m,n,o,_,_,_,p,_⟩,_,_,_,_,_,q,r,s,t,u,_⟩⟩;exact Eq.trans (b:=Za fu v.f w x y z A B C E F G a c d e f g i j k l m n o p q r s t u) Tc Tc)
def qx4:Nat->(Nf fu).L 1:=Fx.lq (xN fu) (Df fu) (fun v=>[v.s]) (h:=by rintro v ⟨⟨_,_,_,_,_⟩,⟨⟨_,_,_⟩,⟨w,_⟩,⟨x,_⟩,⟨y,_⟩,⟨⟨_,_⟩,_⟩,⟨_,_⟩,_,⟨z,A,B,C,E,F,_,G,a,c,d,e,f,g,i,j,k,l,m,n,o,_,_,_,p,_⟩,_,_,_,_,_,q,r,s,t,u,_⟩⟩;exact Eq.trans (b:=Df fu v.f w x y z A B C E F G a c d e f g i j k l m n o p q r s t u) Tc Tc)
def qx5:=(Nf fu).fi (De fu) [(qx3 fu fu).s,(qx4 fu fu).s] (h:=by rintro⟨_,_,_,_,_⟩ ⟨⟨_,_,_⟩,⟨w,_⟩,⟨x,_⟩,⟨y,_⟩,⟨⟨_,_⟩,_⟩,⟨_,_⟩,_,⟨z,A,B,C,E,F,_,G,a,c,d,e,f,g,i,j,k,l,m,n,o,_,_,_,p,_⟩,q,r,t,u,v,_⟩;exact Eq.trans (b:=De fu w x y z A B C E F G a c d e f g i j k l m n o p q r t u v) Tc Tc)
def qx6:EI wG ⟨.fn 97,[Ur,wS,.fn 1048674 [Ur]],UI,_,RS.mk (.own 5) Xk⟩:=(fx [Bu.p,(qx5 fu).p] [] false [([0,1,0,1,1,1],3)] (oc rfl lf)).fi (lW fu) (h:=by rintro⟨_,t,⟨_,_⟩,_⟩ ⟨⟨u,v,w,x,y,z,_,A,B,C,a,c,d,e,f,g,i,j,k,l,m,_,_,_,n,_⟩,o,q,r,s,_⟩;exact Eq.trans (b:=lW fu t u v w x y z A B C a c d e f g i j k l m n o q r s) Tc Tc)
def qx7:EI wG ⟨.fn 48,Ww,UI,_,RS.mk Vy VS⟩:=(fx [qd1.p,qdt.p,(MZ fu).p,(FL fu).p,(qxm fu).p,(qxn fu).p,(qxs fu).p,(qx1 fu).p,(qx6 fu).p]).fi (vQ fu) (h:=by rintro⟨_,t,_⟩ ⟨⟨u,v,w,x,y,z,_,A,B,C,a,c,d,e,f,g,i,j,k,l,m,_,_,_,n,_⟩,o,q,r,s,_⟩;exact Eq.trans (b:=vQ fu t u v w x y z A B C a c d e f g i j k l m n o q r s) Tc Tc)
def qx8:EI wG ⟨.yld 0,[wS],Wh,_,.two (RS.mk (VT) [UX,WL,(2,.cells [.ptr 11 0] 85),VH,Vh,U2,W6,Vb,Vp,Vq,(10,V6),WE,(12,VI),Wz,YU,YV,(16,VI),(17,UR),(18,UR),(19,UR)]) (.two (RS.mk (VT) [UX,WL,V9,VH,Vh,(5,.dat (.prod xE .bool) 90),W6,Vb,Vp,Vq,(10,V6)]) (RS.mk (VT) [UX,WL,Wx,VH,Vh,U2,W6,Vb,Vp,Vq,(10,V6),(12,VI),Wz,YU,YV]))⟩:=(fy 12 [(FI fu).p,nh.p,(qx7 fu).p] [] false [([0,1,0,1,1,1,1],2)] (oc rfl lf)).fo (ze fu) [] 0 [0,1,0,1,1,1,1] (h:=by rintro⟨u,_⟩ ⟨⟨_,_,_⟩,⟨_,_⟩,⟨_,_⟩,_,v,⟨w,x,y,z,A,B,_,C,E,a,c,d,e,f,g,i,j,k,l,m,n,_,_,_,o,_⟩,q,r,s,t,_⟩;exact Eq.trans (b:=ze fu u v w x y z A B C E a c d e f g i j k l m n o q r s t) Tc Tc)
def jL:Fx wG ⟨.fn 208,Uu,X2,_,.two (RS.mk Vy [UY,UQ,Ua,UV,XD,Vd,Ux,Vb,(8,V6)]) (RS.mk Vy [UY,UQ,Ua,UV,XD,(5,.cells [.ptr 9 0] 85),Ux,Vb,(8,V6),WG,(10,VI),(11,UR),Xv,Wz])⟩:=fx [⟨nP.e ox,zO iB gQ iA gP⟩,qxb.p,eJ.p,(qx8 fu).p] [lb 320 [VC,U8] Wm,lb 320 [VC,U8] [UY,UQ,Ua,UV,WC,Vd,Ux,Vb,YW],lb 96 Xf Wm,lb 96 Xf [UY,UQ,Ua,UV,WC,Vd,Ux,Vb,YW]]
def qyb(r0:(jL fu).L 1):Nat->(jL fu).L 0:=Fx.lq (IL fu r0.f) (IJ fu r0.f) (fun v=>[v.s,r0.s]) (h:=by rintro v ⟨⟨_,_,_⟩,⟨⟨_,_,_⟩,⟨w,_⟩,⟨x,_⟩,⟨y,_⟩,⟨_,_⟩,⟨_,_⟩,_,_,z,⟨A,B,C,E,F,G,_,a,c,d,e,f,g,i,j,k,l,m,n,o,p,_,_,_,q,_⟩,r,s,t,u,_⟩⟩;exact Eq.trans (b:=IJ fu r0.f v.f w x y z A B C E F G a c d e f g i j k l m n o p q r s t u) Tc Tc)
def qx9:Nat->(jL fu).L 1:=Fx.lq (IK fu) (OG fu) (fun a=>[(qyb fu a fu).s,a.s])
def qyc(a:(jL fu).L 3):Nat->(jL fu).L 2:=Fx.lq (xL fu a.f) (Db fu a.f) (fun w=>[w.s,a.s]) (h:=by rintro w ⟨⟨_,_,_,_,_⟩,⟨⟨_,_,_⟩,⟨x,_⟩,⟨y,_⟩,⟨z,_⟩,⟨_,_⟩,⟨_,_⟩,_,_,A,⟨B,C,E,F,G,H,_,c,d,e,f,g,i,j,k,l,m,n,o,p,q,_,_,_,r,_⟩,s,t,u,v,_⟩⟩;exact Eq.trans (b:=Db fu a.f w.f x y z A B C E F G H c d e f g i j k l m n o p q r s t u v) Tc Tc)
def qya:Nat->(jL fu).L 3:=Fx.lq (mE fu) (II fu) (fun a=>[(qyc fu a fu).s,a.s])
def qyd:=(jL fu).fi (IG fu) [(qx9 fu fu).s,(qya fu fu).s]
def qd7:EI wG ⟨.fn 12,[wS],[],_,RS.mk WN [(0,V6)]⟩:=(fx [ik.p,qw6.p,(qyd fu).p,il.p] [] false [([0,1,0,1,1,1,1],2)] (oc rfl lf)).fi (fY fu)
def qye:EI wG ⟨.fn 99,[.h UK,.h xD,.h xR],[],_,RS.mk (.fn 156 [Ur,V5,WJ]) [(0,.dat xD 32),(1,WX),(2,.dat UK 46)]⟩:=(fx).fi Iq
def qd8(fu:Nat):Fx wG ⟨.fn 262,YK,[],_,RS.mk (wH) []⟩:=fx [] [lb 104 [(0,VB),(1,wH),(7,wH),(8,wH)]]
def qyf:Nat->(qd8 fu).L 0:=Fx.lq (I4 fu) (O9 fu) (fun a=>[a.s])
def qyg:=(qd8 fu).fi (O8 fu) [(qyf fu fu).s]
def qyh:EI wG ⟨.fn 214,YK,[],_,RS.mk (UO) []⟩:=(fx [(qyg fu).p]).fi (O4 fu)
def qd9:Fx wG ⟨.fn 157,[.h xR,.h xD,.h xD,wH],[],_,RS.mk (UO) []⟩:=fx [(qdp fu).p,(qyh fu).p] [lb 32118 [(3,wH),Uk,Wj,(14,UO)] [Uh]]
def qyi:(qd9 fu).L 0:=Fx.jm (Ip fu)
def qyj:=(qd9 fu).fi (Oz fu) [(qyi fu).s]
def qyk:EI wG ⟨.fn 215,[wH],[],_,RS.mk (UO) []⟩:=(fx).fi HP
def qyl:EI wG ⟨.fn 158,WO,[],_,RS.mk (UO) []⟩:=(fx [qyk.p]).fi Ox
def qym:EI wG ⟨.fn 159,[wH],[],_,RS.mk (UO) []⟩:=(fx).fi I8
def qea(fu:Nat):Fx wG ⟨.fn 100,YK,[],_,RS.mk (.tup [wH,UO]) []⟩:=fx [qyl.p,qym.p] [lb 480 [(0,VB),(1,wH),(6,wH),(7,wH),(8,wH)]]
def qyn:Nat->(qea fu).L 0:=Fx.lq (Ix fu) (O2 fu) (fun a=>[a.s])
def qyo:=(qea fu).fi (O1 fu) [(qyn fu fu).s]
def qyp:EI wG ⟨.yld 0,[wH],YR,_,RS.mk (VT) [VY,(1,WX),WP,VH,Vh,(5,UR)]⟩:=(fy 49 [(qyo fu).p] [] false [([0,1,0,1,1,1,1,1,1,1],4)] (oc rfl lf)).fo (Im fu) [] 0 [0,1,0,1,1,1,1,1,1,1]
def qeb:Fx wG ⟨.fn 156,Uu,Wp,_,RS.mk Vy [U5,XE,(2,WX),XF,(4,WX),WQ,Ux,Vb,(8,UR)]⟩:=fx [(MN fu).p,(qdo fu).p,(qyj fu).p,(MQ fu).p,(qyp fu).p] [lb 240 [VC,VJ,U8,VV,(5,wH),(7,wH),(8,wH)] [U5,XE,(2,WX),XF,(4,WX),Vr,Ux,Vb,Vj]]
def qyq:Nat->(qeb fu).L 0:=Fx.lq (Is fu) (O0 fu) (fun a=>[a.s])
def qyr:=(qeb fu).fi (Ir fu) [(qyq fu fu).s]
def qec:EI wG ⟨.fn 101,[wH,Ur,V5],[(0,WY),VO],_,RS.mk (UO) [(0,WY),VO]⟩:=(fx).fi Il
def qed(fu:Nat):Fx wG ⟨.fn 160,Wv,XU,_,RS.mk (wH) XU⟩:=fx [qec.p] [lb 104 [(0,.own 0),XY,(7,wH),(8,wH)] XU]
def qys:Nat->(qed fu).L 0:=Fx.lq (I3 fu) (O7 fu) (fun a=>[a.s])
def qyt:=(qed fu).fi (O6 fu) [(qys fu fu).s]
def qee:Fx wG ⟨.fn 102,Wv,XU,_,RS.mk (.own 3) [Wa,VO,U6,(3,UR)]⟩:=fx [(qyt fu).p,qec.p] [lb 976 [(0,Uv),XY,(5,wH),(6,wH)] [Wa,VO,U6,Vj]] true
def qyu:Nat->(qee fu).L 0:=Fx.lq (I0 fu) (O5 fu) (fun a=>[a.s])
def qyv:=(qee fu).fi (Iz fu) [(qyu fu fu).s]
def Nm:Fx wG ⟨.fn 49,[.h UK,.h xD,.h xR,wH,wH],[],_,RS.mk WN [(0,UR)]⟩:=fx [(Ga fu).p,nh.p,ik.p,(MQ fu).p,(qdr fu).p,Bi.p,qye.p,(qyr fu).p,(qyv fu).p,⟨I7 zi,OA⟩,⟨O3 Iy,qgv⟩,il.p] [lb 254 [(5,XP),(6,VZ),Ya,Yb,Yc,(10,wN),YB] [VU,We,(34,WX),(35,WY),(36,WY),(37,W9)],lb 253 [(5,XP),(6,VZ),Ya,Yb,Yc,(10,wN),YB,(60,UO)] [VU,We,(34,WX),(35,WY),(36,WY),(37,W9)]] false [([0,1,0,1,1,1,1,1,1,1],4)] (oc rfl lf)
def qyx:(Nm fu).L 0:=Fx.jm (vZ fu)
def qyw:(Nm fu).L 1:=Fx.jm (CM fu) [(qyx fu).s]
def qyy:=(Nm fu).fi (Ik fu) [(qyw fu).s]
def qyz:EI wG ⟨.fn 13,[.h xE,.h UK,wH,wH],[],_,RS.mk WN [(0,UR)]⟩:=(fx [(FI fu).p,nh.p,ik.p,(qyy fu).p,il.p]).fi (C8 fu)
def qeg(fu:Nat):Fx wG ⟨.fn 15,[VB,VB],[],_,RS.mk (UO) []⟩:=fx [] [lb 464 [(0,VB),(1,VB),(5,wH)]]
def qy0:Nat->(qeg fu).L 0:=Fx.lq (Gt fu) (Ol fu) (fun a=>[a.s])
def qeh:=(qeg fu).fi (rW fu) [(qy0 fu fu).s]
def FO:Fx wG ⟨.fn 18,[.h xE,.h xE],[],_,RS.mk (UO) []⟩:=fx [(qeh fu).p] [lb 464 [Ug,(3,VZ),(5,wH)] [Uo,W3],lb 28 [Ug,(3,VZ)] [Uo,W3],lb 13 [Ug,(3,VZ),(77,UO)] [Uo,W3]]
def qy3:Nat->(FO fu).L 0:=Fx.lq (Hf fu) (Oo fu) (fun a=>[a.s])
def qy2:(FO fu).L 1:=Fx.jm (Oq fu) [(qy3 fu fu).s]
def qy1:(FO fu).L 2:=Fx.jm (tw fu) [(qy2 fu).s]
def qy4:=(FO fu).fi (On fu) [(qy1 fu).s]
def qei(fu:Nat):Fx wG ⟨.fn 19,X0,[],_,RS.mk (wH) []⟩:=fx [] [lb 208 [(0,wS),(1,wS),(7,wH)]]
def qy5:Nat->(qei fu).L 0:=Fx.lq (fC fu) (BB fu) (fun a=>[a.s])
def Np:=(qei fu).fi (rh fu) [(qy5 fu fu).s]
def qej:EI wG ⟨.fn 6,[],[],_,RS.mk (UO) []⟩:=(fx [x1s.p,(qd0 fu).p,(qd7 fu).p,(qyz fu).p,(qy4 fu).p,(qeh fu).p,(Np fu).p]).fi (uA fu)
def eD:EI wG ⟨.fn 8,WO,[],_,RS.mk WW []⟩:=(fx).fi ce
def q9:EI wG ⟨.fn 28,XG,[],_,RS.mk (UO) []⟩:=(fx).fi ck
def Bp(fu:Nat):Fx wG ⟨.fn 86,[wS,wH],[],_,RS.mk (.tup WO) []⟩:=fx [q9.p] [lb 32720 [(0,wS),(1,wH),(7,wH),(8,wH),(9,wH),Va],lb 2044 [(0,wS),(1,wH),(7,wH),(8,wH),(9,wH)],lb 1021 [(0,wS),(1,wH),(7,wH),(8,wH),(9,wH),(43,UO)],lb 1020 [(0,wS),(1,wH),(7,wH),(8,wH),(9,wH)]]
def qy9:Nat->(Bp fu).L 0:=Fx.lq (yw fu) (BK fu) (fun a=>[a.s])
def qy8:(Bp fu).L 1:=Fx.jm (Om fu) [(qy9 fu fu).s]
def qy7:(Bp fu).L 2:=Fx.jm (sP fu) [(qy8 fu).s]
def qy6:(Bp fu).L 3:=Fx.jm (yv fu) [(qy7 fu).s]
def Nq:=(Bp fu).fi (fE fu) [(qy6 fu).s]
def qel:Fx wG ⟨.fn 64,[wS],[],_,RS.mk (UO) []⟩:=fx [(Nq fu).p] Xs
def qza:Nat->(qel fu).L 0:=Fx.lq (sY fu) (GM fu) (fun a=>[a.s])
def qem:=(qel fu).fi (sX fu) [(qza fu fu).s]
def qze:EI wG ⟨.fn 29,[wS],[],_,RS.mk (wH) []⟩:=(fx [(qem fu).p,(Np fu).p]).fi (t6 fu)
def qen:EI wG ⟨.fn 170,[VM],[],_,RS.mk (UO) []⟩:=(fx).fi eX
def qeo:EI wG ⟨.fn 177,[VM],[],_,RS.mk (UO) []⟩:=(fx [q9.p]).fi qc
def qep(fu:Nat):Fx wG ⟨.fn 172,[VM,wS],[],_,RS.mk (UO) []⟩:=fx [] [lb 208 [(0,VM),(1,wS),(5,wH)]]
def qzf:Nat->(qep fu).L 0:=Fx.lq (sL fu) (GB fu) (fun a=>[a.s])
def qeq:=(qep fu).fi (sK fu) [(qzf fu fu).s]
end
end
noncomputable section
open Go.Proofs
set_option linter.unusedVariables false
set_option maxRecDepth 100000
set_option maxHeartbeats 2000000
open Tryz
section
variable(fu:Nat)
def qer:EI wG ⟨.fn 171,[VM],[],_,RS.mk (UO) []⟩:=(fx [qeo.p,(qeq fu).p]).fi (eW fu)
def eq:Fx wG ⟨.fn 116,[wS],[],_,RS.mk X6 [(0,.row Us 160)]⟩:=fx [qen.p,(qer fu).p,(qeq fu).p] [lb 15293724 Xh [UW],lb 7646860 Xh [UW],lb 1911712 Xh [UW],lb 61177226 Xi [UW],lb 61177225 [(0,wS),(4,Uv),(5,wH),(8,wS),(76,UO)] [UW],lb 61177224 Xi [UW],lb 15294305 [(0,wS),(4,Uv),(5,wH),(8,wS),(65,UO)] [UW],lb 15294304 Xi [UW],lb 61177668 [(0,wS),(4,Uv),(5,wH),(9,wS)] [UW],lb 30588833 [(0,wS),(4,Uv),(5,wH),(9,wS),(121,UO)] [UW],lb 30588832 [(0,wS),(4,Uv),(5,wH),(9,wS)] [UW],lb 238975 [(0,wS),(4,Uv),(5,wH),(6,VM),(99,UO)] [UW],lb 464 [(0,wS),(4,Uv),(5,wH)] [UW]]
def qzq(r0:(eq fu).L 12)(a:(eq fu).L 2):(eq fu).L 0:=Fx.jm (rN fu r0.f a.f) [r0.s,a.s]
def qzn(r0:(eq fu).L 12)(a:(eq fu).L 2):(eq fu).L 1:=Fx.jm (rM fu r0.f a.f) [(qzq fu r0 a).s]
def qzh(r0:(eq fu).L 12):Nat->(eq fu).L 2:=Fx.lq (eU fu r0.f) (Gg fu r0.f) (fun a=>[(qzn fu r0 a).s])
def qzk(r0:(eq fu).L 12)(a:(eq fu).L 7):(eq fu).L 3:=Fx.jm (eV fu r0.f a.f) [a.s]
def qzi(r0:(eq fu).L 12)(a:(eq fu).L 7):(eq fu).L 4:=Fx.jm (jW fu r0.f a.f) [(qzk fu r0 a).s]
def qzr(r0:(eq fu).L 12)(a:(eq fu).L 7):(eq fu).L 5:=Fx.jm (rO fu r0.f a.f) [(qzi fu r0 a).s]
def qzo(r0:(eq fu).L 12)(a:(eq fu).L 7):(eq fu).L 6:=Fx.jm (bC fu r0.f a.f) [(qzr fu r0 a).s,r0.s]
def qzl(r0:(eq fu).L 12):Nat->(eq fu).L 7:=Fx.lq (tn fu r0.f) (B6 fu r0.f) (fun a=>[(qzo fu r0 a).s])
def qzj(r0:(eq fu).L 12)(a:(eq fu).L 10):(eq fu).L 8:=Fx.jm (rL fu r0.f a.f) [a.s]
def qzs(r0:(eq fu).L 12)(a:(eq fu).L 10):(eq fu).L 9:=Fx.jm (rg fu r0.f a.f) [(qzj fu r0 a).s,r0.s]
def qzp(r0:(eq fu).L 12):Nat->(eq fu).L 10:=Fx.lq (ni fu r0.f) (rK fu r0.f) (fun a=>[(qzs fu r0 a).s])
def qzm(r0:(eq fu).L 12):(eq fu).L 11:=Fx.jm (bB fu r0.f) [(qzp fu r0 fu).s,r0.s]
def qzg:Nat->(eq fu).L 12:=Fx.lq (dh fu) (eS fu) (fun a=>[a.s,(qzh fu a fu).s,(qzl fu a fu).s,(qzm fu a).s])
def qzt:=(eq fu).fi (rJ fu) [(qzg fu fu).s]
def tg(fu:Nat):Fx wG ⟨.fn 117,[.h Vw,UO],[],_,RS.mk W7 [(0,Yf)]⟩:=fx [] [lb 32039 WV [Uf,Vm],lb 64077 [UP,(1,UO),(5,Uv),Vk,(7,UO),(8,wH),(40,UO)] [Uf,Vm],lb 64076 WV [Uf,Vm],lb 32036 WV [Uf,Vm],lb 16017 [UP,(1,UO),(5,Uv),Vk,(7,UO),(8,wH),(24,UO)] [Uf,Vm],lb 2000 WV [Uf,Vm]]
def qzz(r0:(tg fu).L 5):(tg fu).L 0:=Fx.jm (BN fu r0.f) [r0.s]
def qzy(r0:(tg fu).L 5):(tg fu).L 1:=Fx.jm (tE fu r0.f) [r0.s,(qzz fu r0).s]
def qzx(r0:(tg fu).L 5):(tg fu).L 2:=Fx.jm (tD fu r0.f) [(qzy fu r0).s]
def qzw(r0:(tg fu).L 5):(tg fu).L 3:=Fx.jm (tC fu r0.f) [(qzx fu r0).s]
def qzv(r0:(tg fu).L 5):(tg fu).L 4:=Fx.jm (tB fu r0.f) [(qzw fu r0).s]
def qzu:Nat->(tg fu).L 5:=Fx.lq (rl fu) (GP fu) (fun a=>[(qzv fu a).s])
def qz0:=(tg fu).fi (kL fu) [(qzu fu fu).s]
def qet(fu:Nat):Fx wG ⟨.fn 120,YM,[],_,RS.mk (UO) []⟩:=fx [] [lb 208 [UP,(3,wH)]]
def qz1:Nat->(qet fu).L 0:=Fx.lq (tM fu) (GV fu) (fun a=>[a.s])
def qeu:=(qet fu).fi (BR fu) [(qz1 fu fu).s]
def qev(fu:Nat):Fx wG ⟨.fn 176,[wS],[],_,RS.mk (UO) []⟩:=fx [q9.p] Xs
def qz2:Nat->(qev fu).L 0:=Fx.lq (sE fu) (Gy fu) (fun a=>[a.s])
def qew:=(qev fu).fi (sD fu) [(qz2 fu fu).s]
def qex:Fx wG ⟨.fn 123,[wS,UO],[],_,RS.mk (UO) []⟩:=fx [(qer fu).p,qeo.p] [lb 464 [(0,wS),(1,UO),(5,UO),(6,wH)]]
def qz3:Nat->(qex fu).L 0:=Fx.lq (rU fu) (Gq fu) (fun a=>[a.s])
def Nu:=(qex fu).fi (fB fu) [(qz3 fu fu).s]
def Nx:Fx wG ⟨.fn 173,YM,[],_,RS.mk (.tup [.h VW,UO]) []⟩:=fx [(qew fu).p,(Nu fu).p] [lb 14 [UP,Ug] [Uw],lb 13 [UP,Ug,(35,UO)] [Uw]]
def qz5:(Nx fu).L 0:=Fx.jm (tI fu)
def qz4:(Nx fu).L 1:=Fx.jm (wa fu) [(qz5 fu).s]
def qz6:=(Nx fu).fi (bG fu) [(qz4 fu).s]
def qez(fu:Nat):Fx wG ⟨.fn 175,[.h Vw,wH],[],_,RS.mk (UO) []⟩:=fx [] [lb 464 [UP,(5,wH)]]
def qz7:Nat->(qez fu).L 0:=Fx.lq (tG fu) (GQ fu) (fun a=>[a.s])
def qz8:=(qez fu).fi (BQ fu) [(qz7 fu fu).s]
def qe0(fu:Nat):Fx wG ⟨.fn 278,[wS],[],_,RS.mk (wS) []⟩:=fx [q9.p] [lb 464 [(3,Uv),(4,wH)] [Uj]]
def qz9:Nat->(qe0 fu).L 0:=Fx.lq (yu fu) (kH fu) (fun a=>[a.s])
def Ny:=(qe0 fu).fi (yt fu) [(qz9 fu fu).s]
def q0a:EI wG ⟨.fn 310,Vv,[],_,RS.mk (UO) []⟩:=(fx [(Ny fu).p]).fi (jX fu)
def qe1:Fx wG ⟨.fn 277,[wS],[],_,RS.mk (wH) []⟩:=fx [(q0a fu).p] [lb 464 YZ [(32,VK)]]
def q0b:Nat->(qe1 fu).L 0:=Fx.lq (sR fu) (GH fu) (fun a=>[a.s])
def q0c:=(qe1 fu).fi (GG fu) [(q0b fu fu).s]
def qe2(fu:Nat):Fx wG ⟨.fn 311,[VM],[],_,RS.mk (wH) []⟩:=fx [] [lb 208 [(0,VM),(3,wH)]]
def q0d:Nat->(qe2 fu).L 0:=Fx.lq (tL fu) (GU fu) (fun a=>[a.s])
def q0e:=(qe2 fu).fi (GT fu) [(q0d fu fu).s]
def qe3(fu:Nat):Fx wG ⟨.fn 312,[VB],[],_,RS.mk (wH) []⟩:=fx [] [lb 464 [(0,VB),(3,wH),(4,wH)]]
def q0f:Nat->(qe3 fu).L 0:=Fx.lq (bH fu) (tK fu) (fun a=>[a.s])
def qe4:=(qe3 fu).fi (tJ fu) [(q0f fu fu).s]
def om:Fx wG ⟨.fn 279,WD,[],_,RS.mk W7 [(0,VN)]⟩:=fx [(q0e fu).p,(qe4 fu).p] [lb 119396 [WZ,(3,Uv),(4,wH),(5,wH),(6,wH)] [Vj],lb 59697 [WZ,(3,Uv),(4,wH),(5,wH),(6,wH),(32,UO)] [Vj],lb 59696 [WZ,(3,Uv),(4,wH),(5,wH),(6,wH)] [Vj],lb 1864 [WZ,(3,Uv),(4,wH)] [Vj],lb 2000 [(3,VB),(7,Wb),(8,wH)] [(33,VN)],lb 465 [WZ,(3,Uv),(4,wH),(19,UO)] [Vj],lb 464 [WZ,(3,Uv),(4,wH)] [Vj]]
def q0m(r0:(om fu).L 6)(a:(om fu).L 2):(om fu).L 0:=Fx.jm (G7 fu r0.f a.f) [a.s]
def q0l(r0:(om fu).L 6)(a:(om fu).L 2):(om fu).L 1:=Fx.jm (sH fu r0.f a.f) [(q0m fu r0 a).s,r0.s]
def q0k(r0:(om fu).L 6):Nat->(om fu).L 2:=Fx.lq (kG fu r0.f) (BH fu r0.f) (fun a=>[(q0l fu r0 a).s])
def q0i(r0:(om fu).L 6):(om fu).L 3:=Fx.jm (G6 fu r0.f) [(q0k fu r0 fu).s]
def q0j:Nat->(om fu).L 4:=Fx.lq (sG fu) (G5 fu) (fun a=>[a.s])
def q0h(r0:(om fu).L 6):(om fu).L 5:=Fx.jm (kF fu r0.f) [(q0i fu r0).s,(q0j fu fu).s]
def q0g:Nat->(om fu).L 6:=Fx.lq (fD fu) (G4 fu) (fun a=>[(q0h fu a).s])
def q0n:=(om fu).fi (G3 fu) [(q0g fu fu).s]
def qe5(fu:Nat):Fx wG ⟨.fn 313,WD,[],_,RS.mk W7 [(0,UR)]⟩:=fx [] [lb 464 [WZ,(3,Uv),(4,wH)] [Vj]]
def q0o:Nat->(qe5 fu).L 0:=Fx.lq (jY fu) (B7 fu) (fun a=>[a.s])
def q0p:=(qe5 fu).fi (Gi fu) [(q0o fu fu).s]
def FQ:Fx wG ⟨.fn 280,WD,[],_,RS.mk (wS) []⟩:=fx [(q0p fu).p,(qe4 fu).p] [lb 2016 [(4,wS)],lb 2000 [(3,VB),(4,wS),(5,wH)],lb 224 [(3,Uv)] [Vj]]
def q0s:Nat->(FQ fu).L 0:=Fx.lq (eZ fu) (Gk fu) (fun a=>[a.s])
def q0r:Nat->(FQ fu).L 1:=Fx.lq (eY fu) (B9 fu) (fun a=>[a.s,(q0s fu fu).s])
def q0q:Nat->(FQ fu).L 2:=Fx.lq (rP fu) (Gj fu) (fun a=>[a.s,(q0r fu fu).s])
def q0t:=(FQ fu).fi (B8 fu) [(q0q fu fu).s]
def qe7:Fx wG ⟨.fn 315,[wS],[],_,RS.mk W7 [(0,UR)]⟩:=fx [(Nq fu).p] [lb 464 YZ [Vj]]
def q0w:Nat->(qe7 fu).L 0:=Fx.lq (sQ fu) (GF fu) (fun a=>[a.s])
def q0x:=(qe7 fu).fi (BL fu) [(q0w fu fu).s]
def N5:Fx wG ⟨.fn 314,[wH],[],_,RS.mk (wS) []⟩:=fx [q9.p] [lb 28 [(0,wH)],lb 13 [(0,wH),(9,UO)]]
def q0z:N5.L 0:=Fx.jm sW
def q0y:N5.L 1:=Fx.jm sV [(q0z).s]
def q00:=N5.fi qb [(q0y).s]
def jN:Fx wG ⟨.fn 282,[wH,.h wB],[],_,RS.mk (wS) []⟩:=fx [(q0x fu).p,q00.p,q9.p] [lb 7504 [(0,wH),Xd,(5,wS),(6,wH)],lb 60336 [(5,wS),(8,Uv),(9,wH)] [Vj],lb 3865165 [Xd,(5,wS),Va,Wj,(93,UO)],lb 120784 [Xd,(5,wS),Va],lb 117 [(0,wH),Xd,(5,wS),Xp,(14,UO)]]
def q02:Nat->(jN fu).L 0:=Fx.lq (jZ fu) (Gl fu) (fun a=>[a.s])
def q03:Nat->(jN fu).L 1:=Fx.lq (rS fu) (Gm fu) (fun a=>[a.s])
def q05(a:(jN fu).L 3):(jN fu).L 2:=Fx.jm (rT fu a.f) [a.s]
def q04:Nat->(jN fu).L 3:=Fx.lq (fA fu) (Gn fu) (fun a=>[(q05 fu a).s])
def q01:(jN fu).L 4:=Fx.jm (rR fu) [(q02 fu fu).s,(q03 fu fu).s,(q04 fu fu).s]
def q06:=(jN fu).fi (rQ fu) [(q01 fu).s]
def qe8:Fx wG ⟨.fn 281,[VM],[],_,RS.mk (wH) []⟩:=fx [(Ny fu).p] [lb 208 [(0,VM),(3,wH)]]
def q07:Nat->(qe8 fu).L 0:=Fx.lq (rV fu) (Gr fu) (fun a=>[a.s])
def q08:=(qe8 fu).fi (kA fu) [(q07 fu fu).s]
def eF:Fx wG ⟨.fn 227,[wS,wH],[],_,RS.mk (.tup [wS,wH]) []⟩:=fx [(Np fu).p,(q0c fu).p,(Ny fu).p,(q0n fu).p,(q0t fu).p,(q06 fu).p,(q08 fu).p,q9.p] [lb 17179202143 [(1,wH),(8,wH),(9,wH),YH,(12,Uv),Xp,(14,VM),(153,UO)] [Uj],lb 4294800535 [(1,wH),(8,wH),(9,wH),YH,(12,Uv),Xp,(14,VM),(109,UO)] [Uj],lb 67106256 [(1,wH),(8,wH),(9,wH),YH,(12,Uv),Xp] [Uj],lb 1022 [(0,wS),(1,wH),(6,wH),(7,wH),(8,wH)],lb 1021 [(0,wS),(1,wH),(6,wH),(7,wH),(8,wH),(58,UO)]]
def q1d(a:(eF fu).L 2):(eF fu).L 0:=Fx.jm (tA fu a.f) [a.s]
def q1c(a:(eF fu).L 2):(eF fu).L 1:=Fx.jm (fF fu a.f) [a.s,(q1d fu a).s]
def q1b:Nat->(eF fu).L 2:=Fx.lq (bF fu) (GN fu) (fun a=>[a.s,(q1c fu a).s])
def q1a:(eF fu).L 3:=Fx.jm (GO fu) [(q1b fu fu).s]
def q09:(eF fu).L 4:=Fx.jm (bE fu) [(q1a fu).s]
def q1e:=(eF fu).fi (sZ fu) [(q09 fu).s]
def th:Fx wG ⟨.fn 174,[wS],[],_,RS.mk (wS) []⟩:=fx [(q1e fu).p,qen.p] [lb 478178 [(0,wS),(3,wS),(4,wH),(7,wH)],lb 59775 [(0,wS),(3,wS),(4,wH),(7,wH),(58,UO)],lb 478177 [(0,wS),(3,wS),(4,wH),(7,wH),(47,UO)],lb 478176 [(0,wS),(3,wS),(4,wH),(7,wH)],lb 464 XT]
def q1i(r0:(th fu).L 4)(a:(th fu).L 3):(th fu).L 0:=Fx.jm (GL fu r0.f a.f) [a.s]
def q1j(r0:(th fu).L 4):(th fu).L 1:=Fx.jm (sU fu r0.f) [r0.s]
def q1h(r0:(th fu).L 4)(a:(th fu).L 3):(th fu).L 2:=Fx.jm (sS fu r0.f a.f) [(q1i fu r0 a).s,(q1j fu r0).s]
def q1g(r0:(th fu).L 4):Nat->(th fu).L 3:=Fx.lq (kK fu r0.f) (GK fu r0.f) (fun a=>[(q1h fu r0 a).s])
def q1f:Nat->(th fu).L 4:=Fx.lq (vz fu) (GJ fu) (fun a=>[a.s,(q1g fu a fu).s])
def q1k:=(th fu).fi (GI fu) [(q1f fu fu).s]
def ti:Fx wG ⟨.fn 119,YM,[],_,RS.mk (wS) []⟩:=fx [(qz8 fu).p,(q1k fu).p] [lb 477828 X3,lb 7468 X3,lb 238913 [UP,(3,wS),(4,wH),(5,wS),(34,UO)],lb 238912 X3,lb 464 [UP,(3,wS),(4,wH)]]
def q1o(r0:(ti fu).L 4)(a:(ti fu).L 3):(ti fu).L 0:=Fx.jm (GA fu r0.f a.f) [a.s]
def qfa(r0:(ti fu).L 4):(ti fu).L 1:=Fx.jm (sI fu r0.f) [r0.s]
def q1n(r0:(ti fu).L 4)(a:(ti fu).L 3):(ti fu).L 2:=Fx.jm (sJ fu r0.f a.f) [(q1o fu r0 a).s,(qfa fu r0).s]
def q1m(r0:(ti fu).L 4):Nat->(ti fu).L 3:=Fx.lq (kI fu r0.f) (G9 fu r0.f) (fun a=>[(q1n fu r0 a).s])
def q1l:Nat->(ti fu).L 4:=Fx.lq (tu fu) (G8 fu) (fun a=>[(q1m fu a fu).s,(qfa fu a).s])
def qfb:=(ti fu).fi (BJ fu) [(q1l fu fu).s]
def qO:Fx wG ⟨.fn 118,YM,[],_,RS.mk (.tup [.h VW,UO]) []⟩:=fx [(qeu fu).p,(qz6 fu).p,(qfb fu).p] [lb 3366 [UP,Ug,(4,wH)] [Uw],lb 3365 [UP,Ug,(4,wH),(33,UO)] [Uw],lb 208 [UP,Ug,(4,wH)] [Uw]]
def q1r(r0:(qO fu).L 2):(qO fu).L 0:=Fx.jm (GS fu r0.f)
def q1q(r0:(qO fu).L 2):(qO fu).L 1:=Fx.jm (tH fu r0.f) [(q1r fu r0).s]
def q1p:Nat->(qO fu).L 2:=Fx.lq (yy fu) (GR fu) (fun a=>[a.s,(q1q fu a).s])
def q1s:=(qO fu).fi (fG fu) [(q1p fu fu).s]
def oo:Fx wG ⟨.fn 65,[wS],[],_,RS.mk X6 [(0,.row UM 107)]⟩:=fx [(qzt fu).p,(qz0 fu).p,(q1s fu).p,(qfb fu).p,(qeu fu).p] [lb 2073811 [Vk,(7,Uv),(8,wH),Xe,Va,Wj] [Uf,WS],lb 530906800 [(6,Uv),(7,Wb),(8,wH),W8,(16,YO),Xo] [WR,Wu,(34,.cells [wS,VT,.own 36] 107),(35,Yf),(36,.row VW 109)],lb 1036926 [(6,Uv),(7,Wb),(8,wH),Xe,Va,W8] [WR,Wu,Wr],lb 1036925 [(6,Uv),(7,Wb),(8,wH),Xe,Va,W8,(98,UO)] [WR,Wu,Wr],lb 2073808 [Vk,(7,Uv),(8,wH),Xe,Va,Wj] [Uf,WS],lb 4048 [Vk,(7,Uv),(8,wH)] [Uf,WS],lb 30 [(4,Uv)] [UW],lb 29 [(4,Uv),(5,UO),(31,UO)] [UW]]
def q1x(b:(oo fu).L 5)(a:(oo fu).L 4):(oo fu).L 0:=Fx.jm (BF fu b.f a.f) [a.s]
def q10(a:(oo fu).L 5):Nat->(oo fu).L 1:=Fx.lq (sC fu a.f) (Gv fu a.f) (fun b=>[b.s,a.s])
def q1z(a:(oo fu).L 5):(oo fu).L 2:=Fx.jm (Gx fu a.f) [(q10 fu a fu).s,a.s]
def q1y(a:(oo fu).L 5):(oo fu).L 3:=Fx.jm (kE fu a.f) [(q1z fu a).s]
def q1w(a:(oo fu).L 5):Nat->(oo fu).L 4:=Fx.lq (yq fu a.f) (Gu fu a.f) (fun b=>[(q1x fu a b).s,a.s,(q1y fu a).s])
def q1v:Nat->(oo fu).L 5:=Fx.lq (nk fu) (sB fu) (fun a=>[(q1w fu a fu).s])
def q1u:(oo fu).L 6:=Fx.jm (BE fu) [(q1v fu fu).s]
def q1t:(oo fu).L 7:=Fx.jm (kD fu) [(q1u fu).s]
def q11:=(oo fu).fi (kC fu) [(q1t fu).s]
def qfc:EI wG ⟨.fn 121,[wS],[],_,RS.mk (wH) []⟩:=(fx [(qem fu).p]).fi (yx fu)
def q12:EI wG ⟨.fn 122,Xn,[],_,RS.mk WW []⟩:=(fx [(qfc fu).p,eD.p,(qew fu).p,(Nu fu).p]).fi (jV fu)
def vu:Fx wG ⟨.fn 66,[Vn],[],_,RS.mk WW []⟩:=fx [eD.p,(qfc fu).p,(q12 fu).p] [lb 1025264 [U9,Ug,(5,wH),(6,VZ),(7,wH)] [UN,WT],lb 64078 [U9,Ug,(5,wH),(6,VZ)] [UN,WT],lb 64077 [U9,Ug,(5,wH),(6,VZ),(72,UO)] [UN,WT],lb 2000 [U9,Ug,(5,wH)] [UN],lb 124 [U9,Ug] [UN],lb 61 [U9,Ug,(29,UO)] [UN],lb 464 [U9,Ug,(3,wH),(4,wH)] [UN]]
def q19(a:(vu fu).L 3):Nat->(vu fu).L 0:=Fx.lq (vy fu a.f) (sA fu a.f) (fun b=>[b.s,a.s])
def q18(a:(vu fu).L 3):(vu fu).L 1:=Fx.jm (BD fu a.f) [(q19 fu a fu).s]
def q17(a:(vu fu).L 3):(vu fu).L 2:=Fx.jm (tp fu a.f) [(q18 fu a).s]
def q16:Nat->(vu fu).L 3:=Fx.lq (nj fu) (rZ fu) (fun a=>[(q17 fu a).s])
def q15:(vu fu).L 4:=Fx.jm (BC fu) [(q16 fu fu).s]
def q14:(vu fu).L 5:=Fx.jm (kB fu) [(q15 fu).s]
def q13:Nat->(vu fu).L 6:=Fx.lq (bD fu) (rY fu) (fun a=>[a.s,(q14 fu).s])
def q2a:=(vu fu).fi (rX fu) [(q13 fu fu).s]
def Zb(fu:Nat):Fx wG ⟨.fn 124,[wS],[],_,RS.mk (wS) []⟩:=fx [] [lb 3729 [(0,wS),(3,wS),(4,wH),(20,UO)],lb 464 XT]
def q2c(r0:(Zb fu).L 1):(Zb fu).L 0:=Fx.jm (sO fu r0.f) [r0.s]
def q2b:Nat->(Zb fu).L 1:=Fx.lq (kJ fu) (GE fu) (fun a=>[(q2c fu a).s])
def q2d:=(Zb fu).fi (GD fu) [(q2b fu fu).s]
def q2e:EI wG ⟨.fn 67,Xn,[],_,RS.mk (wS) []⟩:=(fx [(Nu fu).p,(q2d fu).p]).fi (BM fu)
def q2f:EI wG ⟨.fn 30,[wS],[],_,RS.mk (UO) []⟩:=(fx [(q11 fu).p,(q2a fu).p,(q2e fu).p]).fi (qd fu)
def qfd(fu:Nat):Fx wG ⟨.fn 31,[wS],[],_,RS.mk (UO) []⟩:=fx [q9.p] Xs
def q2g:Nat->(qfd fu).L 0:=Fx.lq (tS fu) (Hg fu) (fun a=>[a.s])
def q2h:=(qfd fu).fi (tR fu) [(q2g fu fu).s]
def q2i:EI wG ⟨.fn 178,[wH],[],_,RS.mk (UO) []⟩:=(fx).fi BG
def q2j:EI wG ⟨.fn 125,WO,[],_,RS.mk (wH) []⟩:=(fx [q2i.p]).fi BI
def q2k:EI wG ⟨.fn 68,XH,[],_,RS.mk WW []⟩:=(fx [q9.p,eD.p,q2j.p]).fi BA
def q2l:EI wG ⟨.fn 32,XH,[],_,RS.mk WW []⟩:=(fx [q2k.p,eD.p,q9.p]).fi yz
def qff(fu:Nat):Fx wG ⟨.fn 69,[VB],[],_,RS.mk (wH) []⟩:=fx [q9.p] [lb 464 [(0,VB),(3,wH)]]
def q2n:Nat->(qff fu).L 0:=Fx.lq (tU fu) (Hj fu) (fun a=>[a.s])
def q2o:=(qff fu).fi (fJ fu) [(q2n fu fu).s]
def tj:Fx wG ⟨.fn 33,YI,[],_,RS.mk WW []⟩:=fx [q9.p,eD.p,(q2o fu).p] [lb 16339 [US,Uc,(3,wH)] Wi,lb 130707 [US,Uc,(3,wH),(77,UO)] Wi,lb 16336 [US,Uc,(3,wH)] Wi,lb 1020 [US,Uc] Wi,lb 509 [US,Uc,(45,UO)] Wi,lb 508 [US,Uc] Wi,lb 253 [US,Uc,(35,UO)] Wi,lb 252 [US,Uc] Wi,lb 125 [US,Uc,(26,UO)] Wi]
def q2x(a:(tj fu).L 2):(tj fu).L 0:=Fx.jm (He fu a.f) [a.s]
def q2w(a:(tj fu).L 2):(tj fu).L 1:=Fx.jm (BY fu a.f) [(q2x fu a).s]
def q2v:Nat->(tj fu).L 2:=Fx.lq (tQ fu) (Ha fu) (fun a=>[(q2w fu a).s])
def q2u:(tj fu).L 3:=Fx.jm (Hd fu) [(q2v fu fu).s]
def q2t:(tj fu).L 4:=Fx.jm (BX fu) [(q2u fu).s]
def q2s:(tj fu).L 5:=Fx.jm (Hc fu) [(q2t fu).s]
def q2r:(tj fu).L 6:=Fx.jm (BW fu) [(q2s fu).s]
def q2q:(tj fu).L 7:=Fx.jm (Hb fu) [(q2r fu).s]
def q2p:(tj fu).L 8:=Fx.jm (BV fu) [(q2q fu).s]
def q2y:=(tj fu).fi (fI fu) [(q2p fu).s]
def jQ:Fx wG ⟨.fn 9,YL,[],_,RS.mk WW []⟩:=fx [q9.p,eD.p,(qze fu).p,(q2f fu).p,(q2h fu).p,q2l.p,(q2y fu).p] [lb 16765552 [US,Uc,(4,wH),(5,wH)] Xx,lb 65488 [US,Uc,(4,wH)] Xx,lb 2044 [US,Uc] Xx,lb 1021 [US,Uc,(61,UO)] Xx,lb 208 [US,Uc,(3,wH)] Xx]
def q23(a:(jQ fu).L 1):Nat->(jQ fu).L 0:=Fx.lq (tO fu a.f) (GY fu a.f) (fun b=>[b.s,a.s])
def q22:Nat->(jQ fu).L 1:=Fx.lq (kN fu) (GX fu) (fun a=>[(q23 fu a fu).s])
def q21:(jQ fu).L 2:=Fx.jm (BS fu) [(q22 fu fu).s]
def q20:(jQ fu).L 3:=Fx.jm (fH fu) [(q21 fu).s]
def q2z:Nat->(jQ fu).L 4:=Fx.lq (tN fu) (GW fu) (fun a=>[a.s,(q20 fu).s])
def qfg:=(jQ fu).fi (kM fu) [(q2z fu fu).s]
def qU:Fx wG ⟨.fn 42,[wS],[],_,RS.mk (wS) []⟩:=fx [(Nq fu).p] [lb 15662 [(0,wS),(3,wS),(4,wH),(5,wH),(7,wH)],lb 15660 [(0,wS),(3,wS),(4,wH),(5,wH),(7,wH)],lb 976 [(0,wS),(3,wS),(4,wH),(5,wH)]]
def q26(r0:(qU fu).L 2):(qU fu).L 0:=Fx.jm (tT fu r0.f) [r0.s]
def q25(r0:(qU fu).L 2):(qU fu).L 1:=Fx.jm (Ca fu r0.f) [(q26 fu r0).s]
def q24:Nat->(qU fu).L 2:=Fx.lq (kQ fu) (Hi fu) (fun a=>[(q25 fu a).s])
def q27:=(qU fu).fi (jl fu) [(q24 fu fu).s]
def Bt:IF:=⟨.fn 87,[.h (.int .u64)],[],_,RS.mk (wS) []⟩
def q28(a:EI wG Bt)(fu:Nat):Fx wG Bt:=fx [a.p]
def q29(a:EI wG Bt)(fu:Nat):EI wG Bt:=(q28 a fu).fi (BP a.f fu)
def q3a:EI wG Bt := .rc (tF fu) (fun r=>BP r fu) (fun _ _=>rfl) (fun _=>rfl) (fun a=>q29 a fu) (fun _=>rfl) fu
def ND:EI wG ⟨.fn 43,[wH],[],_,RS.mk (wS) []⟩:=(fx [(q3a fu).p]).fi (qa fu)
def qfi(fu:Nat):Fx wG ⟨.fn 44,[wS],[],_,RS.mk (wS) []⟩:=fx [] [lb 464 XT]
def q3b:Nat->(qfi fu).L 0:=Fx.lq (kP fu) (Hh fu) (fun a=>[a.s])
def q3c:=(qfi fu).fi (BZ fu) [(q3b fu fu).s]
def qfj:Fx wG ⟨.fn 45,WO,[],_,RS.mk (wS) []⟩:=fx [(ND fu).p] [lb 224 [(1,wH),(5,wS)]]
def q3d:Nat->(qfj fu).L 0:=Fx.lq (sN fu) (GC fu) (fun a=>[a.s])
def q3e:=(qfj fu).fi (tv fu) [(q3d fu fu).s]
def qfk:Fx wG ⟨.fn 46,[VB],[],_,RS.mk (wS) []⟩:=fx [(ND fu).p] [lb 464 [(0,VB),(3,wS),(4,wH)]]
def q3f:Nat->(qfk fu).L 0:=Fx.lq (kS fu) (Hk fu) (fun a=>[a.s])
def q3g:=(qfk fu).fi (tV fu) [(q3f fu fu).s]
def NE:Fx wG ⟨.fn 11,YL,[],_,RS.mk (wS) []⟩:=fx [(q27 fu).p,(ND fu).p,(q3c fu).p,(q3e fu).p,(q3g fu).p] [lb 16382 [US,(5,Wb),(6,wS),(9,wS)] [Uo,XM],lb 8144 [US,(4,Wb),(5,Xc),(6,wS),(7,wH)] [Uo,XM,YS]]
def q3i:(NE fu).L 0:=Fx.jm (kO fu)
def q3h:Nat->(NE fu).L 1:=Fx.lq (tP fu) (GZ fu) (fun a=>[a.s,(q3i fu).s])
def q3j:=(NE fu).fi (BU fu) [(q3h fu fu).s]
def NG:IF:=⟨.fn 3,[XA],[],_,RS.mk (UO) []⟩
def vv:Fx wG NG:=fx [(qej fu).p,(qd0 fu).p,eD.p,(qfg fu).p,(FI fu).p,(q3j fu).p] [lb 8147 XX [UN,UJ],lb 32584 XX [UN,UJ],lb 2044 [(3,wS),Uk,U4,(6,wS)] [UN,UJ],lb 1021 [(3,wS),Uk,U4,(6,wS),(65,UO)] [UN,UJ],lb 8145 [Ve,(3,wS),Uk,U4,(6,wS),(7,wH),(29,UO)] [UN,UJ],lb 8144 XX [UN,UJ],lb 126 [Ve,(3,wS),Uk,U4] [UN,UJ]]
def q3r(a:(vv fu).L 5):(vv fu).L 0:=Fx.jm (tZ fu a.f) [a.s]
def q3p(a:(vv fu).L 5):(vv fu).L 1:=Fx.jm (Hn fu a.f) [(q3r fu a).s]
def q3s:(vv fu).L 2:=Fx.jm (kV fu)
def q3q:(vv fu).L 3:=Fx.jm (tY fu) [(q3s fu).s]
def q3o(a:(vv fu).L 5):(vv fu).L 4:=Fx.jm (fK fu a.f) [(q3p fu a).s,(q3q fu).s]
def q3n:Nat->(vv fu).L 5:=Fx.lq (bI fu) (Cb fu) (fun a=>[(q3o fu a).s])
def q3m:(vv fu).L 6:=Fx.jm (tX fu) [(q3n fu fu).s]
def q3t:EI wG NG:=(vv fu).fi (kU fu) [(q3m fu).s]
def qgo:(NG.e (kU fu)).Sound wG:=(q3t fu).h
def NH:IF:=⟨.fn 4,[wS],[],_,RS.mk (UO) []⟩
def qfl:Fx wG NH:=fx [(qej fu).p,(qd7 fu).p,eD.p,(qfg fu).p] [lb 4048 [(3,Uv),(5,wH)] [YW]]
def q3u:Nat->(qfl fu).L 0:=Fx.lq (tW fu) (Hm fu) (fun a=>[a.s])
def q3v:EI wG NH:=(qfl fu).fi (kT fu) [(q3u fu fu).s]
def qgn:(NH.e (kT fu)).Sound wG:=(q3v fu).h
end
end
noncomputable section
open Go.Proofs
set_option linter.unusedVariables false
set_option maxRecDepth 100000
set_option maxHeartbeats 2000000
open Tryz
section
variable(fu:Nat)
end
end
end Go.Sym
