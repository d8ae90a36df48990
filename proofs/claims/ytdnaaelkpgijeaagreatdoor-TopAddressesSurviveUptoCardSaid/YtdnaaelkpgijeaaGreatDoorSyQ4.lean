/- What the claim rests on, part 4: gathered texts. -/
import Derived.Test.YtdnaaelkpgijeaaGreatDoorSyQ3
set_option linter.defProp false
set_option linter.unusedSimpArgs false
set_option linter.unusedVariables false
namespace Go.Sym
set_option linter.unusedVariables false
abbrev wU : Type := Tree (List (Bs × Bs) × Bs)
abbrev wV : Type := List (Bs × Bs)
section
variable(fu:Nat)
def qrv:List UInt8:=[240,240,240,240,240,240,240,240,240,240,240,240,240,240,240,240,240,240,240,240,240,240,240,240,240,240,240,240,240,240,240,240,240,240,240,240,240,240,240,240,240,240,240,240,240,240,240,240,240,240,240,240,240,240,240,240,240,240,240,240,240,240,240,240,240,240,240,240,240,240,240,240,240,240,240,240,240,240,240,240,240,240,240,240,240,240,240,240,240,240,240,240,240,240,240,240,240,240,240,240,240,240,240,240,240,240,240,240,240,240,240,240,240,240,240,240,240,240,240,240,240,240,240,240,240,240,240,240,241,241,241,241,241,241,241,241,241,241,241,241,241,241,241,241,241,241,241,241,241,241,241,241,241,241,241,241,241,241,241,241,241,241,241,241,241,241,241,241,241,241,241,241,241,241,241,241,241,241,241,241,241,241,241,241,241,241,241,241,241,241,241,241,241,241,2,2,2,2,2,2,2,2,2,2,2,2,2,2,2,2,2,2,2,2,2,2,2,2,2,2,2,2,2,2,19,3,3,3,3,3,3,3,3,3,3,3,3,35,3,3,52,4,4,4,68,241,241,241,241,241,241,241,241,241,241,241]
def qrw:List (UInt8×UInt8):=[(128,191),(160,191),(128,159),(144,191),(128,143),(0,0),(0,0),(0,0),(0,0),(0,0),(0,0),(0,0),(0,0),(0,0),(0,0),(0,0)]
def z3p:List Int:=[1,10,100,1000,10000,100000,1000000,10000000,100000000,1000000000,10000000000,100000000000,1000000000000,10000000000000,100000000000000,1000000000000000,10000000000000000,100000000000000000,1000000000000000000,10000000000000000000]
def bg(b:Int)(a:Int):Option ((Int×Int)):=some (b,a)
def qmx(a:UInt8):Option Bool:=bif decide (33<=a) then bif decide (a<=126) then some (a != 58) else some false else some false
abbrev ez:=Bs->Int->Int->Option Bool
def qt5(fu:Nat)(d:ez):ez:=fun c b a=>bif decide (a<b) then(am c a).bind fun f=>(qmx f).bind fun e=>bif !e then some false else d c b (ae (a+1)) else some true
def qgt(fu:Nat):Nat->ez|0=>fun _ _ _=>none|n+1=>qt5 fu (qgt fu n)
def qt4(a:Bs):Option Bool:=qgt fu fu a (a.length:Int) 0
def qmw(a:Bs):Option Bool:=bif !(a==([]:Bs)) then bif decide ((a.length:Int)<=60) then(qt4 fu a).bind fun b=>some b else some false else some false
def qya(a:Int):Option Bool:=some (decide (8<a))
abbrev qfz:=Bs->Int->(List Bool)->Option ((List Bool)×Bool)
def zci(fu:Nat)(e:qfz):qfz:=fun c b a=>bif decide (b<(c.length:Int)) then(am c b).bind fun d=>bif decide (128<=d) then bif decide (a.length=256) then bif decide (a.length=a.length)&&decide (a.length=256) then bif decide (a.length=256)&&(true&&true) then some (a,false) else none else none else none else(a[d.toNat]?).bind fun f=>e c (ae (b+1)) (List.set a d.toNat true) else bif decide (a.length=256) then bif decide (a.length=a.length)&&decide (a.length=256) then bif decide (a.length=256)&&(true&&true) then some (a,true) else none else none else none
def qx9(fu:Nat):Nat->qfz|0=>fun _ _ _=>none|n+1=>zci fu (qx9 fu n)
def qdk(a:Bs):Option ((List Bool)×Bool):=qx9 fu fu a 0 (List.replicate 256 false)
def q9u(c:Bs)(a:UInt8):Option Int:=(ww c a).bind fun b=>some b
def n7(c:Bs)(a:UInt8):Option Int:=(q9u c a).bind fun b=>some b
def qn5(a:Int):Option Bool:=bif decide (0<=a) then bif decide (a<55296) then some true else bif decide (57343<a) then bif decide (a<=1114111) then some true else some false else some false else bif decide (57343<a) then bif decide (a<=1114111) then some true else some false else some false
abbrev q8n:=Bs->Nat->Option Int
abbrev q8o:=Bs->Bs->Int->Int->Int->Option Int
abbrev qcd:=Bs->Bs->Int->Int->Option Int
def qxn(fu:Nat)(c:q8n):q8n:=fun b a=>bif Nat.blt a (b.length) then bif(((cr b a).1:Nat):Int)==65533 then some ((a:Nat):Int) else c b (a+(cr b a).2) else some (-1)
def qhq(fu:Nat):Nat->q8n|0=>fun _ _=>none|n+1=>qxn fu (qhq fu n)
def zb5(fu:Nat)(i:qcd)(g:q8o):q8o:=fun e b c d a=>bif decide (a<(b.length:Int)) then(am e (ae (d-a))).bind fun h=>(am b (ae (c-a))).bind fun f=>bif h != f then none else g e b c d (ae (a+1)) else some (ae (d-c))
def qxq(fu:Nat)(a:qcd):Nat->q8o|0=>fun _ _ _ _ _=>none|n+1=>zb5 fu a (qxq fu a n)
def qxp(a:qcd):qcd:=fun d b c e=>qxq fu a fu d b c e 1
def qxo(e:qcd):qcd:=fun b c d a=>bif decide (a<(b.length:Int)) then(am b a).bind fun i=>(am c d).bind fun g=>bif i != g then bif decide (0<=ae (a+1)/\ae (a+1)<=(b.length:Int)) then(am c d).bind fun h=>(n7 (List.drop (ae (a+1)).toNat b) h).bind fun f=>bif decide (f<0) then some (-1) else qxp fu e b c d (ae (a+(ae (f+1)))) else none else qxp fu e b c d a else some (-1)
def qns(fu:Nat):Nat->qcd|0=>fun _ _ _ _=>none|n+1=>qxo fu (qns fu n)
def qhp:Bs->Int->Bool->Option Int:=fun c a b=>bif b then(n7 c (cy a)).bind fun d=>some d else bif a==65533 then qhq fu fu c 0 else(qn5 a).bind fun e=>bif !e then some (-1) else qns fu fu c (kw a) (ae ((List.length (kw a):Int)-1)) (ae ((List.length (kw a):Int)-1))
def w6(b:Bs)(a:Int):Option Int:=bif decide (0<=a) then qhp fu b a (decide (a<128)) else qhp fu b a false
def qdj(c:UInt8)(a:List Bool):Option (Bool×(List Bool)):=(a[c.toNat]?).bind fun b=>some (b,a)
abbrev qsg:=Bs->Int->Option Int
abbrev q6a:=Bs->Int->(List Bool)->Option Int
abbrev q6b:=Bs->Bs->Nat->Option Int
def qxm:qsg:=fun b c=>(w6 fu b c).bind fun a=>some a
def qxk(fu:Nat)(e:q6a):q6a:=fun c a b=>bif decide (a<(c.length:Int)) then(am c a).bind fun f=>(qdj f b).bind fun d=>bif d.1 then some a else e c (ae (a+1)) d.2 else some (-1)
def qhn(fu:Nat):Nat->q6a|0=>fun _ _ _=>none|n+1=>qxk fu (qhn fu n)
def qxl(d:q6b):q6b:=fun c b a=>bif Nat.blt a (b.length) then(w6 fu c (((cr b a).1:Nat):Int)).bind fun e=>bif decide (0<=e) then some ((a:Nat):Int) else d c b (a+(cr b a).2) else some (-1)
def qho(fu:Nat):Nat->q6b|0=>fun _ _ _=>none|n+1=>qxl fu (qho fu n)
def qnr:Bs->Bs->Option Int:=fun a b=>qho fu fu b a 0
def qnq(b:Bs)(a:Bs):Option Int:=bif a==([]:Bs) then some (-1) else bif(a.length:Int)==1 then(am a 0).bind fun d=>bif decide (128<=(d.toNat:Int)) then qxm fu b 65533 else qxm fu b (d.toNat:Int) else(qya (b.length:Int)).bind fun e=>bif e then(qdk fu a).bind fun c=>bif decide (c.1.length=List.length (List.replicate 256 false))&&decide (c.1.length=256) then bif c.2 then qhn fu fu b 0 c.1 else qnr fu b a else none else qnr fu b a
def qno(c:Bs)(a:Bs):Option Bool:=(qnq fu c a).bind fun b=>some (decide (0<=b))
def qvh(b:Bs):Option Bool:=(qno fu b [13,10,0]).bind fun a=>some a
def ny(a:UInt8):Option Bool:=bif a==32 then some true else some (a==9)
def qm0(a:Bs):Option Bool:=(qvh fu a).bind fun c=>bif !c then bif a==([]:Bs) then some true else(am a 0).bind fun b=>(ny b).bind fun d=>bif !d then(am a (ae ((a.length:Int)-1))).bind fun e=>(ny e).bind fun f=>some (!f) else some false else some false
abbrev v7:=Bs->Int->Int->Option Int
def qmz(fu:Nat)(c:v7):Bs->Int->Int->Bool->Option Int:=fun d e a b=>bif b then c d e (ae (a+1)) else bif decide (0<e) then bif decide (78<a) then some e else c d a (ae (a+1)) else c d a (ae (a+1))
def qvi(d:v7):v7:=fun b c a=>bif decide (a<(b.length:Int)) then(am b a).bind fun h=>(ny h).bind fun g=>bif !g then qmz fu d b c a true else(am b (ae (a-1))).bind fun f=>(ny f).bind fun e=>qmz fu d b c a e else some c
def qg5(fu:Nat):Nat->v7|0=>fun _ _ _=>none|n+1=>qvi fu (qg5 fu n)
def qmy(b:Bs)(a:Int):Option Int:=qg5 fu fu b 0 (if 1>a then 1 else a)
def cg:Option ((Int×Int)):=some (0,0)
abbrev q6s:=Int->Int->(Int×Int)->(List Bs)->Option ((Int×Int)×(List Bs))
abbrev q6r:=Bs->Int->(Int×Int)->(List Bs)->Option ((Int×Int)×(List Bs))
def qvg(fu:Nat)(e:q6s):q6s:=fun c a d b=>bif decide (a<c) then bif decide (0<=a/\a.toNat<b.length) then(b[a.toNat]?).bind fun g=>bif decide (998<(g.length:Int)) then(bg 1 a).bind fun h=>some (h,[]) else e c (ae (a+1)) d b else none else(cg).bind fun f=>some (f,b)
def qg4(fu:Nat):Nat->q6s|0=>fun _ _ _ _=>none|n+1=>qvg fu (qg4 fu n)
def qg3:Bs->(Int×Int)->(List Bs)->Option ((Int×Int)×(List Bs)):=fun c b a=>bif decide (List.length (a++([c]:List Bs))<=aq) then qg4 fu fu (List.length (a++([c]:List Bs)):Int) 0 b (a++([c]:List Bs)) else none
def qvf(f:q6r):q6r:=fun a e d b=>bif decide (78<(a.length:Int)) then(qmy fu a e).bind fun c=>bif c==0 then qg3 fu a d b else bif decide (0<=c/\c<=(a.length:Int)) then bif decide (List.length (b++([List.take c.toNat a]:List Bs))<=aq) then bif decide (0<=c/\c<=(a.length:Int)) then f (List.drop c.toNat a) 0 d (b++([List.take c.toNat a]:List Bs)) else none else none else none else qg3 fu a d b
def qg2(fu:Nat):Nat->q6r|0=>fun _ _ _ _=>none|n+1=>qvf fu (qg2 fu n)
def qc3(a:Bs)(b:Bs):Option ((Int×Int)×(List Bs)):=(qmw fu a).bind fun d=>bif !d then(bg 10 (-1)).bind fun f=>some (f,[]) else bif decide (4000<(b.length:Int)) then(bg 1 (-1)).bind fun e=>some (e,[]) else(qm0 fu b).bind fun c=>bif !c then(bg 11 (-1)).bind fun g=>some (g,[]) else bif decide (a.length+List.length ([58,32]:Bs)<=a7) then bif decide (List.length (a++[58,32])+b.length<=a7) then qg2 fu fu ((a++[58,32])++b) (ae ((a.length:Int)+2)) (0,0) [] else none else none
def dp(a:Int×Int):Option Bool:=some (a.1 != 0)
abbrev q6y:=wV->Int->Int->(Int×Int)->Option ((Int×Int))
def qvt(h:q6y):q6y:=fun c b a d=>bif decide (a<b) then(am c a).bind fun e=>(qc3 fu e.1 e.2).bind fun f=>(dp f.1).bind fun i=>bif i then(bg f.1.1 a).bind fun g=>some g else h c b (ae (a+1)) d else(cg).bind fun j=>some j
def qhd(fu:Nat):Nat->q6y|0=>fun _ _ _ _=>none|n+1=>qvt fu (qhd fu n)
def qc8(a:List (Bs×Bs)):Option ((Int×Int)):=bif decide (60<(a.length:Int)) then(bg 2 (-1)).bind fun b=>some b else qhd fu fu a (a.length:Int) 0 (0,0)
abbrev q62:=wV->Int->Int->Int->Int->(wV×Bs)->(List Bs)->Bs->Option (Bs)
abbrev qk9:=wV->Int->Int->(wV×Bs)->Bs->Option (Bs)
def qwo(fu:Nat)(j:qk9)(k:q62):q62:=fun h f d e a g c b=>bif decide (a<e) then bif decide (0<=a/\a.toNat<c.length) then(c[a.toNat]?).bind fun i=>bif decide (List.length (b++i)<=aq) then bif decide (List.length ((b++i)++([13,10]:Bs))<=aq) then k h f d e (ae (a+1)) g c ((b++i)++([13,10]:Bs)) else none else none else none else j h f (ae (d+1)) g b
def qde(fu:Nat)(a:qk9):Nat->q62|0=>fun _ _ _ _ _ _ _ _=>none|n+1=>qwo fu a (qde fu a n)
def qwn(h:qk9):qk9:=fun e d b c a=>bif decide (b<d) then(am e b).bind fun f=>(qc3 fu f.1 f.2).bind fun g=>qde fu h fu e d b (g.2.length:Int) 0 c g.2 a else bif decide (List.length (a++([13,10]:Bs))<=aq) then bif decide (List.length ((a++([13,10]:Bs))++c.2)<=aq) then some ((a++([13,10]:Bs))++c.2) else none else none
def qah(fu:Nat):Nat->qk9|0=>fun _ _ _ _ _=>none|n+1=>qwn fu (qah fu n)
def qni(a:wV×Bs):Option (Bs):=qah fu fu a.1 (a.1.length:Int) 0 a []
def qud(fu:Nat)(d:v7):Bs->Int->Int->UInt8->Option Int:=fun e a c b=>bif b==13 then some 11 else bif b==10 then some 11 else bif decide (998<(ae (a+1))) then some 1 else d e (ae (a+1)) (ae (c+1))
def qcz(c:v7):Bs->Int->Int->UInt8->Bool->Option Int:=fun d e b f a=>bif a then c d 0 (ae ((ae (b+1))+1)) else qud fu c d e b f
def quc(e:v7):v7:=fun b d a=>bif decide (a<(b.length:Int)) then(am b a).bind fun c=>bif c==13 then bif decide ((ae (a+1))<(b.length:Int)) then(am b (ae (a+1))).bind fun f=>qcz fu e b d a c (f==10) else qcz fu e b d a c false else qcz fu e b d a c false else some 0
def qaa(fu:Nat):Nat->v7|0=>fun _ _ _=>none|n+1=>quc fu (qaa fu n)
def qmm(a:Bs):Option Int:=qaa fu fu a 0 0
def qng(b:Bs):Option ((Int×Int)):=(qmm fu b).bind fun a=>bif a==11 then(bg 11 (-5)).bind fun e=>some e else bif a==1 then(bg 1 (-6)).bind fun d=>some d else(cg).bind fun c=>some c
def qdc(a:wV×Bs):Option ((Int×Int)):=(qc8 fu a.1).bind fun b=>(dp b).bind fun e=>bif e then some b else(qni fu a).bind fun d=>bif decide (12000<(d.length:Int)) then(bg 1 (-4)).bind fun c=>some c else(qng fu a.2).bind fun f=>some f
def qhj(a:wV×Bs):Option ((Int×Int)×Bs):=(qdc fu a).bind fun b=>(dp b).bind fun e=>bif e then some (b,[]) else(qni fu a).bind fun d=>(cg).bind fun c=>some (c,d)
def qac(c:Bs)(a:UInt8):Option Int:=(ww c a).bind fun b=>some b
def qmo(b:Bs)(a:Bs):Option Bool:=some (b==a)
def qmp(a:Bs)(b:Bs):Option Bool:=bif decide ((b.length:Int)<=(a.length:Int)) then bif decide (0<=ae ((a.length:Int)-(b.length:Int))/\ae ((a.length:Int)-(b.length:Int))<=(a.length:Int)) then(qmo (List.drop (ae ((a.length:Int)-(b.length:Int))).toNat a) b).bind fun c=>some c else none else some false
def qc2(a:Bs)(b:Bs):Option (Bs):=(qmp a b).bind fun c=>bif c then bif decide (0<=ae ((a.length:Int)-(b.length:Int))/\ae ((a.length:Int)-(b.length:Int))<=(a.length:Int)) then some (List.take (ae ((a.length:Int)-(b.length:Int))).toNat a) else none else some a
def qna(a:Bs):Option (Bs×Int):=(qac a 10).bind fun b=>bif decide (b<0) then some (a,(a.length:Int)) else bif decide (0<=b/\b<=(a.length:Int)) then bif decide (0<List.length ([13]:Bs)) then(qc2 (List.take b.toNat a) ([13]:Bs)).bind fun c=>some (c,ae (b+1)) else none else none
def qdh(a:List Bs):Option (Int×Int×Int×(List Bs)):=bif(Int.tmod (a.length:Int) 2)==1 then none else bif decide (a.length<=aq) then some (0,(0,(0,a))) else none
def qnb(b:Bs)(c:Bs):Option (Bs×Bs×Bool):=(nz b c).bind fun a=>bif decide (0<=a) then bif decide (0<=a/\a<=(b.length:Int)) then bif decide (0<=ae (a+(c.length:Int))/\ae (a+(c.length:Int))<=(b.length:Int)) then some (List.take a.toNat b,(List.drop (ae (a+(c.length:Int))).toNat b,true)) else none else none else some (b,(([]:Bs),false))
def qal(c:Bs)(a:Bs):Option (Bs×Bs×Bool):=(qnb c a).bind fun b=>some b
abbrev v8:=Bs->UInt8->Option (Bs)
def zcq(fu:Nat)(c:v8):v8:=fun a b=>bif decide (0<(a.length:Int)) then(am a (ae ((a.length:Int)-1))).bind fun d=>bif d==b then bif decide (0<=ae ((a.length:Int)-1)/\ae ((a.length:Int)-1)<=(a.length:Int)) then c (List.take (ae ((a.length:Int)-1)).toNat a) b else none else some a else some a
def qyn(fu:Nat):Nat->v8|0=>fun _ _=>none|n+1=>zcq fu (qyn fu n)
def qym(b:Bs)(a:UInt8):Option (Bs):=qyn fu fu b a
abbrev we:=Bs->(List Bool)->Option (Bs×(List Bool))
def qyl(fu:Nat)(d:we):we:=fun a c=>bif decide (0<(a.length:Int)) then(am a (ae ((a.length:Int)-1))).bind fun e=>(qdj e c).bind fun b=>bif !b.1 then some (a,b.2) else bif decide (0<=ae ((a.length:Int)-1)/\ae ((a.length:Int)-1)<=(a.length:Int)) then d (List.take (ae ((a.length:Int)-1)).toNat a) b.2 else none else some (a,c)
def qh3(fu:Nat):Nat->we|0=>fun _ _=>none|n+1=>qyl fu (qh3 fu n)
def qh2(b:Bs)(a:List Bool):Option (Bs×(List Bool)):=qh3 fu fu b a
def qy2(a:UInt8):Option Bool:=some ((a&&&192) != 128)
abbrev qs0:=Bs->Int->Int->Option (Int×Int)
abbrev qfv:=Bs->Int->Int->Int->Option (Int×Int)
def qyu(fu:Nat):qs0:=fun c b a=>bif decide (0<=a/\a<=b/\b<=(c.length:Int)) then(il (List.take (b.toNat-a.toNat) (List.drop a.toNat c))).bind fun d=>bif(ae (a+d.2)) != b then some (65533,1) else some d else none
def qyt:qs0:=fun a c b=>bif decide (b<0) then qyu fu a c 0 else qyu fu a c b
def zcx(e:qfv):qfv:=fun b c a d=>bif decide (d<=a) then(am b a).bind fun g=>(qy2 g).bind fun f=>bif f then qyt fu b c a else e b c (ae (a-1)) d else qyt fu b c a
def qys(fu:Nat):Nat->qfv|0=>fun _ _ _ _=>none|n+1=>zcx fu (qys fu n)
def zcw(a:Bs):Option (Int×Int):=bif(a.length:Int)==0 then some (65533,0) else(am a (ae ((a.length:Int)-1))).bind fun b=>bif decide ((b.toNat:Int)<128) then some ((b.toNat:Int),1) else qys fu fu a (a.length:Int) (ae ((ae ((a.length:Int)-1))-1)) (if 0>ae ((a.length:Int)-4) then 0 else ae ((a.length:Int)-4))
def qnp(c:Bs)(a:Int):Option Bool:=(w6 fu c a).bind fun b=>some (decide (0<=b))
abbrev kg:=Bs->Bs->Option (Bs)
def zcr(d:kg):kg:=fun a b=>bif decide (0<(a.length:Int)) then(am a (ae ((a.length:Int)-1))).bind fun e=>bif decide (128<=(e.toNat:Int)) then(zcw fu a).bind fun c=>(qnp fu b c.1).bind fun g=>bif !g then some a else bif decide (0<=ae ((a.length:Int)-c.2)/\ae ((a.length:Int)-c.2)<=(a.length:Int)) then d (List.take (ae ((a.length:Int)-c.2)).toNat a) b else none else(qnp fu b (e.toNat:Int)).bind fun f=>bif !f then some a else bif decide (0<=ae ((a.length:Int)-1)/\ae ((a.length:Int)-1)<=(a.length:Int)) then d (List.take (ae ((a.length:Int)-1)).toNat a) b else none else some a
def qyp(fu:Nat):Nat->kg|0=>fun _ _=>none|n+1=>zcr fu (qyp fu n)
def qyo(b:Bs)(a:Bs):Option (Bs):=qyp fu fu b a
abbrev zh:=Bs->Bs->Bool->Option (Bs)
def qx0:kg:=fun b c=>(qdk fu c).bind fun a=>bif decide (a.1.length=List.length (List.replicate 256 false))&&decide (a.1.length=256) then bif a.2 then(qh2 fu b a.1).bind fun e=>some e.1 else(qyo fu b c).bind fun d=>some d else none
def qnw:zh:=fun b c a=>bif a then(am c 0).bind fun e=>(qym fu b e).bind fun d=>some d else qx0 fu b c
def qxz:kg:=fun b a=>bif(a.length:Int)==1 then(am a 0).bind fun c=>qnw fu b a (decide (c<128)) else qnw fu b a false
def qnv:zh:=fun b c a=>bif a then some b else qxz fu b c
def qhu(b:Bs)(a:Bs):Option (Bs):=bif b==([]:Bs) then qnv fu b a true else qnv fu b a (a==([]:Bs))
def qhe(c:Bs):Option Bool:=(qc3 fu c []).bind fun b=>(dp b.1).bind fun a=>some (!a)
def qm9(d:Bs):Option ((Bs×Bs)×Bool):=(qal d [58]).bind fun a=>(qhu fu a.1 [32,9]).bind fun b=>bif a.2.2 then(qhe fu b).bind fun c=>some ((b,a.2.1),c) else some ((b,a.2.1),false)
abbrev qdo:=Int×Int×Int×Bs×(List Bs)
abbrev qld:=Bool->Int->Int->Int->Int->(List Bs)->Option qdo
abbrev qfw:=Int->Int->Int->Int->(List Bs)->Bs->Option qdo
abbrev q7y:=Int->Int->Int->Int->(List Bs)->(List Bs)->Option qdo
def qxt(fu:Nat)(e:qld):qld:=fun f g b a c d=>e f (ae (g+2)) b a c d
def zca(fu:Nat)(h:qfw):qfw:=fun c d b e a f=>bif decide (0<=c) then bif decide (0<=c/\c.toNat<a.length) then(a[c.toNat]?).bind fun k=>(am k 0).bind fun g=>bif decide (0<=ae (c+1)/\(ae (c+1)).toNat<a.length) then(a[(ae (c+1)).toNat]?).bind fun i=>(am i 0).bind fun j=>(f[g.toNat]?).bind fun l=>h (ae (c-2)) d b e a (List.set f g.toNat j) else none else none else some (d,(b,(e,(f,a))))
def qxw(fu:Nat):Nat->qfw|0=>fun _ _ _ _ _ _=>none|n+1=>zca fu (qxw fu n)
def zb8(g:qfw):qfw:=fun a c b d e f=>bif decide (a<256) then bif decide (0<=a)&&decide (a<256) then(f[a.toNat]?).bind fun h=>g (ae (a+1)) c b d e (List.set f a.toNat (cy a)) else none else qxw fu fu (ae ((e.length:Int)-2)) c b d e f
def qxu(fu:Nat):Nat->qfw|0=>fun _ _ _ _ _ _=>none|n+1=>zb8 fu (qxu fu n)
def zb9(fu:Nat)(j:q7y):q7y:=fun a d c e b g=>bif decide (0<=a) then bif decide (0<=a/\a.toNat<b.length) then(b[a.toNat]?).bind fun f=>(am f 0).bind fun h=>bif decide (0<=ae (a+1)/\(ae (a+1)).toNat<b.length) then(b[(ae (a+1)).toNat]?).bind fun i=>none else none else none else none
def qxv(fu:Nat):Nat->q7y|0=>fun _ _ _ _ _ _=>none|n+1=>zb9 fu (qxv fu n)
def zb7(f:qld):qld:=fun g e c b d a=>bif decide (e<(a.length:Int)) then bif decide (0<=e/\e.toNat<a.length) then(a[e.toNat]?).bind fun h=>bif(h.length:Int) != 1 then none else bif decide (0<=ae (e+1)/\(ae (e+1)).toNat<a.length) then(a[(ae (e+1)).toNat]?).bind fun i=>bif(i.length:Int) != 1 then qxt fu f false e c b d a else qxt fu f g e c b d a else none else none else bif g then bif decide (List.length (List.replicate 256 0)=List.length (List.replicate 256 0))&&decide (List.length (List.replicate 256 0)=256) then qxu fu fu 0 c b d a (List.replicate 256 0) else none else bif decide (0<=(0:Int)/\0=ae (Int.tdiv (a.length:Int) 2)/\(0:Int)<=4294967296) then qxv fu fu (ae ((a.length:Int)-2)) c b d a (List.replicate (0:Int).toNat []) else none
def qxs(fu:Nat):Nat->qld|0=>fun _ _ _ _ _ _=>none|n+1=>zb7 fu (qxs fu n)
def zcb:Int->Int->Int->(List Bs)->Option qdo:=fun b a c d=>qxs fu fu true 0 b a c d
def qxr:Bool->Int->Int->Int->(List Bs)->Option qdo:=fun e c b d a=>bif e then bif decide (0<=(0:Int)/\(0:Int).toNat<a.length) then(a[(0:Int).toNat]?).bind fun f=>bif decide (0<=(1:Int)/\(1:Int).toNat<a.length) then(a[(1:Int).toNat]?).bind fun g=>none else none else none else zcb fu c b d a
def zb6(c:Int)(b:Int)(d:Int)(a:List Bs):Option qdo:=bif(a.length:Int)==2 then bif decide (0<=(0:Int)/\(0:Int).toNat<a.length) then(a[(0:Int).toNat]?).bind fun e=>qxr fu (decide (1<(e.length:Int))) c b d a else none else qxr fu false c b d a
abbrev zre:=Int×Int×Int×Bs×(List Bs)
def qnt(d:Int)(c:Int)(e:Int)(b:List Bs):Option zre:=(zb6 fu d c e b).bind fun a=>some (a.1,(a.2.1,(a.2.2.1,(a.2.2.2.1,[]))))
abbrev qs1:=Bs->Int->Bs->Bs->Option (Bs×Bs)
abbrev q71:=Bs->Int->Bs->Option (Bs×Bs)
def qhx(fu:Nat)(d:qs1):Bs->Int->UInt8->Bs->Bs->Option (Bs×Bs):=fun f b e c a=>(c[e.toNat]?).bind fun g=>bif decide (0<=b/\b.toNat<a.length) then(a[b.toNat]?).bind fun h=>d f (ae (b+1)) c (List.set a b.toNat g) else none
def qx4(f:qs1):qs1:=fun d b c a=>bif decide (b<(d.length:Int)) then(am d b).bind fun e=>(c[e.toNat]?).bind fun g=>bif g != e then bif decide (0<a.length) then qhx fu f d b e c a else none else f d (ae (b+1)) c a else bif decide (0<a.length) then some (a,c) else none
def qhy(fu:Nat):Nat->qs1|0=>fun _ _ _ _=>none|n+1=>qx4 fu (qhy fu n)
def qx3(e:q71):q71:=fun a b c=>bif decide (b<(a.length:Int)) then(am a b).bind fun d=>(c[d.toNat]?).bind fun f=>bif f != d then bif decide (a.length<=maxLen) then qhx fu (qhy fu fu) a b d c a else none else e a (ae (b+1)) c else some (a,c)
def qhw(fu:Nat):Nat->q71|0=>fun _ _ _=>none|n+1=>qx3 fu (qhw fu n)
def qhv(b:Bs)(a:Bs):Option (Bs×Bs):=qhw fu fu b 0 a
def qaj(fu:Nat)(s:Bs)(p0 p1 p2:Int)(on:List Bs):Option (Bs×Int×Int×Int×Bs):=
 bif decide (p0=0)&&decide (p1=0) then
 (qnt fu 0 1 p2 on).bind fun x=>
 bif decide (x.1=0)&&decide (x.2.1=1) then
 (qhv fu s x.2.2.2.1).bind fun y=>
 some (y.1,1,0,x.2.2.1,y.2)
 else none else none
def qak(fu:Nat)(s:Bs)(p0 p1 p2:Int)(tab:Bs):Option (Bs×Int×Int×Int×Bs):=
 bif !decide (p0=0) then
 (qhv fu s tab).bind fun y=>
 some (y.1,p0,p1,p2,y.2)
 else none
def zco(fu:Nat)(c:v8):v8:=fun a b=>bif decide (0<(a.length:Int)) then(am a 0).bind fun d=>bif d==b then bif decide (0<=(1:Int)/\1<=(a.length:Int)) then c (List.drop (1:Int).toNat a) b else none else some a else some a
def qyi(fu:Nat):Nat->v8|0=>fun _ _=>none|n+1=>zco fu (qyi fu n)
def qyh(b:Bs)(a:UInt8):Option (Bs):=qyi fu fu b a
def qyg(fu:Nat)(d:we):we:=fun a c=>bif decide (0<(a.length:Int)) then(am a 0).bind fun e=>(qdj e c).bind fun b=>bif !b.1 then some (a,b.2) else bif decide (0<=(1:Int)/\1<=(a.length:Int)) then d (List.drop (1:Int).toNat a) b.2 else none else some (a,c)
def qh1(fu:Nat):Nat->we|0=>fun _ _=>none|n+1=>qyg fu (qh1 fu n)
def qn3(b:Bs)(a:List Bool):Option (Bs×(List Bool)):=qh1 fu fu b a
def zcp(d:kg):kg:=fun a c=>bif decide (0<(a.length:Int)) then(il a).bind fun b=>(qnp fu c b.1).bind fun e=>bif !e then some a else bif decide (0<=b.2/\b.2<=(a.length:Int)) then d (List.drop b.2.toNat a) c else none else some a
def qyk(fu:Nat):Nat->kg|0=>fun _ _=>none|n+1=>zcp fu (qyk fu n)
def qyj(b:Bs)(a:Bs):Option (Bs):=qyk fu fu b a
def qx2:kg:=fun c b=>(qdk fu b).bind fun a=>bif decide (a.1.length=List.length (List.replicate 256 false))&&decide (a.1.length=256) then bif a.2 then(qh2 fu c a.1).bind fun d=>(qn3 fu d.1 d.2).bind fun f=>some f.1 else(qyo fu c b).bind fun e=>(qyj fu e b).bind fun g=>some g else none
def qny:zh:=fun c b a=>bif a then(am b 0).bind fun g=>(qym fu c g).bind fun f=>(am b 0).bind fun e=>(qyh fu f e).bind fun d=>some d else qx2 fu c b
def qx1:kg:=fun b a=>bif(a.length:Int)==1 then(am a 0).bind fun c=>qny fu b a (decide (c<128)) else qny fu b a false
def qnx:zh:=fun b c a=>bif a then some b else qx1 fu b c
def qht(b:Bs)(a:Bs):Option (Bs):=bif b==([]:Bs) then qnx fu b a true else qnx fu b a (a==([]:Bs))
abbrev qav:=Int×(Int×Int)×wV
abbrev q73:=Int->Int->Int->(Int×Int)->wV->Int->Int->Int->Bs->Option qav
abbrev q72:=Int->Int->(Int×Int)->Int->Int->Int->(List Bs)->wV->Option qav
abbrev qlg:=Bs->Int->(Int×Int)->wV->Option qav
def qvs(o:q73):q73:=fun j g a h b e d c i=>bif decide (a<g) then bif decide (0<=a/\a.toNat<b.length) then(b[a.toNat]?).bind fun m=>(qak fu m.2 e d c i).bind fun f=>(qht fu f.1 [32,9]).bind fun k=>bif decide (4000<(k.length:Int)) then(bg 1 a).bind fun l=>some (0,(l,[])) else bif decide (0<=a/\a.toNat<b.length) then(b[a.toNat]?).bind fun p=>o j g (ae (a+1)) h (List.set b a.toNat (p.1,k)) f.2.1 f.2.2.1 f.2.2.2.1 f.2.2.2.2 else none else none else(cg).bind fun q=>some (j,(q,b))
def qhc(fu:Nat):Nat->q73|0=>fun _ _ _ _ _ _ _ _ _=>none|n+1=>qvs fu (qhc fu n)
def qhb(p:q72):q72:=fun i e g b d c h a=>bif decide (0<e) then bif decide (0<=(0:Int)/\(0:Int).toNat<a.length) then(a[(0:Int).toNat]?).bind fun k=>(qaj fu k.2 b d c h).bind fun f=>(qht fu f.1 [32,9]).bind fun j=>bif decide (4000<(j.length:Int)) then(bg 1 0).bind fun l=>some (0,(l,[])) else bif decide (0<=(0:Int)/\(0:Int).toNat<a.length) then(a[(0:Int).toNat]?).bind fun o=>qhc fu fu i e 1 g (List.set a ((0:Int).toNat) (o.1,j)) f.2.1 f.2.2.1 f.2.2.2.1 f.2.2.2.2 else none else none else(cg).bind fun m=>some (i,(m,a))
def wz(fu:Nat):Nat->q72|0=>fun _ _ _ _ _ _ _ _=>none|n+1=>qhb fu (wz fu n)
def qc7:Int->(Int×Int)->wV->Option qav:=fun d c a=>bif decide (60<(a.length:Int)) then(bg 2 (-2)).bind fun e=>some (0,(e,[])) else(qdh ([([0]:Bs),([32]:Bs),([13]:Bs),([32]:Bs)]:List Bs)).bind fun b=>wz fu fu d (a.length:Int) c b.1 b.2.1 b.2.2.1 b.2.2.2 a
def qm8(g:qlg):Bs->Int->Bs->Int->(Int×Int)->wV->Option qav:=fun h d e f b a=>(qm9 fu e).bind fun c=>bif !c.2 then qc7 fu d b a else bif decide (List.length (a++([c.1]:List (Bs×Bs)))<=aq) then g h (ae (d+f)) b (a++([c.1]:List (Bs×Bs))) else none
def qae(g:qlg):Bs->Int->Bs->Int->Bool->(Int×Int)->wV->Option qav:=fun h e c f d b a=>bif d then bif decide (0<=ae ((a.length:Int)-1)/\(ae ((a.length:Int)-1)).toNat<a.length) then(a[(ae ((a.length:Int)-1)).toNat]?).bind fun i=>bif decide (i.2.length+c.length<=a7) then bif decide (0<=ae ((a.length:Int)-1)/\(ae ((a.length:Int)-1)).toNat<a.length) then(a[(ae ((a.length:Int)-1)).toNat]?).bind fun j=>g h (ae (e+f)) b (List.set a ((ae ((a.length:Int)-1)).toNat) (j.1,i.2++c)) else none else none else none else qm8 fu g h e c f b a
def qvr(f:qlg):qlg:=fun e c b a=>bif decide (c<(e.length:Int)) then bif decide (0<=c/\c<=(e.length:Int)) then(qna (List.drop c.toNat e)).bind fun d=>bif d.1==([]:Bs) then qc7 fu (ae (c+d.2)) b a else(am d.1 0).bind fun g=>(ny g).bind fun h=>bif h then qae fu f e c d.1 d.2 (decide (0<(a.length:Int))) b a else qae fu f e c d.1 d.2 false b a else none else qc7 fu c b a
def qad(fu:Nat):Nat->qlg|0=>fun _ _ _ _=>none|n+1=>qvr fu (qad fu n)
def qha(a:Bs):Option qav:=bif decide (12000<(a.length:Int)) then(bg 1 (-1)).bind fun b=>some (0,(b,[])) else qad fu fu a 0 (0,0) []
abbrev zpq:=Bs->Int->Bool->Bs->Option (Bs)
abbrev qy:=Bs->Int->Bs->Option (Bs)
def qnh(fu:Nat)(e:qy):zpq:=fun c b d a=>bif d then bif decide (List.length (a++([13,10]:Bs))<=aq) then e c (ae (b+1)) (a++([13,10]:Bs)) else none else(am c b).bind fun f=>bif decide (List.length (a++([f]:Bs))<=aq) then e c (ae (b+1)) (a++([f]:Bs)) else none
def qdd(e:qy):zpq:=fun c b d a=>bif d then bif decide (List.length (a++([13,10]:Bs))<=aq) then e c (ae ((ae (b+1))+1)) (a++([13,10]:Bs)) else none else(am c b).bind fun f=>bif f==13 then qnh fu e c b true a else(am c b).bind fun g=>qnh fu e c b (g==10) a
def qwm(d:qy):qy:=fun c b a=>bif decide (b<(c.length:Int)) then(am c b).bind fun e=>bif e==13 then bif decide ((ae (b+1))<(c.length:Int)) then(am c (ae (b+1))).bind fun f=>qdd fu d c b (f==10) a else qdd fu d c b false a else qdd fu d c b false a else some a
def qag(fu:Nat):Nat->qy|0=>fun _ _ _=>none|n+1=>qwm fu (qag fu n)
def qwl(a:Bs):Option (Bs):=qag fu fu a 0 []
abbrev zq2:=(wV×Bs)×(Int×Int)
def qhi(b:Bs):Option zq2:=(qha fu b).bind fun a=>(dp a.2.1).bind fun f=>bif f then some (([],[]),a.2.1) else bif decide (0<=a.1/\a.1<=(b.length:Int)) then(qwl fu (List.drop a.1.toNat b)).bind fun d=>(qdc fu (a.2.2,d)).bind fun c=>(dp c).bind fun g=>bif g then some (([],[]),c) else(cg).bind fun e=>some ((a.2.2,d),e) else none
abbrev q74:=Int->Int->Bs->Option (Bs)
def qc1(fu:Nat)(e:q74):q74:=fun c a b=>bif decide (a<c) then bif decide (0<=a/\a.toNat<b.length) then(b[a.toNat]?).bind fun d=>bif decide (65<=d) then bif decide (d<=90) then bif decide (0<=a/\a.toNat<b.length) then(b[a.toNat]?).bind fun f=>e c (ae (a+1)) (List.set b a.toNat ((d+97)-65)) else none else e c (ae (a+1)) b else e c (ae (a+1)) b else none else some b
def tz(fu:Nat):Nat->q74|0=>fun _ _ _=>none|n+1=>qc1 fu (tz fu n)
def wu(a:Bs):Option (Bs):=bif decide (a.length<=maxLen) then tz fu fu (a.length:Int) 0 a else none
def e7(b:Bs)(a:Bs):Option Bool:=bif(b.length:Int)==(a.length:Int) then(wu fu b).bind fun d=>(wu fu a).bind fun c=>some (d==c) else some false
def zce:kg:=fun b c=>(qdk fu c).bind fun a=>bif decide (a.1.length=List.length (List.replicate 256 false))&&decide (a.1.length=256) then bif a.2 then(qn3 fu b a.1).bind fun e=>some e.1 else(qyj fu b c).bind fun d=>some d else none
def qxy:zh:=fun b c a=>bif a then(am c 0).bind fun e=>(qyh fu b e).bind fun d=>some d else zce fu b c
def zcd:kg:=fun b a=>bif(a.length:Int)==1 then(am a 0).bind fun c=>qxy fu b a (decide (c<128)) else qxy fu b a false
def qxx:zh:=fun b c a=>bif a then some b else zcd fu b c
def zcc(b:Bs)(a:Bs):Option (Bs):=bif b==([]:Bs) then qxx fu b a true else qxx fu b a (a==([]:Bs))
def qda(b:Bs):Option (Bs):=(zcc fu b [32,9]).bind fun a=>some a
def qdb(a:UInt8):Option Bool:=bif decide (33<=a) then bif decide (a<=126) then(n7 [40,41,60,62,64,44,59,58,92,34,47,91,93,63,61,42,37,39] a).bind fun b=>some (decide (b<0)) else some false else some false
abbrev jk:=Int->Bs->Option (Bs×Bs)
abbrev q75:=Int->Bool->Bs->Option (Bs×Bs)
def zak(fu:Nat)(b:jk):jk:=fun c a=>b (ae (c+1)) a
def qwf(d:jk):q75:=fun a c b=>bif c then zak fu d a b else bif decide (0<=a/\a<=(b.length:Int)) then bif decide (0<=a/\a<=(b.length:Int)) then some (List.take a.toNat b,List.drop a.toNat b) else none else none
def zaj(c:jk):jk:=fun b a=>bif decide (b<(a.length:Int)) then(am a b).bind fun e=>(qdb e).bind fun d=>qwf fu c b d a else qwf fu c b false a
def qwe(fu:Nat):Nat->jk|0=>fun _ _=>none|n+1=>zaj fu (qwe fu n)
def qwd(b:Bs):Option (Bs×Bs):=(qda fu b).bind fun a=>qwe fu fu 0 a
def qhg(d:UInt8)(c:Bs):Option (Bool×Bs):=(qda fu c).bind fun a=>bif a==([]:Bs) then some (false,a) else(am a 0).bind fun b=>bif b != d then some (false,a) else bif decide (0<=(1:Int)/\1<=(a.length:Int)) then some (true,List.drop (1:Int).toNat a) else none
def zai(a:UInt8):Option Bool:=(qdb a).bind fun b=>bif b then some true else some (a==42)
def zan(fu:Nat)(b:jk):jk:=fun c a=>b (ae (c+1)) a
def qwh(d:jk):q75:=fun a c b=>bif c then zan fu d a b else bif decide (0<=a/\a<=(b.length:Int)) then bif decide (0<=a/\a<=(b.length:Int)) then some (List.take a.toNat b,List.drop a.toNat b) else none else none
def zam(c:jk):jk:=fun b a=>bif decide (b<(a.length:Int)) then(am a b).bind fun e=>(zai e).bind fun d=>qwh fu c b d a else qwh fu c b false a
def qwg(fu:Nat):Nat->jk|0=>fun _ _=>none|n+1=>zam fu (qwg fu n)
def zal(b:Bs):Option (Bs×Bs):=(qda fu b).bind fun a=>qwg fu fu 0 a
def zas(a:UInt8):Option Bool:=(qdb a).bind fun b=>bif b then some true else bif a==37 then some true else bif a==39 then some true else some (a==42)
def zaq(fu:Nat)(b:jk):jk:=fun c a=>b (ae (c+1)) a
def qwj(d:jk):q75:=fun a c b=>bif c then zaq fu d a b else bif decide (0<=a/\a<=(b.length:Int)) then bif decide (0<=a/\a<=(b.length:Int)) then some (List.take a.toNat b,List.drop a.toNat b) else none else none
def zap(c:jk):jk:=fun b a=>bif decide (b<(a.length:Int)) then(am a b).bind fun e=>(zas e).bind fun d=>qwj fu c b d a else qwj fu c b false a
def qwi(fu:Nat):Nat->jk|0=>fun _ _=>none|n+1=>zap fu (qwi fu n)
def zao(b:Bs):Option (Bs×Bs):=(qda fu b).bind fun a=>qwi fu fu 0 a
abbrev q77:=Int->Bs->Bs->Option (Bs×Bool×Bs)
def zat(fu:Nat)(f:q77):q77:=fun c b a=>bif decide (c<(b.length:Int)) then(am b c).bind fun d=>bif d==34 then bif decide (0<=ae (c+1)/\ae (c+1)<=(b.length:Int)) then some (a,(true,List.drop (ae (c+1)).toNat b)) else none else bif d==92 then bif(ae (c+1))==(b.length:Int) then some (([]:Bs),(false,b)) else(am b (ae (c+1))).bind fun e=>bif decide (List.length (a++([e]:Bs))<=aq) then f (ae ((ae (c+1))+1)) b (a++([e]:Bs)) else none else bif decide (List.length (a++([d]:Bs))<=aq) then f (ae (c+1)) b (a++([d]:Bs)) else none else some (([]:Bs),(false,b))
def qwk(fu:Nat):Nat->q77|0=>fun _ _ _=>none|n+1=>zat fu (qwk fu n)
def zar(c:Bs):Option (Bs×Bool×Bs):=(qhg fu 34 c).bind fun a=>bif !a.1 then(zao fu a.2).bind fun b=>some (b.1,(true,b.2)) else qwk fu fu 0 a.2 []
def qaf(a:Bs)(b:Bs):Option Bool:=bif decide ((b.length:Int)<=(a.length:Int)) then bif decide (0<=ae ((a.length:Int)-(b.length:Int))/\ae ((a.length:Int)-(b.length:Int))<=(a.length:Int)) then some ((List.drop (ae ((a.length:Int)-(b.length:Int))).toNat a)==b) else none else some false
def q9t(a:Bs)(b:Bs):Option (Bs×Bool):=(qaf a b).bind fun c=>bif !c then some (a,false) else bif decide (0<=ae ((a.length:Int)-(b.length:Int))/\ae ((a.length:Int)-(b.length:Int))<=(a.length:Int)) then some (List.take (ae ((a.length:Int)-(b.length:Int))).toNat a,true) else none
def zb4(c:Bs)(a:Bs):Option (Bs×Bool):=(q9t c a).bind fun b=>some b
abbrev zq1:=(Bs×Int×Bool×Bs)×Bool×Bs
def zah(g:Bs):Option zq1:=(zal fu g).bind fun f=>(qhg fu 61 f.2).bind fun e=>bif !e.1 then some ((([]:Bs),(0,(false,([]:Bs)))),(false,e.2)) else(zar fu e.2).bind fun a=>(qal f.1 [42]).bind fun b=>bif b.2.2 then(zb4 b.2.1 [42]).bind fun d=>(qgv d.1 1099511627776).bind fun c=>bif a.2.1 then bif c.2 then some ((b.1,(c.1,(d.2,a.1))),(!(b.1==([]:Bs)),a.2.2)) else some ((b.1,(c.1,(d.2,a.1))),(false,a.2.2)) else some ((b.1,(c.1,(d.2,a.1))),(false,a.2.2)) else bif a.2.1 then some ((b.1,((-1),(false,a.1))),(!(b.1==([]:Bs)),a.2.2)) else some ((b.1,((-1),(false,a.1))),(false,a.2.2))
abbrev zq0:=Bool×(Bs×Int×Bool×Bs)
def qv4(c:Bs×Int×Bool×Bs)(a:Bs×Int×Bool×Bs):Option zq0:=(e7 fu c.1 a.1).bind fun b=>some (b,a)
abbrev zde:=Int×(Bs×Int×Bool×Bs)
abbrev q79:=(List (Bs×Int×Bool×Bs))->Int->Int->(Bs×Int×Bool×Bs)->Option zde
def zb1(f:q79):q79:=fun e c a d=>bif decide (a<c) then(am e a).bind fun g=>(qv4 fu g d).bind fun b=>bif b.1 then some (a,b.2) else f e c (ae (a+1)) b.2 else some ((-1),d)
def qxh(fu:Nat):Nat->q79|0=>fun _ _ _ _=>none|n+1=>zb1 fu (qxh fu n)
def zb0(a:List (Bs×Int×Bool×Bs))(b:Bs×Int×Bool×Bs):Option zde:=qxh fu fu a (a.length:Int) 0 b
abbrev zrd:=Bool×(Bs×Int×Bool×Bs)
def zbs(c:List (Bs×Int×Bool×Bs))(b:Bs×Int×Bool×Bs):Option zrd:=(zb0 fu c b).bind fun a=>some (decide (0<=a.1),a.2)
abbrev zpx:=UInt8->Bool->Option (UInt8×Bool)
def qug:zpx:=fun a b=>bif b then some ((a-65)+10,true) else bif decide (97<=a) then bif decide (a<=102) then some ((a-97)+10,true) else some (0,false) else some (0,false)
def quf:zpx:=fun a b=>bif b then some (a-48,true) else bif decide (65<=a) then qug a (decide (a<=70)) else qug a false
def que(a:UInt8):Option (UInt8×Bool):=bif decide (48<=a) then quf a (decide (a<=57)) else quf a false
def t6(a:Bs):Option (UInt8×Bool):=bif decide ((a.length:Int)<2) then some (0,false) else(am a 0).bind fun e=>(que e).bind fun c=>(am a 1).bind fun d=>(que d).bind fun b=>bif c.2 then some ((y4 c.1 (min (4:Int).toNat 8))|||b.1,b.2) else some ((y4 c.1 (min (4:Int).toNat 8))|||b.1,false)
abbrev s8:=Bs->Option (Bs)
abbrev zpy:=Bs->Bool->Option (Bs)
def zae(fu:Nat)(d:qy):qy:=fun c b a=>bif decide (b<(c.length:Int)) then(am c b).bind fun h=>bif h==37 then bif decide (0<=ae (b+1)/\ae (b+1)<=(c.length:Int)) then(t6 (List.drop (ae (b+1)).toNat c)).bind fun e=>bif e.2 then bif decide (List.length (a++([e.1]:Bs))<=aq) then d c (ae ((ae (b+2))+1)) (a++([e.1]:Bs)) else none else(am c b).bind fun f=>bif decide (List.length (a++([f]:Bs))<=aq) then d c (ae (b+1)) (a++([f]:Bs)) else none else none else(am c b).bind fun g=>bif decide (List.length (a++([g]:Bs))<=aq) then d c (ae (b+1)) (a++([g]:Bs)) else none else some a
def qwa(fu:Nat):Nat->qy|0=>fun _ _ _=>none|n+1=>zae fu (qwa fu n)
def qv9:s8:=fun a=>qwa fu fu a 0 []
def qnf:zpy:=fun b a=>bif a then bif decide (0<=(6:Int)/\6<=(b.length:Int)) then qv9 fu (List.drop (6:Int).toNat b) else none else qv9 fu b
def zad(a:Bs×Int×Bool×Bs):Option (Bs):=bif !a.2.2.1 then some a.2.2.2 else bif a.2.1==0 then bif decide (6<=(a.2.2.2.length:Int)) then bif decide (0<=(6:Int)/\6<=(a.2.2.2.length:Int)) then(e7 fu (List.take (6:Int).toNat a.2.2.2) [117,116,102,56,39,39]).bind fun b=>qnf fu a.2.2.2 b else none else qnf fu a.2.2.2 false else qnf fu a.2.2.2 false
abbrev q8c:=Int->Int->(Bs×Bs)->(Bs×Bs)->(List (Bs×Int×Bool×Bs))->Option ((Bs×Bs)×Bool)
def q92(h:q8c):q8c:=fun d a e b c=>bif decide (a<d) then bif decide (0<=a/\a.toNat<c.length) then(c[a.toNat]?).bind fun f=>bif f.2.1 != a then some (b,false) else(zad fu f).bind fun g=>bif decide (b.2.length+g.length<=a7) then h d (ae (a+1)) e (b.1,b.2++g) c else none else none else(qhs b.2 [239,191,189]).bind fun i=>some ((b.1,i),true)
def qv1(fu:Nat):Nat->q8c|0=>fun _ _ _ _ _=>none|n+1=>q92 fu (qv1 fu n)
def q91(a:List (Bs×Int×Bool×Bs)):Option ((Bs×Bs)×Bool):=bif decide (0<=(0:Int)/\(0:Int).toNat<a.length) then(a[(0:Int).toNat]?).bind fun c=>bif decide (0<=(0:Int)/\(0:Int).toNat<a.length) then(a[(0:Int).toNat]?).bind fun e=>bif decide (0<=(0:Int)/\(0:Int).toNat<a.length) then(a[(0:Int).toNat]?).bind fun d=>bif decide (d.2.1<0) then some ((c.1,e.2.2.2),(a.length:Int)==1) else(qhl a).bind fun b=>qv1 fu fu (b.length:Int) 0 (([]:Bs),([]:Bs)) (c.1,([]:Bs)) b else none else none else none
abbrev qok:=Bool×wV
abbrev qs4:=(List (Bs×Int×Bool×Bs))->(List (Bs×Int×Bool×Bs))->Int->Int->(List (Bs×Int×Bool×Bs))->Int->Int->(Bs×Int×Bool×Bs)->wV->(List (Bs×Int×Bool×Bs))->Option qok
abbrev qf2:=(List (Bs×Int×Bool×Bs))->(List (Bs×Int×Bool×Bs))->Int->Int->wV->Option qok
def qv7(fu:Nat)(l:qf2)(k:qs4):(List (Bs×Int×Bool×Bs))->(List (Bs×Int×Bool×Bs))->Int->Int->(List (Bs×Int×Bool×Bs))->Int->Int->(Bs×Int×Bool×Bs)->(List (Bs×Int×Bool×Bs))->wV->Option qok:=fun j a i c b f d e h g=>k j a i c b f (ae (d+1)) e g h
def q99(k:qf2)(p:qs4):qs4:=fun l d i f e h a g c b=>bif decide (a<h) then(am e a).bind fun j=>(qv4 fu j g).bind fun o=>bif o.1 then bif decide (List.length (b++([j]:List (Bs×Int×Bool×Bs)))<=aq) then qv7 fu k p l d i f e h a o.2 (b++([j]:List (Bs×Int×Bool×Bs))) c else none else qv7 fu k p l d i f e h a o.2 b c else(q91 fu b).bind fun m=>bif !m.2 then some (false,[]) else bif decide (List.length (c++([(g.1,m.1.2)]:List (Bs×Bs)))<=aq) then k l d i (ae (f+1)) (c++([(g.1,m.1.2)]:List (Bs×Bs))) else none
def qv6(fu:Nat)(a:qf2):Nat->qs4|0=>fun _ _ _ _ _ _ _ _ _ _=>none|n+1=>q99 fu a (qv6 fu a n)
def q98(f:qf2):qf2:=fun e b d a c=>bif decide (a<d) then(am b a).bind fun h=>bif decide (0<=a/\a<=(e.length:Int)) then(zbs fu (List.take a.toNat e) h).bind fun g=>bif g.1 then f e b d (ae (a+1)) c else qv6 fu f fu e b d a e (e.length:Int) 0 g.2 c [] else none else some (true,c)
def qv5(fu:Nat):Nat->qf2|0=>fun _ _ _ _ _=>none|n+1=>q98 fu (qv5 fu n)
def q97(a:List (Bs×Int×Bool×Bs)):Option qok:=qv5 fu fu a a (a.length:Int) 0 []
abbrev qol:=(Bs×Bs×Bool) ⊕ (Bs×Bs×Bool×wV)
abbrev q8d:=Bs->Bs->Bs->Bs->Bs->(List (Bs×Int×Bool×Bs))->Option qol
def zab(j:q8d):q8d:=fun d c i a b e=>(qhg fu 59 i).bind fun h=>bif h.1 then(zah fu h.2).bind fun f=>bif !f.2.1 then some (.inl (a,(b,false))) else bif decide (List.length (e++([f.1]:List (Bs×Int×Bool×Bs)))<=aq) then j d c f.2.2 a b (e++([f.1]:List (Bs×Int×Bool×Bs))) else none else(qda fu h.2).bind fun k=>(q97 fu e).bind fun g=>bif g.1 then some (.inr (a,(b,(k==([]:Bs),g.2)))) else some (.inr (a,(b,(false,g.2))))
def qv8(fu:Nat):Nat->q8d|0=>fun _ _ _ _ _ _=>none|n+1=>zab fu (qv8 fu n)
def zac:Bs->Bs->Bs->Bs->Bs->Option qol:=fun b a e c d=>qv8 fu fu b a e c d []
def qne:Bool->Bs->Bs->Bs->Bs->Bs->Option qol:=fun e d c f a b=>bif e then some (.inl (a,(b,false))) else zac fu d c f a b
def zaa(d:Bs):Option qol:=(qwd fu d).bind fun b=>(qhg fu 47 b.2).bind fun c=>(qwd fu c.2).bind fun a=>bif b.1==([]:Bs) then qne fu true [] [] a.2 b.1 a.1 else bif !c.1 then qne fu true [] [] a.2 b.1 a.1 else qne fu (a.1==([]:Bs)) [] [] a.2 b.1 a.1
def q8u(fu:Nat)(d:ez):ez:=fun c b a=>bif decide (a<b) then(am c a).bind fun f=>(qdb f).bind fun e=>bif !e then some false else d c b (ae (a+1)) else some true
def qt6(fu:Nat):Nat->ez|0=>fun _ _ _=>none|n+1=>q8u fu (qt6 fu n)
def q8t(a:Bs):Option Bool:=qt6 fu fu a (a.length:Int) 0
def qhh(a:Bs):Option Bool:=bif !(a==([]:Bs)) then bif decide ((a.length:Int)<=60) then(q8t fu a).bind fun b=>some b else some false else some false
def q9y(c:Bs×Bs)(a:Bs×Bs):Option (Bool×(Bs×Bs)):=(e7 fu c.1 a.1).bind fun b=>some (b,a)
abbrev q8e:=wV->Int->Int->(Bs×Bs)->Option (Int×(Bs×Bs))
def zby(f:q8e):q8e:=fun e c a d=>bif decide (a<c) then(am e a).bind fun g=>(q9y fu g d).bind fun b=>bif b.1 then some (a,b.2) else f e c (ae (a+1)) b.2 else some ((-1),d)
def qxe(fu:Nat):Nat->q8e|0=>fun _ _ _ _=>none|n+1=>zby fu (qxe fu n)
def zbx(a:List (Bs×Bs))(b:Bs×Bs):Option (Int×(Bs×Bs)):=qxe fu fu a (a.length:Int) 0 b
def zbr(c:List (Bs×Bs))(b:Bs×Bs):Option (Bool×(Bs×Bs)):=(zbx fu c b).bind fun a=>some (decide (0<=a.1),a.2)
abbrev qs7:=wV->Int->Int->(Bs×Bs×wV)->(Int×Int)->Option ((Int×Int))
def qv0(m:qs7):(Int->wV->Int->Int->Bool->(Bs×Bs×wV)->(Int×Int)->(Bs×Bs)->Option ((Int×Int))):=fun a i c f e b g d=>bif e then(bg 10 a).bind fun p=>some p else bif decide (0<=a/\a<=(b.2.2.length:Int)) then(zbr fu (List.take a.toNat b.2.2) d).bind fun h=>bif h.1 then(bg 7 a).bind fun k=>some k else bif decide (500<(h.2.2.length:Int)) then(bg 1 a).bind fun j=>some j else(ic h.2.2).bind fun l=>bif !l then(bg 5 a).bind fun o=>some o else m i c (ae (f+1)) b g else none
def q9z(g:qs7):qs7:=fun b c a d e=>bif decide (a<c) then(am b a).bind fun f=>(qhh fu f.1).bind fun i=>bif !i then qv0 fu g a b c a true d e f else qv0 fu g a b c a (decide (20<(f.1.length:Int))) d e f else(cg).bind fun h=>some h
def qvz(fu:Nat):Nat->qs7|0=>fun _ _ _ _ _=>none|n+1=>q9z fu (qvz fu n)
def q90:((Bs×Bs×wV)->(Int×Int)->Option ((Int×Int))):=fun a b=>bif decide (60<(a.2.2.length:Int)) then(bg 2 (-3)).bind fun c=>some c else qvz fu fu a.2.2 (a.2.2.length:Int) 0 a b
def qvy:(Bool->(Bs×Bs×wV)->(Int×Int)->Option ((Int×Int))):=fun c a b=>bif c then(bg 10 (-2)).bind fun d=>some d else q90 fu a b
def qhf(a:Bs×Bs×wV):Option ((Int×Int)):=(qhh fu a.1).bind fun c=>bif !c then qvy fu true a (0,0) else(qhh fu a.2.1).bind fun b=>qvy fu (!b) a (0,0)
abbrev zqz:=(Bs×Bs×Int×Int) ⊕ (Bs×Bs×Int×Int×wV)
def q9w(h:Bs):Option zqz:=bif decide (4000<(h.length:Int)) then(bg 1 (-1)).bind fun k=>some (.inl (([]:Bs),(([]:Bs),k))) else(zaa fu h).bind fun o=>ap o (fun d=>bif !d.2.2 then(bg 11 (-5)).bind fun p=>some (.inl (([]:Bs),(([]:Bs),p))) else(qhf fu (d.1,(d.2.1,[]))).bind fun i=>(dp i).bind fun m=>bif m then(bg i.1 (-6)).bind fun j=>some (.inl (([]:Bs),(([]:Bs),j))) else(cg).bind fun l=>some (.inl (d.1,(d.2.1,l)))) (fun a=>bif !a.2.2.1 then(bg 11 (-5)).bind fun e=>some (.inl (([]:Bs),(([]:Bs),e))) else(qhf fu (a.1,(a.2.1,a.2.2.2))).bind fun b=>(dp b).bind fun f=>bif f then(bg b.1 (-6)).bind fun g=>some (.inl (([]:Bs),(([]:Bs),g))) else(cg).bind fun c=>some (.inr (a.1,(a.2.1,(c.1,(c.2,a.2.2.2))))))
abbrev zda:=(Bs×Bs×Int×Bool) ⊕ (Bs×Bs×Int×Bool×wV)
abbrev qlk:=wV->Int->wV->Int->Int->Bs->Bs->Option zda
def qwq(fu:Nat)(f:qlk):qlk:=fun g h e d c b a=>f g h e d (ae (c+1)) b a
def zay(j:qlk):qlk:=fun h f e d c b a=>bif decide (c<d) then(am e c).bind fun p=>(e7 fu p.1 [67,111,110,116,101,110,116,45,84,121,112,101]).bind fun q=>bif q then bif decide (0<=f) then some (.inl (([]:Bs),(([]:Bs),(0,false)))) else qwq fu j h c e d c b a else qwq fu j h f e d c b a else bif decide (f<0) then some (.inl (([]:Bs),(([]:Bs),(0,false)))) else(am h f).bind fun l=>(q9w fu l.2).bind fun m=>ap m (fun i=>(dp i.2.2).bind fun k=>some (.inl (i.1,(i.2.1,(f,!k))))) (fun g=>(dp (g.2.2.1,g.2.2.2.1)).bind fun o=>some (.inr (g.1,(g.2.1,(f,(!o,g.2.2.2.2))))))
def qwp(fu:Nat):Nat->qlk|0=>fun _ _ _ _ _ _ _=>none|n+1=>zay fu (qwp fu n)
def qnj(a:List (Bs×Bs)):Option zda:=qwp fu fu a (-1) a (a.length:Int) 0 [] ([]:Bs)
abbrev q8h:=Bs->wV->Int->Int->(Int×Int)->Option (Bs×Bool×(Int×Int))
def q9v(h:q8h):q8h:=fun e c b a d=>bif decide (a<b) then(am c a).bind fun f=>(e7 fu f.1 e).bind fun j=>bif j then(cg).bind fun i=>some (f.2,(true,i)) else h e c b (ae (a+1)) d else(cg).bind fun g=>some (([]:Bs),(false,g))
def qvw(fu:Nat):Nat->q8h|0=>fun _ _ _ _ _=>none|n+1=>q9v fu (qvw fu n)
def qvv(a:Bs×Bs×wV)(c:Bs):Option (Bs×Bool×(Int×Int)):=(qhf fu a).bind fun b=>(dp b).bind fun d=>bif d then some (([]:Bs),(false,b)) else qvw fu fu c a.2.2 (a.2.2.length:Int) 0 (0,0)
def za3(a:UInt8):Option Bool:=bif decide (32<=a) then some (decide (a<=126)) else some false
def q8w(fu:Nat)(d:ez):ez:=fun c b a=>bif decide (a<b) then(am c a).bind fun f=>(za3 f).bind fun e=>bif !e then some false else d c b (ae (a+1)) else some true
def qt7(fu:Nat):Nat->ez|0=>fun _ _ _=>none|n+1=>q8w fu (qt7 fu n)
def q8v(a:Bs):Option Bool:=qt7 fu fu a (a.length:Int) 0
def qhm(c:Bs)(a:Bs):Option Bool:=(qaf c a).bind fun b=>some b
def za4:Bs->Bs->wV->Option (Bs×Bool):=fun c b d=>(qvv fu (c,(b,d)) [98,111,117,110,100,97,114,121]).bind fun a=>bif !(a.1==([]:Bs)) then bif decide ((a.1.length:Int)<=60) then(q8v fu a.1).bind fun f=>bif f then(qhm a.1 [32]).bind fun e=>bif a.2.1 then some (a.1,!e) else some (a.1,false) else bif a.2.1 then some (a.1,false) else some (a.1,false) else bif a.2.1 then some (a.1,false) else some (a.1,false) else bif a.2.1 then some (a.1,false) else some (a.1,false)
def qhk:Bool->Bs->Bs->wV->Option (Bs×Bool):=fun d b a c=>bif d then some (([]:Bs),false) else za4 fu b a c
def za2(c:List (Bs×Bs)):Option (Bs×Bool):=(qnj fu c).bind fun e=>ap e (fun b=>bif !b.2.2.2 then qhk fu true b.1 b.2.1 [] else(e7 fu b.1 [109,117,108,116,105,112,97,114,116]).bind fun d=>qhk fu (!d) b.1 b.2.1 []) (fun a=>bif !a.2.2.2.1 then qhk fu true a.1 a.2.1 a.2.2.2.2 else(e7 fu a.1 [109,117,108,116,105,112,97,114,116]).bind fun f=>qhk fu (!f) a.1 a.2.1 a.2.2.2.2)
def zbe(a:Bs):Option (Bs):=some a
def zbd(c:Bs)(a:Bs):Option Int:=(qhu fu c [32,9]).bind fun b=>bif decide (List.length ([45,45]:Bs)+a.length<=a7) then bif b==(([45,45]:Bs)++a) then some 1 else bif decide (List.length ([45,45]:Bs)+a.length<=a7) then bif decide (List.length (([45,45]:Bs)++a)+List.length ([45,45]:Bs)<=a7) then bif b==((([45,45]:Bs)++a)++[45,45]) then some 2 else some 0 else none else none else none
abbrev zq8:=(Bs×Bs×Int×(List Bs)×(List Bs)) ⊕ (Bs×Bs×Int×(List Bs))
def qws(b:Int)(f:Bs)(c:Bs)(d:Bs)(a:Int)(g:List Bs)(e:List Bs):Option zq8:=(zbd fu f d).bind fun h=>bif h==0 then some (.inl (c,(d,(a,(g,e))))) else bif decide (0<=a) then bif decide (0<=a/\a<=(if ae (b-2)>a then ae (b-2) else a)/\(if ae (b-2)>a then ae (b-2) else a)<=(c.length:Int)) then bif decide (List.length (e++([List.take ((if ae (b-2)>a then ae (b-2) else a).toNat-a.toNat) (List.drop a.toNat c)]:List Bs))<=aq) then bif h==2 then some (.inr (c,(d,(a,e++([List.take ((if ae (b-2)>a then ae (b-2) else a).toNat-a.toNat) (List.drop a.toNat c)]:List Bs))))) else some (.inl (c,(d,(if(c.length:Int)<ae ((ae (b+(f.length:Int)))+2) then(c.length:Int) else ae ((ae (b+(f.length:Int)))+2),(g,e++([List.take ((if ae (b-2)>a then ae (b-2) else a).toNat-a.toNat) (List.drop a.toNat c)]:List Bs)))))) else none else none else bif h==2 then some (.inr (c,(d,(a,e)))) else some (.inl (c,(d,(if(c.length:Int)<ae ((ae (b+(f.length:Int)))+2) then(c.length:Int) else ae ((ae (b+(f.length:Int)))+2),(g,e)))))
abbrev zdb:=(Bs×Bs×Bs×Int×(List Bs)) ⊕ (Bs×Bs×Bs×Int×(List Bs)×(List Bs))
abbrev q8j:=Int->Bs->Bs->Bs->Int->(List Bs)->(List Bs)->Option zdb
def zbg(k:q8j):q8j:=fun a b i j h d c=>bif decide (a<(b.length:Int)) then bif decide (0<=a/\a<=(b.length:Int)) then bif decide (0<List.length ([13,10]:Bs)) then(qab (List.drop a.toNat b) ([13,10]:Bs)).bind fun g=>bif decide (0<=g) then bif decide (0<=a/\a<=ae (a+g)/\ae (a+g)<=(b.length:Int)) then(qws fu a (List.take ((ae (a+g)).toNat-a.toNat) (List.drop a.toNat b)) i j h d c).bind fun o=>ap o (fun e=>k (ae ((ae (a+g))+2)) b e.1 e.2.1 e.2.2.1 e.2.2.2.1 e.2.2.2.2) (fun m=>some (.inl (b,m))) else none else bif decide (0<=a/\a<=(b.length:Int)/\(b.length:Int)<=(b.length:Int)) then(qws fu a (List.take ((b.length:Int).toNat-a.toNat) (List.drop a.toNat b)) i j h d c).bind fun p=>ap p (fun f=>k (b.length:Int) b f.1 f.2.1 f.2.2.1 f.2.2.2.1 f.2.2.2.2) (fun l=>some (.inl (b,l))) else none else none else none else some (.inr (b,(i,(j,(h,(d,c))))))
def qw2(fu:Nat):Nat->q8j|0=>fun _ _ _ _ _ _ _=>none|n+1=>zbg fu (qw2 fu n)
def zbf(e:Bs)(d:Bs)(f:Bs)(a:Int)(c:List Bs)(b:List Bs):Option zdb:=qw2 fu fu 0 e d f a c b
def za6(b:Bs)(c:Bs):Option ((List Bs)):=(zbe b).bind fun d=>(zbf fu d b c (-1) [] []).bind fun f=>ap f (fun e=>some e.2.2.2.2) (fun a=>bif decide (0<=a.2.2.2.1) then bif decide (0<=a.2.2.2.1/\a.2.2.2.1<=(a.2.1.length:Int)) then bif decide (List.length (a.2.2.2.2.2++([List.drop a.2.2.2.1.toNat a.2.1]:List Bs))<=aq) then some (a.2.2.2.2.2++([List.drop a.2.2.2.1.toNat a.2.1]:List Bs)) else none else none else some a.2.2.2.2.2)
def qnm(c:List (Bs×Bs))(b:Bs)(d:Int):Option ((List Bs)):=(za2 fu c).bind fun a=>bif !a.2 then some [] else bif decide (8<=d) then some [] else(za6 fu b a.1).bind fun e=>some e
def qnk(b:Bs×Bs):Option Bool:=(e7 fu b.1 [98,111,117,110,100,97,114,121]).bind fun a=>some a
abbrev q8m:=wV->Int->Int->Option Int
def zbz(d:q8m):q8m:=fun c b a=>bif decide (a<b) then(am c a).bind fun e=>(qnk fu e).bind fun f=>bif f then some a else d c b (ae (a+1)) else some (-1)
def qxg(fu:Nat):Nat->q8m|0=>fun _ _ _=>none|n+1=>zbz fu (qxg fu n)
def qxf(a:List (Bs×Bs)):Option Int:=qxg fu fu a (a.length:Int) 0
abbrev q50:=wV->Int->Int->Option (wV)
def zbu(d:q50):q50:=fun a b c=>bif decide (c<(a.length:Int)) then(am a c).bind fun e=>(qnk fu e).bind fun f=>bif !f then(am a b).bind fun g=>none else d a b (ae (c+1)) else bif decide (0<=b/\b<=(a.length:Int)) then none else none
def qxc(fu:Nat):Nat->q50|0=>fun _ _ _=>none|n+1=>zbu fu (qxc fu n)
def zbt(b:List (Bs×Bs)):Option (wV):=(qxf fu b).bind fun a=>bif a==(-1) then some b else qxc fu fu b a (ae (a+1))
def q94(a:UInt8):Option Bool:=bif decide (32<=a) then some (decide (a<=126)) else some false
def q8y(fu:Nat)(d:ez):ez:=fun c b a=>bif decide (a<b) then(am c a).bind fun f=>(q94 f).bind fun e=>bif !e then some false else d c b (ae (a+1)) else some true
def qt8(fu:Nat):Nat->ez|0=>fun _ _ _=>none|n+1=>q8y fu (qt8 fu n)
def q8x(a:Bs):Option Bool:=qt8 fu fu a (a.length:Int) 0
def tw(b:UInt8):Option UInt8:=(([48,49,50,51,52,53,54,55,56,57,65,66,67,68,69,70]:Bs)[(b&&&15).toNat]?).bind fun a=>some a
abbrev qb3:=Bs->Int->Int->(List Bs)->Option ((List Bs))
def qwc(fu:Nat)(d:qb3):Bs->Bs->Int->Int->(List Bs)->Option ((List Bs)):=fun e c f b a=>bif decide (0<=ae ((a.length:Int)-1)/\(ae ((a.length:Int)-1)).toNat<a.length) then(a[(ae ((a.length:Int)-1)).toNat]?).bind fun h=>bif decide ((ae ((h.length:Int)+(c.length:Int)))<=60) then bif decide (0<=ae ((a.length:Int)-1)/\(ae ((a.length:Int)-1)).toNat<a.length) then(a[(ae ((a.length:Int)-1)).toNat]?).bind fun g=>bif decide (g.length+c.length<=a7) then bif decide (0<=ae ((a.length:Int)-1)/\(ae ((a.length:Int)-1)).toNat<a.length) then(a[(ae ((a.length:Int)-1)).toNat]?).bind fun i=>d e f (ae (b+1)) (List.set a ((ae ((a.length:Int)-1)).toNat) (g++c)) else none else none else none else bif decide (List.length (a++([c]:List Bs))<=aq) then d e f (ae (b+1)) (a++([c]:List Bs)) else none else none
def zag(e:qb3):qb3:=fun c d a b=>bif decide (a<d) then bif decide (0<=a/\a<=ae (a+1)/\ae (a+1)<=(c.length:Int)) then(am c a).bind fun k=>(qdb k).bind fun j=>bif !j then(am c a).bind fun g=>(tw (vy g (min (4:Int).toNat 8))).bind fun f=>(am c a).bind fun h=>(tw h).bind fun i=>qwc fu e c ([37,f,i]:Bs) d a b else qwc fu e c (List.take ((ae (a+1)).toNat-a.toNat) (List.drop a.toNat c)) d a b else none else some b
def qwb(fu:Nat):Nat->qb3|0=>fun _ _ _ _=>none|n+1=>zag fu (qwb fu n)
def zaf(a:Bs):Option ((List Bs)):=qwb fu fu a (a.length:Int) 0 ([([117,116,102,56,39,39]:Bs)]:List Bs)
abbrev q51:=Bs->Int->Int->(Bs×Bs)->(List Bs)->Option (Bs)
def q95(fu:Nat)(h:q51):q51:=fun f d b a c=>bif decide (b<d) then bif decide (0<=b/\b.toNat<c.length) then(c[b.toNat]?).bind fun g=>bif decide (List.length ([59,32]:Bs)+a.1.length<=a7) then bif decide (List.length (([59,32]:Bs)++a.1)+List.length ([42]:Bs)<=a7) then(ua b).bind fun e=>bif decide (List.length ((([59,32]:Bs)++a.1)++[42])+e.length<=a7) then bif decide (List.length (((([59,32]:Bs)++a.1)++[42])++e)+List.length ([42,61]:Bs)<=a7) then bif decide (List.length ((((([59,32]:Bs)++a.1)++[42])++e)++[42,61])+g.length<=a7) then bif decide (f.length+List.length (((((([59,32]:Bs)++a.1)++[42])++e)++[42,61])++g)<=a7) then h (f++(((((([59,32]:Bs)++a.1)++[42])++e)++[42,61])++g)) d (ae (b+1)) a c else none else none else none else none else none else none else none else some f
def qv3(fu:Nat):Nat->q51|0=>fun _ _ _ _ _=>none|n+1=>q95 fu (qv3 fu n)
def q96:(Bs×Bs)->Option (Bs):=fun a=>(zaf fu a.2).bind fun b=>qv3 fu fu [] (b.length:Int) 0 a b
def qv2:Bool->(Bs×Bs)->Option (Bs):=fun d a=>bif d then bif decide (List.length ([59,32]:Bs)+a.1.length<=a7) then bif decide (List.length (([59,32]:Bs)++a.1)+List.length ([61,34]:Bs)<=a7) then(qdh ([([92]:Bs),([92,92]:Bs),([34]:Bs),([92,34]:Bs)]:List Bs)).bind fun b=>(t8 a.2 b.1 b.2.1 b.2.2.1 b.2.2.2).bind fun c=>bif decide (List.length ((([59,32]:Bs)++a.1)++[61,34])+c.length<=a7) then bif decide (List.length (((([59,32]:Bs)++a.1)++[61,34])++c)+List.length ([34]:Bs)<=a7) then some ((((([59,32]:Bs)++a.1)++[61,34])++c)++[34]) else none else none else none else none else q96 fu a
def q93(a:Bs×Bs):Option (Bs):=(qhh fu a.2).bind fun c=>bif c then bif decide (List.length ([59,32]:Bs)+a.1.length<=a7) then bif decide (List.length (([59,32]:Bs)++a.1)+List.length ([61]:Bs)<=a7) then bif decide (List.length ((([59,32]:Bs)++a.1)++[61])+a.2.length<=a7) then some (((([59,32]:Bs)++a.1)++[61])++a.2) else none else none else none else bif decide ((a.2.length:Int)<=60) then(q8x fu a.2).bind fun b=>qv2 fu b a else qv2 fu false a
abbrev q52:=Bs->wV->Int->Int->(Int×Int)->Option (Bs×(Int×Int))
def q9x(h:q52):q52:=fun d c b a e=>bif decide (a<b) then(am c a).bind fun j=>(q93 fu j).bind fun f=>bif decide (d.length+f.length<=a7) then h (d++f) c b (ae (a+1)) e else none else bif decide (4000<(d.length:Int)) then(bg 1 (-4)).bind fun i=>some (([]:Bs),i) else(cg).bind fun g=>some (d,g)
def qvx(fu:Nat):Nat->q52|0=>fun _ _ _ _ _=>none|n+1=>q9x fu (qvx fu n)
def qnd(a:Bs×Bs×wV):Option (Bs×(Int×Int)):=(qhf fu a).bind fun b=>(dp b).bind fun c=>bif c then some (([]:Bs),b) else bif decide (a.1.length+List.length ([47]:Bs)<=a7) then bif decide (List.length (a.1++[47])+a.2.1.length<=a7) then qvx fu fu ((a.1++[47])++a.2.1) a.2.2 (a.2.2.length:Int) 0 (0,0) else none else none
abbrev q53:=Int->Int->wV->Option (wV)
def zbw(d:q53):q53:=fun b c a=>bif decide (c<(a.length:Int)) then bif decide (0<=c/\c.toNat<a.length) then(a[c.toNat]?).bind fun e=>(qnk fu e).bind fun f=>bif !f then bif decide (0<=b/\b.toNat<a.length) then(a[b.toNat]?).bind fun g=>d (ae (b+1)) (ae (c+1)) (List.set a b.toNat e) else none else d b (ae (c+1)) a else none else bif decide (0<=b/\b.toNat<a.length) then bif decide (0<=b/\b<=(List.length (List.take b.toNat a++List.replicate (a.length-b.toNat) (([]:Bs),([]:Bs))):Int)) then some (List.take b.toNat (List.take b.toNat a++List.replicate (a.length-b.toNat) (([]:Bs),([]:Bs)))) else none else none
def qxd(fu:Nat):Nat->q53|0=>fun _ _ _=>none|n+1=>zbw fu (qxd fu n)
def zbv(b:List (Bs×Bs)):Option (wV):=(qxf fu b).bind fun a=>bif a==(-1) then some b else qxd fu fu a (ae (a+1)) b
abbrev zq7:=Bool×wV
def qwr(f:List (Bs×Bs)):Option zq7:=(qnj fu f).bind fun m=>ap m (fun c=>(zbt fu []).bind fun k=>(qnd fu (c.1,(c.2.1,k))).bind fun i=>(dp i.2).bind fun l=>bif l then some (false,[]) else(mu f).bind fun h=>bif decide (0<=c.2.2.1/\c.2.2.1.toNat<h.length) then(h[c.2.2.1.toNat]?).bind fun o=>some (true,List.set h c.2.2.1.toNat (o.1,i.1)) else none) (fun b=>(zbv fu b.2.2.2.2).bind fun j=>(qnd fu (b.1,(b.2.1,j))).bind fun d=>(dp d.2).bind fun g=>bif g then some (false,[]) else(mu f).bind fun a=>bif decide (0<=b.2.2.1/\b.2.2.1.toNat<a.length) then(a[b.2.2.1.toNat]?).bind fun e=>some (true,List.set a b.2.2.1.toNat (e.1,d.1)) else none)
abbrev qzn:=wU×Bool×(Int×Int×Int)
abbrev qk4:=Bs->Int->(Int×Int×Int)->Option qzn
abbrev zdd:=wU×Bool×(Int×Int×Int)
abbrev q54:=Int->Int->Int->(Int×Int×Int)->(List Bs)->wV->(List wU)->Option zdd
def zbk(e:qk4)(fu:Nat)(k:q54):q54:=fun h f a i c g b=>bif decide (a<f) then bif decide (0<=a/\a.toNat<c.length) then(c[a.toNat]?).bind fun j=>(e j (ae (h+1)) i).bind fun d=>bif !d.2.1 then some ((Tree.node ([],[]) []),(false,d.2.2)) else bif decide (List.length (b++([(Tree.node d.1.val d.1.kids)]:List wU))<=aq) then k h f (ae (a+1)) d.2.2 c g (b++([(Tree.node d.1.val d.1.kids)]:List wU)) else none else none else some ((Tree.node (g,[]) b),(true,i))
def qw4(a:qk4)(fu:Nat):Nat->q54|0=>fun _ _ _ _ _ _ _=>none|n+1=>zbk a fu (qw4 a fu n)
def zbj(a:qk4)(fu:Nat)(f:Bs)(e:Int)(b:Int×Int×Int)(c:List (Bs×Bs)):Option zdd:=(mu c).bind fun h=>(mu f).bind fun i=>(qnm fu c f e).bind fun d=>bif(d.length:Int)==0 then some ((Tree.node (h,i) []),(true,(ae (b.1+1),b.2))) else(qwr fu c).bind fun g=>bif !g.1 then some ((Tree.node (h,i) []),(true,(ae (b.1+1),b.2))) else qw4 a fu fu e (d.length:Int) 0 (ae (b.1+1),b.2) d g.2 []
def qw5(a:qk4)(fu:Nat)(d:Bs)(f:Int)(c:Int×Int×Int):Option qzn:=(qha fu d).bind fun b=>(dp b.2.1).bind fun i=>bif i then(bg b.2.1.1 (-8)).bind fun h=>some ((Tree.node ([],[]) []),(false,(c.1,h))) else bif c.1==40 then(bg 2 (-7)).bind fun g=>some ((Tree.node ([],[]) []),(false,(c.1,g))) else bif decide (0<=b.1/\b.1<=(d.length:Int)) then(zbj a fu (List.drop b.1.toNat d) f c b.2.2).bind fun e=>some ((Tree.node e.1.val e.1.kids),e.2) else none
def qw6(fu:Nat):Nat->qk4|0=>fun _ _ _=>none|n+1=>qw5 (qw6 fu n) fu
def zqp(c:Bs)(a:Int)(b:Int×Int×Int):Option qzn:=qw6 fu fu c a b
abbrev zdc:=wU×Bool×(Int×Int×Int)
abbrev q56:=Int->Int->Int->(Int×Int×Int)->(List Bs)->wV->(List wU)->Option zdc
def zbi(j:q56):q56:=fun g e a h c f b=>bif decide (a<e) then bif decide (0<=a/\a.toNat<c.length) then(c[a.toNat]?).bind fun i=>(zqp fu i (ae (g+1)) h).bind fun d=>bif !d.2.1 then some ((Tree.node ([],[]) []),(false,d.2.2)) else bif decide (List.length (b++([(Tree.node d.1.val d.1.kids)]:List wU))<=aq) then j g e (ae (a+1)) d.2.2 c f (b++([(Tree.node d.1.val d.1.kids)]:List wU)) else none else none else some ((Tree.node (f,[]) b),(true,h))
def qw3(fu:Nat):Nat->q56|0=>fun _ _ _ _ _ _ _=>none|n+1=>zbi fu (qw3 fu n)
def zbh(b:List (Bs×Bs))(d:Bs)(e:Int)(a:Int×Int×Int):Option zdc:=(mu b).bind fun g=>(mu d).bind fun h=>(qnm fu b d e).bind fun c=>bif(c.length:Int)==0 then some ((Tree.node (g,h) []),(true,(ae (a.1+1),a.2))) else(qwr fu b).bind fun f=>bif !f.1 then some ((Tree.node (g,h) []),(true,(ae (a.1+1),a.2))) else qw3 fu fu e (c.length:Int) 0 (ae (a.1+1),a.2) c f.2 []
abbrev zq9:=wU
def qnl(a:Tree (wV×Bs)):Option zq9:=some (Tree.node a.val a.kids)
abbrev zq6:=((Int×Int)×Bool) ⊕ ((Int×Int)×Bool)
def za0(d:Int)(g:List (Bs×Bs))(h:Bs)(f:List wU)(c:Int)(a:Int×Int)(b:Bool):Option zq6:=bif decide (40<=d) then(bg 2 (-1)).bind fun e=>some (.inl (e,b)) else bif b then some (.inr (a,true)) else some (.inr (a,decide (8<c)))
abbrev qom:=(Int×(Int×Int)×Bool) ⊕ (Int×(Int×Int)×Bool)
abbrev qse:=wU->Int->Int->(Int×Int)->Bool->Option qom
abbrev q57:=Int->(List wU)->Int->Int->Int->(Int×Int)->Bool->Option qom
def za8(a:qse)(fu:Nat)(k:q57):q57:=fun g d c b h f i=>bif decide (b<c) then(am d b).bind fun j=>(a (Tree.node j.val j.kids) (ae (g+1)) h f i).bind fun m=>ap m (fun l=>some (.inl l)) (fun e=>k g d c (ae (b+1)) e.1 e.2.1 e.2.2) else some (.inr (h,(f,i)))
def qwv(a:qse)(fu:Nat):Nat->q57|0=>fun _ _ _ _ _ _ _=>none|n+1=>za8 a fu (qwv a fu n)
def qwt(a:qse)(fu:Nat)(b:Tree (wV×Bs))(d:Int)(c:Int)(f:Int×Int)(g:Bool):Option qom:=(za0 c b.val.1 b.val.2 b.kids d f g).bind fun i=>ap i (fun h=>some (.inl (c,h))) (fun e=>qwv a fu fu d b.kids (b.kids.length:Int) 0 (ae (c+1)) e.1 e.2)
def qwu(fu:Nat):Nat->qse|0=>fun _ _ _ _ _=>none|n+1=>qwt (qwu fu n) fu
def zqm(d:Tree (wV×Bs))(c:Int)(e:Int)(a:Int×Int)(b:Bool):Option qom:=qwu fu fu d c e a b
abbrev zra:=(wU×(Int×Int)×Bool) ⊕ (wU×(Int×Int)×Bool)
def za7(a:Tree (wV×Bs))(b:Int×Int)(d:Bool):Option zra:=(zqm fu (Tree.node a.val a.kids) 0 0 b d).bind fun e=>ap e (fun c=>some (.inl ((Tree.node a.val a.kids),c.2))) (fun f=>some (.inr ((Tree.node a.val a.kids),f.2)))
def zbm:(Int->wU->Bs->Bs->wV->Option Int):=fun g d b a c=>(qvv fu (b,(a,c)) [98,111,117,110,100,97,114,121]).bind fun h=>(qnd fu (b,(a,c))).bind fun e=>bif h.2.1 then some 5 else bif decide (60<=(c.length:Int)) then some 5 else(dp e.2).bind fun i=>bif i then some 5 else(am d.val.1 g).bind fun f=>bif !(e.1==f.2) then some 5 else bif decide (2000<(e.1.length:Int)) then some 5 else some 0
def qai:(Int->Bool->wU->Bs->Bs->wV->Option Int):=fun f d c a b e=>bif d then some 5 else zbm fu f (Tree.node c.val c.kids) a b e
def zbl(a:Tree (wV×Bs)):Option Int:=(qnj fu a.val.1).bind fun e=>ap e (fun c=>bif decide (0<(a.val.2.length:Int)) then qai fu c.2.2.1 true (Tree.node a.val a.kids) c.1 c.2.1 [] else bif !c.2.2.2 then qai fu c.2.2.1 true (Tree.node a.val a.kids) c.1 c.2.1 [] else(e7 fu c.1 [109,117,108,116,105,112,97,114,116]).bind fun d=>qai fu c.2.2.1 (!d) (Tree.node a.val a.kids) c.1 c.2.1 []) (fun b=>bif decide (0<(a.val.2.length:Int)) then qai fu b.2.2.1 true (Tree.node a.val a.kids) b.1 b.2.1 b.2.2.2.2 else bif !b.2.2.2.1 then qai fu b.2.2.1 true (Tree.node a.val a.kids) b.1 b.2.1 b.2.2.2.2 else(e7 fu b.1 [109,117,108,116,105,112,97,114,116]).bind fun f=>qai fu b.2.2.1 (!f) (Tree.node a.val a.kids) b.1 b.2.1 b.2.2.2.2)
def za5(a:wU×Int):Option Int:=(qc8 fu a.1.val.1).bind fun c=>(dp c).bind fun e=>bif e then some c.1 else bif decide (0<(a.1.kids.length:Int)) then(zbl fu (Tree.node a.1.val a.1.kids)).bind fun d=>some d else bif decide (12000<(a.1.val.2.length:Int)) then some 1 else(qmm fu a.1.val.2).bind fun b=>bif b != 0 then some b else(qnm fu a.1.val.1 a.1.val.2 a.2).bind fun f=>bif decide (0<(f.length:Int)) then some 5 else some 0
def za1(f:Int)(e:List (Bs×Bs))(g:Bs)(b:List wU)(d:Int)(c:Int×Int):Option (((Int×Int)) ⊕ ((Int×Int))):=(za5 fu ((Tree.node (e,g) b),d)).bind fun a=>bif a != 0 then(bg a f).bind fun h=>some (.inl h) else some (.inr c)
abbrev qon:=(Int×(Int×Int)) ⊕ (Int×(Int×Int))
abbrev qsf:=wU->Int->Int->(Int×Int)->Option qon
abbrev q59:=Int->(List wU)->Int->Int->Int->(Int×Int)->Option qon
def za9(a:qsf)(fu:Nat)(j:q59):q59:=fun f d c b g e=>bif decide (b<c) then(am d b).bind fun i=>(a (Tree.node i.val i.kids) (ae (f+1)) g e).bind fun l=>ap l (fun k=>some (.inl k)) (fun h=>j f d c (ae (b+1)) h.1 h.2) else some (.inr (g,e))
def qwy(a:qsf)(fu:Nat):Nat->q59|0=>fun _ _ _ _ _ _=>none|n+1=>za9 a fu (qwy a fu n)
def qww(a:qsf)(fu:Nat)(b:Tree (wV×Bs))(d:Int)(c:Int)(e:Int×Int):Option qon:=(za1 fu c b.val.1 b.val.2 b.kids d e).bind fun g=>ap g (fun f=>some (.inl (c,f))) (fun h=>qwy a fu fu d b.kids (b.kids.length:Int) 0 (ae (c+1)) h)
def qwx(fu:Nat):Nat->qsf|0=>fun _ _ _ _=>none|n+1=>qww (qwx fu n) fu
def zqn(d:Tree (wV×Bs))(b:Int)(c:Int)(a:Int×Int):Option qon:=qwx fu fu d b c a
abbrev zrb:=(wU×(Int×Int)) ⊕ (wU×(Int×Int))
def zbb(a:Tree (wV×Bs))(b:Int×Int):Option zrb:=(zqn fu (Tree.node a.val a.kids) 0 0 b).bind fun d=>ap d (fun c=>some (.inl ((Tree.node a.val a.kids),c.2))) (fun e=>some (.inr ((Tree.node a.val a.kids),e.2)))
def zaz(a:Tree (wV×Bs)):Option ((Int×Int)):=(qnl (Tree.node a.val a.kids)).bind fun e=>(za7 fu (Tree.node e.val e.kids) (0,0) false).bind fun i=>ap i (fun g=>some g.2.1) (fun d=>bif d.2.2 then(bg 2 (-2)).bind fun j=>some j else(qnl (Tree.node a.val a.kids)).bind fun c=>(zbb fu (Tree.node c.val c.kids) d.2.1).bind fun h=>ap h (fun f=>some f.2) (fun k=>(cg).bind fun b=>some b))
abbrev zq5:=wU×(Int×Int)
def zax(b:wV×Bs):Option zq5:=(qdc fu b).bind fun d=>(dp d).bind fun g=>bif g then some ((Tree.node ([],[]) []),d) else(zbh fu b.1 b.2 0 (0,(0,0))).bind fun a=>bif !a.2.1 then some ((Tree.node ([],[]) []),a.2.2.2) else(zaz fu (Tree.node a.1.val a.1.kids)).bind fun c=>(dp c).bind fun h=>bif h then(bg c.1 (-9)).bind fun e=>some ((Tree.node ([],[]) []),e) else(cg).bind fun f=>some ((Tree.node a.1.val a.1.kids),f)
abbrev zq3:=wU
def zau(a:Tree (wV×Bs)):Option zq3:=some (Tree.node a.val a.kids)
def qyr(b:Bs)(a:UInt8):Option (Bs×UInt8):=some (b,a)
abbrev zrf:=(Bs×Bool×UInt8) ⊕ ((Bs×Bool) ⊕ ((Bs×Bool) ⊕ (Bs×Bool)))
def zct(a:Bs):Option zrf:=(qyr [55,98,105,116] 127).bind fun b=>(qyr [56,98,105,116] 255).bind fun c=>(e7 fu b.1 a).bind fun f=>bif f then some (.inl (b.1,(true,b.2))) else(e7 fu c.1 a).bind fun d=>bif d then some (.inl (c.1,(true,c.2))) else(e7 fu [98,97,115,101,54,52] a).bind fun g=>bif g then some (.inr (.inl (([98,97,115,101,54,52]:Bs),true))) else(e7 fu [113,117,111,116,101,100,45,112,114,105,110,116,97,98,108,101] a).bind fun e=>bif e then some (.inr (.inr (.inl (([113,117,111,116,101,100,45,112,114,105,110,116,97,98,108,101]:Bs),true)))) else some (.inr (.inr (.inr (([]:Bs),false))))
abbrev zrg:=(Bs×(Int×Int)×UInt8) ⊕ ((Bs×(Int×Int)) ⊕ ((Bs×(Int×Int)) ⊕ (Bs×(Int×Int))))
def zcu(e:Bs)(s:Bs):Option zrg:=(zct fu s).bind fun v=>ap v (fun a=>bif !a.2.1 then(bg 18 (-3)).bind fun u=>some (.inl (a.1,(u,a.2.2))) else bif decide (12000<(e.length:Int)) then(bg 1 (-1)).bind fun t=>some (.inl (a.1,(t,a.2.2))) else(cg).bind fun l=>some (.inl (a.1,(l,a.2.2)))) (fun r=>ap r (fun b=>bif !b.2 then(bg 18 (-3)).bind fun g=>some (.inr (.inl (b.1,g))) else bif decide (12000<(e.length:Int)) then(bg 1 (-1)).bind fun i=>some (.inr (.inl (b.1,i))) else(cg).bind fun k=>some (.inr (.inl (b.1,k)))) (fun q=>ap q (fun d=>bif !d.2 then(bg 18 (-3)).bind fun o=>some (.inr (.inr (.inl (d.1,o)))) else bif decide (12000<(e.length:Int)) then(bg 1 (-1)).bind fun h=>some (.inr (.inr (.inl (d.1,h)))) else(cg).bind fun m=>some (.inr (.inr (.inl (d.1,m))))) (fun c=>bif !c.2 then(bg 18 (-3)).bind fun p=>some (.inr (.inr (.inr (c.1,p)))) else bif decide (12000<(e.length:Int)) then(bg 1 (-1)).bind fun j=>some (.inr (.inr (.inr (c.1,j)))) else(cg).bind fun f=>some (.inr (.inr (.inr (c.1,f)))))))
def zcs(a:Bs):Option ((Int×Int)×Bs):=bif decide (a.length<=aq) then(cg).bind fun b=>some (b,a) else none
abbrev q6c:=Int->Int->Bs->Int->Int->(Int×Int)->Bs->Option ((Int×Int)×Bs)
def qmj(fu:Nat)(i:q6c):q6c:=fun h c d e b f a=>bif decide (b<e) then(am d b).bind fun j=>bif j==61 then(cg).bind fun k=>some (k,a) else bif decide (0<List.length ([65,66,67,68,69,70,71,72,73,74,75,76,77,78,79,80,81,82,83,84,85,86,87,88,89,90,97,98,99,100,101,102,103,104,105,106,107,108,109,110,111,112,113,114,115,116,117,118,119,120,121,122,48,49,50,51,52,53,54,55,56,57,43,47]:Bs)) then(qac ([65,66,67,68,69,70,71,72,73,74,75,76,77,78,79,80,81,82,83,84,85,86,87,88,89,90,97,98,99,100,101,102,103,104,105,106,107,108,109,110,111,112,113,114,115,116,117,118,119,120,121,122,48,49,50,51,52,53,54,55,56,57,43,47]:Bs) j).bind fun g=>bif decide (g<0) then i h c d e (ae (b+1)) f a else bif decide (8<=(ae (c+6))) then bif decide (0<=ae ((ae (c+6))-8)) then bif decide (List.length (a++([cy (Int.fdiv (ae (((BitVec.ofInt 64 (ae (h*2 ^ min (6:Int).toNat 64))|||BitVec.ofInt 64 g).toNat:Int))) (2 ^ min (ae ((ae (c+6))-8)).toNat 64))]:Bs))<=aq) then bif decide (0<=ae ((ae (c+6))-8)) then i (ae (((BitVec.ofInt 64 (ae (((BitVec.ofInt 64 (ae (h*2 ^ min (6:Int).toNat 64))|||BitVec.ofInt 64 g).toNat:Int)))&&&BitVec.ofInt 64 (ae ((ae (1*2 ^ min (ae ((ae (c+6))-8)).toNat 64))-1))).toNat:Int))) (ae ((ae (c+6))-8)) d e (ae (b+1)) f (a++([cy (Int.fdiv (ae (((BitVec.ofInt 64 (ae (h*2 ^ min (6:Int).toNat 64))|||BitVec.ofInt 64 g).toNat:Int))) (2 ^ min (ae ((ae (c+6))-8)).toNat 64))]:Bs)) else none else none else none else i (ae (((BitVec.ofInt 64 (ae (h*2 ^ min (6:Int).toNat 64))|||BitVec.ofInt 64 g).toNat:Int))) (ae (c+6)) d e (ae (b+1)) f a else none else(cg).bind fun l=>some (l,a)
def z8(fu:Nat):Nat->q6c|0=>fun _ _ _ _ _ _ _=>none|n+1=>qmj fu (z8 fu n)
def qgs(a:Bs):Option ((Int×Int)×Bs):=bif decide (24000<(a.length:Int)) then(bg 1 (-1)).bind fun b=>some (b,[]) else z8 fu fu 0 0 a (a.length:Int) 0 (0,0) []
def q9f(fu:Nat)(c:v8):v8:=fun a b=>bif decide (0<(a.length:Int)) then(am a (ae ((a.length:Int)-1))).bind fun d=>bif d==b then bif decide (0<=ae ((a.length:Int)-1)/\ae ((a.length:Int)-1)<=(a.length:Int)) then c (List.take (ae ((a.length:Int)-1)).toNat a) b else none else some a else some a
def qut(fu:Nat):Nat->v8|0=>fun _ _=>none|n+1=>q9f fu (qut fu n)
def q9e(b:Bs)(a:UInt8):Option (Bs):=qut fu fu b a
def q87(fu:Nat)(e:qfz):qfz:=fun c b a=>bif decide (b<(c.length:Int)) then(am c b).bind fun d=>bif decide (128<=d) then bif decide (a.length=256) then bif decide (a.length=a.length)&&decide (a.length=256) then bif decide (a.length=256)&&(true&&true) then some (a,false) else none else none else none else(a[d.toNat]?).bind fun f=>e c (ae (b+1)) (List.set a d.toNat true) else bif decide (a.length=256) then bif decide (a.length=a.length)&&decide (a.length=256) then bif decide (a.length=256)&&(true&&true) then some (a,true) else none else none else none
def qup(fu:Nat):Nat->qfz|0=>fun _ _ _=>none|n+1=>q87 fu (qup fu n)
def q86(a:Bs):Option ((List Bool)×Bool):=qup fu fu a 0 (List.replicate 256 false)
def q84(c:UInt8)(a:List Bool):Option (Bool×(List Bool)):=(a[c.toNat]?).bind fun b=>some (b,a)
def q9d(fu:Nat)(d:we):we:=fun a c=>bif decide (0<(a.length:Int)) then(am a (ae ((a.length:Int)-1))).bind fun e=>(q84 e c).bind fun b=>bif !b.1 then some (a,b.2) else bif decide (0<=ae ((a.length:Int)-1)/\ae ((a.length:Int)-1)<=(a.length:Int)) then d (List.take (ae ((a.length:Int)-1)).toNat a) b.2 else none else some (a,c)
def qus(fu:Nat):Nat->we|0=>fun _ _=>none|n+1=>q9d fu (qus fu n)
def q9c(b:Bs)(a:List Bool):Option (Bs×(List Bool)):=qus fu fu b a
def zc3:UInt8->UInt8->UInt8->UInt8->Option (Int×Int):=fun d c b a=>some (IntKind.i32.wrap (((BitVec.ofInt 32 (IntKind.i32.wrap (((BitVec.ofInt 32 (IntKind.i32.wrap (((BitVec.ofInt 32 (IntKind.i32.wrap (((d&&&7).toNat:Int)*2 ^ min (18:Int).toNat 32))|||BitVec.ofInt 32 (IntKind.i32.wrap (((c&&&63).toNat:Int)*2 ^ min (12:Int).toNat 32))).toNat:Int)))|||BitVec.ofInt 32 (IntKind.i32.wrap (((b&&&63).toNat:Int)*2 ^ min (6:Int).toNat 32))).toNat:Int)))|||BitVec.ofInt 32 ((a&&&63).toNat:Int)).toNat:Int)),4)
def qy7:UInt8->UInt8->UInt8->UInt8->Bool->Option (Int×Int):=fun e d c b a=>bif a then some (65533,1) else zc3 e d c b
def zc2:Bs->UInt8->Int->UInt8->UInt8->Option (Int×Int):=fun f d e b a=>bif decide (e<=3) then some (IntKind.i32.wrap (((BitVec.ofInt 32 (IntKind.i32.wrap (((BitVec.ofInt 32 (IntKind.i32.wrap (((d&&&15).toNat:Int)*2 ^ min (12:Int).toNat 32))|||BitVec.ofInt 32 (IntKind.i32.wrap (((b&&&63).toNat:Int)*2 ^ min (6:Int).toNat 32))).toNat:Int)))|||BitVec.ofInt 32 ((a&&&63).toNat:Int)).toNat:Int)),3) else(am f 3).bind fun c=>bif decide (c<128) then qy7 d b a c true else qy7 d b a c (decide (191<c))
def qy6:Bs->UInt8->Int->UInt8->UInt8->Bool->Option (Int×Int):=fun e f d c b a=>bif a then some (65533,1) else zc2 e f d c b
def zc1:Bs->UInt8->Int->UInt8->Option (Int×Int):=fun d e c a=>bif decide (c<=2) then some (IntKind.i32.wrap (((BitVec.ofInt 32 (IntKind.i32.wrap (((e&&&31).toNat:Int)*2 ^ min (6:Int).toNat 32))|||BitVec.ofInt 32 ((a&&&63).toNat:Int)).toNat:Int)),2) else(am d 2).bind fun b=>bif decide (b<128) then qy6 d e c a b true else qy6 d e c a b (decide (191<b))
def qy5:Bs->UInt8->Int->UInt8->Bool->Option (Int×Int):=fun d e c a b=>bif b then some (65533,1) else zc1 d e c a
def qy4(a:Bs):Option (Int×Int):=bif decide ((a.length:Int)<1) then some (65533,0) else(am a 0).bind fun d=>(qrv[d.toNat]?).bind fun b=>bif decide (240<=b) then(am a 0).bind fun f=>some (IntKind.i32.wrap (((BitVec.ofInt 32 (IntKind.i32.wrap (((BitVec.ofInt 32 (f.toNat:Int) &&& ~~~ BitVec.ofInt 32 (Int.fdiv (IntKind.i32.wrap ((b.toNat:Int)*2 ^ min (31:Int).toNat 32)) (2 ^ min (31:Int).toNat 32))).toNat:Int)))|||BitVec.ofInt 32 (IntKind.i32.wrap (((BitVec.ofInt 32 65533&&&BitVec.ofInt 32 (Int.fdiv (IntKind.i32.wrap ((b.toNat:Int)*2 ^ min (31:Int).toNat 32)) (2 ^ min (31:Int).toNat 32))).toNat:Int)))).toNat:Int)),1) else(qrw[(vy b (min (4:Int).toNat 8)).toNat]?).bind fun e=>bif decide ((a.length:Int)<((b&&&7).toNat:Int)) then some (65533,1) else(am a 1).bind fun c=>bif decide (c<e.1) then qy5 a d ((b&&&7).toNat:Int) c true else qy5 a d ((b&&&7).toNat:Int) c (decide (e.2<c))
abbrev q6d:=Bs->Bs->Int->Option (Int×Int)
def zcz(fu:Nat)(g:q6d):q6d:=fun a c d=>bif decide (0<d) then(am c 0).bind fun b=>bif decide (b<128) then some ((b.toNat:Int),1) else(qy4 a).bind fun f=>some f else(qy4 a).bind fun e=>some e
def qyz(fu:Nat):Nat->q6d|0=>fun _ _ _=>none|n+1=>zcz fu (qyz fu n)
def qyy(a:Bs):Option (Int×Int):=qyz fu fu a a (a.length:Int)
def qyx:qs0:=fun c b a=>bif decide (0<=a/\a<=b/\b<=(c.length:Int)) then(qyy fu (List.take (b.toNat-a.toNat) (List.drop a.toNat c))).bind fun d=>bif(ae (a+d.2)) != b then some (65533,1) else some d else none
def qyw:qs0:=fun a c b=>bif decide (b<0) then qyx fu a c 0 else qyx fu a c b
def zcy(e:qfv):qfv:=fun b c a d=>bif decide (d<=a) then(am b a).bind fun f=>(qy2 f).bind fun g=>bif g then qyw fu b c a else e b c (ae (a-1)) d else qyw fu b c a
def qyv(fu:Nat):Nat->qfv|0=>fun _ _ _ _=>none|n+1=>zcy fu (qyv fu n)
def zcv(a:Bs):Option (Int×Int):=bif(a.length:Int)==0 then some (65533,0) else(am a (ae ((a.length:Int)-1))).bind fun b=>bif decide ((b.toNat:Int)<128) then some ((b.toNat:Int),1) else qyv fu fu a (a.length:Int) (ae ((ae ((a.length:Int)-1))-1)) (if 0>ae ((a.length:Int)-4) then 0 else ae ((a.length:Int)-4))
abbrev q6e:=Int->Bs->Nat->Option Bool
def q85(fu:Nat)(d:q6e):q6e:=fun c b a=>bif Nat.blt a (b.length) then bif(((cr b a).1:Nat):Int)==c then some true else d c b (a+(cr b a).2) else some false
def qun(fu:Nat):Nat->q6e|0=>fun _ _ _=>none|n+1=>q85 fu (qun fu n)
def qum(b:Bs)(a:Int):Option Bool:=qun fu fu a b 0
def q9h(d:kg):kg:=fun a b=>bif decide (0<(a.length:Int)) then(am a (ae ((a.length:Int)-1))).bind fun e=>bif decide (128<=(e.toNat:Int)) then(zcv fu a).bind fun c=>(qum fu b c.1).bind fun g=>bif !g then some a else bif decide (0<=ae ((a.length:Int)-c.2)/\ae ((a.length:Int)-c.2)<=(a.length:Int)) then d (List.take (ae ((a.length:Int)-c.2)).toNat a) b else none else(qum fu b (e.toNat:Int)).bind fun f=>bif !f then some a else bif decide (0<=ae ((a.length:Int)-1)/\ae ((a.length:Int)-1)<=(a.length:Int)) then d (List.take (ae ((a.length:Int)-1)).toNat a) b else none else some a
def quu(fu:Nat):Nat->kg|0=>fun _ _=>none|n+1=>q9h fu (quu fu n)
def q9g(b:Bs)(a:Bs):Option (Bs):=quu fu fu b a
def q83:kg:=fun b c=>(q86 fu c).bind fun a=>bif decide (a.1.length=List.length (List.replicate 256 false))&&decide (a.1.length=256) then bif a.2 then(q9c fu b a.1).bind fun e=>some e.1 else(q9g fu b c).bind fun d=>some d else none
def qul:zh:=fun b c a=>bif a then(am c 0).bind fun d=>(q9e fu b d).bind fun e=>some e else q83 fu b c
def q82:kg:=fun b a=>bif(a.length:Int)==1 then(am a 0).bind fun c=>qul fu b a (decide (c<128)) else qul fu b a false
def quk:zh:=fun b c a=>bif a then some b else q82 fu b c
def q81(b:Bs)(a:Bs):Option (Bs):=bif(b.length:Int)==0 then quk fu b a true else quk fu b a (a==([]:Bs))
def zbq(fu:Nat)(d:qy):qy:=fun c a b=>bif decide (a<(c.length:Int)) then(am c a).bind fun h=>bif h==61 then bif decide (0<=ae (a+1)/\ae (a+1)<=(if(c.length:Int)<ae (a+3) then(c.length:Int) else ae (a+3))/\(if(c.length:Int)<ae (a+3) then(c.length:Int) else ae (a+3))<=(c.length:Int)) then(t6 (List.take ((if(c.length:Int)<ae (a+3) then(c.length:Int) else ae (a+3)).toNat-(ae (a+1)).toNat) (List.drop (ae (a+1)).toNat c))).bind fun e=>bif e.2 then bif decide (List.length (b++([e.1]:Bs))<=aq) then d c (ae ((ae (a+2))+1)) (b++([e.1]:Bs)) else none else(am c a).bind fun g=>bif decide (List.length (b++([g]:Bs))<=aq) then d c (ae (a+1)) (b++([g]:Bs)) else none else none else(am c a).bind fun f=>bif decide (List.length (b++([f]:Bs))<=aq) then d c (ae (a+1)) (b++([f]:Bs)) else none else some b
def qxb(fu:Nat):Nat->qy|0=>fun _ _ _=>none|n+1=>zbq fu (qxb fu n)
def zbp(a:Bs):Option (Bs):=qxb fu fu a 0 []
abbrev qe8:=Bs->(Int×Int)->Bs->Option ((Int×Int)×Bs)
def qxa(h:qe8):Bs->Int->Bs->Bs->(Int×Int)->Bs->Option ((Int×Int)×Bs):=fun f d g e b a=>(zbp fu g).bind fun c=>bif decide (List.length (a++c)<=aq) then bif decide (List.length ((a++c)++e)<=aq) then bif decide (0<=d/\d<=(f.length:Int)) then h (List.drop d.toNat f) b ((a++c)++e) else none else none else none
def qw9(g:qe8):Bs->Int->Bs->(Int×Int)->Bs->Option ((Int×Int)×Bs):=fun f e b c d=>bif decide (0<=(b.length:Int)/\(b.length:Int)<=e/\e<=(f.length:Int)) then(q81 fu b [32,9]).bind fun a=>bif decide (0<List.length ([61]:Bs)) then(qmp a ([61]:Bs)).bind fun h=>bif h then bif decide (0<=ae ((a.length:Int)-1)/\ae ((a.length:Int)-1)<=(a.length:Int)) then qxa fu g f e (List.take (ae ((a.length:Int)-1)).toNat a) [] c d else none else qxa fu g f e a (List.take (e.toNat-(b.length:Int).toNat) (List.drop (b.length:Int).toNat f)) c d else none else none
def qw8(f:qe8):Bs->Int->(Int×Int)->Bs->Option ((Int×Int)×Bs):=fun d a b c=>bif decide (0<=a/\a<=(d.length:Int)) then bif decide (0<List.length ([10]:Bs)) then(qc2 (List.take a.toNat d) ([10]:Bs)).bind fun e=>bif decide ((e.length:Int)<a) then bif decide (0<List.length ([13]:Bs)) then(qc2 e ([13]:Bs)).bind fun g=>qw9 fu f d a g b c else none else qw9 fu f d a e b c else none else none
def zbo(d:qe8):qe8:=fun c b a=>bif decide (0<(c.length:Int)) then(qac c 10).bind fun e=>bif(ae (e+1))==0 then qw8 fu d c (c.length:Int) b a else qw8 fu d c (ae (e+1)) b a else(cg).bind fun f=>some (f,a)
def qw7(fu:Nat):Nat->qe8|0=>fun _ _ _=>none|n+1=>zbo fu (qw7 fu n)
def zbn(a:Bs):Option ((Int×Int)×Bs):=bif decide (48000<(a.length:Int)) then(bg 1 (-1)).bind fun b=>some (b,[]) else qw7 fu fu a (0,0) []
def qyq(a:Bs)(k:Bs):Option ((Int×Int)×Bs):=(zcu fu a k).bind fun o=>ap o (fun i=>(dp i.2.1).bind fun m=>bif m then some (i.2.1,[]) else(zcs a).bind fun q=>some q) (fun p=>ap p (fun g=>(dp g.2).bind fun b=>bif b then some (g.2,[]) else(qgs fu a).bind fun d=>some d) (fun l=>ap l (fun j=>(dp j.2).bind fun c=>bif c then some (j.2,[]) else(zbn fu a).bind fun f=>some f) (fun h=>(dp h.2).bind fun e=>bif e then some (h.2,[]) else none)))
abbrev q6f:=wV->Int->Int->wU->Option (Bs)
def zc5(e:q6f):q6f:=fun d c b a=>bif decide (b<c) then(am d b).bind fun g=>(e7 fu g.1 [67,111,110,116,101,110,116,45,84,114,97,110,115,102,101,114,45,69,110,99,111,100,105,110,103]).bind fun i=>bif !i then e d c (ae (b+1)) (Tree.node a.val a.kids) else(qyq fu a.val.2 g.2).bind fun f=>bif f.1.1 != 18 then some f.2 else e d c (ae (b+1)) (Tree.node a.val a.kids) else(qyq fu a.val.2 [55,98,105,116]).bind fun h=>some h.2
def qy8(fu:Nat):Nat->q6f|0=>fun _ _ _ _=>none|n+1=>zc5 fu (qy8 fu n)
def zc4(a:Tree (wV×Bs)):Option (Bs):=qy8 fu fu a.val.1 (a.val.1.length:Int) 0 (Tree.node a.val a.kids)
def q88(c:Bs)(a:Bs)(b:Int):Option (Bs×Bs×Int):=some (a,(c,b))
def q80(c:Bs)(a:Bs):Option (Bs×Bs×Int):=(q88 c a 0).bind fun b=>some b
def qnc(a:Bs)(b:Bs):Option (Bs):=(qaf a b).bind fun c=>bif c then bif decide (0<=ae ((a.length:Int)-(b.length:Int))/\ae ((a.length:Int)-(b.length:Int))<=(a.length:Int)) then some (List.take (ae ((a.length:Int)-(b.length:Int))).toNat a) else none else some a
def w7(c:Bs)(a:Bs):Option (Bs):=(qnc c a).bind fun b=>some b
abbrev qe9:=Bs->Int->Int->Bs->Option (Bs)
def q9n(fu:Nat)(e:qe9):qe9:=fun d c b a=>bif decide (b<c) then(am d b).bind fun f=>(ny f).bind fun i=>bif i then bif decide (0<(a.length:Int)) then bif decide (0<=ae ((a.length:Int)-1)/\(ae ((a.length:Int)-1)).toNat<a.length) then(a[(ae ((a.length:Int)-1)).toNat]?).bind fun g=>bif g==32 then e d c (ae (b+1)) a else bif decide (List.length (a++([32]:Bs))<=aq) then e d c (ae (b+1)) (a++([32]:Bs)) else none else none else bif decide (List.length (a++([32]:Bs))<=aq) then e d c (ae (b+1)) (a++([32]:Bs)) else none else bif decide (List.length (a++([f]:Bs))<=aq) then e d c (ae (b+1)) (a++([f]:Bs)) else none else(w7 a [32]).bind fun h=>some h
def qu1(fu:Nat):Nat->qe9|0=>fun _ _ _ _=>none|n+1=>q9n fu (qu1 fu n)
def qu0(a:Bs):Option (Bs):=qu1 fu fu a (a.length:Int) 0 []
def qmq(e:Bs)(d:Int)(c:Bs):Option (Int×Bs):=(qu0 fu e).bind fun a=>bif a==([]:Bs) then some (ae (d+1),c) else(qhr [13,10] d).bind fun b=>bif decide (b.length+a.length<=a7) then bif decide (List.length (b++a)+List.length ([13,10]:Bs)<=a7) then bif decide (List.length (c++((b++a)++[13,10]))<=aq) then some (0,c++((b++a)++[13,10])) else none else none else none
abbrev zc9:=Bs×Bs×Int×Int×Bs
abbrev qfa:=Bs->Bs->Int->Int->Bs->Option zc9
def q9a(h:qfa):qfa:=fun f b d e c=>bif decide (0<(b.length:Int)) then(qyy fu b).bind fun a=>bif decide (0<=(0:Int)/\0<=a.2/\a.2<=a.2/\a.2<=(b.length:Int)) then(qmq fu (List.take (a.2.toNat-(0:Int).toNat) (List.drop (0:Int).toNat b)) e c).bind fun g=>bif decide (0<=a.2/\a.2<=(b.length:Int)) then h f (List.drop a.2.toNat b) d g.1 g.2 else none else none else some (f,(b,(d,(e,c))))
def quq(fu:Nat):Nat->qfa|0=>fun _ _ _ _ _=>none|n+1=>q9a fu (quq fu n)
def q9b(h:qfa):qfa:=fun d a c f e=>(qab a d).bind fun b=>bif decide (b<0) then bif decide (0<=(0:Int)/\0<=(a.length:Int)/\(a.length:Int)<=(a.length:Int)/\(a.length:Int)<=(a.length:Int)) then(qmq fu (List.take ((a.length:Int).toNat-(0:Int).toNat) (List.drop (0:Int).toNat a)) f e).bind fun i=>some (d,(a,(c,i))) else none else bif decide (0<=ae (b+c)/\ae (b+c)<=(a.length:Int)) then bif decide (0<=(0:Int)/\0<=(List.length (List.take (ae (b+c)).toNat a):Int)/\(List.length (List.take (ae (b+c)).toNat a):Int)<=(List.length (List.take (ae (b+c)).toNat a):Int)/\(List.length (List.take (ae (b+c)).toNat a):Int)<=(List.length (List.take (ae (b+c)).toNat a):Int)) then(qmq fu (List.take ((List.length (List.take (ae (b+c)).toNat a):Int).toNat-(0:Int).toNat) (List.drop (0:Int).toNat (List.take (ae (b+c)).toNat a))) f e).bind fun g=>bif decide (0<=ae (b+(d.length:Int))/\ae (b+(d.length:Int))<=(a.length:Int)) then h d (List.drop (ae (b+(d.length:Int))).toNat a) c g.1 g.2 else none else none else none
def qur(fu:Nat):Nat->qfa|0=>fun _ _ _ _ _=>none|n+1=>q9b fu (qur fu n)
def q89(a:Bs)(d:Bs)(e:Int)(b:Int)(c:Bs):Option zc9:=bif(a.length:Int)==0 then quq fu fu a d e b c else qur fu fu a d e b c
def q9l(b:Bs):Option (Bs):=bif decide (0<List.length ([13,10]:Bs)) then(q80 b ([13,10]:Bs)).bind fun a=>(q89 fu a.1 a.2.1 a.2.2 0 []).bind fun c=>some c.2.2.2.2 else none
def q9m(c:Bs×Bs):Option (Bs):=(wu fu c.1).bind fun a=>bif decide (a.length+List.length ([58]:Bs)<=a7) then(qu0 fu c.2).bind fun b=>bif decide (List.length (a++[58])+b.length<=a7) then bif decide (List.length ((a++[58])++b)+List.length ([13,10]:Bs)<=a7) then some (((a++[58])++b)++[13,10]) else none else none else none
abbrev qfc:=wV->Int->Int->wU->Bs->Bs->Option (Bs)
def quz(fu:Nat)(g:qfc):qfc:=fun c b d a e f=>g c b (ae (d+1)) (Tree.node a.val a.kids) f e
def qux(i:qfc):(wV->Int->Int->Bool->wU->(Bs×Bs)->Bs->Bs->Option (Bs)):=fun d c e g a h f b=>bif g then(q9m fu h).bind fun j=>bif decide (List.length (b++j)<=aq) then quz fu i d c e (Tree.node a.val a.kids) (b++j) f else none else quz fu i d c e (Tree.node a.val a.kids) b f
def quy(fu:Nat):(wU->Bs->Bs->Bs->Option (Bs)):=fun g e b c=>(ua (g.kids.length:Int)).bind fun a=>bif decide (a.length+List.length ([32]:Bs)<=a7) then(ua (c.length:Int)).bind fun d=>bif decide (List.length (a++[32])+d.length<=a7) then bif decide (List.length ((a++[32])++d)+List.length ([32]:Bs)<=a7) then(ua (e.length:Int)).bind fun f=>bif decide (List.length (((a++[32])++d)++[32])+f.length<=a7) then bif decide (List.length ((((a++[32])++d)++[32])++f)+List.length ([13,10]:Bs)<=a7) then bif decide (List.length (b++(((((a++[32])++d)++[32])++f)++[13,10]))<=aq) then bif decide (List.length ((b++(((((a++[32])++d)++[32])++f)++[13,10]))++c)<=aq) then bif decide (List.length (((b++(((((a++[32])++d)++[32])++f)++[13,10]))++c)++e)<=aq) then some (((b++(((((a++[32])++d)++[32])++f)++[13,10]))++c)++e) else none else none else none else none else none else none else none else none
def q9j(h:qfc):qfc:=fun f e b a c d=>bif decide (b<e) then(am f b).bind fun g=>(e7 fu g.1 [82,101,99,101,105,118,101,100]).bind fun k=>bif !k then(e7 fu g.1 [67,111,110,116,101,110,116,45,84,114,97,110,115,102,101,114,45,69,110,99,111,100,105,110,103]).bind fun j=>qux fu h f e b (!j) (Tree.node a.val a.kids) g c d else qux fu h f e b false (Tree.node a.val a.kids) g c d else bif(a.kids.length:Int)==0 then(zc4 fu (Tree.node a.val a.kids)).bind fun i=>(q9l fu i).bind fun l=>quy fu (Tree.node a.val a.kids) l c d else quy fu (Tree.node a.val a.kids) [] c d
def quw(fu:Nat):Nat->qfc|0=>fun _ _ _ _ _ _=>none|n+1=>q9j fu (quw fu n)
def q9i(e:Int)(a:List (Bs×Bs))(d:Bs)(b:List wU)(c:Bs):Option (Bs):=quw fu fu a (a.length:Int) 0 (Tree.node (a,d) b) c []
def zaw(d:Int)(c:List (Bs×Bs))(e:Bs)(a:List wU)(g:Int)(b:Bs):Option (Bs):=(q9i fu d c e a b).bind fun f=>some f
abbrev qsi:=wU->Int->Int->Bs->Option (Int×Bs)
abbrev q6h:=Int->(List wU)->Int->Int->Int->Bs->Option (Int×Bs)
def zba(a:qsi)(fu:Nat)(j:q6h):q6h:=fun f e c b g d=>bif decide (b<c) then(am e b).bind fun h=>(a (Tree.node h.val h.kids) (ae (f+1)) g d).bind fun i=>j f e c (ae (b+1)) i.1 i.2 else some (g,d)
def qw1(a:qsi)(fu:Nat):Nat->q6h|0=>fun _ _ _ _ _ _=>none|n+1=>zba a fu (qw1 a fu n)
def qwz(a:qsi)(fu:Nat)(b:Tree (wV×Bs))(c:Int)(d:Int)(e:Bs):Option (Int×Bs):=(zaw fu d b.val.1 b.val.2 b.kids c e).bind fun f=>qw1 a fu fu c b.kids (b.kids.length:Int) 0 (ae (d+1)) f
def qw0(fu:Nat):Nat->qsi|0=>fun _ _ _ _=>none|n+1=>qwz (qw0 fu n) fu
def zqo(d:Tree (wV×Bs))(b:Int)(c:Int)(a:Bs):Option (Int×Bs):=qw0 fu fu d b c a
abbrev zrc:=wU×Bs
def zbc(a:Tree (wV×Bs))(b:Bs):Option zrc:=(zqo fu (Tree.node a.val a.kids) 0 0 b).bind fun c=>some ((Tree.node a.val a.kids),c.2)
abbrev zq4:=wU×Bs
def zav(a:Tree (wV×Bs))(d:Bs):Option zq4:=(qnl (Tree.node a.val a.kids)).bind fun b=>(zbc fu (Tree.node b.val b.kids) d).bind fun c=>some ((Tree.node a.val a.kids),c.2)
def quv(c:wV×Bs):Option ((Int×Int)×Bs):=(zax fu c).bind fun a=>(dp a.2).bind fun e=>bif e then some (a.2,[]) else(zau (Tree.node a.1.val a.1.kids)).bind fun b=>(zav fu (Tree.node b.val b.kids) []).bind fun d=>(cg).bind fun f=>some (f,d.2)
def q9k(d:wV×Bs)(c:wV×Bs):Option (Bool×(Int×Int)):=(quv fu d).bind fun a=>(dp a.1).bind fun h=>bif h then some (false,a.1) else(quv fu c).bind fun b=>(dp b.1).bind fun e=>bif e then(bg b.1.1 (-10)).bind fun i=>some (false,i) else(qmo a.2 b.2).bind fun f=>(cg).bind fun g=>some (f,g)
def qtt:Option Bool:=bif decide (0<List.length ([99,13,10]:Bs)) then(qhj fu (([(([65]:Bs),([98]:Bs))]:List (Bs×Bs)),([99,13,10]:Bs))).bind fun b=>(qhi fu b.2).bind fun a=>(q9k fu (([(([65]:Bs),([98]:Bs))]:List (Bs×Bs)),([99,13,10]:Bs)) a.1).bind fun c=>bif b.1.1==0 then bif a.2.1==0 then bif c.2.1==0 then bif c.1 then bif b.2==([65,58,32,98,13,10,13,10,99,13,10]:Bs) then some ((a.1.1.length:Int)==1) else some false else some false else some false else some false else some false else none
def q9(a:Bs):Option Int:=bif decide (500<(a.length:Int)) then some 1 else(ic a).bind fun b=>bif !b then some 5 else some 0
def qcm(a:UInt8):Option Bool:=bif decide (32<=a) then some (decide (a<=126)) else some false
def q8z(fu:Nat)(d:ez):ez:=fun c b a=>bif decide (a<b) then(am c a).bind fun f=>(qcm f).bind fun e=>bif !e then some false else d c b (ae (a+1)) else some true
def qmk(fu:Nat):Nat->ez|0=>fun _ _ _=>none|n+1=>q8z fu (qmk fu n)
def qt9(a:Bs):Option Bool:=qmk fu fu a (a.length:Int) 0
def ti(a:Bs):Option Bool:=bif !(a==([]:Bs)) then bif decide ((a.length:Int)<=60) then(qt9 fu a).bind fun b=>some b else some false else some false
def qam(c:Bs)(a:Bs)(b:Int):Option (Bs×Bs×Int):=some (a,(c,b))
def ub(c:Bs)(a:Bs):Option (Bs×Bs×Int):=(qam c a 0).bind fun b=>some b
def qc0(a:UInt8):Option Bool:=bif decide (97<=a) then bif decide (a<=122) then some true else bif decide (65<=a) then bif decide (a<=90) then some true else bif decide (48<=a) then some (decide (a<=57)) else some false else bif decide (48<=a) then some (decide (a<=57)) else some false else bif decide (65<=a) then bif decide (a<=90) then some true else bif decide (48<=a) then some (decide (a<=57)) else some false else bif decide (48<=a) then some (decide (a<=57)) else some false
def wk(a:UInt8):Option Bool:=(qc0 a).bind fun b=>bif b then some true else some (a==45)
def qua(fu:Nat)(d:ez):ez:=fun c b a=>bif decide (a<b) then(am c a).bind fun f=>(wk f).bind fun e=>bif !e then some false else d c b (ae (a+1)) else some true
def qcx(fu:Nat):Nat->ez|0=>fun _ _ _=>none|n+1=>qua fu (qcx fu n)
def qml(a:Bs):Option Bool:=qcx fu fu a (a.length:Int) 0
def wn(a:Bs)(b:Bool):Option (Bool ⊕ Bool):=bif a==([]:Bs) then some (.inl false) else(qml fu a).bind fun c=>bif !c then some (.inl false) else some (.inr b)
def lf(c:Bs)(a:Bs):Option Int:=(nz c a).bind fun b=>some b
abbrev zdf:=(Bs×Bs×Int×Bool) ⊕ (Bs×Bs×Int×Bool)
abbrev qff:=Bs->Bs->Int->Bool->Option zdf
def zcj(f:qff):qff:=fun d a c e=>bif decide (0<(a.length:Int)) then(il a).bind fun b=>bif decide (0<=b.2/\b.2<=(a.length:Int)) then(wn fu (List.take b.2.toNat a) e).bind fun i=>ap i (fun g=>some (.inl (d,(a,(c,g))))) (fun h=>bif decide (0<=b.2/\b.2<=(a.length:Int)) then f d (List.drop b.2.toNat a) c h else none) else none else some (.inr (d,(a,(c,e))))
def qyb(fu:Nat):Nat->qff|0=>fun _ _ _ _=>none|n+1=>zcj fu (qyb fu n)
def zck(h:qff):qff:=fun b a c e=>(lf a b).bind fun d=>bif decide (d<0) then(wn fu a e).bind fun k=>ap k (fun i=>some (.inl (b,(a,(c,i))))) (fun j=>some (.inr (b,(a,(c,j))))) else bif decide (0<=ae (d+c)/\ae (d+c)<=(a.length:Int)) then(wn fu (List.take (ae (d+c)).toNat a) e).bind fun l=>ap l (fun g=>some (.inl (b,(a,(c,g))))) (fun f=>bif decide (0<=ae (d+(b.length:Int))/\ae (d+(b.length:Int))<=(a.length:Int)) then h b (List.drop (ae (d+(b.length:Int))).toNat a) c f else none) else none
def qhz(fu:Nat):Nat->qff|0=>fun _ _ _ _=>none|n+1=>zck fu (qhz fu n)
def qn1(a:Bs)(c:Bs)(d:Int)(b:Bool):Option zdf:=bif(a.length:Int)==0 then qyb fu fu a c d b else qhz fu fu a c d b
def qmb(b:Bs):Option Bool:=(ub b [46]).bind fun a=>(qn1 fu a.1 a.2.1 a.2.2 false).bind fun d=>ap d (fun c=>some c.2.2.2) (fun e=>some true)
def ra(a:Bs):Option Bool:=bif decide ((a.length:Int)<=60) then(qmb fu a).bind fun b=>some b else some false
def qck(a:Bs×Bs×Bs):Option ((Int×Int)):=(q9 a.1).bind fun b=>bif b != 0 then(bg b (-3)).bind fun g=>some g else(ti fu a.2.1).bind fun e=>bif !e then(bg 10 (-4)).bind fun c=>some c else(ra fu a.2.2).bind fun h=>bif !h then(bg 10 (-5)).bind fun d=>some d else(cg).bind fun f=>some f
abbrev q6l:=(List (Bs×Bs×Bs))->Int->Int->Option Int
def ql9(e:q6l):q6l:=fun c b a=>bif decide (a<b) then(am c a).bind fun g=>(qck fu g).bind fun d=>(dp d).bind fun f=>bif f then some d.1 else e c b (ae (a+1)) else some 0
def zu(fu:Nat):Nat->q6l|0=>fun _ _ _=>none|n+1=>ql9 fu (zu fu n)
def qma:((Bs×Bool×(List (Bs×Bs×Bs)))->Option Int):=fun a=>zu fu fu a.2.2 (a.2.2.length:Int) 0
def rf:(Bool->(Bs×Bool×(List (Bs×Bs×Bs)))->Option Int):=fun b a=>bif b then some 5 else qma fu a
def qcl(a:Bs×Bool×(List (Bs×Bs×Bs))):Option Int:=(q9 a.1).bind fun b=>bif b != 0 then some b else bif !(a.2.1==(!(a.1==([]:Bs)))) then rf fu true a else bif !a.2.1 then rf fu ((a.2.2.length:Int) != 1) a else rf fu false a
abbrev q6n:=(List (Bs×Bool×(List (Bs×Bs×Bs))))->Int->Int->(Int×Int)->Option ((Int×Int))
abbrev q6m:=(List (Bs×Bool×(List (Bs×Bs×Bs))))->Int->(List (Bs×Bool×(List (Bs×Bs×Bs))))->Int->Int->(Int×Int)->Option ((Int×Int))
def ql6(f:q6n):q6n:=fun c b a d=>bif decide (a<b) then(am c a).bind fun i=>(qcl fu i).bind fun e=>bif e != 0 then(bg e a).bind fun h=>some h else f c b (ae (a+1)) d else(cg).bind fun g=>some g
def zo(fu:Nat):Nat->q6n|0=>fun _ _ _ _=>none|n+1=>ql6 fu (zo fu n)
def ql7:((List (Bs×Bool×(List (Bs×Bs×Bs))))->(Int×Int)->Option ((Int×Int))):=fun b a=>zo fu fu b (b.length:Int) 0 a
def wj:((List (Bs×Bool×(List (Bs×Bs×Bs))))->Bool->(Int×Int)->Option ((Int×Int))):=fun c b a=>bif b then(bg 2 (-1)).bind fun d=>some d else ql7 fu c a
def ql5(h:q6m):q6m:=fun d e f c b a=>bif decide (b<c) then(am f b).bind fun g=>h d (ae (e+(g.2.2.length:Int))) f c (ae (b+1)) a else bif decide (60<(d.length:Int)) then wj fu d true a else wj fu d (decide (60<e)) a
def zn(fu:Nat):Nat->q6m|0=>fun _ _ _ _ _ _=>none|n+1=>ql5 fu (zn fu n)
def zm(a:List (Bs×Bool×(List (Bs×Bs×Bs)))):Option ((Int×Int)):=zn fu fu a 0 a (a.length:Int) 0 (0,0)
def th(a:UInt8):Option Bool:=(qc0 a).bind fun c=>bif c then some true else(n7 [33,35,36,37,38,39,42,43,45,47,61,63,94,95,96,123,124,125,126] a).bind fun b=>some (decide (0<=b))
def qub(fu:Nat)(d:ez):ez:=fun c b a=>bif decide (a<b) then(am c a).bind fun f=>(th f).bind fun e=>bif !e then some false else d c b (ae (a+1)) else some true
def qcy(fu:Nat):Nat->ez|0=>fun _ _ _=>none|n+1=>qub fu (qcy fu n)
def qgu(a:Bs):Option Bool:=qcy fu fu a (a.length:Int) 0
def wo(a:Bs)(b:Bool):Option (Bool ⊕ Bool):=bif a==([]:Bs) then some (.inl false) else(qgu fu a).bind fun c=>bif !c then some (.inl false) else some (.inr b)
abbrev zdg:=(Bs×Bs×Int×Bool) ⊕ (Bs×Bs×Int×Bool)
abbrev qfg:=Bs->Bs->Int->Bool->Option zdg
def zcl(f:qfg):qfg:=fun d a c e=>bif decide (0<(a.length:Int)) then(il a).bind fun b=>bif decide (0<=b.2/\b.2<=(a.length:Int)) then(wo fu (List.take b.2.toNat a) e).bind fun i=>ap i (fun g=>some (.inl (d,(a,(c,g))))) (fun h=>bif decide (0<=b.2/\b.2<=(a.length:Int)) then f d (List.drop b.2.toNat a) c h else none) else none else some (.inr (d,(a,(c,e))))
def qyc(fu:Nat):Nat->qfg|0=>fun _ _ _ _=>none|n+1=>zcl fu (qyc fu n)
def zcm(h:qfg):qfg:=fun b a c e=>(lf a b).bind fun d=>bif decide (d<0) then(wo fu a e).bind fun k=>ap k (fun i=>some (.inl (b,(a,(c,i))))) (fun j=>some (.inr (b,(a,(c,j))))) else bif decide (0<=ae (d+c)/\ae (d+c)<=(a.length:Int)) then(wo fu (List.take (ae (d+c)).toNat a) e).bind fun l=>ap l (fun g=>some (.inl (b,(a,(c,g))))) (fun f=>bif decide (0<=ae (d+(b.length:Int))/\ae (d+(b.length:Int))<=(a.length:Int)) then h b (List.drop (ae (d+(b.length:Int))).toNat a) c f else none) else none
def qh0(fu:Nat):Nat->qfg|0=>fun _ _ _ _=>none|n+1=>zcm fu (qh0 fu n)
def qn2(a:Bs)(c:Bs)(d:Int)(b:Bool):Option zdg:=bif(a.length:Int)==0 then qyc fu fu a c d b else qh0 fu fu a c d b
def qmc(b:Bs):Option Bool:=(ub b [46]).bind fun a=>(qn2 fu a.1 a.2.1 a.2.2 false).bind fun d=>ap d (fun c=>some c.2.2.2) (fun e=>some true)
def wm(b:Bs):Option Bool:=(qmc fu b).bind fun a=>some a
def zy(c:Bs):Option (Bs):=(qdh ([([92]:Bs),([92,92]:Bs),([34]:Bs),([92,34]:Bs)]:List Bs)).bind fun a=>(t8 c a.1 a.2.1 a.2.2.1 a.2.2.2).bind fun b=>bif decide (List.length ([34]:Bs)+b.length<=a7) then bif decide (List.length (([34]:Bs)++b)+List.length ([34]:Bs)<=a7) then some ((([34]:Bs)++b)++[34]) else none else none
def qgr(a:Bs×Bs×Bs):Option (Bs):=(wm fu a.2.1).bind fun c=>bif c then bif decide (a.2.1.length+List.length ([64]:Bs)<=a7) then bif decide (List.length (a.2.1++[64])+a.2.2.length<=a7) then some ((a.2.1++[64])++a.2.2) else none else none else(zy a.2.1).bind fun b=>bif decide (b.length+List.length ([64]:Bs)<=a7) then bif decide (List.length (b++[64])+a.2.2.length<=a7) then some ((b++[64])++a.2.2) else none else none
def qc9(b:Bs)(a:Bs):Option Bool:=bif decide ((a.length:Int)<=(b.length:Int)) then bif decide (0<=(a.length:Int)/\(a.length:Int)<=(b.length:Int)) then some ((List.take (a.length:Int).toNat b)==a) else none else some false
def mv(c:Bs)(a:Bs):Option Bool:=(qc9 c a).bind fun b=>some b
def qxi(c:Bs)(a:Bs):Option Bool:=(lf c a).bind fun b=>some (decide (0<=b))
def qzb(fu:Nat)(b:ez):ez:=fun c d a=>b c d (ae (a+1))
def qid(c:ez):Bs->Int->Int->Bool->Option Bool:=fun d e b a=>bif a then some false else qzb fu c d e b
def qod(d:ez):ez:=fun a c b=>bif decide (b<c) then(am a b).bind fun h=>bif decide (h<32) then qid fu d a c b true else(am a b).bind fun e=>qid fu d a c b (decide (126<e)) else(mv a [32]).bind fun g=>bif !g then(qhm a [32]).bind fun f=>bif !f then(qxi a [61,63]).bind fun i=>some (!i) else some false else some false
def qao(fu:Nat):Nat->ez|0=>fun _ _ _=>none|n+1=>qod fu (qao fu n)
def qic(a:Bs):Option Bool:=qao fu fu a (a.length:Int) 0
abbrev q6p:=Bs->Bs->Nat->Option (Bs)
def qu3(fu:Nat)(d:q6p):q6p:=fun c b a=>bif Nat.blt a (b.length) then bif decide (255<(((cr b a).1:Nat):Int)) then some [117,116,102,56] else bif decide (127<(((cr b a).1:Nat):Int)) then d [108,97,116,105,110,49] b (a+(cr b a).2) else d c b (a+(cr b a).2) else some c
def qgw(fu:Nat):Nat->q6p|0=>fun _ _ _=>none|n+1=>qu3 fu (qgw fu n)
def qu2(a:Bs):Option (Bs):=qgw fu fu [97,115,99,105,105] a 0
def qzd(b:Bs)(a:Bs):Option (Bs×Bs):=some (a,b)
def qvm(a:Bs):Option (Bs):=some a
abbrev q6t:=Int->(List (Int×Int×Int))->Int->Int->Option (Int×Bool)
def qvl(fu:Nat)(f:q6t):q6t:=fun b d e a=>bif decide (a<e) then(am d a).bind fun c=>bif decide (c.1<=b) then bif decide (b<=c.2.1) then some (c.2.2,true) else f b d e (ae (a+1)) else f b d e (ae (a+1)) else some (0,false)
def qc5(fu:Nat):Nat->q6t|0=>fun _ _ _ _=>none|n+1=>qvl fu (qc5 fu n)
def qvk(b:Int)(a:List (Int×Int×Int)):Option (Int×Bool):=qc5 fu fu b a (a.length:Int) 0
def qg7(a:Int):Option Int:=(qvk fu a ([(13,13,1),(10,10,2),(0,31,3),(127,159,3),(768,879,4),(6832,6911,4),(7616,7679,4),(8400,8447,4),(65024,65039,4),(65056,65071,4),(127995,127999,4),(8205,8205,5),(127462,127487,6),(4352,4447,7),(4448,4519,8),(4520,4607,9)]:List (Int×Int×Int))).bind fun b=>some b.1
def qc4(b:Bs):Option ((Int×Bool×Int)):=(il b).bind fun a=>bif a.1==65533 then bif a.2==1 then some (0,(true,1)) else(qg7 fu a.1).bind fun d=>some (d,(false,a.2)) else(qg7 fu a.1).bind fun c=>some (c,(false,a.2))
def qg8(a:Int):Option Bool:=bif a==1 then some true else bif a==2 then some true else some (a==3)
abbrev qsm:=Int->Bool->(Int×Bool×Int)->(Int×Bool×Int)->Option Bool
def qvj:(Int×Bool×Int)->(Int×Bool×Int)->Option Bool:=fun b a=>bif b.1==7 then bif a.1==7 then some true else bif a.1==8 then some true else bif b.1==8 then bif a.1==8 then some true else bif a.1==9 then some true else bif b.1==9 then some (a.1==9) else some false else bif b.1==9 then some (a.1==9) else some false else bif b.1==8 then bif a.1==8 then some true else bif a.1==9 then some true else bif b.1==9 then some (a.1==9) else some false else bif b.1==9 then some (a.1==9) else some false
def qm6:qsm:=fun d c b a=>bif c then some true else bif b.1==5 then some (a.1==0) else bif a.1==6 then some ((Int.tmod d 2)==1) else qvj b a
def qm5:qsm:=fun d c b a=>bif c then some false else bif a.1==4 then qm6 d true b a else qm6 d (a.1==5) b a
def qm4:qsm:=fun d c a b=>bif c then some true else(qg8 a.1).bind fun e=>bif e then qm5 d true a b else(qg8 b.1).bind fun f=>qm5 d f a b
def qm3:qsm:=fun c d a b=>bif d then some false else bif a.1==1 then qm4 c (b.1==2) a b else qm4 c false a b
def qm2(b:Int×Bool×Int)(a:Int×Bool×Int)(c:Int):Option Bool:=bif b.2.1 then qm3 c true b a else qm3 c a.2.1 b a
def qg6(b:Bs)(a:List Bs):Option ((List Bs)):=bif decide (List.length (a++([b]:List Bs))<=aq) then some (a++([b]:List Bs)) else none
abbrev qsn:=Int->Int->Bs->(Int×Bool×Int)->(List Bs)->Option (Bs×(List Bs))
abbrev qfj:=Bs->(List Bs)->Option (Bs×(List Bs))
def qg9(fu:Nat)(h:qfj)(d:qsn):Int->Int->Bs->(Int×Bool×Int)->(Int×Bool×Int)->(List Bs)->Option (Bs×(List Bs)):=fun c g f e a b=>d (ae (c+a.2.2)) g f a b
def qvp(e:qfj)(g:qsn):qsn:=fun a h b d c=>bif decide (a<(b.length:Int)) then bif decide (0<=a/\a<=(b.length:Int)) then(qc4 fu (List.drop a.toNat b)).bind fun f=>(qm2 d f h).bind fun k=>bif !k then bif decide (0<=a/\a<=(b.length:Int)) then(qg6 (List.take a.toNat b) c).bind fun j=>bif decide (0<=a/\a<=(b.length:Int)) then e (List.drop a.toNat b) j else none else none else bif f.1 != 6 then qg9 fu e g a 0 b d f c else qg9 fu e g a (ae (h+1)) b d f c else none else bif decide (0<=a/\a<=(b.length:Int)) then(qg6 (List.take a.toNat b) c).bind fun i=>bif decide (0<=a/\a<=(b.length:Int)) then e (List.drop a.toNat b) i else none else none
def t7(fu:Nat)(a:qfj):Nat->qsn|0=>fun _ _ _ _ _=>none|n+1=>qvp fu a (t7 fu a n)
def qvo(d:qfj):qfj:=fun c a=>bif !(c==([]:Bs)) then(qc4 fu c).bind fun b=>bif b.1==6 then t7 fu d fu b.2.2 1 c b a else t7 fu d fu b.2.2 0 c b a else some (c,a)
def wy(fu:Nat):Nat->qfj|0=>fun _ _=>none|n+1=>qvo fu (wy fu n)
def qvn(b:Bs)(a:List Bs):Option (Bs×(List Bs)):=wy fu fu b a
def qm1(c:Bs):Option ((List Bs)):=(qvm c).bind fun b=>(qvn fu b []).bind fun a=>some a.2
def qg0(b:Bs)(a:Int):Option (Bs×Int):=some (b,a)
abbrev zqy:=(Bs×Bool×Int) ⊕ ((Bs×Bool) ⊕ ((Bs×Bool) ⊕ (Bs×Bool)))
def qgz(a:Bs):Option zqy:=(qg0 [97,115,99,105,105] 128).bind fun b=>(qg0 [108,97,116,105,110,49] 256).bind fun c=>(e7 fu b.1 a).bind fun f=>bif f then some (.inl (b.1,(true,b.2))) else(e7 fu c.1 a).bind fun d=>bif d then some (.inl (c.1,(true,c.2))) else(e7 fu [117,116,102,56] a).bind fun g=>bif g then some (.inr (.inl (([117,116,102,56]:Bs),true))) else(e7 fu [117,116,102,49,54,98,101] a).bind fun e=>bif e then some (.inr (.inr (.inl (([117,116,102,49,54,98,101]:Bs),true)))) else some (.inr (.inr (.inr (([]:Bs),false))))
def qvb(b:Int)(a:Int):Option (Bool×Int×Bs):=some (decide (b<a),(a,([cy b]:Bs)))
def qn6:Int->Bool->Option (Bs):=fun a b=>bif b then bif decide (List.length ([240|||(cy (Int.fdiv a (2 ^ min (18:Int).toNat 32))),128|||((cy (Int.fdiv a (2 ^ min (12:Int).toNat 32)))&&&63),128|||((cy (Int.fdiv a (2 ^ min (6:Int).toNat 32)))&&&63),128|||((cy a)&&&63)]:Bs)<=aq) then some ([240|||(cy (Int.fdiv a (2 ^ min (18:Int).toNat 32))),128|||((cy (Int.fdiv a (2 ^ min (12:Int).toNat 32)))&&&63),128|||((cy (Int.fdiv a (2 ^ min (6:Int).toNat 32)))&&&63),128|||((cy a)&&&63)]:Bs) else none else bif decide (List.length ([239,191,189]:Bs)<=aq) then some ([239,191,189]:Bs) else none
def w9:Int->Int->Bool->Option (Bs):=fun a c b=>bif b then bif decide (List.length ([224|||(cy (Int.fdiv a (2 ^ min (12:Int).toNat 32))),128|||((cy (Int.fdiv a (2 ^ min (6:Int).toNat 32)))&&&63),128|||((cy a)&&&63)]:Bs)<=aq) then some ([224|||(cy (Int.fdiv a (2 ^ min (12:Int).toNat 32))),128|||((cy (Int.fdiv a (2 ^ min (6:Int).toNat 32)))&&&63),128|||((cy a)&&&63)]:Bs) else none else bif decide (65535<c) then qn6 a (decide (c<=1114111)) else qn6 a false
def qy3(a:Int):Option (Bs):=bif decide ((IntKind.u32.wrap (a))<=2047) then bif decide (List.length ([192|||(cy (Int.fdiv a (2 ^ min (6:Int).toNat 32))),128|||((cy a)&&&63)]:Bs)<=aq) then some ([192|||(cy (Int.fdiv a (2 ^ min (6:Int).toNat 32))),128|||((cy a)&&&63)]:Bs) else none else bif decide ((IntKind.u32.wrap (a))<55296) then w9 a (IntKind.u32.wrap (a)) true else bif decide (57343<(IntKind.u32.wrap (a))) then w9 a (IntKind.u32.wrap (a)) (decide ((IntKind.u32.wrap (a))<=65535)) else w9 a (IntKind.u32.wrap (a)) false
def qn4(a:Int):Option (Bs):=bif decide ((IntKind.u32.wrap (a))<=127) then bif decide (List.length ([cy a]:Bs)<=aq) then some ([cy a]:Bs) else none else(qy3 a).bind fun b=>some b
def qu9(b:Int):Option (Bool×Bs):=(qn4 b).bind fun a=>some (true,a)
def q9q(a:Int):Option (Bool×Bs):=bif decide (a<65536) then some (true,([cy (Int.fdiv a (2 ^ min (8:Int).toNat 32)),cy a]:Bs)) else some (true,([cy (Int.fdiv (IntKind.i32.wrap (55296+(Int.fdiv (IntKind.i32.wrap (a-65536)) (2 ^ min (10:Int).toNat 32)))) (2 ^ min (8:Int).toNat 32)),cy (IntKind.i32.wrap (55296+(Int.fdiv (IntKind.i32.wrap (a-65536)) (2 ^ min (10:Int).toNat 32)))),cy (Int.fdiv (IntKind.i32.wrap (56320+(IntKind.i32.wrap (((BitVec.ofInt 32 (IntKind.i32.wrap (a-65536))&&&BitVec.ofInt 32 1023).toNat:Int))))) (2 ^ min (8:Int).toNat 32)),cy (IntKind.i32.wrap (56320+(IntKind.i32.wrap (((BitVec.ofInt 32 (IntKind.i32.wrap (a-65536))&&&BitVec.ofInt 32 1023).toNat:Int)))))]:Bs))
abbrev q6v:=(Int×Int)->Bs->Bs->Nat->Int->Bs->Option ((Int×Int)×Bs)
abbrev qfk:=(Int×Int)->Bs->Bs->Nat->Bs->Option ((Int×Int)×Bs)
abbrev q6w:=(Int×Int)->Bs->Bs->Nat->Option ((Int×Int)×Bs)
def qu4(fu:Nat)(h:q6v):q6v:=fun e f b a g c=>bif Nat.blt a (b.length) then(qvb (((cr b a).1:Nat):Int) g).bind fun d=>bif !d.1 then(bg 17 ((a:Nat):Int)).bind fun j=>some (j,[]) else bif decide (List.length (c++d.2.2)<=aq) then h e f b (a+(cr b a).2) d.2.1 (c++d.2.2) else none else(cg).bind fun i=>some (i,c)
def qgx(fu:Nat):Nat->q6v|0=>fun _ _ _ _ _ _=>none|n+1=>qu4 fu (qgx fu n)
def qu5(fu:Nat)(g:qfk):qfk:=fun d f b a c=>bif Nat.blt a (b.length) then(qu9 (((cr b a).1:Nat):Int)).bind fun e=>bif !e.1 then(bg 17 ((a:Nat):Int)).bind fun i=>some (i,[]) else bif decide (List.length (c++e.2)<=aq) then g d f b (a+(cr b a).2) (c++e.2) else none else(cg).bind fun h=>some (h,c)
def qgy(fu:Nat):Nat->qfk|0=>fun _ _ _ _ _=>none|n+1=>qu5 fu (qgy fu n)
def q9o(fu:Nat)(g:qfk):qfk:=fun d f b a c=>bif Nat.blt a (b.length) then(q9q (((cr b a).1:Nat):Int)).bind fun e=>bif !e.1 then(bg 17 ((a:Nat):Int)).bind fun i=>some (i,[]) else bif decide (List.length (c++e.2)<=aq) then g d f b (a+(cr b a).2) (c++e.2) else none else(cg).bind fun h=>some (h,c)
def qu6(fu:Nat):Nat->qfk|0=>fun _ _ _ _ _=>none|n+1=>q9o fu (qu6 fu n)
def q9p(fu:Nat)(f:q6w):q6w:=fun c e a b=>bif Nat.blt b (a.length) then none else(cg).bind fun d=>some (d,[])
def qu7(fu:Nat):Nat->q6w|0=>fun _ _ _ _=>none|n+1=>q9p fu (qu7 fu n)
def qms(v:Bs)(a:Bs):Option ((Int×Int)×Bs):=bif decide (12000<(a.length:Int)) then(bg 1 (-1)).bind fun w=>some (w,[]) else(qgz fu v).bind fun u=>ap u (fun f=>bif !f.2.1 then(bg 18 (-2)).bind fun t=>some (t,[]) else(ic a).bind fun j=>bif !j then(bg 5 (-3)).bind fun c=>some (c,[]) else qgx fu fu (0,0) f.1 a 0 f.2.2 []) (fun s=>ap s (fun p=>bif !p.2 then(bg 18 (-2)).bind fun g=>some (g,[]) else(ic a).bind fun i=>bif !i then(bg 5 (-3)).bind fun l=>some (l,[]) else qgy fu fu (0,0) p.1 a 0 []) (fun r=>ap r (fun o=>bif !o.2 then(bg 18 (-2)).bind fun d=>some (d,[]) else(ic a).bind fun k=>bif !k then(bg 5 (-3)).bind fun m=>some (m,[]) else qu6 fu fu (0,0) o.1 a 0 []) (fun q=>bif !q.2 then(bg 18 (-2)).bind fun h=>some (h,[]) else(ic a).bind fun b=>bif !b then(bg 5 (-3)).bind fun e=>some (e,[]) else qu7 fu fu (0,0) q.1 a 0)))
def qt2(a:Bs):Option (Bs):=some a
def ib(d:UInt8)(c:UInt8)(e:UInt8)(b:UInt8)(f:Int)(a:Bs):Option (Int×Bs):=bif f==76 then bif decide (List.length (a++([13,10]:Bs))<=aq) then bif decide (List.length ((a++([13,10]:Bs))++([d,c,e,b]:Bs))<=aq) then some (4,(a++([13,10]:Bs))++([d,c,e,b]:Bs)) else none else none else bif decide (List.length (a++([d,c,e,b]:Bs))<=aq) then some (ae (f+4),a++([d,c,e,b]:Bs)) else none
abbrev q6z:=Int->Int->Bs->Int->Bs->Option (Bs×Int×Bs)
abbrev qfl:=Bs->Int->Bs->Option (Bs×Int×Bs)
def tv(fu:Nat)(e:qfl):q6z:=fun a f c d b=>(am [65,66,67,68,69,70,71,72,73,74,75,76,77,78,79,80,81,82,83,84,85,86,87,88,89,90,97,98,99,100,101,102,103,104,105,106,107,108,109,110,111,112,113,114,115,116,117,118,119,120,121,122,48,49,50,51,52,53,54,55,56,57,43,47] (ae (((BitVec.ofInt 64 (Int.fdiv f (2 ^ min (18:Int).toNat 64))&&&BitVec.ofInt 64 63).toNat:Int)))).bind fun h=>bif decide (a<0) then(am [65,66,67,68,69,70,71,72,73,74,75,76,77,78,79,80,81,82,83,84,85,86,87,88,89,90,97,98,99,100,101,102,103,104,105,106,107,108,109,110,111,112,113,114,115,116,117,118,119,120,121,122,48,49,50,51,52,53,54,55,56,57,43,47] (ae (((BitVec.ofInt 64 (Int.fdiv f (2 ^ min (12:Int).toNat 64))&&&BitVec.ofInt 64 63).toNat:Int)))).bind fun y=>bif decide (a<1) then(am [65,66,67,68,69,70,71,72,73,74,75,76,77,78,79,80,81,82,83,84,85,86,87,88,89,90,97,98,99,100,101,102,103,104,105,106,107,108,109,110,111,112,113,114,115,116,117,118,119,120,121,122,48,49,50,51,52,53,54,55,56,57,43,47] (ae (((BitVec.ofInt 64 (Int.fdiv f (2 ^ min (6:Int).toNat 64))&&&BitVec.ofInt 64 63).toNat:Int)))).bind fun F=>bif decide (a<2) then(am [65,66,67,68,69,70,71,72,73,74,75,76,77,78,79,80,81,82,83,84,85,86,87,88,89,90,97,98,99,100,101,102,103,104,105,106,107,108,109,110,111,112,113,114,115,116,117,118,119,120,121,122,48,49,50,51,52,53,54,55,56,57,43,47] (ae (((BitVec.ofInt 64 (Int.fdiv f (2 ^ min (0:Int).toNat 64))&&&BitVec.ofInt 64 63).toNat:Int)))).bind fun L=>bif decide (a<3) then(ib 61 61 61 61 d b).bind fun H=>bif decide (0<=a/\a<=(c.length:Int)) then e (List.drop a.toNat c) H.1 H.2 else none else(ib 61 61 61 L d b).bind fun J=>bif decide (0<=a/\a<=(c.length:Int)) then e (List.drop a.toNat c) J.1 J.2 else none else(am [65,66,67,68,69,70,71,72,73,74,75,76,77,78,79,80,81,82,83,84,85,86,87,88,89,90,97,98,99,100,101,102,103,104,105,106,107,108,109,110,111,112,113,114,115,116,117,118,119,120,121,122,48,49,50,51,52,53,54,55,56,57,43,47] (ae (((BitVec.ofInt 64 (Int.fdiv f (2 ^ min (0:Int).toNat 64))&&&BitVec.ofInt 64 63).toNat:Int)))).bind fun K=>bif decide (a<3) then(ib 61 61 F 61 d b).bind fun I=>bif decide (0<=a/\a<=(c.length:Int)) then e (List.drop a.toNat c) I.1 I.2 else none else(ib 61 61 F K d b).bind fun G=>bif decide (0<=a/\a<=(c.length:Int)) then e (List.drop a.toNat c) G.1 G.2 else none else(am [65,66,67,68,69,70,71,72,73,74,75,76,77,78,79,80,81,82,83,84,85,86,87,88,89,90,97,98,99,100,101,102,103,104,105,106,107,108,109,110,111,112,113,114,115,116,117,118,119,120,121,122,48,49,50,51,52,53,54,55,56,57,43,47] (ae (((BitVec.ofInt 64 (Int.fdiv f (2 ^ min (6:Int).toNat 64))&&&BitVec.ofInt 64 63).toNat:Int)))).bind fun s=>bif decide (a<2) then(am [65,66,67,68,69,70,71,72,73,74,75,76,77,78,79,80,81,82,83,84,85,86,87,88,89,90,97,98,99,100,101,102,103,104,105,106,107,108,109,110,111,112,113,114,115,116,117,118,119,120,121,122,48,49,50,51,52,53,54,55,56,57,43,47] (ae (((BitVec.ofInt 64 (Int.fdiv f (2 ^ min (0:Int).toNat 64))&&&BitVec.ofInt 64 63).toNat:Int)))).bind fun C=>bif decide (a<3) then(ib 61 y 61 61 d b).bind fun q=>bif decide (0<=a/\a<=(c.length:Int)) then e (List.drop a.toNat c) q.1 q.2 else none else(ib 61 y 61 C d b).bind fun t=>bif decide (0<=a/\a<=(c.length:Int)) then e (List.drop a.toNat c) t.1 t.2 else none else(am [65,66,67,68,69,70,71,72,73,74,75,76,77,78,79,80,81,82,83,84,85,86,87,88,89,90,97,98,99,100,101,102,103,104,105,106,107,108,109,110,111,112,113,114,115,116,117,118,119,120,121,122,48,49,50,51,52,53,54,55,56,57,43,47] (ae (((BitVec.ofInt 64 (Int.fdiv f (2 ^ min (0:Int).toNat 64))&&&BitVec.ofInt 64 63).toNat:Int)))).bind fun B=>bif decide (a<3) then(ib 61 y s 61 d b).bind fun j=>bif decide (0<=a/\a<=(c.length:Int)) then e (List.drop a.toNat c) j.1 j.2 else none else(ib 61 y s B d b).bind fun v=>bif decide (0<=a/\a<=(c.length:Int)) then e (List.drop a.toNat c) v.1 v.2 else none else(am [65,66,67,68,69,70,71,72,73,74,75,76,77,78,79,80,81,82,83,84,85,86,87,88,89,90,97,98,99,100,101,102,103,104,105,106,107,108,109,110,111,112,113,114,115,116,117,118,119,120,121,122,48,49,50,51,52,53,54,55,56,57,43,47] (ae (((BitVec.ofInt 64 (Int.fdiv f (2 ^ min (12:Int).toNat 64))&&&BitVec.ofInt 64 63).toNat:Int)))).bind fun g=>bif decide (a<1) then(am [65,66,67,68,69,70,71,72,73,74,75,76,77,78,79,80,81,82,83,84,85,86,87,88,89,90,97,98,99,100,101,102,103,104,105,106,107,108,109,110,111,112,113,114,115,116,117,118,119,120,121,122,48,49,50,51,52,53,54,55,56,57,43,47] (ae (((BitVec.ofInt 64 (Int.fdiv f (2 ^ min (6:Int).toNat 64))&&&BitVec.ofInt 64 63).toNat:Int)))).bind fun x=>bif decide (a<2) then(am [65,66,67,68,69,70,71,72,73,74,75,76,77,78,79,80,81,82,83,84,85,86,87,88,89,90,97,98,99,100,101,102,103,104,105,106,107,108,109,110,111,112,113,114,115,116,117,118,119,120,121,122,48,49,50,51,52,53,54,55,56,57,43,47] (ae (((BitVec.ofInt 64 (Int.fdiv f (2 ^ min (0:Int).toNat 64))&&&BitVec.ofInt 64 63).toNat:Int)))).bind fun D=>bif decide (a<3) then(ib h 61 61 61 d b).bind fun m=>bif decide (0<=a/\a<=(c.length:Int)) then e (List.drop a.toNat c) m.1 m.2 else none else(ib h 61 61 D d b).bind fun r=>bif decide (0<=a/\a<=(c.length:Int)) then e (List.drop a.toNat c) r.1 r.2 else none else(am [65,66,67,68,69,70,71,72,73,74,75,76,77,78,79,80,81,82,83,84,85,86,87,88,89,90,97,98,99,100,101,102,103,104,105,106,107,108,109,110,111,112,113,114,115,116,117,118,119,120,121,122,48,49,50,51,52,53,54,55,56,57,43,47] (ae (((BitVec.ofInt 64 (Int.fdiv f (2 ^ min (0:Int).toNat 64))&&&BitVec.ofInt 64 63).toNat:Int)))).bind fun E=>bif decide (a<3) then(ib h 61 x 61 d b).bind fun i=>bif decide (0<=a/\a<=(c.length:Int)) then e (List.drop a.toNat c) i.1 i.2 else none else(ib h 61 x E d b).bind fun w=>bif decide (0<=a/\a<=(c.length:Int)) then e (List.drop a.toNat c) w.1 w.2 else none else(am [65,66,67,68,69,70,71,72,73,74,75,76,77,78,79,80,81,82,83,84,85,86,87,88,89,90,97,98,99,100,101,102,103,104,105,106,107,108,109,110,111,112,113,114,115,116,117,118,119,120,121,122,48,49,50,51,52,53,54,55,56,57,43,47] (ae (((BitVec.ofInt 64 (Int.fdiv f (2 ^ min (6:Int).toNat 64))&&&BitVec.ofInt 64 63).toNat:Int)))).bind fun k=>bif decide (a<2) then(am [65,66,67,68,69,70,71,72,73,74,75,76,77,78,79,80,81,82,83,84,85,86,87,88,89,90,97,98,99,100,101,102,103,104,105,106,107,108,109,110,111,112,113,114,115,116,117,118,119,120,121,122,48,49,50,51,52,53,54,55,56,57,43,47] (ae (((BitVec.ofInt 64 (Int.fdiv f (2 ^ min (0:Int).toNat 64))&&&BitVec.ofInt 64 63).toNat:Int)))).bind fun A=>bif decide (a<3) then(ib h g 61 61 d b).bind fun u=>bif decide (0<=a/\a<=(c.length:Int)) then e (List.drop a.toNat c) u.1 u.2 else none else(ib h g 61 A d b).bind fun p=>bif decide (0<=a/\a<=(c.length:Int)) then e (List.drop a.toNat c) p.1 p.2 else none else(am [65,66,67,68,69,70,71,72,73,74,75,76,77,78,79,80,81,82,83,84,85,86,87,88,89,90,97,98,99,100,101,102,103,104,105,106,107,108,109,110,111,112,113,114,115,116,117,118,119,120,121,122,48,49,50,51,52,53,54,55,56,57,43,47] (ae (((BitVec.ofInt 64 (Int.fdiv f (2 ^ min (0:Int).toNat 64))&&&BitVec.ofInt 64 63).toNat:Int)))).bind fun z=>bif decide (a<3) then(ib h g k 61 d b).bind fun o=>bif decide (0<=a/\a<=(c.length:Int)) then e (List.drop a.toNat c) o.1 o.2 else none else(ib h g k z d b).bind fun l=>bif decide (0<=a/\a<=(c.length:Int)) then e (List.drop a.toNat c) l.1 l.2 else none
def qcw(f:qfl):q6z:=fun b d c e a=>bif decide (2<b) then(am c 2).bind fun g=>tv fu f b (ae (((BitVec.ofInt 64 (ae (d*2 ^ min (8:Int).toNat 64))|||BitVec.ofInt 64 (g.toNat:Int)).toNat:Int))) c e a else tv fu f b (ae (d*2 ^ min (8:Int).toNat 64)) c e a
def qcv(f:qfl):q6z:=fun b d c e a=>bif decide (1<b) then(am c 1).bind fun g=>qcw fu f b (ae (((BitVec.ofInt 64 (ae (d*2 ^ min (8:Int).toNat 64))|||BitVec.ofInt 64 (g.toNat:Int)).toNat:Int))) c e a else qcw fu f b (ae (d*2 ^ min (8:Int).toNat 64)) c e a
def tu(d:qfl):qfl:=fun a c b=>bif decide (0<(a.length:Int)) then bif decide (0<(if(a.length:Int)<3 then(a.length:Int) else 3)) then(am a 0).bind fun e=>qcv fu d (if(a.length:Int)<3 then(a.length:Int) else 3) (ae (((BitVec.ofInt 64 0|||BitVec.ofInt 64 (e.toNat:Int)).toNat:Int))) a c b else qcv fu d (if(a.length:Int)<3 then(a.length:Int) else 3) 0 a c b else some (a,(c,b))
def nv(fu:Nat):Nat->qfl|0=>fun _ _ _=>none|n+1=>tu fu (nv fu n)
def qt3(c:Bs)(a:Int)(b:Bs):Option (Bs×Int×Bs):=nv fu fu c a b
def qmi(b:Bs):Option ((Int×Int)×Bs):=bif decide (12000<(b.length:Int)) then(bg 1 (-1)).bind fun d=>some (d,[]) else(qt2 b).bind fun e=>(qt3 fu e 0 []).bind fun a=>bif decide (0<a.2.1) then bif decide (List.length (a.2.2++([13,10]:Bs))<=aq) then(cg).bind fun c=>some (c,a.2.2++([13,10]:Bs)) else none else(cg).bind fun f=>some (f,a.2.2)
def qib(c:Bs):Option (Bs):=(qmi fu c).bind fun b=>(qdi b.2 [13,10] []).bind fun a=>some a
def qdf(b:UInt8)(c:Bs):Option (Bs):=(pc c).bind fun a=>bif decide (List.length (a++([b]:Bs))<=aq) then some (a++([b]:Bs)) else none
def qnn(a:Bs)(c:Bs):Option (Int×Bs×Bs):=(pc c).bind fun b=>bif decide (List.length (b++a)<=aq) then some ((a.length:Int),(a,b++a)) else none
def qza(fu:Nat)(f:qe9):qe9:=fun d e b a=>bif decide (b<e) then(am d b).bind fun c=>bif c==32 then(qdf 95 a).bind fun j=>f d e (ae (b+1)) j else(qc0 c).bind fun h=>bif h then(qdf c a).bind fun g=>f d e (ae (b+1)) g else(tw (vy c (min (4:Int).toNat 8))).bind fun k=>(tw c).bind fun m=>(qnn ([61,k,m]:Bs) a).bind fun i=>f d e (ae (b+1)) i.2.2 else(z7 a).bind fun l=>some l
def qia(fu:Nat):Nat->qe9|0=>fun _ _ _ _=>none|n+1=>qza fu (qia fu n)
def qoc(a:Bs):Option (Bs):=qia fu fu a (a.length:Int) 0 []
def qaq(a:Bs)(e:Bs):Option (Bs):=(qms fu a e).bind fun d=>bif a==([117,116,102,56]:Bs) then bif decide (List.length ([61,63]:Bs)+a.length<=a7) then bif decide (List.length (([61,63]:Bs)++a)+List.length ([63,66,63]:Bs)<=a7) then(qib fu d.2).bind fun c=>bif decide (List.length ((([61,63]:Bs)++a)++[63,66,63])+c.length<=a7) then bif decide (List.length (((([61,63]:Bs)++a)++[63,66,63])++c)+List.length ([63,61]:Bs)<=a7) then some ((((([61,63]:Bs)++a)++[63,66,63])++c)++[63,61]) else none else none else none else none else bif decide (List.length ([61,63]:Bs)+a.length<=a7) then bif decide (List.length (([61,63]:Bs)++a)+List.length ([63,81,63]:Bs)<=a7) then(qoc fu d.2).bind fun b=>bif decide (List.length ((([61,63]:Bs)++a)++[63,81,63])+b.length<=a7) then bif decide (List.length (((([61,63]:Bs)++a)++[63,81,63])++b)+List.length ([63,61]:Bs)<=a7) then some ((((([61,63]:Bs)++a)++[63,81,63])++b)++[63,61]) else none else none else none else none
abbrev zrh:=Bs×Bs×(List Bs)
def qh8(a:Bs)(c:Bs)(b:Bs)(d:List Bs):Option zrh:=bif !(b==([]:Bs)) then bif decide (b.length+a.length<=a7) then(qaq fu c (b++a)).bind fun f=>bif decide (75<(f.length:Int)) then(qaq fu c b).bind fun e=>bif decide (List.length (d++([e]:List Bs))<=aq) then bif decide (List.length ([]:Bs)+a.length<=a7) then some (c,(([]:Bs)++a,d++([e]:List Bs))) else none else none else bif decide (b.length+a.length<=a7) then some (c,(b++a,d)) else none else none else bif decide (b.length+a.length<=a7) then some (c,(b++a,d)) else none
abbrev qoo:=Bs×Bs×Bs×Bs×(List Bs)
abbrev q61:=Int->Int->Bs->Bs->Bs->Bs->(List Bs)->Bs->Nat->(List Bs)->Option qoo
abbrev qk8:=Int->Int->Bs->Bs->Bs->Bs->(List Bs)->(List Bs)->Option qoo
def qzf(l:qk8)(m:q61):q61:=fun e d j h i k c b a f=>bif Nat.blt a (b.length) then(qh8 fu (kw (((cr b a).1:Nat):Int)) i k f).bind fun g=>m e d j h g.1 g.2.1 c b (a+(cr b a).2) g.2.2 else l e (ae (d+1)) j h i k c f
def qie(fu:Nat)(a:qk8):Nat->q61|0=>fun _ _ _ _ _ _ _ _ _ _=>none|n+1=>qzf fu a (qie fu a n)
def qze(k:qk8):qk8:=fun d a g e f h b c=>bif decide (a<d) then bif decide (0<=a/\a.toNat<b.length) then(b[a.toNat]?).bind fun i=>(qaq fu e i).bind fun l=>bif decide ((l.length:Int)<=75) then(qh8 fu i f h c).bind fun j=>k d (ae (a+1)) g e j.1 j.2.1 b j.2.2 else qie fu k fu d a g e f h b i 0 c else none else some (g,(e,(f,(h,c))))
def qap(fu:Nat):Nat->qk8|0=>fun _ _ _ _ _ _ _ _=>none|n+1=>qze fu (qap fu n)
def qof(a:Bs)(e:Bs)(f:Bs)(c:Bs)(d:List Bs):Option qoo:=(qm1 fu a).bind fun b=>qap fu fu (b.length:Int) 0 a e f c b d
def qn7(a:Bs):Option (Bs×(Int×Int)):=bif decide (1000<(a.length:Int)) then(bg 1 (-1)).bind fun i=>some (([]:Bs),i) else(ic a).bind fun k=>bif !k then(bg 5 (-2)).bind fun j=>some (([]:Bs),j) else(qic fu a).bind fun h=>bif h then(cg).bind fun l=>some (a,l) else(qu2 fu a).bind fun e=>(qzd e a).bind fun g=>(qof fu g.1 g.2 e ([]:Bs) []).bind fun b=>(qaq fu b.2.2.1 b.2.2.2.1).bind fun f=>bif decide (List.length (b.2.2.2.2++([f]:List Bs))<=aq) then(f9 (b.2.2.2.2++([f]:List Bs)) [32]).bind fun c=>(cg).bind fun d=>some (c,d) else none
abbrev zqv:=(Bs×Bs) ⊕ (Bs×Bs)
def zx(b:Bs)(a:Bs)(c:Bs):Option zqv:=bif b==([]:Bs) then(zy a).bind fun d=>some (.inl (a,d)) else(qgu fu b).bind fun f=>bif !f then(zy a).bind fun e=>some (.inl (a,e)) else some (.inr (a,c))
abbrev zdh:=(Bs×Bs×Int×Bs×Bs) ⊕ (Bs×Bs×Int×Bs×Bs)
abbrev qfn:=Bs->Bs->Int->Bs->Bs->Option zdh
def zcn(h:qfn):qfn:=fun d a c e f=>bif decide (0<(a.length:Int)) then(il a).bind fun b=>bif decide (0<=b.2/\b.2<=(a.length:Int)) then(zx fu (List.take b.2.toNat a) e f).bind fun j=>ap j (fun i=>some (.inl (d,(a,(c,i))))) (fun g=>bif decide (0<=b.2/\b.2<=(a.length:Int)) then h d (List.drop b.2.toNat a) c g.1 g.2 else none) else none else some (.inr (d,(a,(c,(e,f)))))
def qyf(fu:Nat):Nat->qfn|0=>fun _ _ _ _ _=>none|n+1=>zcn fu (qyf fu n)
def qye(i:qfn):qfn:=fun b a c f g=>(lf a b).bind fun d=>bif decide (d<0) then(zx fu a f g).bind fun l=>ap l (fun j=>some (.inl (b,(a,(c,j))))) (fun k=>some (.inr (b,(a,(c,k))))) else bif decide (0<=ae (d+c)/\ae (d+c)<=(a.length:Int)) then(zx fu (List.take (ae (d+c)).toNat a) f g).bind fun m=>ap m (fun h=>some (.inl (b,(a,(c,h))))) (fun e=>bif decide (0<=ae (d+(b.length:Int))/\ae (d+(b.length:Int))<=(a.length:Int)) then i b (List.drop (ae (d+(b.length:Int))).toNat a) c e.1 e.2 else none) else none
def qdl(fu:Nat):Nat->qfn|0=>fun _ _ _ _ _=>none|n+1=>qye fu (qdl fu n)
def qyd(a:Bs)(d:Bs)(e:Int)(b:Bs)(c:Bs):Option zdh:=bif(a.length:Int)==0 then qyf fu fu a d e b c else qdl fu fu a d e b c
def qgn(a:Bs):Option (Bs):=(qn7 fu a).bind fun c=>bif !(c.1==a) then some c.1 else(ub a [32]).bind fun b=>(qyd fu b.1 b.2.1 b.2.2 a []).bind fun f=>ap f (fun d=>some d.2.2.2.2) (fun e=>some e.2.2.2.1)
def qcn(b:Bs×Bs×Bs):Option (Bs):=bif b.1==([]:Bs) then(qgr fu b).bind fun d=>some d else(qgn fu b.1).bind fun a=>bif decide (a.length+List.length ([32,60]:Bs)<=a7) then(qgr fu b).bind fun c=>bif decide (List.length (a++[32,60])+c.length<=a7) then bif decide (List.length ((a++[32,60])++c)+List.length ([62]:Bs)<=a7) then some (((a++[32,60])++c)++[62]) else none else none else none
abbrev zb:=(List (Bs×Bool×(List (Bs×Bs×Bs))))->Int->Int->(Int×Int)->(List Bs)->Option (Bs×(Int×Int))
abbrev q64:=(List (Bs×Bool×(List (Bs×Bs×Bs))))->Int->Int->(List (Bs×Bs×Bs))->Int->Int->(Int×Int)->(Bs×Bool×(List (Bs×Bs×Bs)))->(List Bs)->(List Bs)->Option (Bs×(Int×Int))
def qtu(fu:Nat)(f:zb):zb:=fun b a e c d=>f b a (ae (e+1)) c d
def qgm(g:zb):(Bs->(List (Bs×Bool×(List (Bs×Bs×Bs))))->Int->Int->(Int×Int)->(List Bs)->Option (Bs×(Int×Int))):=fun a d c f e b=>bif decide (List.length (b++([a]:List Bs))<=aq) then qtu fu g d c f e (b++([a]:List Bs)) else none
def qgl(m:zb)(r:q64):q64:=fun b a g j i d c e f h=>bif decide (d<i) then(am j d).bind fun q=>(qcn fu q).bind fun o=>bif decide (List.length (f++([o]:List Bs))<=aq) then r b a g j i (ae (d+1)) c e (f++([o]:List Bs)) h else none else(f9 f [44,32]).bind fun l=>bif e.2.1 then(qgn fu e.1).bind fun k=>bif decide (k.length+List.length ([58,32]:Bs)<=a7) then bif decide (List.length (k++[58,32])+l.length<=a7) then(w7 ((k++[58,32])++l) [32]).bind fun p=>bif decide (p.length+List.length ([59]:Bs)<=a7) then qgm fu m (p++[59]) b a g c h else none else none else none else qgm fu m l b a g c h
def nt(fu:Nat)(a:zb):Nat->q64|0=>fun _ _ _ _ _ _ _ _ _ _=>none|n+1=>qgl fu a (nt fu a n)
def ql8(i:zb):zb:=fun c b a e d=>bif decide (a<b) then(am c a).bind fun f=>nt fu i fu c b a f.2.2 (f.2.2.length:Int) 0 e f [] d else(f9 d [44,32]).bind fun g=>bif decide (4000<(g.length:Int)) then(bg 1 (-2)).bind fun j=>some (([]:Bs),j) else(cg).bind fun h=>some (g,h)
def tg(fu:Nat):Nat->zb|0=>fun _ _ _ _ _=>none|n+1=>ql8 fu (tg fu n)
def qgk(a:List (Bs×Bool×(List (Bs×Bs×Bs)))):Option (Bs×(Int×Int)):=(zm fu a).bind fun b=>(dp b).bind fun c=>bif c then some (([]:Bs),b) else tg fu fu a (a.length:Int) 0 (0,0) []
def tc(b:Int)(a:Int):Option ((Int×Int)):=some (b,a)
def qga(a:Int)(b:Int)(c:Int):Option Bool:=bif decide (b<=a) then some (decide (a<=c)) else some false
abbrev q65:=Bs->Int->Option Bool
def qtc(fu:Nat)(e:q65):q65:=fun a b=>bif decide (b<(a.length:Int)) then(am a b).bind fun g=>(qga (g.toNat:Int) 33 126).bind fun f=>bif !f then some false else(am a b).bind fun d=>bif d==58 then some false else e a (ae (b+1)) else(qga (a.length:Int) 1 60).bind fun c=>some c
def qf5(fu:Nat):Nat->q65|0=>fun _ _=>none|n+1=>qtc fu (qf5 fu n)
def qls(a:Bs):Option Bool:=qf5 fu fu a 0
abbrev q66:=UInt8->Bs->Int->Option Bool
def qtj(fu:Nat)(d:q66):q66:=fun c a b=>bif decide (b<(a.length:Int)) then(am a b).bind fun e=>bif e==c then some true else d c a (ae (b+1)) else some false
def ql1(fu:Nat):Nat->q66|0=>fun _ _ _=>none|n+1=>qtj fu (ql1 fu n)
def ql0(b:UInt8)(a:Bs):Option Bool:=ql1 fu fu b a 0
def td(a:UInt8):Option Bool:=bif a==32 then some true else some (a==9)
def qtp(fu:Nat)(b:s8):s8:=fun a=>bif decide (0<=(1:Int)/\1<=(a.length:Int)) then b (List.drop (1:Int).toNat a) else none
def qto(fu:Nat)(b:s8):s8:=fun a=>bif decide (0<(a.length:Int)) then(am a (ae ((a.length:Int)-1))).bind fun d=>(td d).bind fun c=>bif c then bif decide (0<=ae ((a.length:Int)-1)/\ae ((a.length:Int)-1)<=(a.length:Int)) then b (List.take (ae ((a.length:Int)-1)).toNat a) else none else some a else some a
def qgg(fu:Nat):Nat->s8|0=>fun _=>none|n+1=>qto fu (qgg fu n)
def qgf(c:s8):zpy:=fun b a=>bif a then qtp fu c b else qgg fu fu b
def qtn(b:s8):s8:=fun a=>bif decide (0<(a.length:Int)) then(am a 0).bind fun d=>(td d).bind fun c=>qgf fu b a c else qgf fu b a false
def qge(fu:Nat):Nat->s8|0=>fun _=>none|n+1=>qtn fu (qge fu n)
def qtm(a:Bs):Option (Bs):=qge fu fu a
def qtb(c:qsg):qsg:=fun a b=>bif decide (b<(a.length:Int)) then(am a b).bind fun f=>(ql0 fu f [13,10,0]).bind fun e=>bif e then some 11 else c a (ae (b+1)) else(qtm fu a).bind fun d=>bif !(d==a) then some 11 else some 0
def qce(fu:Nat):Nat->qsg|0=>fun _ _=>none|n+1=>qtb fu (qce fu n)
def qf4(b:Bs)(a:Bs):Option Int:=(qls fu b).bind fun c=>bif !c then some 10 else bif decide (4000<(a.length:Int)) then some 1 else qce fu fu a 0
abbrev qfo:=Bs->Int->(List Int)->Option ((List Bs))
abbrev qfp:=Bs->Int->Int->Int->(List Int)->(List Bs)->Option ((List Bs))
abbrev qb8:=Bs->Int->(List Int)->(List Bs)->Option ((List Bs))
def qly(fu:Nat)(c:qfo):qfo:=fun d b a=>c d (ae (b+1)) a
def qlx(d:qfo):Bs->Int->Bool->(List Int)->Option ((List Bs)):=fun e b c a=>bif c then bif decide (List.length (a++([b]:List Int))<=aq) then qly fu d e b (a++([b]:List Int)) else none else qly fu d e b a
def qlz(fu:Nat)(h:qb8)(e:qfp):qfp:=fun g f d b a c=>e g f d (ae (b+1)) a c
def qf9(g:qb8)(h:qfp):Bs->Int->Int->Int->Int->Bool->(List Int)->(List Bs)->Option ((List Bs)):=fun j i f b d e a c=>bif e then qlz fu g h j i d b a c else qlz fu g h j i f b a c
def qtf(h:qb8)(i:qfp):qfp:=fun f e a c b d=>bif decide (c<(b.length:Int)) then bif decide (0<=c/\c.toNat<b.length) then(b[c.toNat]?).bind fun g=>bif decide (e<g) then bif decide ((ae (g-e))<=78) then qf9 fu h i f e a c g true b d else qf9 fu h i f e a c g (decide (a<0)) b d else qf9 fu h i f e a c g false b d else none else bif decide (a<0) then bif decide (0<=e/\e<=(f.length:Int)) then bif decide (List.length (d++([List.drop e.toNat f]:List Bs))<=aq) then some (d++([List.drop e.toNat f]:List Bs)) else none else none else bif decide (0<=e/\e<=a/\a<=(f.length:Int)) then bif decide (List.length (d++([List.take (a.toNat-e.toNat) (List.drop e.toNat f)]:List Bs))<=aq) then h f a b (d++([List.take (a.toNat-e.toNat) (List.drop e.toNat f)]:List Bs)) else none else none
def zk(fu:Nat)(a:qb8):Nat->qfp|0=>fun _ _ _ _ _ _=>none|n+1=>qtf fu a (zk fu a n)
def qlw(e:qb8):qb8:=fun c b d a=>bif decide (78<(ae ((c.length:Int)-b))) then zk fu e fu c b (-1) 0 d a else bif decide (0<=b/\b<=(c.length:Int)) then bif decide (List.length (a++([List.drop b.toNat c]:List Bs))<=aq) then some (a++([List.drop b.toNat c]:List Bs)) else none else none
def tf(fu:Nat):Nat->qb8|0=>fun _ _ _ _=>none|n+1=>qlw fu (tf fu n)
def qlv(d:qfo):qfo:=fun b c a=>bif decide (c<(b.length:Int)) then(am b c).bind fun h=>(td h).bind fun g=>bif g then(am b (ae (c-1))).bind fun f=>(td f).bind fun e=>qlx fu d b c (!e) a else qlx fu d b c false a else tf fu fu b 0 a []
def qcf(fu:Nat):Nat->qfo|0=>fun _ _ _=>none|n+1=>qlv fu (qcf fu n)
def qf8(a:Bs)(b:Bs):Option ((List Bs)):=bif decide (a.length+List.length ([58,32]:Bs)<=a7) then bif decide (List.length (a++[58,32])+b.length<=a7) then qcf fu fu ((a++[58,32])++b) (ae ((a.length:Int)+3)) [] else none else none
abbrev q67:=Int->(Int×Int)->(List Bs)->Option ((Int×Int))
def qte(fu:Nat)(d:q67):q67:=fun b c a=>bif decide (b<(a.length:Int)) then bif decide (0<=b/\b.toNat<a.length) then(a[b.toNat]?).bind fun e=>bif decide (998<(e.length:Int)) then(tc 1 b).bind fun f=>some f else d (ae (b+1)) c a else none else some (0,0)
def qf7(fu:Nat):Nat->q67|0=>fun _ _ _=>none|n+1=>qte fu (qf7 fu n)
def qlu(b:Bs)(a:Bs):Option ((Int×Int)):=(qf4 fu b a).bind fun d=>bif d != 0 then(qf4 fu b a).bind fun f=>(tc f (-1)).bind fun e=>some e else(qf8 fu b a).bind fun c=>qf7 fu fu 0 (0,0) c
abbrev q68:=wV->Int->(Int×Int)->Option ((Int×Int))
def qtd(f:q68):q68:=fun b a c=>bif decide (a<(b.length:Int)) then(am b a).bind fun g=>(am b a).bind fun h=>(qlu fu g.1 h.2).bind fun d=>bif d.1 != 0 then(tc d.1 a).bind fun e=>some e else f b (ae (a+1)) c else some (0,0)
def qf6(fu:Nat):Nat->q68|0=>fun _ _ _=>none|n+1=>qtd fu (qf6 fu n)
def qlt(a:List (Bs×Bs)):Option ((Int×Int)):=bif decide (60<(a.length:Int)) then(tc 2 (-1)).bind fun b=>some b else qf6 fu fu a 0 (0,0)
abbrev q69:=wV->Bs->Int->Int->(List Bs)->Option (Bs)
abbrev qla:=wV->Bs->Int->Option (Bs)
def qti(fu:Nat)(g:qla)(h:q69):q69:=fun f c e b a=>bif decide (b<(a.length:Int)) then bif decide (0<=b/\b.toNat<a.length) then(a[b.toNat]?).bind fun d=>bif decide (c.length+d.length<=a7) then bif decide (List.length (c++d)+List.length ([13,10]:Bs)<=a7) then h f ((c++d)++[13,10]) e (ae (b+1)) a else none else none else none else g f c (ae (e+1))
def qcg(fu:Nat)(a:qla):Nat->q69|0=>fun _ _ _ _ _=>none|n+1=>qti fu a (qcg fu a n)
def qth(d:qla):qla:=fun c a b=>bif decide (b<(c.length:Int)) then(am c b).bind fun f=>(am c b).bind fun g=>(qf8 fu f.1 g.2).bind fun e=>qcg fu d fu c a b 0 e else bif decide (a.length+List.length ([13,10]:Bs)<=a7) then bif decide (List.length (a++[13,10])<=maxLen) then some (a++[13,10]) else none else none
def zl(fu:Nat):Nat->qla|0=>fun _ _ _=>none|n+1=>qth fu (zl fu n)
def qtg(a:List (Bs×Bs)):Option (Bs):=zl fu fu a [] 0
def qlr(b:Bs)(a:Int):Option Bool:=bif decide ((ae (a+1))<(b.length:Int)) then(am b a).bind fun c=>bif c==13 then(am b (ae (a+1))).bind fun d=>some (d==10) else some false else some false
abbrev qst:=Bs->Int->Int->(Int×Int)->Option ((Int×Int))
def ql3(fu:Nat)(e:qst):Bs->Int->Int->Bool->(Int×Int)->Option ((Int×Int)):=fun f c d b a=>bif b then(tc 11 (-5)).bind fun g=>some g else bif decide (998<=(ae (d-c))) then(tc 1 (-6)).bind fun h=>some h else e f c (ae (d+1)) a
def qtr(d:qst):qst:=fun c e a b=>bif decide (a<(c.length:Int)) then(qlr c a).bind fun g=>bif g then d c (ae ((ae (a+1))+1)) (ae ((ae (a+1))+1)) b else(am c a).bind fun h=>bif h==13 then ql3 fu d c e a true b else(am c a).bind fun f=>ql3 fu d c e a (f==10) b else some (0,0)
def qgh(fu:Nat):Nat->qst|0=>fun _ _ _ _=>none|n+1=>qtr fu (qgh fu n)
def qtq(a:Bs):Option ((Int×Int)):=qgh fu fu a 0 0 (0,0)
def ql4(a:wV×Bs):Option ((Int×Int)):=(qlt fu a.1).bind fun b=>bif b.1 != 0 then some b else bif decide (12000<(a.2.length:Int)) then(tc 1 (-4)).bind fun e=>some e else(qtg fu a.1).bind fun d=>bif decide (12000<(ae ((d.length:Int)+(a.2.length:Int)))) then(tc 1 (-4)).bind fun c=>some c else(qtq fu a.2).bind fun f=>some f
def qvu(c:List (Bs×Bs))(b:Bs):Option ((Int×Int)):=(qc8 fu c).bind fun a=>(dp a).bind fun f=>bif f then some a else(qhe fu b).bind fun e=>bif !e then(bg 10 (-3)).bind fun d=>some d else(cg).bind fun g=>some g
abbrev q7a:=Bs->wV->Int->Int->(Int×Int)->(List Bs)->Option ((Int×Int)×(List Bs))
def qvq(h:q7a):q7a:=fun f d c a e b=>bif decide (a<c) then(am d a).bind fun g=>(e7 fu g.1 f).bind fun j=>bif j then bif decide (List.length (b++([g.2]:List Bs))<=aq) then h f d c (ae (a+1)) e (b++([g.2]:List Bs)) else none else h f d c (ae (a+1)) e b else(cg).bind fun i=>some (i,b)
def qc6(fu:Nat):Nat->q7a|0=>fun _ _ _ _ _ _=>none|n+1=>qvq fu (qc6 fu n)
def qm7(a:List (Bs×Bs))(b:Bs):Option ((Int×Int)×(List Bs)):=(qvu fu a b).bind fun c=>(dp c).bind fun d=>bif d then some (c,[]) else qc6 fu fu b a (a.length:Int) 0 (0,0) []
def ly(a:Bs×Int):Option Int:=some a.2
abbrev qlb:=Int->(Bs×Int)->Option (Int ⊕ ((Bs×Int)))
def q8s(fu:Nat)(c:qlb):qlb:=fun b a=>(am a.1 a.2).bind fun d=>bif d==40 then c (ae (b+1)) (a.1,ae (a.2+1)) else bif d==41 then bif(ae (b-1))==0 then some (.inr (a.1,ae (a.2+1))) else c (ae (b-1)) (a.1,ae (a.2+1)) else bif d==92 then c b (a.1,ae ((ae (a.2+1))+1)) else c b (a.1,ae (a.2+1))
def q8r(d:qlb):qlb:=fun b a=>bif decide ((a.1.length:Int)<=a.2) then(ly a).bind fun c=>some (.inl c) else q8s fu d b a
def qtv(fu:Nat):Nat->qlb|0=>fun _ _=>none|n+1=>q8r fu (qtv fu n)
def q8q(a:Bs×Int):Option (Int ⊕ ((Bs×Int))):=qtv fu fu 0 a
abbrev q7b:=(Bs×Int)->Option (Int ⊕ ((Bs×Int)))
def qmg(b:q7b):q7b:=fun a=>bif decide (a.2<(a.1.length:Int)) then(am a.1 a.2).bind fun c=>(ny c).bind fun g=>bif g then b (a.1,ae (a.2+1)) else bif c==40 then(q8q fu a).bind fun f=>ap f (fun d=>some (.inl d)) (fun e=>b e) else some (.inr a) else some (.inr a)
def wt(fu:Nat):Nat->q7b|0=>fun _=>none|n+1=>qmg fu (wt fu n)
def qmf(a:Bs×Int):Option (Int ⊕ ((Bs×Int))):=wt fu fu a
abbrev zc7:=Int ⊕ (Bs×(Bs×Int))
abbrev qca:=(Bs×Int)->Bs->Option zc7
def qt0(fu:Nat)(d:qca):qca:=fun b a=>(am b.1 b.2).bind fun c=>bif decide (List.length (a++([c]:Bs))<=aq) then d (b.1,ae (b.2+1)) (a++([c]:Bs)) else none
def qgo(d:qca):qca:=fun a b=>(am a.1 a.2).bind fun c=>bif c==34 then some (.inr (b,(a.1,ae (a.2+1)))) else bif c==92 then bif decide ((a.1.length:Int)<=(ae (a.2+1))) then(ly (a.1,ae (a.2+1))).bind fun e=>some (.inl e) else qt0 fu d (a.1,ae (a.2+1)) b else bif decide (List.length (b++([c]:Bs))<=aq) then d (a.1,ae (a.2+1)) (b++([c]:Bs)) else none
def qtz(d:qca):qca:=fun a b=>bif decide ((a.1.length:Int)<=a.2) then(ly a).bind fun c=>some (.inl c) else qgo fu d a b
def qcs(fu:Nat):Nat->qca|0=>fun _ _=>none|n+1=>qtz fu (qcs fu n)
def qty(a:Bs×Int):Option zc7:=qcs fu fu (a.1,ae (a.2+1)) []
abbrev qzl:=Int ⊕ (((Bs×Int)) ⊕ ((Bs×Bool×(Bs×Int)) ⊕ (UInt8×(Bs×Int))))
abbrev qfs:=Int->(Bs×Int)->Option qzl
def qtx(fu:Nat)(c:qfs):qfs:=fun b a=>c b (a.1,ae (a.2+1))
def wq(d:qfs):Int->Bool->(Bs×Int)->Option qzl:=fun b c a=>bif c then qtx fu d b a else bif a.2==b then(ly a).bind fun e=>some (.inl e) else bif decide (0<=b/\b<=a.2/\a.2<=(a.1.length:Int)) then some (.inr (.inr (.inl (List.take (a.2.toNat-b.toNat) (List.drop b.toNat a.1),(false,a))))) else none
def qtw(c:qfs):qfs:=fun b a=>bif decide (a.2<(a.1.length:Int)) then(am a.1 a.2).bind fun f=>(th f).bind fun e=>bif e then wq fu c b true a else(am a.1 a.2).bind fun d=>wq fu c b (d==46) a else wq fu c b false a
def z6(fu:Nat):Nat->qfs|0=>fun _ _=>none|n+1=>qtw fu (z6 fu n)
def tp(d:Bs×Int):Option qzl:=(qmf fu d).bind fun h=>ap h (fun e=>some (.inl e)) (fun a=>bif decide ((a.1.length:Int)<=a.2) then some (.inr (.inl a)) else(am a.1 a.2).bind fun b=>bif b==34 then(qty fu a).bind fun i=>ap i (fun f=>some (.inl f)) (fun c=>some (.inr (.inr (.inl (c.1,(true,c.2)))))) else(n7 [58,59,44,64,60,62] b).bind fun g=>bif decide (0<=g) then some (.inr (.inr (.inr (b,(a.1,ae (a.2+1)))))) else z6 fu fu a.2 a)
abbrev zqx:=Int ⊕ (((Bs×Int)) ⊕ ((Bs×Bool×(Bs×Int)) ⊕ (UInt8×(Bs×Int))))
def nu(a:Bs×Int):Option zqx:=(tp fu a).bind fun g=>ap g (fun f=>some (.inl f)) (fun h=>ap h (fun d=>some (.inr (.inl (d.1,a.2)))) (fun e=>ap e (fun b=>some (.inr (.inr (.inl (b.1,(b.2.1,(b.2.2.1,a.2))))))) (fun c=>some (.inr (.inr (.inr (c.1,(c.2.1,a.2))))))))
abbrev zc8:=Int ⊕ ((Bs×Int)×(List (Bs×Bool)))
abbrev q7d:=(Bs×Int)->(List (Bs×Bool))->Option zc8
def qt1(f:q7d):q7d:=fun l a=>(nu fu l).bind fun q=>ap q (fun m=>some (.inl m)) (fun r=>ap r (fun i=>some (.inr (i,a))) (fun k=>ap k (fun b=>(tp fu b.2.2).bind fun p=>ap p (fun o=>some (.inl o)) (fun h=>ap h (fun d=>bif decide (List.length (a++([(b.1,b.2.1)]:List (Bs×Bool)))<=aq) then f d (a++([(b.1,b.2.1)]:List (Bs×Bool))) else none) (fun e=>ap e (fun g=>bif decide (List.length (a++([(b.1,b.2.1)]:List (Bs×Bool)))<=aq) then f g.2.2 (a++([(b.1,b.2.1)]:List (Bs×Bool))) else none) (fun c=>bif decide (List.length (a++([(b.1,b.2.1)]:List (Bs×Bool)))<=aq) then f c.2 (a++([(b.1,b.2.1)]:List (Bs×Bool))) else none)))) (fun j=>some (.inr (j.2,a)))))
def qgq(fu:Nat):Nat->q7d|0=>fun _ _=>none|n+1=>qt1 fu (qgq fu n)
def qcu(a:Bs×Int):Option zc8:=qgq fu fu a []
def pb(i:UInt8)(h:Bs×Int):Option (Int ⊕ (Bool×(Bs×Int))):=(nu fu h).bind fun o=>ap o (fun k=>some (.inl k)) (fun p=>ap p (fun g=>some (.inr (false,g))) (fun j=>ap j (fun q=>some (.inr (false,q.2.2))) (fun b=>bif !(b.1==i) then some (.inr (false,b.2)) else(tp fu b.2).bind fun m=>ap m (fun l=>some (.inl l)) (fun f=>ap f (fun c=>some (.inr (true,c))) (fun d=>ap d (fun e=>some (.inr (true,e.2.2))) (fun a=>some (.inr (true,a.2))))))))
def qcr(c:UInt8)(b:Bs×Int):Option (Int ⊕ ((Bs×Int))):=(pb fu c b).bind fun f=>ap f (fun d=>some (.inl d)) (fun a=>bif !a.1 then(ly a.2).bind fun e=>some (.inl e) else some (.inr a.2))
abbrev qzm:=Int ⊕ ((Bs×Bs×Bs)×(Bs×Int)×(List (Bs×Bool)))
def qmh:(Bs×Int)->(List (Bs×Bool))->(Bs×Bs×Bs)->Option qzm:=fun p g r=>(qcr fu 64 p).bind fun s=>ap s (fun q=>some (.inl q)) (fun m=>(tp fu m).bind fun j=>ap j (fun o=>some (.inl o)) (fun l=>ap l (fun k=>(ly k).bind fun b=>some (.inl b)) (fun t=>ap t (fun a=>bif a.2.1 then(ly a.2.2).bind fun e=>some (.inl e) else(ra fu a.1).bind fun f=>bif !f then(ly a.2.2).bind fun i=>some (.inl i) else bif decide (0<=(0:Int)/\(0:Int).toNat<g.length) then(g[(0:Int).toNat]?).bind fun d=>some (.inr ((([]:Bs),(d.1,a.1)),(a.2.2,g))) else none) (fun c=>(ly c.2).bind fun h=>some (.inl h)))))
def qgp:Bool->(Bs×Int)->(List (Bs×Bool))->(Bs×Bs×Bs)->Option qzm:=fun a c e b=>bif a then(ly c).bind fun d=>some (.inl d) else qmh fu c e b
def qct(b:Bs×Int)(a:List (Bs×Bool)):Option qzm:=bif(a.length:Int) != 1 then qgp fu true b a (([]:Bs),(([]:Bs),([]:Bs))) else bif decide (0<=(0:Int)/\(0:Int).toNat<a.length) then(a[(0:Int).toNat]?).bind fun e=>(ti fu e.1).bind fun f=>bif !f then qgp fu true b a (([]:Bs),(([]:Bs),([]:Bs))) else bif decide (0<=(0:Int)/\(0:Int).toNat<a.length) then(a[(0:Int).toNat]?).bind fun d=>bif !d.2 then bif decide (0<=(0:Int)/\(0:Int).toNat<a.length) then(a[(0:Int).toNat]?).bind fun c=>(wm fu c.1).bind fun g=>qgp fu (!g) b a (([]:Bs),(([]:Bs),([]:Bs))) else none else qgp fu false b a (([]:Bs),(([]:Bs),([]:Bs))) else none else none
abbrev q7h:=Int->Bs->Nat->Option Int
def zc0(fu:Nat)(d:q7h):q7h:=fun c b a=>bif Nat.blt a (b.length) then d (ae (c+1)) b (a+(cr b a).2) else some c
def qy1(fu:Nat):Nat->q7h|0=>fun _ _ _=>none|n+1=>zc0 fu (qy1 fu n)
def qy0(a:Bs):Option Int:=qy1 fu fu 0 a 0
def zch(fu:Nat)(f:qb3):qb3:=fun d b c a=>bif decide (c<(ae (b-1))) then(il d).bind fun e=>bif decide (0<=e.2/\e.2<=(d.length:Int)) then bif decide (0<=c/\c.toNat<a.length) then(a[c.toNat]?).bind fun h=>bif decide (0<=e.2/\e.2<=(d.length:Int)) then f (List.drop e.2.toNat d) b (ae (c+1)) (List.set a c.toNat (List.take e.2.toNat d)) else none else none else none else bif decide (0<b) then bif decide (0<=ae (b-1)/\(ae (b-1)).toNat<a.length) then(a[(ae (b-1)).toNat]?).bind fun g=>some (List.set a ((ae (b-1)).toNat) d) else none else some a
def qx7(fu:Nat):Nat->qb3|0=>fun _ _ _ _=>none|n+1=>zch fu (qx7 fu n)
def qx6:Bs->Int->Option ((List Bs)):=fun b a=>bif decide (0<=a/\a=a/\a<=4294967296) then qx7 fu fu b a 0 (List.replicate a.toNat []) else none
def qx5:Bs->Int->Int->Bool->Option ((List Bs)):=fun b d c a=>bif a then qx6 fu b c else qx6 fu b d
def zcg(c:Bs)(a:Int):Option ((List Bs)):=(qy0 fu c).bind fun b=>bif decide (a<0) then qx5 fu c a b true else qx5 fu c a b (decide (b<a))
abbrev q7i:=Bs->Bs->Int->Option Int
def zb3(fu:Nat)(e:q7i):q7i:=fun c a d=>(lf c a).bind fun b=>bif b==(-1) then some d else bif decide (0<=ae (b+(a.length:Int))/\ae (b+(a.length:Int))<=(c.length:Int)) then e (List.drop (ae (b+(a.length:Int))).toNat c) a (ae (d+1)) else none
def qxj(fu:Nat):Nat->q7i|0=>fun _ _ _=>none|n+1=>zb3 fu (qxj fu n)
def zb2(b:Bs)(a:Bs):Option Int:=bif(a.length:Int)==0 then(qy0 fu b).bind fun d=>some (ae (d+1)) else bif(a.length:Int)==1 then(am a 0).bind fun c=>(qmn b c).bind fun e=>some e else qxj fu fu b a 0
abbrev q7k:=Bs->Bs->Int->Int->Int->(List Bs)->Option ((List Bs))
def qnz(fu:Nat)(h:q7k):q7k:=fun c e f g a b=>bif decide (a<g) then(lf c e).bind fun d=>bif decide (d<0) then bif decide (0<=a/\a.toNat<b.length) then(b[a.toNat]?).bind fun k=>bif decide (0<=ae (a+1)/\ae (a+1)<=(List.length (List.set b a.toNat c):Int)) then some (List.take (ae (a+1)).toNat (List.set b a.toNat c)) else none else none else bif decide (0<=ae (d+f)/\ae (d+f)<=(c.length:Int)) then bif decide (0<=a/\a.toNat<b.length) then(b[a.toNat]?).bind fun j=>bif decide (0<=ae (d+(e.length:Int))/\ae (d+(e.length:Int))<=(c.length:Int)) then h (List.drop (ae (d+(e.length:Int))).toNat c) e f g (ae (a+1)) (List.set b a.toNat (List.take (ae (d+f)).toNat c)) else none else none else none else bif decide (0<=a/\a.toNat<b.length) then(b[a.toNat]?).bind fun i=>bif decide (0<=ae (a+1)/\ae (a+1)<=(List.length (List.set b a.toNat c):Int)) then some (List.take (ae (a+1)).toNat (List.set b a.toNat c)) else none else none
def w8(fu:Nat):Nat->q7k|0=>fun _ _ _ _ _ _=>none|n+1=>qnz fu (w8 fu n)
def qn0:Bs->Bs->Int->Int->Option ((List Bs)):=fun a d c b=>bif decide (0<=(if ae ((a.length:Int)+1)<b then ae ((a.length:Int)+1) else b)/\(if ae ((a.length:Int)+1)<b then ae ((a.length:Int)+1) else b)=(if ae ((a.length:Int)+1)<b then ae ((a.length:Int)+1) else b)/\(if ae ((a.length:Int)+1)<b then ae ((a.length:Int)+1) else b)<=4294967296) then w8 fu fu a d c (ae ((if ae ((a.length:Int)+1)<b then ae ((a.length:Int)+1) else b)-1)) 0 (List.replicate (if ae ((a.length:Int)+1)<b then ae ((a.length:Int)+1) else b).toNat []) else none
def qx8(c:Bs)(b:Bs)(d:Int)(a:Int):Option ((List Bs)):=bif a==0 then some [] else bif b==([]:Bs) then(zcg fu c a).bind fun e=>some e else bif decide (a<0) then(zb2 fu c b).bind fun f=>qn0 fu c b d (ae (f+1)) else qn0 fu c b d a
def qnu(b:Bs)(a:Bs)(c:Int):Option ((List Bs)):=(qx8 fu b a 0 c).bind fun d=>some d
abbrev qsy:=Bs->Int->Bs->Option (Bool×Bs)
def qob(fu:Nat)(f:qsy):Bs->Int->Bool->Bs->Option (Bool×Bs):=fun c d b a=>bif b then(am c d).bind fun e=>bif decide (List.length (a++([e]:Bs))<=aq) then f c (ae (d+1)) (a++([e]:Bs)) else none else some (false,[])
def qy9(d:qsy):qsy:=fun c b a=>bif decide (b<(c.length:Int)) then(am c b).bind fun i=>bif i==95 then bif decide (List.length (a++([32]:Bs))<=aq) then d c (ae (b+1)) (a++([32]:Bs)) else none else(am c b).bind fun f=>bif f==61 then bif decide (0<=ae (b+1)/\ae (b+1)<=(c.length:Int)) then(t6 (List.drop (ae (b+1)).toNat c)).bind fun e=>bif !e.2 then some (false,[]) else bif decide (List.length (a++([e.1]:Bs))<=aq) then d c (ae ((ae (b+2))+1)) (a++([e.1]:Bs)) else none else none else(am c b).bind fun h=>bif decide (33<=h) then(am c b).bind fun g=>qob fu d c b (decide (g<=126)) a else qob fu d c b false a else some (true,a)
def qh9(fu:Nat):Nat->qsy|0=>fun _ _ _=>none|n+1=>qy9 fu (qh9 fu n)
def qoa:Bs->Bool->Option (Bool×Bs):=fun b a=>bif a then qh9 fu fu b 0 [] else some (false,[])
def qn9:Bs->Bs->Bool->Option (Bool×Bs):=fun b a c=>bif c then bif decide (b.length<=maxLen) then(qgs fu b).bind fun d=>(qib fu d.2).bind fun e=>some (e==b,d.2) else none else bif a==([81]:Bs) then qoa fu b true else qoa fu b (a==([113]:Bs))
def qn8(a:Bs)(b:Bs):Option (Bool×Bs):=bif a==([66]:Bs) then qn9 fu b a true else qn9 fu b a (a==([98]:Bs))
abbrev q7l:=Bs->Int->Int->Int->(List Int)->Option (Int×(List Int))
def qva(fu:Nat)(g:q7l):q7l:=fun e f b c a=>bif decide (b<f) then(am e b).bind fun d=>bif decide (c<=(d.toNat:Int)) then bif decide (List.length (a++([65533]:List Int))<=aq) then g e f (ae (b+1)) c (a++([65533]:List Int)) else none else bif decide (List.length (a++([(d.toNat:Int)]:List Int))<=aq) then g e f (ae (b+1)) c (a++([(d.toNat:Int)]:List Int)) else none else some (c,a)
def qg1(fu:Nat):Nat->q7l|0=>fun _ _ _ _ _=>none|n+1=>qva fu (qg1 fu n)
def qmt(a:Bs)(b:Int):Option (Int×(List Int)):=qg1 fu fu a (a.length:Int) 0 b []
def qu8(a:Bs):Option ((List Int)):=bif decide (a.length<=4294967296) then some (gg a) else none
def qvc(b:Int)(a:Bs):Option (Int×Bs):=(am a b).bind fun c=>(am a (ae (b+1))).bind fun d=>some (IntKind.i32.wrap (((BitVec.ofInt 32 (IntKind.i32.wrap ((c.toNat:Int)*2 ^ min (8:Int).toNat 32))|||BitVec.ofInt 32 (d.toNat:Int)).toNat:Int)),a)
abbrev qfu:=Int->Bs->(List Int)->Option ((List Int))
def qmv(fu:Nat)(d:qfu):Int->Int->Bs->(List Int)->Option ((List Int)):=fun e c b a=>bif decide (55296<=c) then bif decide (c<57344) then bif decide (List.length (a++([65533]:List Int))<=aq) then d (ae (e+2)) b (a++([65533]:List Int)) else none else bif decide (List.length (a++([c]:List Int))<=aq) then d (ae (e+2)) b (a++([c]:List Int)) else none else bif decide (List.length (a++([c]:List Int))<=aq) then d (ae (e+2)) b (a++([c]:List Int)) else none
def qve(e:qfu):Int->Int->Int->Bool->Bs->(List Int)->Option ((List Int)):=fun f d g c a b=>bif c then qmv fu e (ae (f+2)) (IntKind.i32.wrap ((IntKind.i32.wrap ((IntKind.i32.wrap (65536+(IntKind.i32.wrap ((IntKind.i32.wrap (d-55296))*2 ^ min (10:Int).toNat 32))))+g))-56320)) a b else qmv fu e f d a b
def qmu(f:qfu):Int->Int->Bool->Bs->(List Int)->Option ((List Int)):=fun d e g c a=>bif g then(qvc (ae (d+2)) c).bind fun b=>bif decide (56320<=b.1) then qve fu f d e b.1 (decide (b.1<57344)) b.2 a else qve fu f d e b.1 false b.2 a else qmv fu f d e c a
def q9s(e:qfu):qfu:=fun d c a=>bif decide (d<(c.length:Int)) then bif(ae (d+1))==(c.length:Int) then bif decide (List.length (a++([65533]:List Int))<=aq) then some (a++([65533]:List Int)) else none else(qvc d c).bind fun b=>bif decide (55296<=b.1) then bif decide (b.1<56320) then qmu fu e d b.1 (decide ((ae (d+3))<(b.2.length:Int))) b.2 a else qmu fu e d b.1 false b.2 a else qmu fu e d b.1 false b.2 a else some a
def qvd(fu:Nat):Nat->qfu|0=>fun _ _ _=>none|n+1=>q9s fu (qvd fu n)
def q9r(a:Bs):Option ((List Int)):=qvd fu fu 0 a []
def qmr(s:Bs)(a:Bs):Option (Bs×(Int×Int)):=bif decide (12000<(a.length:Int)) then(bg 1 (-1)).bind fun t=>some (([]:Bs),t) else(qgz fu s).bind fun r=>ap r (fun k=>bif !k.2.1 then(bg 18 (-2)).bind fun q=>some (([]:Bs),q) else(qmt fu a k.2.2).bind fun g=>(cg).bind fun b=>some (jg g.2,b)) (fun p=>ap p (fun o=>bif !o.2 then(bg 18 (-2)).bind fun d=>some (([]:Bs),d) else(qu8 a).bind fun f=>(cg).bind fun i=>some (jg f,i)) (fun m=>ap m (fun l=>bif !l.2 then(bg 18 (-2)).bind fun c=>some (([]:Bs),c) else(q9r fu a).bind fun h=>(cg).bind fun j=>some (jg h,j)) (fun u=>bif !u.2 then(bg 18 (-2)).bind fun e=>some (([]:Bs),e) else none)))
def qzc:(List Bs)->Option (Bs×Int×Bool):=fun a=>(am a 1).bind fun i=>(am a 2).bind fun j=>(qn8 fu i j).bind fun e=>(am a 0).bind fun h=>(qmr fu h e.2).bind fun b=>(am a 0).bind fun c=>(am a 1).bind fun d=>(am a 2).bind fun f=>bif e.1 then(dp b.2).bind fun g=>some (b.1,(ae ((ae ((ae ((ae (2+(c.length:Int)))+(d.length:Int)))+(f.length:Int)))+4),!g)) else some (b.1,(ae ((ae ((ae ((ae (2+(c.length:Int)))+(d.length:Int)))+(f.length:Int)))+4),false))
def qoe:(List Bs)->Bool->Option (Bs×Int×Bool):=fun b a=>bif a then some (([]:Bs),(0,false)) else qzc fu b
def qdm(a:Bs):Option (Bs×Int×Bool):=(mv a [61,63]).bind fun e=>bif !e then some (([]:Bs),(0,false)) else bif decide (0<=(2:Int)/\2<=(if 75<(a.length:Int) then 75 else(a.length:Int))/\(if 75<(a.length:Int) then 75 else(a.length:Int))<=(a.length:Int)) then(qnu fu (List.take ((if 75<(a.length:Int) then 75 else(a.length:Int)).toNat-(2:Int).toNat) (List.drop (2:Int).toNat a)) [63] 4).bind fun b=>bif decide ((b.length:Int)<4) then qoe fu b true else(am b 3).bind fun c=>(mv c [61]).bind fun d=>qoe fu b (!d) else none
def qdg(a:Bs)(c:Bs):Option (Int×Bs):=(pc c).bind fun b=>bif decide (List.length (b++a)<=aq) then some ((a.length:Int),b++a) else none
abbrev zf:=Bs->Int->Int->(Int×Int)->Bs->Option (Bs×(Int×Int))
def qh7(fu:Nat)(d:zf):zf:=fun e f c a b=>d e f (ae (c+1)) a b
def qh6(g:zf):Bs->Int->Int->Bool->(Int×Int)->Bs->Option (Bs×(Int×Int)):=fun e d a f b c=>bif f then bif decide (0<=d/\d<=ae (a+1)/\ae (a+1)<=(e.length:Int)) then(qdg (List.take ((ae (a+1)).toNat-d.toNat) (List.drop d.toNat e)) c).bind fun h=>qh7 fu g e (-1) a b h.2 else none else qh7 fu g e d a b c
def qh5(f:zf):zf:=fun d e c a b=>bif decide (0<=e) then(am d c).bind fun h=>(ny h).bind fun g=>qh6 fu f d e c (!g) a b else qh6 fu f d e c false a b
def qan(g:zf):zf:=fun c e b d a=>bif decide (b<(c.length:Int)) then bif decide (0<=b/\b<=(c.length:Int)) then(qdm fu (List.drop b.toNat c)).bind fun f=>bif !f.2.2 then bif decide (e<0) then(am c b).bind fun i=>(qdf i a).bind fun m=>qh5 fu g c e b d m else qh5 fu g c e b d a else(qdg f.1 a).bind fun j=>g c (ae (b+f.2.1)) (ae (b+f.2.1)) d j.2 else none else bif decide (0<=e) then bif decide (0<=e/\e<=(c.length:Int)) then(qdg (List.drop e.toNat c) a).bind fun p=>(z7 p.2).bind fun k=>(cg).bind fun o=>some (k,o) else none else(z7 a).bind fun l=>(cg).bind fun h=>some (l,h)
def pd(fu:Nat):Nat->zf|0=>fun _ _ _ _ _=>none|n+1=>qan fu (pd fu n)
def qh4(a:Bs):Option (Bs×(Int×Int)):=bif decide (4000<(a.length:Int)) then(bg 1 (-1)).bind fun b=>some (([]:Bs),b) else pd fu fu a (-1) 0 (0,0) []
abbrev zqu:=(List Bs)×(List Bs)
def zw(b:List Bs)(a:List Bs):Option zqu:=bif decide (0<(b.length:Int)) then(f9 b [32]).bind fun d=>(qh4 fu d).bind fun c=>bif decide (List.length (a++([c.1]:List Bs))<=aq) then some ([],a++([c.1]:List Bs)) else none else some (b,a)
abbrev q7n:=(List (Bs×Bool))->Int->Int->(List Bs)->(List Bs)->Option (Bs)
def qco(h:q7n):q7n:=fun f d a c b=>bif decide (a<d) then(am f a).bind fun e=>bif e.2 then(zw fu b c).bind fun g=>bif decide (List.length (g.2++([e.1]:List Bs))<=aq) then h f d (ae (a+1)) (g.2++([e.1]:List Bs)) g.1 else none else bif decide (List.length (b++([e.1]:List Bs))<=aq) then h f d (ae (a+1)) c (b++([e.1]:List Bs)) else none else(zw fu b c).bind fun j=>(f9 j.2 [32]).bind fun i=>some i
def tn(fu:Nat):Nat->q7n|0=>fun _ _ _ _ _=>none|n+1=>qco fu (tn fu n)
def tj(a:List (Bs×Bool)):Option (Bs):=tn fu fu a (a.length:Int) 0 [] []
abbrev zqw:=Int ⊕ ((Bs×Bs×Bs)×(Bs×Int)×(List (Bs×Bool)))
def zz(q:Bs×Int)(e:List (Bs×Bool)):Option zqw:=(pb fu 60 q).bind fun s=>ap s (fun r=>some (.inl r)) (fun c=>bif !c.1 then(qct fu c.2 e).bind fun l=>ap l (fun p=>some (.inl p)) (fun m=>some (.inr m)) else(qcu fu c.2).bind fun o=>ap o (fun k=>some (.inl k)) (fun j=>(qct fu j.1 j.2).bind fun h=>ap h (fun d=>some (.inl d)) (fun a=>(tj fu e).bind fun g=>(qcr fu 62 a.2.1).bind fun i=>ap i (fun f=>some (.inl f)) (fun b=>some (.inr ((g,a.1.2),(b,e)))))))
abbrev qzk:=Int ⊕ ((Bs×Bool×(List (Bs×Bs×Bs)))×(Bs×Int))
abbrev q7p:=(Bs×Int)->Bs->Bool->Bs->(List (Bs×Bs×Bs))->Option qzk
def qmd(m:q7p):q7p:=fun q a c d b=>(qcu fu q).bind fun s=>ap s (fun r=>some (.inl r)) (fun j=>(zz fu j.1 j.2).bind fun l=>ap l (fun p=>some (.inl p)) (fun e=>bif decide (List.length (b++([e.1]:List (Bs×Bs×Bs)))<=aq) then(pb fu 59 e.2.1).bind fun o=>ap o (fun k=>some (.inl k)) (fun f=>bif f.1 then some (.inr ((d,(true,b++([e.1]:List (Bs×Bs×Bs)))),f.2)) else(qcr fu 44 f.2).bind fun h=>ap h (fun g=>some (.inl g)) (fun i=>m i a c d (b++([e.1]:List (Bs×Bs×Bs))))) else none))
def qcq(fu:Nat):Nat->q7p|0=>fun _ _ _ _ _=>none|n+1=>qmd fu (qcq fu n)
def qme:(Bs×Int)->Bs->Bool->Bs->Option qzk:=fun e b a c=>(pb fu 59 e).bind fun g=>ap g (fun f=>some (.inl f)) (fun d=>bif d.1 then some (.inr ((c,(true,[])),d.2)) else qcq fu fu d.2 b a c [])
def qcp(h:Bs×Int):Option qzk:=(qcu fu h).bind fun k=>ap k (fun i=>some (.inl i)) (fun d=>(pb fu 58 d.1).bind fun j=>ap j (fun l=>some (.inl l)) (fun b=>bif !b.1 then(zz fu b.2 d.2).bind fun g=>ap g (fun f=>some (.inl f)) (fun e=>some (.inr ((([]:Bs),(false,([e.1]:List (Bs×Bs×Bs)))),e.2.1))) else(tj fu d.2).bind fun a=>bif a==([]:Bs) then(ly b.2).bind fun c=>some (.inl c) else qme fu b.2 [] false a))
abbrev qoj:=(Int×Bs) ⊕ ((List (Bs×Bool×(List (Bs×Bs×Bs))))×(Int×Int))
abbrev q7r:=Bs->(Int×Int)->(Bs×Int)->(List (Bs×Bool×(List (Bs×Bs×Bs))))->Option qoj
def qcj:(Bs->(Int×Int)->(List (Bs×Bool×(List (Bs×Bs×Bs))))->Option qoj):=fun g f a=>(zm fu a).bind fun b=>(dp b).bind fun e=>bif e then(bg b.1 (-2)).bind fun d=>some (.inr ([],d)) else(cg).bind fun c=>some (.inr (a,c))
def qci(s:q7r):q7r:=fun b k i a=>(pb fu 44 i).bind fun u=>ap u (fun t=>some (.inl (t,b))) (fun f=>bif f.1 then(qcp fu f.2).bind fun m=>ap m (fun q=>some (.inl (q,b))) (fun e=>bif decide (List.length (a++([e.1]:List (Bs×Bool×(List (Bs×Bs×Bs)))))<=aq) then s b k e.2 (a++([e.1]:List (Bs×Bool×(List (Bs×Bs×Bs))))) else none) else(nu fu f.2).bind fun o=>ap o (fun l=>some (.inl (l,b))) (fun r=>ap r (fun p=>qcj fu b k a) (fun d=>ap d (fun j=>(ly j.2.2).bind fun h=>some (.inl (h,b))) (fun g=>(ly g.2).bind fun c=>some (.inl (c,b))))))
def mt(fu:Nat):Nat->q7r|0=>fun _ _ _ _=>none|n+1=>qci fu (mt fu n)
def zt:Bs->(Int×Int)->Option qoj:=fun a e=>(nu fu (a,0)).bind fun l=>ap l (fun i=>some (.inl (i,a))) (fun m=>ap m (fun p=>qcj fu a e []) (fun h=>ap h (fun o=>(qcp fu o.2.2).bind fun k=>ap k (fun j=>some (.inl (j,a))) (fun b=>bif decide (List.length ([b.1]:List (Bs×Bool×(List (Bs×Bs×Bs))))<=aq) then mt fu fu a e b.2 ([b.1]:List (Bs×Bool×(List (Bs×Bs×Bs)))) else none)) (fun g=>(qcp fu g.2).bind fun d=>ap d (fun f=>some (.inl (f,a))) (fun c=>bif decide (List.length ([c.1]:List (Bs×Bool×(List (Bs×Bs×Bs))))<=aq) then mt fu fu a e c.2 ([c.1]:List (Bs×Bool×(List (Bs×Bs×Bs)))) else none))))
def qgj(c:Bs)(a:Int)(b:Int):Option qoj:=zt fu c (a,b)
abbrev qzj:=(List (Bs×Bool×(List (Bs×Bs×Bs))))×(Int×Int)
def zq:Bs->(Int×Int)->Option qzj:=fun c a=>(qgj fu c a.1 a.2).bind fun d=>ap d (fun b=>some ([],(11,if(b.2.length:Int)<b.1 then(b.2.length:Int) else b.1))) (fun e=>some e)
def zp(a:Bs):Option qzj:=bif decide (4000<(a.length:Int)) then(bg 1 (-1)).bind fun b=>some ([],b) else zq fu a (0,0)
abbrev q7t:=(List (Bs×Bs×Bs))->(List (Bs×Bs×Bs))->Int->Option Bool
def qtk(fu:Nat)(f:q7t):q7t:=fun b e a=>bif decide (a<(b.length:Int)) then(am b a).bind fun c=>(am e a).bind fun d=>bif !((c.1==d.1)&&((c.2.1==d.2.1)&&((c.2.2==d.2.2)&&true))) then some false else f b e (ae (a+1)) else some true
def qgb(fu:Nat):Nat->q7t|0=>fun _ _ _=>none|n+1=>qtk fu (qgb fu n)
def ql2(b:List (Bs×Bs×Bs))(a:List (Bs×Bs×Bs)):Option Bool:=bif(b.length:Int) != (a.length:Int) then some false else qgb fu fu b a 0
abbrev q7u:=(List (Bs×Bool×(List (Bs×Bs×Bs))))->(List (Bs×Bool×(List (Bs×Bs×Bs))))->Int->Option Bool
def qtl(g:q7u):q7u:=fun b c a=>bif decide (a<(b.length:Int)) then(am b a).bind fun h=>(am c a).bind fun j=>bif !(h.1==j.1) then some false else(am b a).bind fun f=>(am c a).bind fun e=>bif !(f.2.1==e.2.1) then some false else(am b a).bind fun k=>(am c a).bind fun d=>(ql2 fu k.2.2 d.2.2).bind fun i=>bif !i then some false else g b c (ae (a+1)) else some true
def qgd(fu:Nat):Nat->q7u|0=>fun _ _ _=>none|n+1=>qtl fu (qgd fu n)
def qgc(b:List (Bs×Bool×(List (Bs×Bs×Bs))))(a:List (Bs×Bool×(List (Bs×Bs×Bs)))):Option Bool:=bif(b.length:Int) != (a.length:Int) then some false else qgd fu fu b a 0
def qts:((List (Bs×Bool×(List (Bs×Bs×Bs))))->(List Bs)->Option Bool):=fun c a=>bif decide (0<=(0:Int)/\(0:Int).toNat<a.length) then(a[(0:Int).toNat]?).bind fun e=>(zp fu e).bind fun b=>bif b.2.1==0 then(qgc fu b.1 c).bind fun d=>some d else some false else none
def qgi:((List (Bs×Bool×(List (Bs×Bs×Bs))))->Bool->(List Bs)->Option Bool):=fun c b a=>bif b then some false else qts fu c a
def qch(b:List (Bs×Bool×(List (Bs×Bs×Bs))))(e:Bs):Option Bool:=(qtt fu).bind fun h=>bif !h then some false else(qgk fu b).bind fun c=>bif c.2.1 != 0 then some (c.1==([]:Bs)) else(qhj fu (([(([68,97,116,101]:Bs),([120]:Bs)),(([84,111]:Bs),c.1)]:List (Bs×Bs)),e)).bind fun d=>bif d.1.1 != 0 then(ql4 fu (([(([68,97,116,101]:Bs),([120]:Bs)),(([84,111]:Bs),c.1)]:List (Bs×Bs)),e)).bind fun g=>bif g.1 != 0 then some ((d.2.length:Int)==0) else some false else(qhi fu d.2).bind fun f=>(qm7 fu f.1.1 [116,111]).bind fun a=>bif f.2.1 != 0 then qgi fu b true a.2 else bif a.1.1 != 0 then qgi fu b true a.2 else qgi fu b ((a.2.length:Int) != 1) a.2
end
end Go.Sym

