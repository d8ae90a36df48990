/- What the claim rests on, part 4: gathered texts. -/
import Derived.Test.YtdnaaelkpgijeabGreatDoorSyP3
set_option linter.defProp false
set_option linter.unusedSimpArgs false
set_option linter.unusedVariables false
namespace Go.Sym
set_option linter.unusedVariables false
abbrev wU : Type := Tree (List (Bs × Bs) × Bs)
abbrev wV : Type := List (Bs × Bs)
section
variable(fu:Nat)
def qpa:List UInt8:=[240,240,240,240,240,240,240,240,240,240,240,240,240,240,240,240,240,240,240,240,240,240,240,240,240,240,240,240,240,240,240,240,240,240,240,240,240,240,240,240,240,240,240,240,240,240,240,240,240,240,240,240,240,240,240,240,240,240,240,240,240,240,240,240,240,240,240,240,240,240,240,240,240,240,240,240,240,240,240,240,240,240,240,240,240,240,240,240,240,240,240,240,240,240,240,240,240,240,240,240,240,240,240,240,240,240,240,240,240,240,240,240,240,240,240,240,240,240,240,240,240,240,240,240,240,240,240,240,241,241,241,241,241,241,241,241,241,241,241,241,241,241,241,241,241,241,241,241,241,241,241,241,241,241,241,241,241,241,241,241,241,241,241,241,241,241,241,241,241,241,241,241,241,241,241,241,241,241,241,241,241,241,241,241,241,241,241,241,241,241,241,241,241,241,2,2,2,2,2,2,2,2,2,2,2,2,2,2,2,2,2,2,2,2,2,2,2,2,2,2,2,2,2,2,19,3,3,3,3,3,3,3,3,3,3,3,3,35,3,3,52,4,4,4,68,241,241,241,241,241,241,241,241,241,241,241]
def qpb:List (UInt8×UInt8):=[(128,191),(160,191),(128,159),(144,191),(128,143),(0,0),(0,0),(0,0),(0,0),(0,0),(0,0),(0,0),(0,0),(0,0),(0,0),(0,0)]
def z09:List Int:=[1,10,100,1000,10000,100000,1000000,10000000,100000000,1000000000,10000000000,100000000000,1000000000000,10000000000000,100000000000000,1000000000000000,10000000000000000,100000000000000000,1000000000000000000,10000000000000000000]
def aq(b:Int)(a:Int):Option ((Int×Int)):=some (b,a)
def q8l(a:UInt8):Option Bool:=bif decide (33<=a) then bif decide (a<=126) then some (a != 58) else some false else some false
abbrev dy:=Bs->Int->Int->Option Bool
def q66(fu:Nat)(d:dy):dy:=fun c b a=>bif decide (a<b) then(am c a).bind fun f=>(q8l f).bind fun e=>bif !e then some false else d c b (ae (a+1)) else some true
def qrk(fu:Nat):Nat->dy|0=>fun _ _ _=>none|n+1=>q66 fu (qrk fu n)
def q65(a:Bs):Option Bool:=qrk fu fu a (a.length:Int) 0
def q8k(a:Bs):Option Bool:=bif !(a==([]:Bs)) then bif decide ((a.length:Int)<=60) then(q65 fu a).bind fun b=>some b else some false else some false
def zck(a:Int):Option Bool:=some (decide (8<a))
abbrev qec:=Bs->Int->(List Bool)->Option ((List Bool)×Bool)
def zcj(fu:Nat)(e:qec):qec:=fun c b a=>bif decide (b<(c.length:Int)) then(am c b).bind fun d=>bif decide (128<=d) then bif decide (a.length=256) then bif decide (a.length=a.length)&&decide (a.length=256) then bif decide (a.length=256)&&(true&&true) then some (a,false) else none else none else none else(a[d.toNat]?).bind fun f=>e c (ae (b+1)) (List.set a d.toNat true) else bif decide (a.length=256) then bif decide (a.length=a.length)&&decide (a.length=256) then bif decide (a.length=256)&&(true&&true) then some (a,true) else none else none else none
def qww(fu:Nat):Nat->qec|0=>fun _ _ _=>none|n+1=>zcj fu (qww fu n)
def qbs(a:Bs):Option ((List Bool)×Bool):=qww fu fu a 0 (List.replicate 256 false)
def q88(c:Bs)(a:UInt8):Option Int:=(ut c a).bind fun b=>some b
def sn(c:Bs)(a:UInt8):Option Int:=(q88 c a).bind fun b=>some b
def zc8(a:Int):Option Bool:=bif decide (0<=a) then bif decide (a<55296) then some true else bif decide (57343<a) then bif decide (a<=1114111) then some true else some false else some false else bif decide (57343<a) then bif decide (a<=1114111) then some true else some false else some false
abbrev q60:=Bs->Nat->Option Int
abbrev q61:=Bs->Bs->Int->Int->Int->Option Int
abbrev qar:=Bs->Bs->Int->Int->Option Int
def zby(fu:Nat)(c:q60):q60:=fun b a=>bif Nat.blt a (b.length) then bif(((d8 b a).1:Nat):Int)==65533 then some ((a:Nat):Int) else c b (a+(d8 b a).2) else some (-1)
def qv4(fu:Nat):Nat->q60|0=>fun _ _=>none|n+1=>zby fu (qv4 fu n)
def zb0(fu:Nat)(i:qar)(g:q61):q61:=fun e b c d a=>bif decide (a<(b.length:Int)) then(am e (ae (d-a))).bind fun h=>(am b (ae (c-a))).bind fun f=>bif h != f then none else g e b c d (ae (a+1)) else some (ae (d-c))
def qv7(fu:Nat)(a:qar):Nat->q61|0=>fun _ _ _ _ _=>none|n+1=>zb0 fu a (qv7 fu a n)
def qv6(a:qar):qar:=fun d b c e=>qv7 fu a fu d b c e 1
def zbz(e:qar):qar:=fun b c d a=>bif decide (a<(b.length:Int)) then(am b a).bind fun i=>(am c d).bind fun g=>bif i != g then bif decide (0<=ae (a+1)/\ae (a+1)<=(b.length:Int)) then(am c d).bind fun h=>(sn (List.drop (ae (a+1)).toNat b) h).bind fun f=>bif decide (f<0) then some (-1) else qv6 fu e b c d (ae (a+(ae (f+1)))) else none else qv6 fu e b c d a else some (-1)
def qv5(fu:Nat):Nat->qar|0=>fun _ _ _ _=>none|n+1=>zbz fu (qv5 fu n)
def qv3:Bs->Int->Bool->Option Int:=fun c a b=>bif b then(sn c (di a)).bind fun d=>some d else bif a==65533 then qv4 fu fu c 0 else(zc8 a).bind fun e=>bif !e then some (-1) else qv5 fu fu c (l7 a) (ae ((List.length (l7 a):Int)-1)) (ae ((List.length (l7 a):Int)-1))
def qli(b:Bs)(a:Int):Option Int:=bif decide (0<=a) then qv3 fu b a (decide (a<128)) else qv3 fu b a false
def qlk(c:UInt8)(a:List Bool):Option (Bool×(List Bool)):=(a[c.toNat]?).bind fun b=>some (b,a)
abbrev q4f:=Bs->Int->(List Bool)->Option Int
abbrev q4g:=Bs->Bs->Nat->Option Int
def qvz:Bs->Int->Option Int:=fun b c=>(qli fu b c).bind fun a=>some a
def zbw(fu:Nat)(e:q4f):q4f:=fun c a b=>bif decide (a<(c.length:Int)) then(am c a).bind fun f=>(qlk f b).bind fun d=>bif d.1 then some a else e c (ae (a+1)) d.2 else some (-1)
def qv0(fu:Nat):Nat->q4f|0=>fun _ _ _=>none|n+1=>zbw fu (qv0 fu n)
def zbx(d:q4g):q4g:=fun c b a=>bif Nat.blt a (b.length) then(qli fu c (((d8 b a).1:Nat):Int)).bind fun e=>bif decide (0<=e) then some ((a:Nat):Int) else d c b (a+(d8 b a).2) else some (-1)
def qv2(fu:Nat):Nat->q4g|0=>fun _ _ _=>none|n+1=>zbx fu (qv2 fu n)
def qv1:Bs->Bs->Option Int:=fun a b=>qv2 fu fu b a 0
def zbv(b:Bs)(a:Bs):Option Int:=bif a==([]:Bs) then some (-1) else bif(a.length:Int)==1 then(am a 0).bind fun d=>bif decide (128<=(d.toNat:Int)) then qvz fu b 65533 else qvz fu b (d.toNat:Int) else(zck (b.length:Int)).bind fun e=>bif e then(qbs fu a).bind fun c=>bif decide (c.1.length=List.length (List.replicate 256 false))&&decide (c.1.length=256) then bif c.2 then qv0 fu fu b 0 c.1 else qv1 fu b a else none else qv1 fu b a
def zbr(c:Bs)(a:Bs):Option Bool:=(zbv fu c a).bind fun b=>some (decide (0<=b))
def q8j(b:Bs):Option Bool:=(zbr fu b [13,10,0]).bind fun a=>some a
def oq(a:UInt8):Option Bool:=bif a==32 then some true else some (a==9)
def q8o(a:Bs):Option Bool:=(q8j fu a).bind fun c=>bif !c then bif a==([]:Bs) then some true else(am a 0).bind fun b=>(oq b).bind fun d=>bif !d then(am a (ae ((a.length:Int)-1))).bind fun e=>(oq e).bind fun f=>some (!f) else some false else some false
abbrev ug:=Bs->Int->Int->Option Int
def qs1(fu:Nat)(c:ug):Bs->Int->Int->Bool->Option Int:=fun d e a b=>bif b then c d e (ae (a+1)) else bif decide (0<e) then bif decide (78<a) then some e else c d a (ae (a+1)) else c d a (ae (a+1))
def q8n(d:ug):ug:=fun b c a=>bif decide (a<(b.length:Int)) then(am b a).bind fun h=>(oq h).bind fun g=>bif !g then qs1 fu d b c a true else(am b (ae (a-1))).bind fun f=>(oq f).bind fun e=>qs1 fu d b c a e else some c
def qs0(fu:Nat):Nat->ug|0=>fun _ _ _=>none|n+1=>q8n fu (qs0 fu n)
def q8m(b:Bs)(a:Int):Option Int:=qs0 fu fu b 0 (if 1>a then 1 else a)
def cd:Option ((Int×Int)):=some (0,0)
abbrev q4w:=Int->Int->(Int×Int)->(List Bs)->Option ((Int×Int)×(List Bs))
abbrev q4v:=Bs->Int->(Int×Int)->(List Bs)->Option ((Int×Int)×(List Bs))
def q8i(fu:Nat)(e:q4w):q4w:=fun c a d b=>bif decide (a<c) then bif decide (0<=a/\a.toNat<b.length) then(b[a.toNat]?).bind fun g=>bif decide (998<(g.length:Int)) then(aq 1 a).bind fun h=>some (h,[]) else e c (ae (a+1)) d b else none else(cd).bind fun f=>some (f,b)
def qsz(fu:Nat):Nat->q4w|0=>fun _ _ _ _=>none|n+1=>q8i fu (qsz fu n)
def qsy:Bs->(Int×Int)->(List Bs)->Option ((Int×Int)×(List Bs)):=fun c b a=>bif decide (List.length (a++([c]:List Bs))<=ao) then qsz fu fu (List.length (a++([c]:List Bs)):Int) 0 b (a++([c]:List Bs)) else none
def q8h(f:q4v):q4v:=fun a e d b=>bif decide (78<(a.length:Int)) then(q8m fu a e).bind fun c=>bif c==0 then qsy fu a d b else bif decide (0<=c/\c<=(a.length:Int)) then bif decide (List.length (b++([List.take c.toNat a]:List Bs))<=ao) then bif decide (0<=c/\c<=(a.length:Int)) then f (List.drop c.toNat a) 0 d (b++([List.take c.toNat a]:List Bs)) else none else none else none else qsy fu a d b
def qsx(fu:Nat):Nat->q4v|0=>fun _ _ _ _=>none|n+1=>q8h fu (qsx fu n)
def qkk(a:Bs)(b:Bs):Option ((Int×Int)×(List Bs)):=(q8k fu a).bind fun d=>bif !d then(aq 10 (-1)).bind fun f=>some (f,[]) else bif decide (4000<(b.length:Int)) then(aq 1 (-1)).bind fun e=>some (e,[]) else(q8o fu b).bind fun c=>bif !c then(aq 11 (-1)).bind fun g=>some (g,[]) else bif decide (a.length+List.length ([58,32]:Bs)<=bz) then bif decide (List.length (a++[58,32])+b.length<=bz) then qsx fu fu ((a++[58,32])++b) (ae ((a.length:Int)+2)) (0,0) [] else none else none
def ck(a:Int×Int):Option Bool:=some (a.1 != 0)
abbrev q44:=wV->Int->Int->(Int×Int)->Option ((Int×Int))
def q82(h:q44):q44:=fun c b a d=>bif decide (a<b) then(am c a).bind fun e=>(qkk fu e.1 e.2).bind fun f=>(ck f.1).bind fun i=>bif i then(aq f.1.1 a).bind fun g=>some g else h c b (ae (a+1)) d else(cd).bind fun j=>some j
def qtj(fu:Nat):Nat->q44|0=>fun _ _ _ _=>none|n+1=>q82 fu (qtj fu n)
def qti(a:List (Bs×Bs)):Option ((Int×Int)):=bif decide (60<(a.length:Int)) then(aq 2 (-1)).bind fun b=>some b else qtj fu fu a (a.length:Int) 0 (0,0)
abbrev q47:=wV->Int->Int->Int->Int->(wV×Bs)->(List Bs)->Bs->Option (Bs)
abbrev qi3:=wV->Int->Int->(wV×Bs)->Bs->Option (Bs)
def zaf(fu:Nat)(j:qi3)(k:q47):q47:=fun h f d e a g c b=>bif decide (a<e) then bif decide (0<=a/\a.toNat<c.length) then(c[a.toNat]?).bind fun i=>bif decide (List.length (b++i)<=ao) then bif decide (List.length ((b++i)++([13,10]:Bs))<=ao) then k h f d e (ae (a+1)) g c ((b++i)++([13,10]:Bs)) else none else none else none else j h f (ae (d+1)) g b
def qui(fu:Nat)(a:qi3):Nat->q47|0=>fun _ _ _ _ _ _ _ _=>none|n+1=>zaf fu a (qui fu a n)
def zae(h:qi3):qi3:=fun e d b c a=>bif decide (b<d) then(am e b).bind fun f=>(qkk fu f.1 f.2).bind fun g=>qui fu h fu e d b (g.2.length:Int) 0 c g.2 a else bif decide (List.length (a++([13,10]:Bs))<=ao) then bif decide (List.length ((a++([13,10]:Bs))++c.2)<=ao) then some ((a++([13,10]:Bs))++c.2) else none else none
def quh(fu:Nat):Nat->qi3|0=>fun _ _ _ _ _=>none|n+1=>zae fu (quh fu n)
def qug(a:wV×Bs):Option (Bs):=quh fu fu a.1 (a.1.length:Int) 0 a []
def q7i(fu:Nat)(d:ug):Bs->Int->Int->UInt8->Option Int:=fun e a c b=>bif b==13 then some 11 else bif b==10 then some 11 else bif decide (998<(ae (a+1))) then some 1 else d e (ae (a+1)) (ae (c+1))
def qj6(c:ug):Bs->Int->Int->UInt8->Bool->Option Int:=fun d e b f a=>bif a then c d 0 (ae ((ae (b+1))+1)) else q7i fu c d e b f
def q7h(e:ug):ug:=fun b d a=>bif decide (a<(b.length:Int)) then(am b a).bind fun c=>bif c==13 then bif decide ((ae (a+1))<(b.length:Int)) then(am b (ae (a+1))).bind fun f=>qj6 fu e b d a c (f==10) else qj6 fu e b d a c false else qj6 fu e b d a c false else some 0
def qru(fu:Nat):Nat->ug|0=>fun _ _ _=>none|n+1=>q7h fu (qru fu n)
def qrt(a:Bs):Option Int:=qru fu fu a 0 0
def zab(b:Bs):Option ((Int×Int)):=(qrt fu b).bind fun a=>bif a==11 then(aq 11 (-5)).bind fun e=>some e else bif a==1 then(aq 1 (-6)).bind fun d=>some d else(cd).bind fun c=>some c
def qkv(a:wV×Bs):Option ((Int×Int)):=(qti fu a.1).bind fun b=>(ck b).bind fun e=>bif e then some b else(qug fu a).bind fun d=>bif decide (12000<(d.length:Int)) then(aq 1 (-4)).bind fun c=>some c else(zab fu a.2).bind fun f=>some f
def zaa(a:wV×Bs):Option ((Int×Int)×Bs):=(qkv fu a).bind fun b=>(ck b).bind fun e=>bif e then some (b,[]) else(qug fu a).bind fun d=>(cd).bind fun c=>some (c,d)
def qe7(c:Bs)(a:UInt8):Option Int:=(ut c a).bind fun b=>some b
def qr1(b:Bs)(a:Bs):Option Bool:=some (b==a)
def qr2(a:Bs)(b:Bs):Option Bool:=bif decide ((b.length:Int)<=(a.length:Int)) then bif decide (0<=ae ((a.length:Int)-(b.length:Int))/\ae ((a.length:Int)-(b.length:Int))<=(a.length:Int)) then(qr1 (List.drop (ae ((a.length:Int)-(b.length:Int))).toNat a) b).bind fun c=>some c else none else some false
def qj9(a:Bs)(b:Bs):Option (Bs):=(qr2 a b).bind fun c=>bif c then bif decide (0<=ae ((a.length:Int)-(b.length:Int))/\ae ((a.length:Int)-(b.length:Int))<=(a.length:Int)) then some (List.take (ae ((a.length:Int)-(b.length:Int))).toNat a) else none else some a
def q84(a:Bs):Option (Bs×Int):=(qe7 a 10).bind fun b=>bif decide (b<0) then some (a,(a.length:Int)) else bif decide (0<=b/\b<=(a.length:Int)) then bif decide (0<List.length ([13]:Bs)) then(qj9 (List.take b.toNat a) ([13]:Bs)).bind fun c=>some (c,ae (b+1)) else none else none
def qf4(a:List Bs):Option (Int×Int×Int×(List Bs)):=bif(Int.tmod (a.length:Int) 2)==1 then none else bif decide (a.length<=ao) then some (0,(0,(0,a))) else none
def q86(b:Bs)(c:Bs):Option (Bs×Bs×Bool):=(qn b c).bind fun a=>bif decide (0<=a) then bif decide (0<=a/\a<=(b.length:Int)) then bif decide (0<=ae (a+(c.length:Int))/\ae (a+(c.length:Int))<=(b.length:Int)) then some (List.take a.toNat b,(List.drop (ae (a+(c.length:Int))).toNat b,true)) else none else none else some (b,(([]:Bs),false))
def qvx(c:Bs)(a:Bs):Option (Bs×Bs×Bool):=(q86 c a).bind fun b=>some b
abbrev uj:=Bs->UInt8->Option (Bs)
def zcw(fu:Nat)(c:uj):uj:=fun a b=>bif decide (0<(a.length:Int)) then(am a (ae ((a.length:Int)-1))).bind fun d=>bif d==b then bif decide (0<=ae ((a.length:Int)-1)/\ae ((a.length:Int)-1)<=(a.length:Int)) then c (List.take (ae ((a.length:Int)-1)).toNat a) b else none else some a else some a
def qxc(fu:Nat):Nat->uj|0=>fun _ _=>none|n+1=>zcw fu (qxc fu n)
def qxb(b:Bs)(a:UInt8):Option (Bs):=qxc fu fu b a
abbrev uk:=Bs->(List Bool)->Option (Bs×(List Bool))
def zcv(fu:Nat)(d:uk):uk:=fun a c=>bif decide (0<(a.length:Int)) then(am a (ae ((a.length:Int)-1))).bind fun e=>(qlk e c).bind fun b=>bif !b.1 then some (a,b.2) else bif decide (0<=ae ((a.length:Int)-1)/\ae ((a.length:Int)-1)<=(a.length:Int)) then d (List.take (ae ((a.length:Int)-1)).toNat a) b.2 else none else some (a,c)
def qxa(fu:Nat):Nat->uk|0=>fun _ _=>none|n+1=>zcv fu (qxa fu n)
def qw9(b:Bs)(a:List Bool):Option (Bs×(List Bool)):=qxa fu fu b a
def qxr(a:UInt8):Option Bool:=some ((a&&&192) != 128)
abbrev qqe:=Bs->Int->Int->Option (Int×Int)
abbrev qd8:=Bs->Int->Int->Int->Option (Int×Int)
def qxj(fu:Nat):qqe:=fun c b a=>bif decide (0<=a/\a<=b/\b<=(c.length:Int)) then(iz (List.take (b.toNat-a.toNat) (List.drop a.toNat c))).bind fun d=>bif(ae (a+d.2)) != b then some (65533,1) else some d else none
def qxi:qqe:=fun a c b=>bif decide (b<0) then qxj fu a c 0 else qxj fu a c b
def zc4(e:qd8):qd8:=fun b c a d=>bif decide (d<=a) then(am b a).bind fun g=>(qxr g).bind fun f=>bif f then qxi fu b c a else e b c (ae (a-1)) d else qxi fu b c a
def qxh(fu:Nat):Nat->qd8|0=>fun _ _ _ _=>none|n+1=>zc4 fu (qxh fu n)
def zc3(a:Bs):Option (Int×Int):=bif(a.length:Int)==0 then some (65533,0) else(am a (ae ((a.length:Int)-1))).bind fun b=>bif decide ((b.toNat:Int)<128) then some ((b.toNat:Int),1) else qxh fu fu a (a.length:Int) (ae ((ae ((a.length:Int)-1))-1)) (if 0>ae ((a.length:Int)-4) then 0 else ae ((a.length:Int)-4))
def qlh(c:Bs)(a:Int):Option Bool:=(qli fu c a).bind fun b=>some (decide (0<=b))
abbrev jq:=Bs->Bs->Option (Bs)
def zcx(d:jq):jq:=fun a b=>bif decide (0<(a.length:Int)) then(am a (ae ((a.length:Int)-1))).bind fun e=>bif decide (128<=(e.toNat:Int)) then(zc3 fu a).bind fun c=>(qlh fu b c.1).bind fun g=>bif !g then some a else bif decide (0<=ae ((a.length:Int)-c.2)/\ae ((a.length:Int)-c.2)<=(a.length:Int)) then d (List.take (ae ((a.length:Int)-c.2)).toNat a) b else none else(qlh fu b (e.toNat:Int)).bind fun f=>bif !f then some a else bif decide (0<=ae ((a.length:Int)-1)/\ae ((a.length:Int)-1)<=(a.length:Int)) then d (List.take (ae ((a.length:Int)-1)).toNat a) b else none else some a
def qxe(fu:Nat):Nat->jq|0=>fun _ _=>none|n+1=>zcx fu (qxe fu n)
def qxd(b:Bs)(a:Bs):Option (Bs):=qxe fu fu b a
abbrev xt:=Bs->Bs->Bool->Option (Bs)
def zcb:jq:=fun b c=>(qbs fu c).bind fun a=>bif decide (a.1.length=List.length (List.replicate 256 false))&&decide (a.1.length=256) then bif a.2 then(qw9 fu b a.1).bind fun e=>some e.1 else(qxd fu b c).bind fun d=>some d else none
def qwk:xt:=fun b c a=>bif a then(am c 0).bind fun e=>(qxb fu b e).bind fun d=>some d else zcb fu b c
def zca:jq:=fun b a=>bif(a.length:Int)==1 then(am a 0).bind fun c=>qwk fu b a (decide (c<128)) else qwk fu b a false
def qwj:xt:=fun b c a=>bif a then some b else zca fu b c
def qwi(b:Bs)(a:Bs):Option (Bs):=bif b==([]:Bs) then qwj fu b a true else qwj fu b a (a==([]:Bs))
def q85(c:Bs):Option Bool:=(qkk fu c []).bind fun b=>(ck b.1).bind fun a=>some (!a)
def q83(d:Bs):Option ((Bs×Bs)×Bool):=(qvx d [58]).bind fun a=>(qwi fu a.1 [32,9]).bind fun b=>bif a.2.2 then(q85 fu b).bind fun c=>some ((b,a.2.1),c) else some ((b,a.2.1),false)
abbrev qby:=Int×Int×Int×Bs×(List Bs)
abbrev qjb:=Bool->Int->Int->Int->Int->(List Bs)->Option qby
abbrev qd9:=Int->Int->Int->Int->(List Bs)->Bs->Option qby
abbrev q6b:=Int->Int->Int->Int->(List Bs)->(List Bs)->Option qby
def qwb(fu:Nat)(e:qjb):qjb:=fun f g b a c d=>e f (ae (g+2)) b a c d
def zb5(fu:Nat)(h:qd9):qd9:=fun c d b e a f=>bif decide (0<=c) then bif decide (0<=c/\c.toNat<a.length) then(a[c.toNat]?).bind fun k=>(am k 0).bind fun g=>bif decide (0<=ae (c+1)/\(ae (c+1)).toNat<a.length) then(a[(ae (c+1)).toNat]?).bind fun i=>(am i 0).bind fun j=>(f[g.toNat]?).bind fun l=>h (ae (c-2)) d b e a (List.set f g.toNat j) else none else none else some (d,(b,(e,(f,a))))
def qwe(fu:Nat):Nat->qd9|0=>fun _ _ _ _ _ _=>none|n+1=>zb5 fu (qwe fu n)
def zb3(g:qd9):qd9:=fun a c b d e f=>bif decide (a<256) then bif decide (0<=a)&&decide (a<256) then(f[a.toNat]?).bind fun h=>g (ae (a+1)) c b d e (List.set f a.toNat (di a)) else none else qwe fu fu (ae ((e.length:Int)-2)) c b d e f
def qwc(fu:Nat):Nat->qd9|0=>fun _ _ _ _ _ _=>none|n+1=>zb3 fu (qwc fu n)
def zb4(fu:Nat)(j:q6b):q6b:=fun a d c e b g=>bif decide (0<=a) then bif decide (0<=a/\a.toNat<b.length) then(b[a.toNat]?).bind fun f=>(am f 0).bind fun h=>bif decide (0<=ae (a+1)/\(ae (a+1)).toNat<b.length) then(b[(ae (a+1)).toNat]?).bind fun i=>none else none else none else none
def qwd(fu:Nat):Nat->q6b|0=>fun _ _ _ _ _ _=>none|n+1=>zb4 fu (qwd fu n)
def zb2(f:qjb):qjb:=fun g e c b d a=>bif decide (e<(a.length:Int)) then bif decide (0<=e/\e.toNat<a.length) then(a[e.toNat]?).bind fun h=>bif(h.length:Int) != 1 then none else bif decide (0<=ae (e+1)/\(ae (e+1)).toNat<a.length) then(a[(ae (e+1)).toNat]?).bind fun i=>bif(i.length:Int) != 1 then qwb fu f false e c b d a else qwb fu f g e c b d a else none else none else bif g then bif decide (List.length (List.replicate 256 0)=List.length (List.replicate 256 0))&&decide (List.length (List.replicate 256 0)=256) then qwc fu fu 0 c b d a (List.replicate 256 0) else none else bif decide (0<=(0:Int)/\0=ae (Int.tdiv (a.length:Int) 2)/\(0:Int)<=4294967296) then qwd fu fu (ae ((a.length:Int)-2)) c b d a (List.replicate (0:Int).toNat []) else none
def qwa(fu:Nat):Nat->qjb|0=>fun _ _ _ _ _ _=>none|n+1=>zb2 fu (qwa fu n)
def zb6:Int->Int->Int->(List Bs)->Option qby:=fun b a c d=>qwa fu fu true 0 b a c d
def qv9:Bool->Int->Int->Int->(List Bs)->Option qby:=fun e c b d a=>bif e then bif decide (0<=(0:Int)/\(0:Int).toNat<a.length) then(a[(0:Int).toNat]?).bind fun f=>bif decide (0<=(1:Int)/\(1:Int).toNat<a.length) then(a[(1:Int).toNat]?).bind fun g=>none else none else none else zb6 fu c b d a
def zb1(c:Int)(b:Int)(d:Int)(a:List Bs):Option qby:=bif(a.length:Int)==2 then bif decide (0<=(0:Int)/\(0:Int).toNat<a.length) then(a[(0:Int).toNat]?).bind fun e=>qv9 fu (decide (1<(e.length:Int))) c b d a else none else qv9 fu false c b d a
abbrev zq2:=Int×Int×Int×Bs×(List Bs)
def qv8(d:Int)(c:Int)(e:Int)(b:List Bs):Option zq2:=(zb1 fu d c e b).bind fun a=>some (a.1,(a.2.1,(a.2.2.1,(a.2.2.2.1,[]))))
abbrev qqf:=Bs->Int->Bs->Bs->Option (Bs×Bs)
abbrev q6e:=Bs->Int->Bs->Option (Bs×Bs)
def qwp(fu:Nat)(d:qqf):Bs->Int->UInt8->Bs->Bs->Option (Bs×Bs):=fun f b e c a=>(c[e.toNat]?).bind fun g=>bif decide (0<=b/\b.toNat<a.length) then(a[b.toNat]?).bind fun h=>d f (ae (b+1)) c (List.set a b.toNat g) else none
def zcf(f:qqf):qqf:=fun d b c a=>bif decide (b<(d.length:Int)) then(am d b).bind fun e=>(c[e.toNat]?).bind fun g=>bif g != e then bif decide (0<a.length) then qwp fu f d b e c a else none else f d (ae (b+1)) c a else bif decide (0<a.length) then some (a,c) else none
def qwq(fu:Nat):Nat->qqf|0=>fun _ _ _ _=>none|n+1=>zcf fu (qwq fu n)
def zce(e:q6e):q6e:=fun a b c=>bif decide (b<(a.length:Int)) then(am a b).bind fun d=>(c[d.toNat]?).bind fun f=>bif f != d then bif decide (a.length<=maxLen) then qwp fu (qwq fu fu) a b d c a else none else e a (ae (b+1)) c else some (a,c)
def qwo(fu:Nat):Nat->q6e|0=>fun _ _ _=>none|n+1=>zce fu (qwo fu n)
def qll(b:Bs)(a:Bs):Option (Bs×Bs):=qwo fu fu b 0 a
def qfw(fu:Nat)(s:Bs)(p0 p1 p2:Int)(on:List Bs):Option (Bs×Int×Int×Int×Bs):=
 bif decide (p0=0)&&decide (p1=0) then
 (qv8 fu 0 1 p2 on).bind fun x=>
 bif decide (x.1=0)&&decide (x.2.1=1) then
 (qll fu s x.2.2.2.1).bind fun y=>
 some (y.1,1,0,x.2.2.1,y.2)
 else none else none
def qfx(fu:Nat)(s:Bs)(p0 p1 p2:Int)(tab:Bs):Option (Bs×Int×Int×Int×Bs):=
 bif !decide (p0=0) then
 (qll fu s tab).bind fun y=>
 some (y.1,p0,p1,p2,y.2)
 else none
def zct(fu:Nat)(c:uj):uj:=fun a b=>bif decide (0<(a.length:Int)) then(am a 0).bind fun d=>bif d==b then bif decide (0<=(1:Int)/\1<=(a.length:Int)) then c (List.drop (1:Int).toNat a) b else none else some a else some a
def qw6(fu:Nat):Nat->uj|0=>fun _ _=>none|n+1=>zct fu (qw6 fu n)
def qw5(b:Bs)(a:UInt8):Option (Bs):=qw6 fu fu b a
def zcs(fu:Nat)(d:uk):uk:=fun a c=>bif decide (0<(a.length:Int)) then(am a 0).bind fun e=>(qlk e c).bind fun b=>bif !b.1 then some (a,b.2) else bif decide (0<=(1:Int)/\1<=(a.length:Int)) then d (List.drop (1:Int).toNat a) b.2 else none else some (a,c)
def qw4(fu:Nat):Nat->uk|0=>fun _ _=>none|n+1=>zcs fu (qw4 fu n)
def qw3(b:Bs)(a:List Bool):Option (Bs×(List Bool)):=qw4 fu fu b a
def zcu(d:jq):jq:=fun a c=>bif decide (0<(a.length:Int)) then(iz a).bind fun b=>(qlh fu c b.1).bind fun e=>bif !e then some a else bif decide (0<=b.2/\b.2<=(a.length:Int)) then d (List.drop b.2.toNat a) c else none else some a
def qw8(fu:Nat):Nat->jq|0=>fun _ _=>none|n+1=>zcu fu (qw8 fu n)
def qw7(b:Bs)(a:Bs):Option (Bs):=qw8 fu fu b a
def zcd:jq:=fun c b=>(qbs fu b).bind fun a=>bif decide (a.1.length=List.length (List.replicate 256 false))&&decide (a.1.length=256) then bif a.2 then(qw9 fu c a.1).bind fun d=>(qw3 fu d.1 d.2).bind fun f=>some f.1 else(qxd fu c b).bind fun e=>(qw7 fu e b).bind fun g=>some g else none
def qwn:xt:=fun c b a=>bif a then(am b 0).bind fun g=>(qxb fu c g).bind fun f=>(am b 0).bind fun e=>(qw5 fu f e).bind fun d=>some d else zcd fu c b
def zcc:jq:=fun b a=>bif(a.length:Int)==1 then(am a 0).bind fun c=>qwn fu b a (decide (c<128)) else qwn fu b a false
def qwm:xt:=fun b c a=>bif a then some b else zcc fu b c
def qwf(b:Bs)(a:Bs):Option (Bs):=bif b==([]:Bs) then qwm fu b a true else qwm fu b a (a==([]:Bs))
abbrev yt:=Int×(Int×Int)×wV
abbrev q6g:=Int->Int->Int->(Int×Int)->wV->Int->Int->Int->Bs->Option yt
abbrev q6f:=Int->Int->(Int×Int)->Int->Int->Int->(List Bs)->wV->Option yt
abbrev qje:=Bs->Int->(Int×Int)->wV->Option yt
def q80(o:q6g):q6g:=fun j g a h b e d c i=>bif decide (a<g) then bif decide (0<=a/\a.toNat<b.length) then(b[a.toNat]?).bind fun m=>(qfx fu m.2 e d c i).bind fun f=>(qwf fu f.1 [32,9]).bind fun k=>bif decide (4000<(k.length:Int)) then(aq 1 a).bind fun l=>some (0,(l,[])) else bif decide (0<=a/\a.toNat<b.length) then(b[a.toNat]?).bind fun p=>o j g (ae (a+1)) h (List.set b a.toNat (p.1,k)) f.2.1 f.2.2.1 f.2.2.2.1 f.2.2.2.2 else none else none else(cd).bind fun q=>some (j,(q,b))
def qth(fu:Nat):Nat->q6g|0=>fun _ _ _ _ _ _ _ _ _=>none|n+1=>q80 fu (qth fu n)
def q8z(p:q6f):q6f:=fun i e g b d c h a=>bif decide (0<e) then bif decide (0<=(0:Int)/\(0:Int).toNat<a.length) then(a[(0:Int).toNat]?).bind fun k=>(qfw fu k.2 b d c h).bind fun f=>(qwf fu f.1 [32,9]).bind fun j=>bif decide (4000<(j.length:Int)) then(aq 1 0).bind fun l=>some (0,(l,[])) else bif decide (0<=(0:Int)/\(0:Int).toNat<a.length) then(a[(0:Int).toNat]?).bind fun o=>qth fu fu i e 1 g (List.set a ((0:Int).toNat) (o.1,j)) f.2.1 f.2.2.1 f.2.2.2.1 f.2.2.2.2 else none else none else(cd).bind fun m=>some (i,(m,a))
def qtg(fu:Nat):Nat->q6f|0=>fun _ _ _ _ _ _ _ _=>none|n+1=>q8z fu (qtg fu n)
def qkm:Int->(Int×Int)->wV->Option yt:=fun d c a=>bif decide (60<(a.length:Int)) then(aq 2 (-2)).bind fun e=>some (0,(e,[])) else(qf4 ([([0]:Bs),([32]:Bs),([13]:Bs),([32]:Bs)]:List Bs)).bind fun b=>qtg fu fu d (a.length:Int) c b.1 b.2.1 b.2.2.1 b.2.2.2 a
def q81(g:qje):Bs->Int->Bs->Int->(Int×Int)->wV->Option yt:=fun h d e f b a=>(q83 fu e).bind fun c=>bif !c.2 then qkm fu d b a else bif decide (List.length (a++([c.1]:List (Bs×Bs)))<=ao) then g h (ae (d+f)) b (a++([c.1]:List (Bs×Bs))) else none
def qtf(g:qje):Bs->Int->Bs->Int->Bool->(Int×Int)->wV->Option yt:=fun h e c f d b a=>bif d then bif decide (0<=ae ((a.length:Int)-1)/\(ae ((a.length:Int)-1)).toNat<a.length) then(a[(ae ((a.length:Int)-1)).toNat]?).bind fun i=>bif decide (i.2.length+c.length<=bz) then bif decide (0<=ae ((a.length:Int)-1)/\(ae ((a.length:Int)-1)).toNat<a.length) then(a[(ae ((a.length:Int)-1)).toNat]?).bind fun j=>g h (ae (e+f)) b (List.set a ((ae ((a.length:Int)-1)).toNat) (j.1,i.2++c)) else none else none else none else q81 fu g h e c f b a
def q8y(f:qje):qje:=fun e c b a=>bif decide (c<(e.length:Int)) then bif decide (0<=c/\c<=(e.length:Int)) then(q84 (List.drop c.toNat e)).bind fun d=>bif d.1==([]:Bs) then qkm fu (ae (c+d.2)) b a else(am d.1 0).bind fun g=>(oq g).bind fun h=>bif h then qtf fu f e c d.1 d.2 (decide (0<(a.length:Int))) b a else qtf fu f e c d.1 d.2 false b a else none else qkm fu c b a
def qte(fu:Nat):Nat->qje|0=>fun _ _ _ _=>none|n+1=>q8y fu (qte fu n)
def qtd(a:Bs):Option yt:=bif decide (12000<(a.length:Int)) then(aq 1 (-1)).bind fun b=>some (0,(b,[])) else qte fu fu a 0 (0,0) []
abbrev zpc:=Bs->Int->Bool->Bs->Option (Bs)
abbrev qi:=Bs->Int->Bs->Option (Bs)
def quf(fu:Nat)(e:qi):zpc:=fun c b d a=>bif d then bif decide (List.length (a++([13,10]:Bs))<=ao) then e c (ae (b+1)) (a++([13,10]:Bs)) else none else(am c b).bind fun f=>bif decide (List.length (a++([f]:Bs))<=ao) then e c (ae (b+1)) (a++([f]:Bs)) else none
def qkw(e:qi):zpc:=fun c b d a=>bif d then bif decide (List.length (a++([13,10]:Bs))<=ao) then e c (ae ((ae (b+1))+1)) (a++([13,10]:Bs)) else none else(am c b).bind fun f=>bif f==13 then quf fu e c b true a else(am c b).bind fun g=>quf fu e c b (g==10) a
def zad(d:qi):qi:=fun c b a=>bif decide (b<(c.length:Int)) then(am c b).bind fun e=>bif e==13 then bif decide ((ae (b+1))<(c.length:Int)) then(am c (ae (b+1))).bind fun f=>qkw fu d c b (f==10) a else qkw fu d c b false a else qkw fu d c b false a else some a
def que(fu:Nat):Nat->qi|0=>fun _ _ _=>none|n+1=>zad fu (que fu n)
def zac(a:Bs):Option (Bs):=que fu fu a 0 []
abbrev zqo:=(wV×Bs)×(Int×Int)
def q99(b:Bs):Option zqo:=(qtd fu b).bind fun a=>(ck a.2.1).bind fun f=>bif f then some (([],[]),a.2.1) else bif decide (0<=a.1/\a.1<=(b.length:Int)) then(zac fu (List.drop a.1.toNat b)).bind fun d=>(qkv fu (a.2.2,d)).bind fun c=>(ck c).bind fun g=>bif g then some (([],[]),c) else(cd).bind fun e=>some ((a.2.2,d),e) else none
abbrev q6h:=Int->Int->Bs->Option (Bs)
def qa9(fu:Nat)(e:q6h):q6h:=fun c a b=>bif decide (a<c) then bif decide (0<=a/\a.toNat<b.length) then(b[a.toNat]?).bind fun d=>bif decide (65<=d) then bif decide (d<=90) then bif decide (0<=a/\a.toNat<b.length) then(b[a.toNat]?).bind fun f=>e c (ae (a+1)) (List.set b a.toNat ((d+97)-65)) else none else e c (ae (a+1)) b else e c (ae (a+1)) b else none else some b
def sh(fu:Nat):Nat->q6h|0=>fun _ _ _=>none|n+1=>qa9 fu (sh fu n)
def ur(a:Bs):Option (Bs):=bif decide (a.length<=maxLen) then sh fu fu (a.length:Int) 0 a else none
def fm(b:Bs)(a:Bs):Option Bool:=bif(b.length:Int)==(a.length:Int) then(ur fu b).bind fun d=>(ur fu a).bind fun c=>some (d==c) else some false
def zb9:jq:=fun b c=>(qbs fu c).bind fun a=>bif decide (a.1.length=List.length (List.replicate 256 false))&&decide (a.1.length=256) then bif a.2 then(qw3 fu b a.1).bind fun e=>some e.1 else(qw7 fu b c).bind fun d=>some d else none
def qwh:xt:=fun b c a=>bif a then(am c 0).bind fun e=>(qw5 fu b e).bind fun d=>some d else zb9 fu b c
def zb8:jq:=fun b a=>bif(a.length:Int)==1 then(am a 0).bind fun c=>qwh fu b a (decide (c<128)) else qwh fu b a false
def qwg:xt:=fun b c a=>bif a then some b else zb8 fu b c
def zb7(b:Bs)(a:Bs):Option (Bs):=bif b==([]:Bs) then qwg fu b a true else qwg fu b a (a==([]:Bs))
def qbj(b:Bs):Option (Bs):=(zb7 fu b [32,9]).bind fun a=>some a
def qbk(a:UInt8):Option Bool:=bif decide (33<=a) then bif decide (a<=126) then(sn [40,41,60,62,64,44,59,58,92,34,47,91,93,63,61,42,37,39] a).bind fun b=>some (decide (b<0)) else some false else some false
abbrev iy:=Int->Bs->Option (Bs×Bs)
abbrev q6i:=Int->Bool->Bs->Option (Bs×Bs)
def q9z(fu:Nat)(b:iy):iy:=fun c a=>b (ae (c+1)) a
def qt8(d:iy):q6i:=fun a c b=>bif c then q9z fu d a b else bif decide (0<=a/\a<=(b.length:Int)) then bif decide (0<=a/\a<=(b.length:Int)) then some (List.take a.toNat b,List.drop a.toNat b) else none else none
def q9y(c:iy):iy:=fun b a=>bif decide (b<(a.length:Int)) then(am a b).bind fun e=>(qbk e).bind fun d=>qt8 fu c b d a else qt8 fu c b false a
def qt7(fu:Nat):Nat->iy|0=>fun _ _=>none|n+1=>q9y fu (qt7 fu n)
def qt6(b:Bs):Option (Bs×Bs):=(qbj fu b).bind fun a=>qt7 fu fu 0 a
def qfn(d:UInt8)(c:Bs):Option (Bool×Bs):=(qbj fu c).bind fun a=>bif a==([]:Bs) then some (false,a) else(am a 0).bind fun b=>bif b != d then some (false,a) else bif decide (0<=(1:Int)/\1<=(a.length:Int)) then some (true,List.drop (1:Int).toNat a) else none
def q9x(a:UInt8):Option Bool:=(qbk a).bind fun b=>bif b then some true else some (a==42)
def q92(fu:Nat)(b:iy):iy:=fun c a=>b (ae (c+1)) a
def qua(d:iy):q6i:=fun a c b=>bif c then q92 fu d a b else bif decide (0<=a/\a<=(b.length:Int)) then bif decide (0<=a/\a<=(b.length:Int)) then some (List.take a.toNat b,List.drop a.toNat b) else none else none
def q91(c:iy):iy:=fun b a=>bif decide (b<(a.length:Int)) then(am a b).bind fun e=>(q9x e).bind fun d=>qua fu c b d a else qua fu c b false a
def qt9(fu:Nat):Nat->iy|0=>fun _ _=>none|n+1=>q91 fu (qt9 fu n)
def q90(b:Bs):Option (Bs×Bs):=(qbj fu b).bind fun a=>qt9 fu fu 0 a
def q97(a:UInt8):Option Bool:=(qbk a).bind fun b=>bif b then some true else bif a==37 then some true else bif a==39 then some true else some (a==42)
def q95(fu:Nat)(b:iy):iy:=fun c a=>b (ae (c+1)) a
def quc(d:iy):q6i:=fun a c b=>bif c then q95 fu d a b else bif decide (0<=a/\a<=(b.length:Int)) then bif decide (0<=a/\a<=(b.length:Int)) then some (List.take a.toNat b,List.drop a.toNat b) else none else none
def q94(c:iy):iy:=fun b a=>bif decide (b<(a.length:Int)) then(am a b).bind fun e=>(q97 e).bind fun d=>quc fu c b d a else quc fu c b false a
def qub(fu:Nat):Nat->iy|0=>fun _ _=>none|n+1=>q94 fu (qub fu n)
def q93(b:Bs):Option (Bs×Bs):=(qbj fu b).bind fun a=>qub fu fu 0 a
abbrev q6k:=Int->Bs->Bs->Option (Bs×Bool×Bs)
def q98(fu:Nat)(f:q6k):q6k:=fun c b a=>bif decide (c<(b.length:Int)) then(am b c).bind fun d=>bif d==34 then bif decide (0<=ae (c+1)/\ae (c+1)<=(b.length:Int)) then some (a,(true,List.drop (ae (c+1)).toNat b)) else none else bif d==92 then bif(ae (c+1))==(b.length:Int) then some (([]:Bs),(false,b)) else(am b (ae (c+1))).bind fun e=>bif decide (List.length (a++([e]:Bs))<=ao) then f (ae ((ae (c+1))+1)) b (a++([e]:Bs)) else none else bif decide (List.length (a++([d]:Bs))<=ao) then f (ae (c+1)) b (a++([d]:Bs)) else none else some (([]:Bs),(false,b))
def qud(fu:Nat):Nat->q6k|0=>fun _ _ _=>none|n+1=>q98 fu (qud fu n)
def q96(c:Bs):Option (Bs×Bool×Bs):=(qfn fu 34 c).bind fun a=>bif !a.1 then(q93 fu a.2).bind fun b=>some (b.1,(true,b.2)) else qud fu fu 0 a.2 []
def qkn(a:Bs)(b:Bs):Option Bool:=bif decide ((b.length:Int)<=(a.length:Int)) then bif decide (0<=ae ((a.length:Int)-(b.length:Int))/\ae ((a.length:Int)-(b.length:Int))<=(a.length:Int)) then some ((List.drop (ae ((a.length:Int)-(b.length:Int))).toNat a)==b) else none else some false
def q87(a:Bs)(b:Bs):Option (Bs×Bool):=(qkn a b).bind fun c=>bif !c then some (a,false) else bif decide (0<=ae ((a.length:Int)-(b.length:Int))/\ae ((a.length:Int)-(b.length:Int))<=(a.length:Int)) then some (List.take (ae ((a.length:Int)-(b.length:Int))).toNat a,true) else none
def zbu(c:Bs)(a:Bs):Option (Bs×Bool):=(q87 c a).bind fun b=>some b
abbrev zqn:=(Bs×Int×Bool×Bs)×Bool×Bs
def q9w(g:Bs):Option zqn:=(q90 fu g).bind fun f=>(qfn fu 61 f.2).bind fun e=>bif !e.1 then some ((([]:Bs),(0,(false,([]:Bs)))),(false,e.2)) else(q96 fu e.2).bind fun a=>(qvx f.1 [42]).bind fun b=>bif b.2.2 then(zbu b.2.1 [42]).bind fun d=>(qe6 d.1 1099511627776).bind fun c=>bif a.2.1 then bif c.2 then some ((b.1,(c.1,(d.2,a.1))),(!(b.1==([]:Bs)),a.2.2)) else some ((b.1,(c.1,(d.2,a.1))),(false,a.2.2)) else some ((b.1,(c.1,(d.2,a.1))),(false,a.2.2)) else bif a.2.1 then some ((b.1,((-1),(false,a.1))),(!(b.1==([]:Bs)),a.2.2)) else some ((b.1,((-1),(false,a.1))),(false,a.2.2))
abbrev zqm:=Bool×(Bs×Int×Bool×Bs)
def qtx(c:Bs×Int×Bool×Bs)(a:Bs×Int×Bool×Bs):Option zqm:=(fm fu c.1 a.1).bind fun b=>some (b,a)
abbrev zdy:=Int×(Bs×Int×Bool×Bs)
abbrev q6m:=(List (Bs×Int×Bool×Bs))->Int->Int->(Bs×Int×Bool×Bs)->Option zdy
def zbo(f:q6m):q6m:=fun e c a d=>bif decide (a<c) then(am e a).bind fun g=>(qtx fu g d).bind fun b=>bif b.1 then some (a,b.2) else f e c (ae (a+1)) b.2 else some ((-1),d)
def qvs(fu:Nat):Nat->q6m|0=>fun _ _ _ _=>none|n+1=>zbo fu (qvs fu n)
def zbn(a:List (Bs×Int×Bool×Bs))(b:Bs×Int×Bool×Bs):Option zdy:=qvs fu fu a (a.length:Int) 0 b
abbrev zq1:=Bool×(Bs×Int×Bool×Bs)
def zbf(c:List (Bs×Int×Bool×Bs))(b:Bs×Int×Bool×Bs):Option zq1:=(zbn fu c b).bind fun a=>some (decide (0<=a.1),a.2)
abbrev zpi:=UInt8->Bool->Option (UInt8×Bool)
def qrw:zpi:=fun a b=>bif b then some ((a-65)+10,true) else bif decide (97<=a) then bif decide (a<=102) then some ((a-97)+10,true) else some (0,false) else some (0,false)
def qrv:zpi:=fun a b=>bif b then some (a-48,true) else bif decide (65<=a) then qrw a (decide (a<=70)) else qrw a false
def qa8(a:UInt8):Option (UInt8×Bool):=bif decide (48<=a) then qrv a (decide (a<=57)) else qrv a false
def qba(a:Bs):Option (UInt8×Bool):=bif decide ((a.length:Int)<2) then some (0,false) else(am a 0).bind fun e=>(qa8 e).bind fun c=>(am a 1).bind fun d=>(qa8 d).bind fun b=>bif c.2 then some ((w9 c.1 (min (4:Int).toNat 8))|||b.1,b.2) else some ((w9 c.1 (min (4:Int).toNat 8))|||b.1,false)
def q9t(fu:Nat)(d:qi):qi:=fun c b a=>bif decide (b<(c.length:Int)) then(am c b).bind fun h=>bif h==37 then bif decide (0<=ae (b+1)/\ae (b+1)<=(c.length:Int)) then(qba (List.drop (ae (b+1)).toNat c)).bind fun e=>bif e.2 then bif decide (List.length (a++([e.1]:Bs))<=ao) then d c (ae ((ae (b+2))+1)) (a++([e.1]:Bs)) else none else(am c b).bind fun f=>bif decide (List.length (a++([f]:Bs))<=ao) then d c (ae (b+1)) (a++([f]:Bs)) else none else none else(am c b).bind fun g=>bif decide (List.length (a++([g]:Bs))<=ao) then d c (ae (b+1)) (a++([g]:Bs)) else none else some a
def qt3(fu:Nat):Nat->qi|0=>fun _ _ _=>none|n+1=>q9t fu (qt3 fu n)
def qt2:Bs->Option (Bs):=fun a=>qt3 fu fu a 0 []
def qku:Bs->Bool->Option (Bs):=fun b a=>bif a then bif decide (0<=(6:Int)/\6<=(b.length:Int)) then qt2 fu (List.drop (6:Int).toNat b) else none else qt2 fu b
def q9s(a:Bs×Int×Bool×Bs):Option (Bs):=bif !a.2.2.1 then some a.2.2.2 else bif a.2.1==0 then bif decide (6<=(a.2.2.2.length:Int)) then bif decide (0<=(6:Int)/\6<=(a.2.2.2.length:Int)) then(fm fu (List.take (6:Int).toNat a.2.2.2) [117,116,102,56,39,39]).bind fun b=>qku fu a.2.2.2 b else none else qku fu a.2.2.2 false else qku fu a.2.2.2 false
abbrev q6p:=Int->Int->(Bs×Bs)->(Bs×Bs)->(List (Bs×Int×Bool×Bs))->Option ((Bs×Bs)×Bool)
def q9h(h:q6p):q6p:=fun d a e b c=>bif decide (a<d) then bif decide (0<=a/\a.toNat<c.length) then(c[a.toNat]?).bind fun f=>bif f.2.1 != a then some (b,false) else(q9s fu f).bind fun g=>bif decide (b.2.length+g.length<=bz) then h d (ae (a+1)) e (b.1,b.2++g) c else none else none else(qf6 b.2 [239,191,189]).bind fun i=>some ((b.1,i),true)
def qtu(fu:Nat):Nat->q6p|0=>fun _ _ _ _ _=>none|n+1=>q9h fu (qtu fu n)
def q9g(a:List (Bs×Int×Bool×Bs)):Option ((Bs×Bs)×Bool):=bif decide (0<=(0:Int)/\(0:Int).toNat<a.length) then(a[(0:Int).toNat]?).bind fun c=>bif decide (0<=(0:Int)/\(0:Int).toNat<a.length) then(a[(0:Int).toNat]?).bind fun e=>bif decide (0<=(0:Int)/\(0:Int).toNat<a.length) then(a[(0:Int).toNat]?).bind fun d=>bif decide (d.2.1<0) then some ((c.1,e.2.2.2),(a.length:Int)==1) else(qf3 a).bind fun b=>qtu fu fu (b.length:Int) 0 (([]:Bs),([]:Bs)) (c.1,([]:Bs)) b else none else none else none
abbrev ql4:=Bool×wV
abbrev qqi:=(List (Bs×Int×Bool×Bs))->(List (Bs×Int×Bool×Bs))->Int->Int->(List (Bs×Int×Bool×Bs))->Int->Int->(Bs×Int×Bool×Bs)->wV->(List (Bs×Int×Bool×Bs))->Option ql4
abbrev qef:=(List (Bs×Int×Bool×Bs))->(List (Bs×Int×Bool×Bs))->Int->Int->wV->Option ql4
def qt0(fu:Nat)(l:qef)(k:qqi):(List (Bs×Int×Bool×Bs))->(List (Bs×Int×Bool×Bs))->Int->Int->(List (Bs×Int×Bool×Bs))->Int->Int->(Bs×Int×Bool×Bs)->(List (Bs×Int×Bool×Bs))->wV->Option ql4:=fun j a i c b f d e h g=>k j a i c b f (ae (d+1)) e g h
def q9o(k:qef)(p:qqi):qqi:=fun l d i f e h a g c b=>bif decide (a<h) then(am e a).bind fun j=>(qtx fu j g).bind fun o=>bif o.1 then bif decide (List.length (b++([j]:List (Bs×Int×Bool×Bs)))<=ao) then qt0 fu k p l d i f e h a o.2 (b++([j]:List (Bs×Int×Bool×Bs))) c else none else qt0 fu k p l d i f e h a o.2 b c else(q9g fu b).bind fun m=>bif !m.2 then some (false,[]) else bif decide (List.length (c++([(g.1,m.1.2)]:List (Bs×Bs)))<=ao) then k l d i (ae (f+1)) (c++([(g.1,m.1.2)]:List (Bs×Bs))) else none
def qtz(fu:Nat)(a:qef):Nat->qqi|0=>fun _ _ _ _ _ _ _ _ _ _=>none|n+1=>q9o fu a (qtz fu a n)
def q9n(f:qef):qef:=fun e b d a c=>bif decide (a<d) then(am b a).bind fun h=>bif decide (0<=a/\a<=(e.length:Int)) then(zbf fu (List.take a.toNat e) h).bind fun g=>bif g.1 then f e b d (ae (a+1)) c else qtz fu f fu e b d a e (e.length:Int) 0 g.2 c [] else none else some (true,c)
def qty(fu:Nat):Nat->qef|0=>fun _ _ _ _ _=>none|n+1=>q9n fu (qty fu n)
def q9m(a:List (Bs×Int×Bool×Bs)):Option ql4:=qty fu fu a a (a.length:Int) 0 []
abbrev ql5:=(Bs×Bs×Bool) ⊕ (Bs×Bs×Bool×wV)
abbrev q6q:=Bs->Bs->Bs->Bs->Bs->(List (Bs×Int×Bool×Bs))->Option ql5
def q9q(j:q6q):q6q:=fun d c i a b e=>(qfn fu 59 i).bind fun h=>bif h.1 then(q9w fu h.2).bind fun f=>bif !f.2.1 then some (.inl (a,(b,false))) else bif decide (List.length (e++([f.1]:List (Bs×Int×Bool×Bs)))<=ao) then j d c f.2.2 a b (e++([f.1]:List (Bs×Int×Bool×Bs))) else none else(qbj fu h.2).bind fun k=>(q9m fu e).bind fun g=>bif g.1 then some (.inr (a,(b,(k==([]:Bs),g.2)))) else some (.inr (a,(b,(false,g.2))))
def qt1(fu:Nat):Nat->q6q|0=>fun _ _ _ _ _ _=>none|n+1=>q9q fu (qt1 fu n)
def q9r:Bs->Bs->Bs->Bs->Bs->Option ql5:=fun b a e c d=>qt1 fu fu b a e c d []
def qkt:Bool->Bs->Bs->Bs->Bs->Bs->Option ql5:=fun e d c f a b=>bif e then some (.inl (a,(b,false))) else q9r fu d c f a b
def q9p(d:Bs):Option ql5:=(qt6 fu d).bind fun b=>(qfn fu 47 b.2).bind fun c=>(qt6 fu c.2).bind fun a=>bif b.1==([]:Bs) then qkt fu true [] [] a.2 b.1 a.1 else bif !c.1 then qkt fu true [] [] a.2 b.1 a.1 else qkt fu (a.1==([]:Bs)) [] [] a.2 b.1 a.1
def q68(fu:Nat)(d:dy):dy:=fun c b a=>bif decide (a<b) then(am c a).bind fun f=>(qbk f).bind fun e=>bif !e then some false else d c b (ae (a+1)) else some true
def qrl(fu:Nat):Nat->dy|0=>fun _ _ _=>none|n+1=>q68 fu (qrl fu n)
def q67(a:Bs):Option Bool:=qrl fu fu a (a.length:Int) 0
def qfo(a:Bs):Option Bool:=bif !(a==([]:Bs)) then bif decide ((a.length:Int)<=60) then(q67 fu a).bind fun b=>some b else some false else some false
def q9d(c:Bs×Bs)(a:Bs×Bs):Option (Bool×(Bs×Bs)):=(fm fu c.1 a.1).bind fun b=>some (b,a)
abbrev q6r:=wV->Int->Int->(Bs×Bs)->Option (Int×(Bs×Bs))
def zbl(f:q6r):q6r:=fun e c a d=>bif decide (a<c) then(am e a).bind fun g=>(q9d fu g d).bind fun b=>bif b.1 then some (a,b.2) else f e c (ae (a+1)) b.2 else some ((-1),d)
def qvn(fu:Nat):Nat->q6r|0=>fun _ _ _ _=>none|n+1=>zbl fu (qvn fu n)
def zbk(a:List (Bs×Bs))(b:Bs×Bs):Option (Int×(Bs×Bs)):=qvn fu fu a (a.length:Int) 0 b
def zbe(c:List (Bs×Bs))(b:Bs×Bs):Option (Bool×(Bs×Bs)):=(zbk fu c b).bind fun a=>some (decide (0<=a.1),a.2)
abbrev qql:=wV->Int->Int->(Bs×Bs×wV)->(Int×Int)->Option ((Int×Int))
def qtt(m:qql):(Int->wV->Int->Int->Bool->(Bs×Bs×wV)->(Int×Int)->(Bs×Bs)->Option ((Int×Int))):=fun a i c f e b g d=>bif e then(aq 10 a).bind fun p=>some p else bif decide (0<=a/\a<=(b.2.2.length:Int)) then(zbe fu (List.take a.toNat b.2.2) d).bind fun h=>bif h.1 then(aq 7 a).bind fun k=>some k else bif decide (500<(h.2.2.length:Int)) then(aq 1 a).bind fun j=>some j else(im h.2.2).bind fun l=>bif !l then(aq 5 a).bind fun o=>some o else m i c (ae (f+1)) b g else none
def q9e(g:qql):qql:=fun b c a d e=>bif decide (a<c) then(am b a).bind fun f=>(qfo fu f.1).bind fun i=>bif !i then qtt fu g a b c a true d e f else qtt fu g a b c a (decide (20<(f.1.length:Int))) d e f else(cd).bind fun h=>some h
def qts(fu:Nat):Nat->qql|0=>fun _ _ _ _ _=>none|n+1=>q9e fu (qts fu n)
def q9f:((Bs×Bs×wV)->(Int×Int)->Option ((Int×Int))):=fun a b=>bif decide (60<(a.2.2.length:Int)) then(aq 2 (-3)).bind fun c=>some c else qts fu fu a.2.2 (a.2.2.length:Int) 0 a b
def qtr:(Bool->(Bs×Bs×wV)->(Int×Int)->Option ((Int×Int))):=fun c a b=>bif c then(aq 10 (-2)).bind fun d=>some d else q9f fu a b
def qfm(a:Bs×Bs×wV):Option ((Int×Int)):=(qfo fu a.1).bind fun c=>bif !c then qtr fu true a (0,0) else(qfo fu a.2.1).bind fun b=>qtr fu (!b) a (0,0)
abbrev zql:=(Bs×Bs×Int×Int) ⊕ (Bs×Bs×Int×Int×wV)
def q9b(h:Bs):Option zql:=bif decide (4000<(h.length:Int)) then(aq 1 (-1)).bind fun k=>some (.inl (([]:Bs),(([]:Bs),k))) else(q9p fu h).bind fun o=>ay o (fun d=>bif !d.2.2 then(aq 11 (-5)).bind fun p=>some (.inl (([]:Bs),(([]:Bs),p))) else(qfm fu (d.1,(d.2.1,[]))).bind fun i=>(ck i).bind fun m=>bif m then(aq i.1 (-6)).bind fun j=>some (.inl (([]:Bs),(([]:Bs),j))) else(cd).bind fun l=>some (.inl (d.1,(d.2.1,l)))) (fun a=>bif !a.2.2.1 then(aq 11 (-5)).bind fun e=>some (.inl (([]:Bs),(([]:Bs),e))) else(qfm fu (a.1,(a.2.1,a.2.2.2))).bind fun b=>(ck b).bind fun f=>bif f then(aq b.1 (-6)).bind fun g=>some (.inl (([]:Bs),(([]:Bs),g))) else(cd).bind fun c=>some (.inr (a.1,(a.2.1,(c.1,(c.2,a.2.2.2))))))
abbrev zdt:=(Bs×Bs×Int×Bool) ⊕ (Bs×Bs×Int×Bool×wV)
abbrev qji:=wV->Int->wV->Int->Int->Bs->Bs->Option zdt
def quk(fu:Nat)(f:qji):qji:=fun g h e d c b a=>f g h e d (ae (c+1)) b a
def zak(j:qji):qji:=fun h f e d c b a=>bif decide (c<d) then(am e c).bind fun p=>(fm fu p.1 [67,111,110,116,101,110,116,45,84,121,112,101]).bind fun q=>bif q then bif decide (0<=f) then some (.inl (([]:Bs),(([]:Bs),(0,false)))) else quk fu j h c e d c b a else quk fu j h f e d c b a else bif decide (f<0) then some (.inl (([]:Bs),(([]:Bs),(0,false)))) else(am h f).bind fun l=>(q9b fu l.2).bind fun m=>ay m (fun i=>(ck i.2.2).bind fun k=>some (.inl (i.1,(i.2.1,(f,!k))))) (fun g=>(ck (g.2.2.1,g.2.2.2.1)).bind fun o=>some (.inr (g.1,(g.2.1,(f,(!o,g.2.2.2.2))))))
def quj(fu:Nat):Nat->qji|0=>fun _ _ _ _ _ _ _=>none|n+1=>zak fu (quj fu n)
def qkx(a:List (Bs×Bs)):Option zdt:=quj fu fu a (-1) a (a.length:Int) 0 [] ([]:Bs)
abbrev q6u:=Bs->wV->Int->Int->(Int×Int)->Option (Bs×Bool×(Int×Int))
def q9a(h:q6u):q6u:=fun e c b a d=>bif decide (a<b) then(am c a).bind fun f=>(fm fu f.1 e).bind fun j=>bif j then(cd).bind fun i=>some (f.2,(true,i)) else h e c b (ae (a+1)) d else(cd).bind fun g=>some (([]:Bs),(false,g))
def qtp(fu:Nat):Nat->q6u|0=>fun _ _ _ _ _=>none|n+1=>q9a fu (qtp fu n)
def qto(a:Bs×Bs×wV)(c:Bs):Option (Bs×Bool×(Int×Int)):=(qfm fu a).bind fun b=>(ck b).bind fun d=>bif d then some (([]:Bs),(false,b)) else qtp fu fu c a.2.2 (a.2.2.length:Int) 0 (0,0)
def zap(a:UInt8):Option Bool:=bif decide (32<=a) then some (decide (a<=126)) else some false
def q7a(fu:Nat)(d:dy):dy:=fun c b a=>bif decide (a<b) then(am c a).bind fun f=>(zap f).bind fun e=>bif !e then some false else d c b (ae (a+1)) else some true
def qrm(fu:Nat):Nat->dy|0=>fun _ _ _=>none|n+1=>q7a fu (qrm fu n)
def q69(a:Bs):Option Bool:=qrm fu fu a (a.length:Int) 0
def qvy(c:Bs)(a:Bs):Option Bool:=(qkn c a).bind fun b=>some b
def zaq:Bs->Bs->wV->Option (Bs×Bool):=fun c b d=>(qto fu (c,(b,d)) [98,111,117,110,100,97,114,121]).bind fun a=>bif !(a.1==([]:Bs)) then bif decide ((a.1.length:Int)<=60) then(q69 fu a.1).bind fun f=>bif f then(qvy a.1 [32]).bind fun e=>bif a.2.1 then some (a.1,!e) else some (a.1,false) else bif a.2.1 then some (a.1,false) else some (a.1,false) else bif a.2.1 then some (a.1,false) else some (a.1,false) else bif a.2.1 then some (a.1,false) else some (a.1,false)
def qfp:Bool->Bs->Bs->wV->Option (Bs×Bool):=fun d b a c=>bif d then some (([]:Bs),false) else zaq fu b a c
def zao(c:List (Bs×Bs)):Option (Bs×Bool):=(qkx fu c).bind fun e=>ay e (fun b=>bif !b.2.2.2 then qfp fu true b.1 b.2.1 [] else(fm fu b.1 [109,117,108,116,105,112,97,114,116]).bind fun d=>qfp fu (!d) b.1 b.2.1 []) (fun a=>bif !a.2.2.2.1 then qfp fu true a.1 a.2.1 a.2.2.2.2 else(fm fu a.1 [109,117,108,116,105,112,97,114,116]).bind fun f=>qfp fu (!f) a.1 a.2.1 a.2.2.2.2)
def za0(a:Bs):Option (Bs):=some a
def zaz(c:Bs)(a:Bs):Option Int:=(qwi fu c [32,9]).bind fun b=>bif decide (List.length ([45,45]:Bs)+a.length<=bz) then bif b==(([45,45]:Bs)++a) then some 1 else bif decide (List.length ([45,45]:Bs)+a.length<=bz) then bif decide (List.length (([45,45]:Bs)++a)+List.length ([45,45]:Bs)<=bz) then bif b==((([45,45]:Bs)++a)++[45,45]) then some 2 else some 0 else none else none else none
abbrev zqu:=(Bs×Bs×Int×(List Bs)×(List Bs)) ⊕ (Bs×Bs×Int×(List Bs))
def qum(b:Int)(f:Bs)(c:Bs)(d:Bs)(a:Int)(g:List Bs)(e:List Bs):Option zqu:=(zaz fu f d).bind fun h=>bif h==0 then some (.inl (c,(d,(a,(g,e))))) else bif decide (0<=a) then bif decide (0<=a/\a<=(if ae (b-2)>a then ae (b-2) else a)/\(if ae (b-2)>a then ae (b-2) else a)<=(c.length:Int)) then bif decide (List.length (e++([List.take ((if ae (b-2)>a then ae (b-2) else a).toNat-a.toNat) (List.drop a.toNat c)]:List Bs))<=ao) then bif h==2 then some (.inr (c,(d,(a,e++([List.take ((if ae (b-2)>a then ae (b-2) else a).toNat-a.toNat) (List.drop a.toNat c)]:List Bs))))) else some (.inl (c,(d,(if(c.length:Int)<ae ((ae (b+(f.length:Int)))+2) then(c.length:Int) else ae ((ae (b+(f.length:Int)))+2),(g,e++([List.take ((if ae (b-2)>a then ae (b-2) else a).toNat-a.toNat) (List.drop a.toNat c)]:List Bs)))))) else none else none else bif h==2 then some (.inr (c,(d,(a,e)))) else some (.inl (c,(d,(if(c.length:Int)<ae ((ae (b+(f.length:Int)))+2) then(c.length:Int) else ae ((ae (b+(f.length:Int)))+2),(g,e)))))
abbrev zdu:=(Bs×Bs×Bs×Int×(List Bs)) ⊕ (Bs×Bs×Bs×Int×(List Bs)×(List Bs))
abbrev q6w:=Int->Bs->Bs->Bs->Int->(List Bs)->(List Bs)->Option zdu
def za2(k:q6w):q6w:=fun a b i j h d c=>bif decide (a<(b.length:Int)) then bif decide (0<=a/\a<=(b.length:Int)) then bif decide (0<List.length ([13,10]:Bs)) then(yd (List.drop a.toNat b) ([13,10]:Bs)).bind fun g=>bif decide (0<=g) then bif decide (0<=a/\a<=ae (a+g)/\ae (a+g)<=(b.length:Int)) then(qum fu a (List.take ((ae (a+g)).toNat-a.toNat) (List.drop a.toNat b)) i j h d c).bind fun o=>ay o (fun e=>k (ae ((ae (a+g))+2)) b e.1 e.2.1 e.2.2.1 e.2.2.2.1 e.2.2.2.2) (fun m=>some (.inl (b,m))) else none else bif decide (0<=a/\a<=(b.length:Int)/\(b.length:Int)<=(b.length:Int)) then(qum fu a (List.take ((b.length:Int).toNat-a.toNat) (List.drop a.toNat b)) i j h d c).bind fun p=>ay p (fun f=>k (b.length:Int) b f.1 f.2.1 f.2.2.1 f.2.2.2.1 f.2.2.2.2) (fun l=>some (.inl (b,l))) else none else none else none else some (.inr (b,(i,(j,(h,(d,c))))))
def qux(fu:Nat):Nat->q6w|0=>fun _ _ _ _ _ _ _=>none|n+1=>za2 fu (qux fu n)
def za1(e:Bs)(d:Bs)(f:Bs)(a:Int)(c:List Bs)(b:List Bs):Option zdu:=qux fu fu 0 e d f a c b
def zas(b:Bs)(c:Bs):Option ((List Bs)):=(za0 b).bind fun d=>(za1 fu d b c (-1) [] []).bind fun f=>ay f (fun e=>some e.2.2.2.2) (fun a=>bif decide (0<=a.2.2.2.1) then bif decide (0<=a.2.2.2.1/\a.2.2.2.1<=(a.2.1.length:Int)) then bif decide (List.length (a.2.2.2.2.2++([List.drop a.2.2.2.1.toNat a.2.1]:List Bs))<=ao) then some (a.2.2.2.2.2++([List.drop a.2.2.2.1.toNat a.2.1]:List Bs)) else none else none else some a.2.2.2.2.2)
def qk0(c:List (Bs×Bs))(b:Bs)(d:Int):Option ((List Bs)):=(zao fu c).bind fun a=>bif !a.2 then some [] else bif decide (8<=d) then some [] else(zas fu b a.1).bind fun e=>some e
def qky(b:Bs×Bs):Option Bool:=(fm fu b.1 [98,111,117,110,100,97,114,121]).bind fun a=>some a
abbrev q6z:=wV->Int->Int->Option Int
def zbm(d:q6z):q6z:=fun c b a=>bif decide (a<b) then(am c a).bind fun e=>(qky fu e).bind fun f=>bif f then some a else d c b (ae (a+1)) else some (-1)
def qvp(fu:Nat):Nat->q6z|0=>fun _ _ _=>none|n+1=>zbm fu (qvp fu n)
def qvo(a:List (Bs×Bs)):Option Int:=qvp fu fu a (a.length:Int) 0
abbrev q35:=wV->Int->Int->Option (wV)
def zbh(d:q35):q35:=fun a b c=>bif decide (c<(a.length:Int)) then(am a c).bind fun e=>(qky fu e).bind fun f=>bif !f then(am a b).bind fun g=>none else d a b (ae (c+1)) else bif decide (0<=b/\b<=(a.length:Int)) then none else none
def qvi(fu:Nat):Nat->q35|0=>fun _ _ _=>none|n+1=>zbh fu (qvi fu n)
def zbg(b:List (Bs×Bs)):Option (wV):=(qvo fu b).bind fun a=>bif a==(-1) then some b else qvi fu fu b a (ae (a+1))
def q9j(a:UInt8):Option Bool:=bif decide (32<=a) then some (decide (a<=126)) else some false
def q7c(fu:Nat)(d:dy):dy:=fun c b a=>bif decide (a<b) then(am c a).bind fun f=>(q9j f).bind fun e=>bif !e then some false else d c b (ae (a+1)) else some true
def qrn(fu:Nat):Nat->dy|0=>fun _ _ _=>none|n+1=>q7c fu (qrn fu n)
def q7b(a:Bs):Option Bool:=qrn fu fu a (a.length:Int) 0
def qe4(b:UInt8):Option UInt8:=(([48,49,50,51,52,53,54,55,56,57,65,66,67,68,69,70]:Bs)[(b&&&15).toNat]?).bind fun a=>some a
abbrev qah:=Bs->Int->Int->(List Bs)->Option ((List Bs))
def qt5(fu:Nat)(d:qah):Bs->Bs->Int->Int->(List Bs)->Option ((List Bs)):=fun e c f b a=>bif decide (0<=ae ((a.length:Int)-1)/\(ae ((a.length:Int)-1)).toNat<a.length) then(a[(ae ((a.length:Int)-1)).toNat]?).bind fun h=>bif decide ((ae ((h.length:Int)+(c.length:Int)))<=60) then bif decide (0<=ae ((a.length:Int)-1)/\(ae ((a.length:Int)-1)).toNat<a.length) then(a[(ae ((a.length:Int)-1)).toNat]?).bind fun g=>bif decide (g.length+c.length<=bz) then bif decide (0<=ae ((a.length:Int)-1)/\(ae ((a.length:Int)-1)).toNat<a.length) then(a[(ae ((a.length:Int)-1)).toNat]?).bind fun i=>d e f (ae (b+1)) (List.set a ((ae ((a.length:Int)-1)).toNat) (g++c)) else none else none else none else bif decide (List.length (a++([c]:List Bs))<=ao) then d e f (ae (b+1)) (a++([c]:List Bs)) else none else none
def q9v(e:qah):qah:=fun c d a b=>bif decide (a<d) then bif decide (0<=a/\a<=ae (a+1)/\ae (a+1)<=(c.length:Int)) then(am c a).bind fun k=>(qbk k).bind fun j=>bif !j then(am c a).bind fun g=>(qe4 (qaf g (min (4:Int).toNat 8))).bind fun f=>(am c a).bind fun h=>(qe4 h).bind fun i=>qt5 fu e c ([37,f,i]:Bs) d a b else qt5 fu e c (List.take ((ae (a+1)).toNat-a.toNat) (List.drop a.toNat c)) d a b else none else some b
def qt4(fu:Nat):Nat->qah|0=>fun _ _ _ _=>none|n+1=>q9v fu (qt4 fu n)
def q9u(a:Bs):Option ((List Bs)):=qt4 fu fu a (a.length:Int) 0 ([([117,116,102,56,39,39]:Bs)]:List Bs)
abbrev q36:=Bs->Int->Int->(Bs×Bs)->(List Bs)->Option (Bs)
def q9k(fu:Nat)(h:q36):q36:=fun f d b a c=>bif decide (b<d) then bif decide (0<=b/\b.toNat<c.length) then(c[b.toNat]?).bind fun g=>bif decide (List.length ([59,32]:Bs)+a.1.length<=bz) then bif decide (List.length (([59,32]:Bs)++a.1)+List.length ([42]:Bs)<=bz) then(sk b).bind fun e=>bif decide (List.length ((([59,32]:Bs)++a.1)++[42])+e.length<=bz) then bif decide (List.length (((([59,32]:Bs)++a.1)++[42])++e)+List.length ([42,61]:Bs)<=bz) then bif decide (List.length ((((([59,32]:Bs)++a.1)++[42])++e)++[42,61])+g.length<=bz) then bif decide (f.length+List.length (((((([59,32]:Bs)++a.1)++[42])++e)++[42,61])++g)<=bz) then h (f++(((((([59,32]:Bs)++a.1)++[42])++e)++[42,61])++g)) d (ae (b+1)) a c else none else none else none else none else none else none else none else some f
def qtw(fu:Nat):Nat->q36|0=>fun _ _ _ _ _=>none|n+1=>q9k fu (qtw fu n)
def q9l:(Bs×Bs)->Option (Bs):=fun a=>(q9u fu a.2).bind fun b=>qtw fu fu [] (b.length:Int) 0 a b
def qtv:Bool->(Bs×Bs)->Option (Bs):=fun d a=>bif d then bif decide (List.length ([59,32]:Bs)+a.1.length<=bz) then bif decide (List.length (([59,32]:Bs)++a.1)+List.length ([61,34]:Bs)<=bz) then(qf4 ([([92]:Bs),([92,92]:Bs),([34]:Bs),([92,34]:Bs)]:List Bs)).bind fun b=>(si a.2 b.1 b.2.1 b.2.2.1 b.2.2.2).bind fun c=>bif decide (List.length ((([59,32]:Bs)++a.1)++[61,34])+c.length<=bz) then bif decide (List.length (((([59,32]:Bs)++a.1)++[61,34])++c)+List.length ([34]:Bs)<=bz) then some ((((([59,32]:Bs)++a.1)++[61,34])++c)++[34]) else none else none else none else none else q9l fu a
def q9i(a:Bs×Bs):Option (Bs):=(qfo fu a.2).bind fun c=>bif c then bif decide (List.length ([59,32]:Bs)+a.1.length<=bz) then bif decide (List.length (([59,32]:Bs)++a.1)+List.length ([61]:Bs)<=bz) then bif decide (List.length ((([59,32]:Bs)++a.1)++[61])+a.2.length<=bz) then some (((([59,32]:Bs)++a.1)++[61])++a.2) else none else none else none else bif decide ((a.2.length:Int)<=60) then(q7b fu a.2).bind fun b=>qtv fu b a else qtv fu false a
abbrev q37:=Bs->wV->Int->Int->(Int×Int)->Option (Bs×(Int×Int))
def q9c(h:q37):q37:=fun d c b a e=>bif decide (a<b) then(am c a).bind fun j=>(q9i fu j).bind fun f=>bif decide (d.length+f.length<=bz) then h (d++f) c b (ae (a+1)) e else none else bif decide (4000<(d.length:Int)) then(aq 1 (-4)).bind fun i=>some (([]:Bs),i) else(cd).bind fun g=>some (d,g)
def qtq(fu:Nat):Nat->q37|0=>fun _ _ _ _ _=>none|n+1=>q9c fu (qtq fu n)
def qks(a:Bs×Bs×wV):Option (Bs×(Int×Int)):=(qfm fu a).bind fun b=>(ck b).bind fun c=>bif c then some (([]:Bs),b) else bif decide (a.1.length+List.length ([47]:Bs)<=bz) then bif decide (List.length (a.1++[47])+a.2.1.length<=bz) then qtq fu fu ((a.1++[47])++a.2.1) a.2.2 (a.2.2.length:Int) 0 (0,0) else none else none
abbrev q38:=Int->Int->wV->Option (wV)
def zbj(d:q38):q38:=fun b c a=>bif decide (c<(a.length:Int)) then bif decide (0<=c/\c.toNat<a.length) then(a[c.toNat]?).bind fun e=>(qky fu e).bind fun f=>bif !f then bif decide (0<=b/\b.toNat<a.length) then(a[b.toNat]?).bind fun g=>d (ae (b+1)) (ae (c+1)) (List.set a b.toNat e) else none else d b (ae (c+1)) a else none else bif decide (0<=b/\b.toNat<a.length) then bif decide (0<=b/\b<=(List.length (List.take b.toNat a++List.replicate (a.length-b.toNat) (([]:Bs),([]:Bs))):Int)) then some (List.take b.toNat (List.take b.toNat a++List.replicate (a.length-b.toNat) (([]:Bs),([]:Bs)))) else none else none
def qvj(fu:Nat):Nat->q38|0=>fun _ _ _=>none|n+1=>zbj fu (qvj fu n)
def zbi(b:List (Bs×Bs)):Option (wV):=(qvo fu b).bind fun a=>bif a==(-1) then some b else qvj fu fu a (ae (a+1)) b
abbrev zqt:=Bool×wV
def qul(f:List (Bs×Bs)):Option zqt:=(qkx fu f).bind fun m=>ay m (fun c=>(zbg fu []).bind fun k=>(qks fu (c.1,(c.2.1,k))).bind fun i=>(ck i.2).bind fun l=>bif l then some (false,[]) else(mf f).bind fun h=>bif decide (0<=c.2.2.1/\c.2.2.1.toNat<h.length) then(h[c.2.2.1.toNat]?).bind fun o=>some (true,List.set h c.2.2.1.toNat (o.1,i.1)) else none) (fun b=>(zbi fu b.2.2.2.2).bind fun j=>(qks fu (b.1,(b.2.1,j))).bind fun d=>(ck d.2).bind fun g=>bif g then some (false,[]) else(mf f).bind fun a=>bif decide (0<=b.2.2.1/\b.2.2.1.toNat<a.length) then(a[b.2.2.1.toNat]?).bind fun e=>some (true,List.set a b.2.2.1.toNat (e.1,d.1)) else none)
abbrev qyh:=wU×Bool×(Int×Int×Int)
abbrev qi0:=Bs->Int->(Int×Int×Int)->Option qyh
abbrev zdw:=wU×Bool×(Int×Int×Int)
abbrev q39:=Int->Int->Int->(Int×Int×Int)->(List Bs)->wV->(List wU)->Option zdw
def za6(e:qi0)(fu:Nat)(k:q39):q39:=fun h f a i c g b=>bif decide (a<f) then bif decide (0<=a/\a.toNat<c.length) then(c[a.toNat]?).bind fun j=>(e j (ae (h+1)) i).bind fun d=>bif !d.2.1 then some ((Tree.node ([],[]) []),(false,d.2.2)) else bif decide (List.length (b++([(Tree.node d.1.val d.1.kids)]:List wU))<=ao) then k h f (ae (a+1)) d.2.2 c g (b++([(Tree.node d.1.val d.1.kids)]:List wU)) else none else none else some ((Tree.node (g,[]) b),(true,i))
def quz(a:qi0)(fu:Nat):Nat->q39|0=>fun _ _ _ _ _ _ _=>none|n+1=>za6 a fu (quz a fu n)
def za5(a:qi0)(fu:Nat)(f:Bs)(e:Int)(b:Int×Int×Int)(c:List (Bs×Bs)):Option zdw:=(mf c).bind fun h=>(mf f).bind fun i=>(qk0 fu c f e).bind fun d=>bif(d.length:Int)==0 then some ((Tree.node (h,i) []),(true,(ae (b.1+1),b.2))) else(qul fu c).bind fun g=>bif !g.1 then some ((Tree.node (h,i) []),(true,(ae (b.1+1),b.2))) else quz a fu fu e (d.length:Int) 0 (ae (b.1+1),b.2) d g.2 []
def qu0(a:qi0)(fu:Nat)(d:Bs)(f:Int)(c:Int×Int×Int):Option qyh:=(qtd fu d).bind fun b=>(ck b.2.1).bind fun i=>bif i then(aq b.2.1.1 (-8)).bind fun h=>some ((Tree.node ([],[]) []),(false,(c.1,h))) else bif c.1==40 then(aq 2 (-7)).bind fun g=>some ((Tree.node ([],[]) []),(false,(c.1,g))) else bif decide (0<=b.1/\b.1<=(d.length:Int)) then(za5 a fu (List.drop b.1.toNat d) f c b.2.2).bind fun e=>some ((Tree.node e.1.val e.1.kids),e.2) else none
def qu1(fu:Nat):Nat->qi0|0=>fun _ _ _=>none|n+1=>qu0 (qu1 fu n) fu
def zqa(c:Bs)(a:Int)(b:Int×Int×Int):Option qyh:=qu1 fu fu c a b
abbrev zdv:=wU×Bool×(Int×Int×Int)
abbrev q4b:=Int->Int->Int->(Int×Int×Int)->(List Bs)->wV->(List wU)->Option zdv
def za4(j:q4b):q4b:=fun g e a h c f b=>bif decide (a<e) then bif decide (0<=a/\a.toNat<c.length) then(c[a.toNat]?).bind fun i=>(zqa fu i (ae (g+1)) h).bind fun d=>bif !d.2.1 then some ((Tree.node ([],[]) []),(false,d.2.2)) else bif decide (List.length (b++([(Tree.node d.1.val d.1.kids)]:List wU))<=ao) then j g e (ae (a+1)) d.2.2 c f (b++([(Tree.node d.1.val d.1.kids)]:List wU)) else none else none else some ((Tree.node (f,[]) b),(true,h))
def quy(fu:Nat):Nat->q4b|0=>fun _ _ _ _ _ _ _=>none|n+1=>za4 fu (quy fu n)
def za3(b:List (Bs×Bs))(d:Bs)(e:Int)(a:Int×Int×Int):Option zdv:=(mf b).bind fun g=>(mf d).bind fun h=>(qk0 fu b d e).bind fun c=>bif(c.length:Int)==0 then some ((Tree.node (g,h) []),(true,(ae (a.1+1),a.2))) else(qul fu b).bind fun f=>bif !f.1 then some ((Tree.node (g,h) []),(true,(ae (a.1+1),a.2))) else quy fu fu e (c.length:Int) 0 (ae (a.1+1),a.2) c f.2 []
abbrev zqv:=wU
def qkz(a:Tree (wV×Bs)):Option zqv:=some (Tree.node a.val a.kids)
abbrev zqs:=((Int×Int)×Bool) ⊕ ((Int×Int)×Bool)
def zam(d:Int)(g:List (Bs×Bs))(h:Bs)(f:List wU)(c:Int)(a:Int×Int)(b:Bool):Option zqs:=bif decide (40<=d) then(aq 2 (-1)).bind fun e=>some (.inl (e,b)) else bif b then some (.inr (a,true)) else some (.inr (a,decide (8<c)))
abbrev ql6:=(Int×(Int×Int)×Bool) ⊕ (Int×(Int×Int)×Bool)
abbrev qpq:=wU->Int->Int->(Int×Int)->Bool->Option ql6
abbrev q4c:=Int->(List wU)->Int->Int->Int->(Int×Int)->Bool->Option ql6
def zau(a:qpq)(fu:Nat)(k:q4c):q4c:=fun g d c b h f i=>bif decide (b<c) then(am d b).bind fun j=>(a (Tree.node j.val j.kids) (ae (g+1)) h f i).bind fun m=>ay m (fun l=>some (.inl l)) (fun e=>k g d c (ae (b+1)) e.1 e.2.1 e.2.2) else some (.inr (h,(f,i)))
def quq(a:qpq)(fu:Nat):Nat->q4c|0=>fun _ _ _ _ _ _ _=>none|n+1=>zau a fu (quq a fu n)
def qun(a:qpq)(fu:Nat)(b:Tree (wV×Bs))(d:Int)(c:Int)(f:Int×Int)(g:Bool):Option ql6:=(zam c b.val.1 b.val.2 b.kids d f g).bind fun i=>ay i (fun h=>some (.inl (c,h))) (fun e=>quq a fu fu d b.kids (b.kids.length:Int) 0 (ae (c+1)) e.1 e.2)
def qup(fu:Nat):Nat->qpq|0=>fun _ _ _ _ _=>none|n+1=>qun (qup fu n) fu
def zp7(d:Tree (wV×Bs))(c:Int)(e:Int)(a:Int×Int)(b:Bool):Option ql6:=qup fu fu d c e a b
abbrev zqw:=(wU×(Int×Int)×Bool) ⊕ (wU×(Int×Int)×Bool)
def zat(a:Tree (wV×Bs))(b:Int×Int)(d:Bool):Option zqw:=(zp7 fu (Tree.node a.val a.kids) 0 0 b d).bind fun e=>ay e (fun c=>some (.inl ((Tree.node a.val a.kids),c.2))) (fun f=>some (.inr ((Tree.node a.val a.kids),f.2)))
def za8:(Int->wU->Bs->Bs->wV->Option Int):=fun g d b a c=>(qto fu (b,(a,c)) [98,111,117,110,100,97,114,121]).bind fun h=>(qks fu (b,(a,c))).bind fun e=>bif h.2.1 then some 5 else bif decide (60<=(c.length:Int)) then some 5 else(ck e.2).bind fun i=>bif i then some 5 else(am d.val.1 g).bind fun f=>bif !(e.1==f.2) then some 5 else bif decide (2000<(e.1.length:Int)) then some 5 else some 0
def yi:(Int->Bool->wU->Bs->Bs->wV->Option Int):=fun f d c a b e=>bif d then some 5 else za8 fu f (Tree.node c.val c.kids) a b e
def za7(a:Tree (wV×Bs)):Option Int:=(qkx fu a.val.1).bind fun e=>ay e (fun c=>bif decide (0<(a.val.2.length:Int)) then yi fu c.2.2.1 true (Tree.node a.val a.kids) c.1 c.2.1 [] else bif !c.2.2.2 then yi fu c.2.2.1 true (Tree.node a.val a.kids) c.1 c.2.1 [] else(fm fu c.1 [109,117,108,116,105,112,97,114,116]).bind fun d=>yi fu c.2.2.1 (!d) (Tree.node a.val a.kids) c.1 c.2.1 []) (fun b=>bif decide (0<(a.val.2.length:Int)) then yi fu b.2.2.1 true (Tree.node a.val a.kids) b.1 b.2.1 b.2.2.2.2 else bif !b.2.2.2.1 then yi fu b.2.2.1 true (Tree.node a.val a.kids) b.1 b.2.1 b.2.2.2.2 else(fm fu b.1 [109,117,108,116,105,112,97,114,116]).bind fun f=>yi fu b.2.2.1 (!f) (Tree.node a.val a.kids) b.1 b.2.1 b.2.2.2.2)
def zar(a:wU×Int):Option Int:=(qti fu a.1.val.1).bind fun c=>(ck c).bind fun e=>bif e then some c.1 else bif decide (0<(a.1.kids.length:Int)) then(za7 fu (Tree.node a.1.val a.1.kids)).bind fun d=>some d else bif decide (12000<(a.1.val.2.length:Int)) then some 1 else(qrt fu a.1.val.2).bind fun b=>bif b != 0 then some b else(qk0 fu a.1.val.1 a.1.val.2 a.2).bind fun f=>bif decide (0<(f.length:Int)) then some 5 else some 0
def zan(f:Int)(e:List (Bs×Bs))(g:Bs)(b:List wU)(d:Int)(c:Int×Int):Option (((Int×Int)) ⊕ ((Int×Int))):=(zar fu ((Tree.node (e,g) b),d)).bind fun a=>bif a != 0 then(aq a f).bind fun h=>some (.inl h) else some (.inr c)
abbrev ql7:=(Int×(Int×Int)) ⊕ (Int×(Int×Int))
abbrev qpr:=wU->Int->Int->(Int×Int)->Option ql7
abbrev q4e:=Int->(List wU)->Int->Int->Int->(Int×Int)->Option ql7
def zav(a:qpr)(fu:Nat)(j:q4e):q4e:=fun f d c b g e=>bif decide (b<c) then(am d b).bind fun i=>(a (Tree.node i.val i.kids) (ae (f+1)) g e).bind fun l=>ay l (fun k=>some (.inl k)) (fun h=>j f d c (ae (b+1)) h.1 h.2) else some (.inr (g,e))
def qut(a:qpr)(fu:Nat):Nat->q4e|0=>fun _ _ _ _ _ _=>none|n+1=>zav a fu (qut a fu n)
def qur(a:qpr)(fu:Nat)(b:Tree (wV×Bs))(d:Int)(c:Int)(e:Int×Int):Option ql7:=(zan fu c b.val.1 b.val.2 b.kids d e).bind fun g=>ay g (fun f=>some (.inl (c,f))) (fun h=>qut a fu fu d b.kids (b.kids.length:Int) 0 (ae (c+1)) h)
def qus(fu:Nat):Nat->qpr|0=>fun _ _ _ _=>none|n+1=>qur (qus fu n) fu
def zp8(d:Tree (wV×Bs))(b:Int)(c:Int)(a:Int×Int):Option ql7:=qus fu fu d b c a
abbrev zqx:=(wU×(Int×Int)) ⊕ (wU×(Int×Int))
def zax(a:Tree (wV×Bs))(b:Int×Int):Option zqx:=(zp8 fu (Tree.node a.val a.kids) 0 0 b).bind fun d=>ay d (fun c=>some (.inl ((Tree.node a.val a.kids),c.2))) (fun e=>some (.inr ((Tree.node a.val a.kids),e.2)))
def zal(a:Tree (wV×Bs)):Option ((Int×Int)):=(qkz (Tree.node a.val a.kids)).bind fun e=>(zat fu (Tree.node e.val e.kids) (0,0) false).bind fun i=>ay i (fun g=>some g.2.1) (fun d=>bif d.2.2 then(aq 2 (-2)).bind fun j=>some j else(qkz (Tree.node a.val a.kids)).bind fun c=>(zax fu (Tree.node c.val c.kids) d.2.1).bind fun h=>ay h (fun f=>some f.2) (fun k=>(cd).bind fun b=>some b))
abbrev zqr:=wU×(Int×Int)
def zaj(b:wV×Bs):Option zqr:=(qkv fu b).bind fun d=>(ck d).bind fun g=>bif g then some ((Tree.node ([],[]) []),d) else(za3 fu b.1 b.2 0 (0,(0,0))).bind fun a=>bif !a.2.1 then some ((Tree.node ([],[]) []),a.2.2.2) else(zal fu (Tree.node a.1.val a.1.kids)).bind fun c=>(ck c).bind fun h=>bif h then(aq c.1 (-9)).bind fun e=>some ((Tree.node ([],[]) []),e) else(cd).bind fun f=>some ((Tree.node a.1.val a.1.kids),f)
abbrev zqp:=wU
def zag(a:Tree (wV×Bs)):Option zqp:=some (Tree.node a.val a.kids)
def qxg(b:Bs)(a:UInt8):Option (Bs×UInt8):=some (b,a)
abbrev zq3:=(Bs×Bool×UInt8) ⊕ ((Bs×Bool) ⊕ ((Bs×Bool) ⊕ (Bs×Bool)))
def zcz(a:Bs):Option zq3:=(qxg [55,98,105,116] 127).bind fun b=>(qxg [56,98,105,116] 255).bind fun c=>(fm fu b.1 a).bind fun f=>bif f then some (.inl (b.1,(true,b.2))) else(fm fu c.1 a).bind fun d=>bif d then some (.inl (c.1,(true,c.2))) else(fm fu [98,97,115,101,54,52] a).bind fun g=>bif g then some (.inr (.inl (([98,97,115,101,54,52]:Bs),true))) else(fm fu [113,117,111,116,101,100,45,112,114,105,110,116,97,98,108,101] a).bind fun e=>bif e then some (.inr (.inr (.inl (([113,117,111,116,101,100,45,112,114,105,110,116,97,98,108,101]:Bs),true)))) else some (.inr (.inr (.inr (([]:Bs),false))))
abbrev zq4:=(Bs×(Int×Int)×UInt8) ⊕ ((Bs×(Int×Int)) ⊕ ((Bs×(Int×Int)) ⊕ (Bs×(Int×Int))))
def zc0(e:Bs)(s:Bs):Option zq4:=(zcz fu s).bind fun v=>ay v (fun a=>bif !a.2.1 then(aq 18 (-3)).bind fun u=>some (.inl (a.1,(u,a.2.2))) else bif decide (12000<(e.length:Int)) then(aq 1 (-1)).bind fun t=>some (.inl (a.1,(t,a.2.2))) else(cd).bind fun l=>some (.inl (a.1,(l,a.2.2)))) (fun r=>ay r (fun b=>bif !b.2 then(aq 18 (-3)).bind fun g=>some (.inr (.inl (b.1,g))) else bif decide (12000<(e.length:Int)) then(aq 1 (-1)).bind fun i=>some (.inr (.inl (b.1,i))) else(cd).bind fun k=>some (.inr (.inl (b.1,k)))) (fun q=>ay q (fun d=>bif !d.2 then(aq 18 (-3)).bind fun o=>some (.inr (.inr (.inl (d.1,o)))) else bif decide (12000<(e.length:Int)) then(aq 1 (-1)).bind fun h=>some (.inr (.inr (.inl (d.1,h)))) else(cd).bind fun m=>some (.inr (.inr (.inl (d.1,m))))) (fun c=>bif !c.2 then(aq 18 (-3)).bind fun p=>some (.inr (.inr (.inr (c.1,p)))) else bif decide (12000<(e.length:Int)) then(aq 1 (-1)).bind fun j=>some (.inr (.inr (.inr (c.1,j)))) else(cd).bind fun f=>some (.inr (.inr (.inr (c.1,f)))))))
def zcy(a:Bs):Option ((Int×Int)×Bs):=bif decide (a.length<=ao) then(cd).bind fun b=>some (b,a) else none
abbrev q4h:=Int->Int->Bs->Int->Int->(Int×Int)->Bs->Option ((Int×Int)×Bs)
def qj0(fu:Nat)(i:q4h):q4h:=fun h c d e b f a=>bif decide (b<e) then(am d b).bind fun j=>bif j==61 then(cd).bind fun k=>some (k,a) else bif decide (0<List.length ([65,66,67,68,69,70,71,72,73,74,75,76,77,78,79,80,81,82,83,84,85,86,87,88,89,90,97,98,99,100,101,102,103,104,105,106,107,108,109,110,111,112,113,114,115,116,117,118,119,120,121,122,48,49,50,51,52,53,54,55,56,57,43,47]:Bs)) then(qe7 ([65,66,67,68,69,70,71,72,73,74,75,76,77,78,79,80,81,82,83,84,85,86,87,88,89,90,97,98,99,100,101,102,103,104,105,106,107,108,109,110,111,112,113,114,115,116,117,118,119,120,121,122,48,49,50,51,52,53,54,55,56,57,43,47]:Bs) j).bind fun g=>bif decide (g<0) then i h c d e (ae (b+1)) f a else bif decide (8<=(ae (c+6))) then bif decide (0<=ae ((ae (c+6))-8)) then bif decide (List.length (a++([di (Int.fdiv (ae (((BitVec.ofInt 64 (ae (h*2 ^ min (6:Int).toNat 64))|||BitVec.ofInt 64 g).toNat:Int))) (2 ^ min (ae ((ae (c+6))-8)).toNat 64))]:Bs))<=ao) then bif decide (0<=ae ((ae (c+6))-8)) then i (ae (((BitVec.ofInt 64 (ae (((BitVec.ofInt 64 (ae (h*2 ^ min (6:Int).toNat 64))|||BitVec.ofInt 64 g).toNat:Int)))&&&BitVec.ofInt 64 (ae ((ae (1*2 ^ min (ae ((ae (c+6))-8)).toNat 64))-1))).toNat:Int))) (ae ((ae (c+6))-8)) d e (ae (b+1)) f (a++([di (Int.fdiv (ae (((BitVec.ofInt 64 (ae (h*2 ^ min (6:Int).toNat 64))|||BitVec.ofInt 64 g).toNat:Int))) (2 ^ min (ae ((ae (c+6))-8)).toNat 64))]:Bs)) else none else none else none else i (ae (((BitVec.ofInt 64 (ae (h*2 ^ min (6:Int).toNat 64))|||BitVec.ofInt 64 g).toNat:Int))) (ae (c+6)) d e (ae (b+1)) f a else none else(cd).bind fun l=>some (l,a)
def yc(fu:Nat):Nat->q4h|0=>fun _ _ _ _ _ _ _=>none|n+1=>qj0 fu (yc fu n)
def qe2(a:Bs):Option ((Int×Int)×Bs):=bif decide (24000<(a.length:Int)) then(aq 1 (-1)).bind fun b=>some (b,[]) else yc fu fu 0 0 a (a.length:Int) 0 (0,0) []
def q7y(fu:Nat)(c:uj):uj:=fun a b=>bif decide (0<(a.length:Int)) then(am a (ae ((a.length:Int)-1))).bind fun d=>bif d==b then bif decide (0<=ae ((a.length:Int)-1)/\ae ((a.length:Int)-1)<=(a.length:Int)) then c (List.take (ae ((a.length:Int)-1)).toNat a) b else none else some a else some a
def qsb(fu:Nat):Nat->uj|0=>fun _ _=>none|n+1=>q7y fu (qsb fu n)
def q7x(b:Bs)(a:UInt8):Option (Bs):=qsb fu fu b a
def q7q(fu:Nat)(e:qec):qec:=fun c b a=>bif decide (b<(c.length:Int)) then(am c b).bind fun d=>bif decide (128<=d) then bif decide (a.length=256) then bif decide (a.length=a.length)&&decide (a.length=256) then bif decide (a.length=256)&&(true&&true) then some (a,false) else none else none else none else(a[d.toNat]?).bind fun f=>e c (ae (b+1)) (List.set a d.toNat true) else bif decide (a.length=256) then bif decide (a.length=a.length)&&decide (a.length=256) then bif decide (a.length=256)&&(true&&true) then some (a,true) else none else none else none
def qr7(fu:Nat):Nat->qec|0=>fun _ _ _=>none|n+1=>q7q fu (qr7 fu n)
def q7p(a:Bs):Option ((List Bool)×Bool):=qr7 fu fu a 0 (List.replicate 256 false)
def q7n(c:UInt8)(a:List Bool):Option (Bool×(List Bool)):=(a[c.toNat]?).bind fun b=>some (b,a)
def q7w(fu:Nat)(d:uk):uk:=fun a c=>bif decide (0<(a.length:Int)) then(am a (ae ((a.length:Int)-1))).bind fun e=>(q7n e c).bind fun b=>bif !b.1 then some (a,b.2) else bif decide (0<=ae ((a.length:Int)-1)/\ae ((a.length:Int)-1)<=(a.length:Int)) then d (List.take (ae ((a.length:Int)-1)).toNat a) b.2 else none else some (a,c)
def qsa(fu:Nat):Nat->uk|0=>fun _ _=>none|n+1=>q7w fu (qsa fu n)
def q7v(b:Bs)(a:List Bool):Option (Bs×(List Bool)):=qsa fu fu b a
def zdc:UInt8->UInt8->UInt8->UInt8->Option (Int×Int):=fun d c b a=>some (IntKind.i32.wrap (((BitVec.ofInt 32 (IntKind.i32.wrap (((BitVec.ofInt 32 (IntKind.i32.wrap (((BitVec.ofInt 32 (IntKind.i32.wrap (((d&&&7).toNat:Int)*2 ^ min (18:Int).toNat 32))|||BitVec.ofInt 32 (IntKind.i32.wrap (((c&&&63).toNat:Int)*2 ^ min (12:Int).toNat 32))).toNat:Int)))|||BitVec.ofInt 32 (IntKind.i32.wrap (((b&&&63).toNat:Int)*2 ^ min (6:Int).toNat 32))).toNat:Int)))|||BitVec.ofInt 32 ((a&&&63).toNat:Int)).toNat:Int)),4)
def qxw:UInt8->UInt8->UInt8->UInt8->Bool->Option (Int×Int):=fun e d c b a=>bif a then some (65533,1) else zdc e d c b
def zdb:Bs->UInt8->Int->UInt8->UInt8->Option (Int×Int):=fun f d e b a=>bif decide (e<=3) then some (IntKind.i32.wrap (((BitVec.ofInt 32 (IntKind.i32.wrap (((BitVec.ofInt 32 (IntKind.i32.wrap (((d&&&15).toNat:Int)*2 ^ min (12:Int).toNat 32))|||BitVec.ofInt 32 (IntKind.i32.wrap (((b&&&63).toNat:Int)*2 ^ min (6:Int).toNat 32))).toNat:Int)))|||BitVec.ofInt 32 ((a&&&63).toNat:Int)).toNat:Int)),3) else(am f 3).bind fun c=>bif decide (c<128) then qxw d b a c true else qxw d b a c (decide (191<c))
def qxv:Bs->UInt8->Int->UInt8->UInt8->Bool->Option (Int×Int):=fun e f d c b a=>bif a then some (65533,1) else zdb e f d c b
def zda:Bs->UInt8->Int->UInt8->Option (Int×Int):=fun d e c a=>bif decide (c<=2) then some (IntKind.i32.wrap (((BitVec.ofInt 32 (IntKind.i32.wrap (((e&&&31).toNat:Int)*2 ^ min (6:Int).toNat 32))|||BitVec.ofInt 32 ((a&&&63).toNat:Int)).toNat:Int)),2) else(am d 2).bind fun b=>bif decide (b<128) then qxv d e c a b true else qxv d e c a b (decide (191<b))
def qxu:Bs->UInt8->Int->UInt8->Bool->Option (Int×Int):=fun d e c a b=>bif b then some (65533,1) else zda d e c a
def qxt(a:Bs):Option (Int×Int):=bif decide ((a.length:Int)<1) then some (65533,0) else(am a 0).bind fun d=>(qpa[d.toNat]?).bind fun b=>bif decide (240<=b) then(am a 0).bind fun f=>some (IntKind.i32.wrap (((BitVec.ofInt 32 (IntKind.i32.wrap (((BitVec.ofInt 32 (f.toNat:Int) &&& ~~~ BitVec.ofInt 32 (Int.fdiv (IntKind.i32.wrap ((b.toNat:Int)*2 ^ min (31:Int).toNat 32)) (2 ^ min (31:Int).toNat 32))).toNat:Int)))|||BitVec.ofInt 32 (IntKind.i32.wrap (((BitVec.ofInt 32 65533&&&BitVec.ofInt 32 (Int.fdiv (IntKind.i32.wrap ((b.toNat:Int)*2 ^ min (31:Int).toNat 32)) (2 ^ min (31:Int).toNat 32))).toNat:Int)))).toNat:Int)),1) else(qpb[(qaf b (min (4:Int).toNat 8)).toNat]?).bind fun e=>bif decide ((a.length:Int)<((b&&&7).toNat:Int)) then some (65533,1) else(am a 1).bind fun c=>bif decide (c<e.1) then qxu a d ((b&&&7).toNat:Int) c true else qxu a d ((b&&&7).toNat:Int) c (decide (e.2<c))
abbrev q4i:=Bs->Bs->Int->Option (Int×Int)
def zc6(fu:Nat)(g:q4i):q4i:=fun a c d=>bif decide (0<d) then(am c 0).bind fun b=>bif decide (b<128) then some ((b.toNat:Int),1) else(qxt a).bind fun f=>some f else(qxt a).bind fun e=>some e
def qxo(fu:Nat):Nat->q4i|0=>fun _ _ _=>none|n+1=>zc6 fu (qxo fu n)
def qxn(a:Bs):Option (Int×Int):=qxo fu fu a a (a.length:Int)
def qxm:qqe:=fun c b a=>bif decide (0<=a/\a<=b/\b<=(c.length:Int)) then(qxn fu (List.take (b.toNat-a.toNat) (List.drop a.toNat c))).bind fun d=>bif(ae (a+d.2)) != b then some (65533,1) else some d else none
def qxl:qqe:=fun a c b=>bif decide (b<0) then qxm fu a c 0 else qxm fu a c b
def zc5(e:qd8):qd8:=fun b c a d=>bif decide (d<=a) then(am b a).bind fun f=>(qxr f).bind fun g=>bif g then qxl fu b c a else e b c (ae (a-1)) d else qxl fu b c a
def qxk(fu:Nat):Nat->qd8|0=>fun _ _ _ _=>none|n+1=>zc5 fu (qxk fu n)
def zc2(a:Bs):Option (Int×Int):=bif(a.length:Int)==0 then some (65533,0) else(am a (ae ((a.length:Int)-1))).bind fun b=>bif decide ((b.toNat:Int)<128) then some ((b.toNat:Int),1) else qxk fu fu a (a.length:Int) (ae ((ae ((a.length:Int)-1))-1)) (if 0>ae ((a.length:Int)-4) then 0 else ae ((a.length:Int)-4))
abbrev q4j:=Int->Bs->Nat->Option Bool
def q7o(fu:Nat)(d:q4j):q4j:=fun c b a=>bif Nat.blt a (b.length) then bif(((d8 b a).1:Nat):Int)==c then some true else d c b (a+(d8 b a).2) else some false
def qr6(fu:Nat):Nat->q4j|0=>fun _ _ _=>none|n+1=>q7o fu (qr6 fu n)
def qr5(b:Bs)(a:Int):Option Bool:=qr6 fu fu a b 0
def q70(d:jq):jq:=fun a b=>bif decide (0<(a.length:Int)) then(am a (ae ((a.length:Int)-1))).bind fun e=>bif decide (128<=(e.toNat:Int)) then(zc2 fu a).bind fun c=>(qr5 fu b c.1).bind fun g=>bif !g then some a else bif decide (0<=ae ((a.length:Int)-c.2)/\ae ((a.length:Int)-c.2)<=(a.length:Int)) then d (List.take (ae ((a.length:Int)-c.2)).toNat a) b else none else(qr5 fu b (e.toNat:Int)).bind fun f=>bif !f then some a else bif decide (0<=ae ((a.length:Int)-1)/\ae ((a.length:Int)-1)<=(a.length:Int)) then d (List.take (ae ((a.length:Int)-1)).toNat a) b else none else some a
def qsc(fu:Nat):Nat->jq|0=>fun _ _=>none|n+1=>q70 fu (qsc fu n)
def q7z(b:Bs)(a:Bs):Option (Bs):=qsc fu fu b a
def q7m:jq:=fun b c=>(q7p fu c).bind fun a=>bif decide (a.1.length=List.length (List.replicate 256 false))&&decide (a.1.length=256) then bif a.2 then(q7v fu b a.1).bind fun e=>some e.1 else(q7z fu b c).bind fun d=>some d else none
def qr4:xt:=fun b c a=>bif a then(am c 0).bind fun d=>(q7x fu b d).bind fun e=>some e else q7m fu b c
def q7l:jq:=fun b a=>bif(a.length:Int)==1 then(am a 0).bind fun c=>qr4 fu b a (decide (c<128)) else qr4 fu b a false
def qr3:xt:=fun b c a=>bif a then some b else q7l fu b c
def q7k(b:Bs)(a:Bs):Option (Bs):=bif(b.length:Int)==0 then qr3 fu b a true else qr3 fu b a (a==([]:Bs))
def zbc(fu:Nat)(d:qi):qi:=fun c a b=>bif decide (a<(c.length:Int)) then(am c a).bind fun h=>bif h==61 then bif decide (0<=ae (a+1)/\ae (a+1)<=(if(c.length:Int)<ae (a+3) then(c.length:Int) else ae (a+3))/\(if(c.length:Int)<ae (a+3) then(c.length:Int) else ae (a+3))<=(c.length:Int)) then(qba (List.take ((if(c.length:Int)<ae (a+3) then(c.length:Int) else ae (a+3)).toNat-(ae (a+1)).toNat) (List.drop (ae (a+1)).toNat c))).bind fun e=>bif e.2 then bif decide (List.length (b++([e.1]:Bs))<=ao) then d c (ae ((ae (a+2))+1)) (b++([e.1]:Bs)) else none else(am c a).bind fun g=>bif decide (List.length (b++([g]:Bs))<=ao) then d c (ae (a+1)) (b++([g]:Bs)) else none else none else(am c a).bind fun f=>bif decide (List.length (b++([f]:Bs))<=ao) then d c (ae (a+1)) (b++([f]:Bs)) else none else some b
def qu6(fu:Nat):Nat->qi|0=>fun _ _ _=>none|n+1=>zbc fu (qu6 fu n)
def zbb(a:Bs):Option (Bs):=qu6 fu fu a 0 []
abbrev qdk:=Bs->(Int×Int)->Bs->Option ((Int×Int)×Bs)
def qu5(h:qdk):Bs->Int->Bs->Bs->(Int×Int)->Bs->Option ((Int×Int)×Bs):=fun f d g e b a=>(zbb fu g).bind fun c=>bif decide (List.length (a++c)<=ao) then bif decide (List.length ((a++c)++e)<=ao) then bif decide (0<=d/\d<=(f.length:Int)) then h (List.drop d.toNat f) b ((a++c)++e) else none else none else none
def qu4(g:qdk):Bs->Int->Bs->(Int×Int)->Bs->Option ((Int×Int)×Bs):=fun f e b c d=>bif decide (0<=(b.length:Int)/\(b.length:Int)<=e/\e<=(f.length:Int)) then(q7k fu b [32,9]).bind fun a=>bif decide (0<List.length ([61]:Bs)) then(qr2 a ([61]:Bs)).bind fun h=>bif h then bif decide (0<=ae ((a.length:Int)-1)/\ae ((a.length:Int)-1)<=(a.length:Int)) then qu5 fu g f e (List.take (ae ((a.length:Int)-1)).toNat a) [] c d else none else qu5 fu g f e a (List.take (e.toNat-(b.length:Int).toNat) (List.drop (b.length:Int).toNat f)) c d else none else none
def qu3(f:qdk):Bs->Int->(Int×Int)->Bs->Option ((Int×Int)×Bs):=fun d a b c=>bif decide (0<=a/\a<=(d.length:Int)) then bif decide (0<List.length ([10]:Bs)) then(qj9 (List.take a.toNat d) ([10]:Bs)).bind fun e=>bif decide ((e.length:Int)<a) then bif decide (0<List.length ([13]:Bs)) then(qj9 e ([13]:Bs)).bind fun g=>qu4 fu f d a g b c else none else qu4 fu f d a e b c else none else none
def zba(d:qdk):qdk:=fun c b a=>bif decide (0<(c.length:Int)) then(qe7 c 10).bind fun e=>bif(ae (e+1))==0 then qu3 fu d c (c.length:Int) b a else qu3 fu d c (ae (e+1)) b a else(cd).bind fun f=>some (f,a)
def qu2(fu:Nat):Nat->qdk|0=>fun _ _ _=>none|n+1=>zba fu (qu2 fu n)
def za9(a:Bs):Option ((Int×Int)×Bs):=bif decide (48000<(a.length:Int)) then(aq 1 (-1)).bind fun b=>some (b,[]) else qu2 fu fu a (0,0) []
def qxf(a:Bs)(k:Bs):Option ((Int×Int)×Bs):=(zc0 fu a k).bind fun o=>ay o (fun i=>(ck i.2.1).bind fun m=>bif m then some (i.2.1,[]) else(zcy a).bind fun q=>some q) (fun p=>ay p (fun g=>(ck g.2).bind fun b=>bif b then some (g.2,[]) else(qe2 fu a).bind fun d=>some d) (fun l=>ay l (fun j=>(ck j.2).bind fun c=>bif c then some (j.2,[]) else(za9 fu a).bind fun f=>some f) (fun h=>(ck h.2).bind fun e=>bif e then some (h.2,[]) else none)))
abbrev q4k:=wV->Int->Int->wU->Option (Bs)
def zde(e:q4k):q4k:=fun d c b a=>bif decide (b<c) then(am d b).bind fun g=>(fm fu g.1 [67,111,110,116,101,110,116,45,84,114,97,110,115,102,101,114,45,69,110,99,111,100,105,110,103]).bind fun i=>bif !i then e d c (ae (b+1)) (Tree.node a.val a.kids) else(qxf fu a.val.2 g.2).bind fun f=>bif f.1.1 != 18 then some f.2 else e d c (ae (b+1)) (Tree.node a.val a.kids) else(qxf fu a.val.2 [55,98,105,116]).bind fun h=>some h.2
def qxx(fu:Nat):Nat->q4k|0=>fun _ _ _ _=>none|n+1=>zde fu (qxx fu n)
def zdd(a:Tree (wV×Bs)):Option (Bs):=qxx fu fu a.val.1 (a.val.1.length:Int) 0 (Tree.node a.val a.kids)
def q7r(c:Bs)(a:Bs)(b:Int):Option (Bs×Bs×Int):=some (a,(c,b))
def q7j(c:Bs)(a:Bs):Option (Bs×Bs×Int):=(q7r c a 0).bind fun b=>some b
def q89(a:Bs)(b:Bs):Option (Bs):=(qkn a b).bind fun c=>bif c then bif decide (0<=ae ((a.length:Int)-(b.length:Int))/\ae ((a.length:Int)-(b.length:Int))<=(a.length:Int)) then some (List.take (ae ((a.length:Int)-(b.length:Int))).toNat a) else none else some a
def qwl(c:Bs)(a:Bs):Option (Bs):=(q89 c a).bind fun b=>some b
abbrev qdl:=Bs->Int->Int->Bs->Option (Bs)
def q76(fu:Nat)(e:qdl):qdl:=fun d c b a=>bif decide (b<c) then(am d b).bind fun f=>(oq f).bind fun i=>bif i then bif decide (0<(a.length:Int)) then bif decide (0<=ae ((a.length:Int)-1)/\(ae ((a.length:Int)-1)).toNat<a.length) then(a[(ae ((a.length:Int)-1)).toNat]?).bind fun g=>bif g==32 then e d c (ae (b+1)) a else bif decide (List.length (a++([32]:Bs))<=ao) then e d c (ae (b+1)) (a++([32]:Bs)) else none else none else bif decide (List.length (a++([32]:Bs))<=ao) then e d c (ae (b+1)) (a++([32]:Bs)) else none else bif decide (List.length (a++([f]:Bs))<=ao) then e d c (ae (b+1)) (a++([f]:Bs)) else none else(qwl a [32]).bind fun h=>some h
def qsj(fu:Nat):Nat->qdl|0=>fun _ _ _ _=>none|n+1=>q76 fu (qsj fu n)
def qsi(a:Bs):Option (Bs):=qsj fu fu a (a.length:Int) 0 []
def qka(e:Bs)(d:Int)(c:Bs):Option (Int×Bs):=(qsi fu e).bind fun a=>bif a==([]:Bs) then some (ae (d+1),c) else(qf5 [13,10] d).bind fun b=>bif decide (b.length+a.length<=bz) then bif decide (List.length (b++a)+List.length ([13,10]:Bs)<=bz) then bif decide (List.length (c++((b++a)++[13,10]))<=ao) then some (0,c++((b++a)++[13,10])) else none else none else none
abbrev zds:=Bs×Bs×Int×Int×Bs
abbrev qdm:=Bs->Bs->Int->Int->Bs->Option zds
def q7t(h:qdm):qdm:=fun f b d e c=>bif decide (0<(b.length:Int)) then(qxn fu b).bind fun a=>bif decide (0<=(0:Int)/\0<=a.2/\a.2<=a.2/\a.2<=(b.length:Int)) then(qka fu (List.take (a.2.toNat-(0:Int).toNat) (List.drop (0:Int).toNat b)) e c).bind fun g=>bif decide (0<=a.2/\a.2<=(b.length:Int)) then h f (List.drop a.2.toNat b) d g.1 g.2 else none else none else some (f,(b,(d,(e,c))))
def qr8(fu:Nat):Nat->qdm|0=>fun _ _ _ _ _=>none|n+1=>q7t fu (qr8 fu n)
def q7u(h:qdm):qdm:=fun d a c f e=>(yd a d).bind fun b=>bif decide (b<0) then bif decide (0<=(0:Int)/\0<=(a.length:Int)/\(a.length:Int)<=(a.length:Int)/\(a.length:Int)<=(a.length:Int)) then(qka fu (List.take ((a.length:Int).toNat-(0:Int).toNat) (List.drop (0:Int).toNat a)) f e).bind fun i=>some (d,(a,(c,i))) else none else bif decide (0<=ae (b+c)/\ae (b+c)<=(a.length:Int)) then bif decide (0<=(0:Int)/\0<=(List.length (List.take (ae (b+c)).toNat a):Int)/\(List.length (List.take (ae (b+c)).toNat a):Int)<=(List.length (List.take (ae (b+c)).toNat a):Int)/\(List.length (List.take (ae (b+c)).toNat a):Int)<=(List.length (List.take (ae (b+c)).toNat a):Int)) then(qka fu (List.take ((List.length (List.take (ae (b+c)).toNat a):Int).toNat-(0:Int).toNat) (List.drop (0:Int).toNat (List.take (ae (b+c)).toNat a))) f e).bind fun g=>bif decide (0<=ae (b+(d.length:Int))/\ae (b+(d.length:Int))<=(a.length:Int)) then h d (List.drop (ae (b+(d.length:Int))).toNat a) c g.1 g.2 else none else none else none
def qr9(fu:Nat):Nat->qdm|0=>fun _ _ _ _ _=>none|n+1=>q7u fu (qr9 fu n)
def q7s(a:Bs)(d:Bs)(e:Int)(b:Int)(c:Bs):Option zds:=bif(a.length:Int)==0 then qr8 fu fu a d e b c else qr9 fu fu a d e b c
def q74(b:Bs):Option (Bs):=bif decide (0<List.length ([13,10]:Bs)) then(q7j b ([13,10]:Bs)).bind fun a=>(q7s fu a.1 a.2.1 a.2.2 0 []).bind fun c=>some c.2.2.2.2 else none
def q75(c:Bs×Bs):Option (Bs):=(ur fu c.1).bind fun a=>bif decide (a.length+List.length ([58]:Bs)<=bz) then(qsi fu c.2).bind fun b=>bif decide (List.length (a++[58])+b.length<=bz) then bif decide (List.length ((a++[58])++b)+List.length ([13,10]:Bs)<=bz) then some (((a++[58])++b)++[13,10]) else none else none else none
abbrev qdo:=wV->Int->Int->wU->Bs->Bs->Option (Bs)
def qsh(fu:Nat)(g:qdo):qdo:=fun c b d a e f=>g c b (ae (d+1)) (Tree.node a.val a.kids) f e
def qsf(i:qdo):(wV->Int->Int->Bool->wU->(Bs×Bs)->Bs->Bs->Option (Bs)):=fun d c e g a h f b=>bif g then(q75 fu h).bind fun j=>bif decide (List.length (b++j)<=ao) then qsh fu i d c e (Tree.node a.val a.kids) (b++j) f else none else qsh fu i d c e (Tree.node a.val a.kids) b f
def qsg(fu:Nat):(wU->Bs->Bs->Bs->Option (Bs)):=fun g e b c=>(sk (g.kids.length:Int)).bind fun a=>bif decide (a.length+List.length ([32]:Bs)<=bz) then(sk (c.length:Int)).bind fun d=>bif decide (List.length (a++[32])+d.length<=bz) then bif decide (List.length ((a++[32])++d)+List.length ([32]:Bs)<=bz) then(sk (e.length:Int)).bind fun f=>bif decide (List.length (((a++[32])++d)++[32])+f.length<=bz) then bif decide (List.length ((((a++[32])++d)++[32])++f)+List.length ([13,10]:Bs)<=bz) then bif decide (List.length (b++(((((a++[32])++d)++[32])++f)++[13,10]))<=ao) then bif decide (List.length ((b++(((((a++[32])++d)++[32])++f)++[13,10]))++c)<=ao) then bif decide (List.length (((b++(((((a++[32])++d)++[32])++f)++[13,10]))++c)++e)<=ao) then some (((b++(((((a++[32])++d)++[32])++f)++[13,10]))++c)++e) else none else none else none else none else none else none else none else none
def q72(h:qdo):qdo:=fun f e b a c d=>bif decide (b<e) then(am f b).bind fun g=>(fm fu g.1 [82,101,99,101,105,118,101,100]).bind fun k=>bif !k then(fm fu g.1 [67,111,110,116,101,110,116,45,84,114,97,110,115,102,101,114,45,69,110,99,111,100,105,110,103]).bind fun j=>qsf fu h f e b (!j) (Tree.node a.val a.kids) g c d else qsf fu h f e b false (Tree.node a.val a.kids) g c d else bif(a.kids.length:Int)==0 then(zdd fu (Tree.node a.val a.kids)).bind fun i=>(q74 fu i).bind fun l=>qsg fu (Tree.node a.val a.kids) l c d else qsg fu (Tree.node a.val a.kids) [] c d
def qse(fu:Nat):Nat->qdo|0=>fun _ _ _ _ _ _=>none|n+1=>q72 fu (qse fu n)
def q71(e:Int)(a:List (Bs×Bs))(d:Bs)(b:List wU)(c:Bs):Option (Bs):=qse fu fu a (a.length:Int) 0 (Tree.node (a,d) b) c []
def zai(d:Int)(c:List (Bs×Bs))(e:Bs)(a:List wU)(g:Int)(b:Bs):Option (Bs):=(q71 fu d c e a b).bind fun f=>some f
abbrev qpt:=wU->Int->Int->Bs->Option (Int×Bs)
abbrev q4m:=Int->(List wU)->Int->Int->Int->Bs->Option (Int×Bs)
def zaw(a:qpt)(fu:Nat)(j:q4m):q4m:=fun f e c b g d=>bif decide (b<c) then(am e b).bind fun h=>(a (Tree.node h.val h.kids) (ae (f+1)) g d).bind fun i=>j f e c (ae (b+1)) i.1 i.2 else some (g,d)
def quw(a:qpt)(fu:Nat):Nat->q4m|0=>fun _ _ _ _ _ _=>none|n+1=>zaw a fu (quw a fu n)
def quu(a:qpt)(fu:Nat)(b:Tree (wV×Bs))(c:Int)(d:Int)(e:Bs):Option (Int×Bs):=(zai fu d b.val.1 b.val.2 b.kids c e).bind fun f=>quw a fu fu c b.kids (b.kids.length:Int) 0 (ae (d+1)) f
def quv(fu:Nat):Nat->qpt|0=>fun _ _ _ _=>none|n+1=>quu (quv fu n) fu
def zp9(d:Tree (wV×Bs))(b:Int)(c:Int)(a:Bs):Option (Int×Bs):=quv fu fu d b c a
abbrev zqy:=wU×Bs
def zay(a:Tree (wV×Bs))(b:Bs):Option zqy:=(zp9 fu (Tree.node a.val a.kids) 0 0 b).bind fun c=>some ((Tree.node a.val a.kids),c.2)
abbrev zqq:=wU×Bs
def zah(a:Tree (wV×Bs))(d:Bs):Option zqq:=(qkz (Tree.node a.val a.kids)).bind fun b=>(zay fu (Tree.node b.val b.kids) d).bind fun c=>some ((Tree.node a.val a.kids),c.2)
def qsd(c:wV×Bs):Option ((Int×Int)×Bs):=(zaj fu c).bind fun a=>(ck a.2).bind fun e=>bif e then some (a.2,[]) else(zag (Tree.node a.1.val a.1.kids)).bind fun b=>(zah fu (Tree.node b.val b.kids) []).bind fun d=>(cd).bind fun f=>some (f,d.2)
def q73(d:wV×Bs)(c:wV×Bs):Option (Bool×(Int×Int)):=(qsd fu d).bind fun a=>(ck a.1).bind fun h=>bif h then some (false,a.1) else(qsd fu c).bind fun b=>(ck b.1).bind fun e=>bif e then(aq b.1.1 (-10)).bind fun i=>some (false,i) else(qr1 a.2 b.2).bind fun f=>(cd).bind fun g=>some (f,g)
def qqs:Option Bool:=bif decide (0<List.length ([99,13,10]:Bs)) then(zaa fu (([(([65]:Bs),([98]:Bs))]:List (Bs×Bs)),([99,13,10]:Bs))).bind fun b=>(q99 fu b.2).bind fun a=>(q73 fu (([(([65]:Bs),([98]:Bs))]:List (Bs×Bs)),([99,13,10]:Bs)) a.1).bind fun c=>bif b.1.1==0 then bif a.2.1==0 then bif c.2.1==0 then bif c.1 then bif b.2==([65,58,32,98,13,10,13,10,99,13,10]:Bs) then some ((a.1.1.length:Int)==1) else some false else some false else some false else some false else some false else none
def qbg(a:UInt8):Option Bool:=bif decide (33<=a) then some (decide (a<=126)) else some false
def q7d(fu:Nat)(d:dy):dy:=fun c b a=>bif decide (a<b) then(am c a).bind fun f=>(qbg f).bind fun e=>bif !e then some false else d c b (ae (a+1)) else some true
def qj1(fu:Nat):Nat->dy|0=>fun _ _ _=>none|n+1=>q7d fu (qj1 fu n)
def qro(a:Bs):Option Bool:=qj1 fu fu a (a.length:Int) 0
def jr(c:Bs)(a:Bs):Option Int:=(qn c a).bind fun b=>some b
def qlg(c:Bs)(a:Bs):Option Bool:=(jr c a).bind fun b=>some (decide (0<=b))
def yh(a:Bs):Option Int:=bif decide (500<(a.length:Int)) then some 1 else(im a).bind fun b=>bif !b then some 5 else(qlg a [13]).bind fun c=>bif c then some 5 else some 0
def lg(a:Bs×Int):Option Int:=some a.2
abbrev qi2:=Int->(Bs×Int)->Option (Int ⊕ ((Bs×Int)))
def qq5(fu:Nat)(c:qi2):qi2:=fun b a=>(am a.1 a.2).bind fun d=>bif d==40 then c (ae (b+1)) (a.1,ae (a.2+1)) else bif d==41 then bif(ae (b-1))==0 then some (.inr (a.1,ae (a.2+1))) else c (ae (b-1)) (a.1,ae (a.2+1)) else bif d==92 then c b (a.1,ae ((ae (a.2+1))+1)) else c b (a.1,ae (a.2+1))
def qq4(d:qi2):qi2:=fun b a=>bif decide ((a.1.length:Int)<=a.2) then(lg a).bind fun c=>some (.inl c) else qq5 fu d b a
def xy(fu:Nat):Nat->qi2|0=>fun _ _=>none|n+1=>qq4 fu (xy fu n)
def q64(a:Bs×Int):Option (Int ⊕ ((Bs×Int))):=xy fu fu 0 a
abbrev q4n:=(Bs×Int)->Option (Int ⊕ ((Bs×Int)))
def qrf(b:q4n):q4n:=fun a=>bif decide (a.2<(a.1.length:Int)) then(am a.1 a.2).bind fun c=>(oq c).bind fun g=>bif g then b (a.1,ae (a.2+1)) else bif c==40 then(q64 fu a).bind fun f=>ay f (fun d=>some (.inl d)) (fun e=>b e) else some (.inr a) else some (.inr a)
def qa5(fu:Nat):Nat->q4n|0=>fun _=>none|n+1=>qrf fu (qa5 fu n)
def qre(a:Bs×Int):Option (Int ⊕ ((Bs×Int))):=qa5 fu fu a
abbrev zdq:=Int ⊕ (Bs×(Bs×Int))
abbrev qal:=(Bs×Int)->Bs->Option zdq
def qrd(fu:Nat)(d:qal):qal:=fun b a=>(am b.1 b.2).bind fun c=>bif decide (List.length (a++([c]:Bs))<=ao) then d (b.1,ae (b.2+1)) (a++([c]:Bs)) else none
def qrc(d:qal):qal:=fun a b=>(am a.1 a.2).bind fun c=>bif c==34 then some (.inr (b,(a.1,ae (a.2+1)))) else bif c==92 then bif decide ((a.1.length:Int)<=(ae (a.2+1))) then(lg (a.1,ae (a.2+1))).bind fun e=>some (.inl e) else qrd fu d (a.1,ae (a.2+1)) b else bif decide (List.length (b++([c]:Bs))<=ao) then d (a.1,ae (a.2+1)) (b++([c]:Bs)) else none
def qrb(d:qal):qal:=fun a b=>bif decide ((a.1.length:Int)<=a.2) then(lg a).bind fun c=>some (.inl c) else qrc fu d a b
def qa4(fu:Nat):Nat->qal|0=>fun _ _=>none|n+1=>qrb fu (qa4 fu n)
def qra(a:Bs×Int):Option zdq:=qa4 fu fu (a.1,ae (a.2+1)) []
def qe5(a:UInt8):Option Bool:=bif decide (97<=a) then bif decide (a<=122) then some true else bif decide (65<=a) then bif decide (a<=90) then some true else bif decide (48<=a) then some (decide (a<=57)) else some false else bif decide (48<=a) then some (decide (a<=57)) else some false else bif decide (65<=a) then bif decide (a<=90) then some true else bif decide (48<=a) then some (decide (a<=57)) else some false else bif decide (48<=a) then some (decide (a<=57)) else some false
def xx(a:UInt8):Option Bool:=(qe5 a).bind fun c=>bif c then some true else(sn [33,35,36,37,38,39,42,43,45,47,61,63,94,95,96,123,124,125,126] a).bind fun b=>some (decide (0<=b))
abbrev ql3:=Int ⊕ (((Bs×Int)) ⊕ ((Bs×Bool×(Bs×Int)) ⊕ (UInt8×(Bs×Int))))
abbrev qdt:=Int->(Bs×Int)->Option ql3
def qq9(fu:Nat)(c:qdt):qdt:=fun b a=>c b (a.1,ae (a.2+1))
def qa3(d:qdt):Int->Bool->(Bs×Int)->Option ql3:=fun b c a=>bif c then qq9 fu d b a else bif a.2==b then(lg a).bind fun e=>some (.inl e) else bif decide (0<=b/\b<=a.2/\a.2<=(a.1.length:Int)) then some (.inr (.inr (.inl (List.take (a.2.toNat-b.toNat) (List.drop b.toNat a.1),(false,a))))) else none
def qq8(c:qdt):qdt:=fun b a=>bif decide (a.2<(a.1.length:Int)) then(am a.1 a.2).bind fun f=>(xx f).bind fun e=>bif e then qa3 fu c b true a else(am a.1 a.2).bind fun d=>qa3 fu c b (d==46) a else qa3 fu c b false a
def qa2(fu:Nat):Nat->qdt|0=>fun _ _=>none|n+1=>qq8 fu (qa2 fu n)
def x6(d:Bs×Int):Option ql3:=(qre fu d).bind fun h=>ay h (fun e=>some (.inl e)) (fun a=>bif decide ((a.1.length:Int)<=a.2) then some (.inr (.inl a)) else(am a.1 a.2).bind fun b=>bif b==34 then(qra fu a).bind fun i=>ay i (fun f=>some (.inl f)) (fun c=>some (.inr (.inr (.inl (c.1,(true,c.2)))))) else(sn [58,59,44,64,60,62] b).bind fun g=>bif decide (0<=g) then some (.inr (.inr (.inr (b,(a.1,ae (a.2+1)))))) else qa2 fu fu a.2 a)
abbrev zqj:=Int ⊕ (((Bs×Int)) ⊕ ((Bs×Bool×(Bs×Int)) ⊕ (UInt8×(Bs×Int))))
def sc(a:Bs×Int):Option zqj:=(x6 fu a).bind fun g=>ay g (fun f=>some (.inl f)) (fun h=>ay h (fun d=>some (.inr (.inl (d.1,a.2)))) (fun e=>ay e (fun b=>some (.inr (.inr (.inl (b.1,(b.2.1,(b.2.2.1,a.2))))))) (fun c=>some (.inr (.inr (.inr (c.1,(c.2.1,a.2))))))))
abbrev zdr:=Int ⊕ ((Bs×Int)×(List (Bs×Bool)))
abbrev q4p:=(Bs×Int)->(List (Bs×Bool))->Option zdr
def qrh(f:q4p):q4p:=fun l a=>(sc fu l).bind fun q=>ay q (fun m=>some (.inl m)) (fun r=>ay r (fun i=>some (.inr (i,a))) (fun k=>ay k (fun b=>(x6 fu b.2.2).bind fun p=>ay p (fun o=>some (.inl o)) (fun h=>ay h (fun d=>bif decide (List.length (a++([(b.1,b.2.1)]:List (Bs×Bool)))<=ao) then f d (a++([(b.1,b.2.1)]:List (Bs×Bool))) else none) (fun e=>ay e (fun g=>bif decide (List.length (a++([(b.1,b.2.1)]:List (Bs×Bool)))<=ao) then f g.2.2 (a++([(b.1,b.2.1)]:List (Bs×Bool))) else none) (fun c=>bif decide (List.length (a++([(b.1,b.2.1)]:List (Bs×Bool)))<=ao) then f c.2 (a++([(b.1,b.2.1)]:List (Bs×Bool))) else none)))) (fun j=>some (.inr (j.2,a)))))
def qez(fu:Nat):Nat->q4p|0=>fun _ _=>none|n+1=>qrh fu (qez fu n)
def qey(a:Bs×Int):Option zdr:=qez fu fu a []
def rz(i:UInt8)(h:Bs×Int):Option (Int ⊕ (Bool×(Bs×Int))):=(sc fu h).bind fun o=>ay o (fun k=>some (.inl k)) (fun p=>ay p (fun g=>some (.inr (false,g))) (fun j=>ay j (fun q=>some (.inr (false,q.2.2))) (fun b=>bif !(b.1==i) then some (.inr (false,b.2)) else(x6 fu b.2).bind fun m=>ay m (fun l=>some (.inl l)) (fun f=>ay f (fun c=>some (.inr (true,c))) (fun d=>ay d (fun e=>some (.inr (true,e.2.2))) (fun a=>some (.inr (true,a.2))))))))
def qax(a:UInt8):Option Bool:=bif decide (32<=a) then some (decide (a<=126)) else some false
def q7e(fu:Nat)(d:dy):dy:=fun c b a=>bif decide (a<b) then(am c a).bind fun f=>(qax f).bind fun e=>bif !e then some false else d c b (ae (a+1)) else some true
def qj2(fu:Nat):Nat->dy|0=>fun _ _ _=>none|n+1=>q7e fu (qj2 fu n)
def qrp(a:Bs):Option Bool:=qj2 fu fu a (a.length:Int) 0
def qes(a:Bs):Option Bool:=bif !(a==([]:Bs)) then bif decide ((a.length:Int)<=60) then(qrp fu a).bind fun b=>some b else some false else some false
def qln(c:Bs)(a:Bs)(b:Int):Option (Bs×Bs×Int):=some (a,(c,b))
def qbr(c:Bs)(a:Bs):Option (Bs×Bs×Int):=(qln c a 0).bind fun b=>some b
def q7f(fu:Nat)(d:dy):dy:=fun c b a=>bif decide (a<b) then(am c a).bind fun f=>(xx f).bind fun e=>bif !e then some false else d c b (ae (a+1)) else some true
def qj4(fu:Nat):Nat->dy|0=>fun _ _ _=>none|n+1=>q7f fu (qj4 fu n)
def qj3(a:Bs):Option Bool:=qj4 fu fu a (a.length:Int) 0
def qay(a:Bs)(b:Bool):Option (Bool ⊕ Bool):=bif a==([]:Bs) then some (.inl false) else(qj3 fu a).bind fun c=>bif !c then some (.inl false) else some (.inr b)
abbrev zdz:=(Bs×Bs×Int×Bool) ⊕ (Bs×Bs×Int×Bool)
abbrev qdu:=Bs->Bs->Int->Bool->Option zdz
def zcl(f:qdu):qdu:=fun d a c e=>bif decide (0<(a.length:Int)) then(iz a).bind fun b=>bif decide (0<=b.2/\b.2<=(a.length:Int)) then(qay fu (List.take b.2.toNat a) e).bind fun i=>ay i (fun g=>some (.inl (d,(a,(c,g))))) (fun h=>bif decide (0<=b.2/\b.2<=(a.length:Int)) then f d (List.drop b.2.toNat a) c h else none) else none else some (.inr (d,(a,(c,e))))
def qwy(fu:Nat):Nat->qdu|0=>fun _ _ _ _=>none|n+1=>zcl fu (qwy fu n)
def zcm(h:qdu):qdu:=fun b a c e=>(jr a b).bind fun d=>bif decide (d<0) then(qay fu a e).bind fun k=>ay k (fun i=>some (.inl (b,(a,(c,i))))) (fun j=>some (.inr (b,(a,(c,j))))) else bif decide (0<=ae (d+c)/\ae (d+c)<=(a.length:Int)) then(qay fu (List.take (ae (d+c)).toNat a) e).bind fun l=>ay l (fun g=>some (.inl (b,(a,(c,g))))) (fun f=>bif decide (0<=ae (d+(b.length:Int))/\ae (d+(b.length:Int))<=(a.length:Int)) then h b (List.drop (ae (d+(b.length:Int))).toNat a) c f else none) else none
def qlo(fu:Nat):Nat->qdu|0=>fun _ _ _ _=>none|n+1=>zcm fu (qlo fu n)
def qwx(a:Bs)(c:Bs)(d:Int)(b:Bool):Option zdz:=bif(a.length:Int)==0 then qwy fu fu a c d b else qlo fu fu a c d b
def qq1(b:Bs):Option Bool:=(qbr b [46]).bind fun a=>(qwx fu a.1 a.2.1 a.2.2 false).bind fun d=>ay d (fun c=>some c.2.2.2) (fun e=>some true)
def qeq(b:Bs):Option Bool:=(qq1 fu b).bind fun a=>some a
def qa1(c:UInt8)(b:Bs×Int):Option (Int ⊕ ((Bs×Int))):=(rz fu c b).bind fun f=>ay f (fun d=>some (.inl d)) (fun a=>bif !a.1 then(lg a.2).bind fun e=>some (.inl e) else some (.inr a.2))
def qav(a:UInt8):Option Bool:=(qe5 a).bind fun b=>bif b then some true else some (a==45)
def q7g(fu:Nat)(d:dy):dy:=fun c b a=>bif decide (a<b) then(am c a).bind fun f=>(qav f).bind fun e=>bif !e then some false else d c b (ae (a+1)) else some true
def qj5(fu:Nat):Nat->dy|0=>fun _ _ _=>none|n+1=>q7g fu (qj5 fu n)
def qrq(a:Bs):Option Bool:=qj5 fu fu a (a.length:Int) 0
def qaz(a:Bs)(b:Bool):Option (Bool ⊕ Bool):=bif a==([]:Bs) then some (.inl false) else(qrq fu a).bind fun c=>bif !c then some (.inl false) else some (.inr b)
abbrev zd0:=(Bs×Bs×Int×Bool) ⊕ (Bs×Bs×Int×Bool)
abbrev qdv:=Bs->Bs->Int->Bool->Option zd0
def zcn(f:qdv):qdv:=fun d a c e=>bif decide (0<(a.length:Int)) then(iz a).bind fun b=>bif decide (0<=b.2/\b.2<=(a.length:Int)) then(qaz fu (List.take b.2.toNat a) e).bind fun i=>ay i (fun g=>some (.inl (d,(a,(c,g))))) (fun h=>bif decide (0<=b.2/\b.2<=(a.length:Int)) then f d (List.drop b.2.toNat a) c h else none) else none else some (.inr (d,(a,(c,e))))
def qw0(fu:Nat):Nat->qdv|0=>fun _ _ _ _=>none|n+1=>zcn fu (qw0 fu n)
def zco(h:qdv):qdv:=fun b a c e=>(jr a b).bind fun d=>bif decide (d<0) then(qaz fu a e).bind fun k=>ay k (fun i=>some (.inl (b,(a,(c,i))))) (fun j=>some (.inr (b,(a,(c,j))))) else bif decide (0<=ae (d+c)/\ae (d+c)<=(a.length:Int)) then(qaz fu (List.take (ae (d+c)).toNat a) e).bind fun l=>ay l (fun g=>some (.inl (b,(a,(c,g))))) (fun f=>bif decide (0<=ae (d+(b.length:Int))/\ae (d+(b.length:Int))<=(a.length:Int)) then h b (List.drop (ae (d+(b.length:Int))).toNat a) c f else none) else none
def qlp(fu:Nat):Nat->qdv|0=>fun _ _ _ _=>none|n+1=>zco fu (qlp fu n)
def qwz(a:Bs)(c:Bs)(d:Int)(b:Bool):Option zd0:=bif(a.length:Int)==0 then qw0 fu fu a c d b else qlp fu fu a c d b
def qq2(b:Bs):Option Bool:=(qbr b [46]).bind fun a=>(qwz fu a.1 a.2.1 a.2.2 false).bind fun d=>ay d (fun c=>some c.2.2.2) (fun e=>some true)
def qep(a:Bs):Option Bool:=bif decide ((a.length:Int)<=60) then(qq2 fu a).bind fun b=>some b else some false
abbrev qyg:=Int ⊕ ((Bs×Bs×Bs)×(Bs×Int)×(List (Bs×Bool)))
def qrg:(Bs×Int)->(List (Bs×Bool))->(Bs×Bs×Bs)->Option qyg:=fun p g r=>(qa1 fu 64 p).bind fun s=>ay s (fun q=>some (.inl q)) (fun m=>(x6 fu m).bind fun j=>ay j (fun o=>some (.inl o)) (fun l=>ay l (fun k=>(lg k).bind fun b=>some (.inl b)) (fun t=>ay t (fun a=>bif a.2.1 then(lg a.2.2).bind fun e=>some (.inl e) else(qep fu a.1).bind fun f=>bif !f then(lg a.2.2).bind fun i=>some (.inl i) else bif decide (0<=(0:Int)/\(0:Int).toNat<g.length) then(g[(0:Int).toNat]?).bind fun d=>some (.inr ((([]:Bs),(d.1,a.1)),(a.2.2,g))) else none) (fun c=>(lg c.2).bind fun h=>some (.inl h)))))
def uq:Bool->(Bs×Int)->(List (Bs×Bool))->(Bs×Bs×Bs)->Option qyg:=fun a c e b=>bif a then(lg c).bind fun d=>some (.inl d) else qrg fu c e b
def qex(b:Bs×Int)(a:List (Bs×Bool)):Option qyg:=bif(a.length:Int) != 1 then uq fu true b a (([]:Bs),(([]:Bs),([]:Bs))) else bif decide (0<=(0:Int)/\(0:Int).toNat<a.length) then(a[(0:Int).toNat]?).bind fun e=>(qes fu e.1).bind fun f=>bif !f then uq fu true b a (([]:Bs),(([]:Bs),([]:Bs))) else bif decide (0<=(0:Int)/\(0:Int).toNat<a.length) then(a[(0:Int).toNat]?).bind fun d=>bif !d.2 then bif decide (0<=(0:Int)/\(0:Int).toNat<a.length) then(a[(0:Int).toNat]?).bind fun c=>(qeq fu c.1).bind fun g=>uq fu (!g) b a (([]:Bs),(([]:Bs),([]:Bs))) else none else uq fu false b a (([]:Bs),(([]:Bs),([]:Bs))) else none else none
def qtk(b:Bs)(a:Bs):Option Bool:=bif decide ((a.length:Int)<=(b.length:Int)) then bif decide (0<=(a.length:Int)/\(a.length:Int)<=(b.length:Int)) then some ((List.take (a.length:Int).toNat b)==a) else none else some false
def qbp(c:Bs)(a:Bs):Option Bool:=(qtk c a).bind fun b=>some b
abbrev q4y:=Int->Bs->Nat->Option Int
def zc7(fu:Nat)(d:q4y):q4y:=fun c b a=>bif Nat.blt a (b.length) then d (ae (c+1)) b (a+(d8 b a).2) else some c
def qxq(fu:Nat):Nat->q4y|0=>fun _ _ _=>none|n+1=>zc7 fu (qxq fu n)
def qxp(a:Bs):Option Int:=qxq fu fu 0 a 0
def zci(fu:Nat)(f:qah):qah:=fun d b c a=>bif decide (c<(ae (b-1))) then(iz d).bind fun e=>bif decide (0<=e.2/\e.2<=(d.length:Int)) then bif decide (0<=c/\c.toNat<a.length) then(a[c.toNat]?).bind fun h=>bif decide (0<=e.2/\e.2<=(d.length:Int)) then f (List.drop e.2.toNat d) b (ae (c+1)) (List.set a c.toNat (List.take e.2.toNat d)) else none else none else none else bif decide (0<b) then bif decide (0<=ae (b-1)/\(ae (b-1)).toNat<a.length) then(a[(ae (b-1)).toNat]?).bind fun g=>some (List.set a ((ae (b-1)).toNat) d) else none else some a
def qwt(fu:Nat):Nat->qah|0=>fun _ _ _ _=>none|n+1=>zci fu (qwt fu n)
def qws:Bs->Int->Option ((List Bs)):=fun b a=>bif decide (0<=a/\a=a/\a<=4294967296) then qwt fu fu b a 0 (List.replicate a.toNat []) else none
def qwr:Bs->Int->Int->Bool->Option ((List Bs)):=fun b d c a=>bif a then qws fu b c else qws fu b d
def zch(c:Bs)(a:Int):Option ((List Bs)):=(qxp fu c).bind fun b=>bif decide (a<0) then qwr fu c a b true else qwr fu c a b (decide (b<a))
abbrev q4z:=Bs->Bs->Int->Option Int
def zbt(fu:Nat)(e:q4z):q4z:=fun c a d=>(jr c a).bind fun b=>bif b==(-1) then some d else bif decide (0<=ae (b+(a.length:Int))/\ae (b+(a.length:Int))<=(c.length:Int)) then e (List.drop (ae (b+(a.length:Int))).toNat c) a (ae (d+1)) else none
def qvw(fu:Nat):Nat->q4z|0=>fun _ _ _=>none|n+1=>zbt fu (qvw fu n)
def zbs(b:Bs)(a:Bs):Option Int:=bif(a.length:Int)==0 then(qxp fu b).bind fun d=>some (ae (d+1)) else bif(a.length:Int)==1 then(am a 0).bind fun c=>(qj8 b c).bind fun e=>some e else qvw fu fu b a 0
abbrev q41:=Bs->Bs->Int->Int->Int->(List Bs)->Option ((List Bs))
def qwv(fu:Nat)(h:q41):q41:=fun c e f g a b=>bif decide (a<g) then(jr c e).bind fun d=>bif decide (d<0) then bif decide (0<=a/\a.toNat<b.length) then(b[a.toNat]?).bind fun k=>bif decide (0<=ae (a+1)/\ae (a+1)<=(List.length (List.set b a.toNat c):Int)) then some (List.take (ae (a+1)).toNat (List.set b a.toNat c)) else none else none else bif decide (0<=ae (d+f)/\ae (d+f)<=(c.length:Int)) then bif decide (0<=a/\a.toNat<b.length) then(b[a.toNat]?).bind fun j=>bif decide (0<=ae (d+(e.length:Int))/\ae (d+(e.length:Int))<=(c.length:Int)) then h (List.drop (ae (d+(e.length:Int))).toNat c) e f g (ae (a+1)) (List.set b a.toNat (List.take (ae (d+f)).toNat c)) else none else none else none else bif decide (0<=a/\a.toNat<b.length) then(b[a.toNat]?).bind fun i=>bif decide (0<=ae (a+1)/\ae (a+1)<=(List.length (List.set b a.toNat c):Int)) then some (List.take (ae (a+1)).toNat (List.set b a.toNat c)) else none else none
def qf7(fu:Nat):Nat->q41|0=>fun _ _ _ _ _ _=>none|n+1=>qwv fu (qf7 fu n)
def qlm:Bs->Bs->Int->Int->Option ((List Bs)):=fun a d c b=>bif decide (0<=(if ae ((a.length:Int)+1)<b then ae ((a.length:Int)+1) else b)/\(if ae ((a.length:Int)+1)<b then ae ((a.length:Int)+1) else b)=(if ae ((a.length:Int)+1)<b then ae ((a.length:Int)+1) else b)/\(if ae ((a.length:Int)+1)<b then ae ((a.length:Int)+1) else b)<=4294967296) then qf7 fu fu a d c (ae ((if ae ((a.length:Int)+1)<b then ae ((a.length:Int)+1) else b)-1)) 0 (List.replicate (if ae ((a.length:Int)+1)<b then ae ((a.length:Int)+1) else b).toNat []) else none
def qwu(c:Bs)(b:Bs)(d:Int)(a:Int):Option ((List Bs)):=bif a==0 then some [] else bif b==([]:Bs) then(zch fu c a).bind fun e=>some e else bif decide (a<0) then(zbs fu c b).bind fun f=>qlm fu c b d (ae (f+1)) else qlm fu c b d a
def qlj(b:Bs)(a:Bs)(c:Int):Option ((List Bs)):=(qwu fu b a 0 c).bind fun d=>some d
def qri(a:Bs):Option (Bs):=some a
def g7(d:UInt8)(c:UInt8)(e:UInt8)(b:UInt8)(f:Int)(a:Bs):Option (Int×Bs):=bif f==76 then bif decide (List.length (a++([13,10]:Bs))<=ao) then bif decide (List.length ((a++([13,10]:Bs))++([d,c,e,b]:Bs))<=ao) then some (4,(a++([13,10]:Bs))++([d,c,e,b]:Bs)) else none else none else bif decide (List.length (a++([d,c,e,b]:Bs))<=ao) then some (ae (f+4),a++([d,c,e,b]:Bs)) else none
abbrev q42:=Int->Int->Bs->Int->Bs->Option (Bs×Int×Bs)
abbrev qdw:=Bs->Int->Bs->Option (Bs×Int×Bs)
def sg(fu:Nat)(e:qdw):q42:=fun a f c d b=>(am [65,66,67,68,69,70,71,72,73,74,75,76,77,78,79,80,81,82,83,84,85,86,87,88,89,90,97,98,99,100,101,102,103,104,105,106,107,108,109,110,111,112,113,114,115,116,117,118,119,120,121,122,48,49,50,51,52,53,54,55,56,57,43,47] (ae (((BitVec.ofInt 64 (Int.fdiv f (2 ^ min (18:Int).toNat 64))&&&BitVec.ofInt 64 63).toNat:Int)))).bind fun h=>bif decide (a<0) then(am [65,66,67,68,69,70,71,72,73,74,75,76,77,78,79,80,81,82,83,84,85,86,87,88,89,90,97,98,99,100,101,102,103,104,105,106,107,108,109,110,111,112,113,114,115,116,117,118,119,120,121,122,48,49,50,51,52,53,54,55,56,57,43,47] (ae (((BitVec.ofInt 64 (Int.fdiv f (2 ^ min (12:Int).toNat 64))&&&BitVec.ofInt 64 63).toNat:Int)))).bind fun y=>bif decide (a<1) then(am [65,66,67,68,69,70,71,72,73,74,75,76,77,78,79,80,81,82,83,84,85,86,87,88,89,90,97,98,99,100,101,102,103,104,105,106,107,108,109,110,111,112,113,114,115,116,117,118,119,120,121,122,48,49,50,51,52,53,54,55,56,57,43,47] (ae (((BitVec.ofInt 64 (Int.fdiv f (2 ^ min (6:Int).toNat 64))&&&BitVec.ofInt 64 63).toNat:Int)))).bind fun F=>bif decide (a<2) then(am [65,66,67,68,69,70,71,72,73,74,75,76,77,78,79,80,81,82,83,84,85,86,87,88,89,90,97,98,99,100,101,102,103,104,105,106,107,108,109,110,111,112,113,114,115,116,117,118,119,120,121,122,48,49,50,51,52,53,54,55,56,57,43,47] (ae (((BitVec.ofInt 64 (Int.fdiv f (2 ^ min (0:Int).toNat 64))&&&BitVec.ofInt 64 63).toNat:Int)))).bind fun L=>bif decide (a<3) then(g7 61 61 61 61 d b).bind fun H=>bif decide (0<=a/\a<=(c.length:Int)) then e (List.drop a.toNat c) H.1 H.2 else none else(g7 61 61 61 L d b).bind fun J=>bif decide (0<=a/\a<=(c.length:Int)) then e (List.drop a.toNat c) J.1 J.2 else none else(am [65,66,67,68,69,70,71,72,73,74,75,76,77,78,79,80,81,82,83,84,85,86,87,88,89,90,97,98,99,100,101,102,103,104,105,106,107,108,109,110,111,112,113,114,115,116,117,118,119,120,121,122,48,49,50,51,52,53,54,55,56,57,43,47] (ae (((BitVec.ofInt 64 (Int.fdiv f (2 ^ min (0:Int).toNat 64))&&&BitVec.ofInt 64 63).toNat:Int)))).bind fun K=>bif decide (a<3) then(g7 61 61 F 61 d b).bind fun I=>bif decide (0<=a/\a<=(c.length:Int)) then e (List.drop a.toNat c) I.1 I.2 else none else(g7 61 61 F K d b).bind fun G=>bif decide (0<=a/\a<=(c.length:Int)) then e (List.drop a.toNat c) G.1 G.2 else none else(am [65,66,67,68,69,70,71,72,73,74,75,76,77,78,79,80,81,82,83,84,85,86,87,88,89,90,97,98,99,100,101,102,103,104,105,106,107,108,109,110,111,112,113,114,115,116,117,118,119,120,121,122,48,49,50,51,52,53,54,55,56,57,43,47] (ae (((BitVec.ofInt 64 (Int.fdiv f (2 ^ min (6:Int).toNat 64))&&&BitVec.ofInt 64 63).toNat:Int)))).bind fun s=>bif decide (a<2) then(am [65,66,67,68,69,70,71,72,73,74,75,76,77,78,79,80,81,82,83,84,85,86,87,88,89,90,97,98,99,100,101,102,103,104,105,106,107,108,109,110,111,112,113,114,115,116,117,118,119,120,121,122,48,49,50,51,52,53,54,55,56,57,43,47] (ae (((BitVec.ofInt 64 (Int.fdiv f (2 ^ min (0:Int).toNat 64))&&&BitVec.ofInt 64 63).toNat:Int)))).bind fun C=>bif decide (a<3) then(g7 61 y 61 61 d b).bind fun q=>bif decide (0<=a/\a<=(c.length:Int)) then e (List.drop a.toNat c) q.1 q.2 else none else(g7 61 y 61 C d b).bind fun t=>bif decide (0<=a/\a<=(c.length:Int)) then e (List.drop a.toNat c) t.1 t.2 else none else(am [65,66,67,68,69,70,71,72,73,74,75,76,77,78,79,80,81,82,83,84,85,86,87,88,89,90,97,98,99,100,101,102,103,104,105,106,107,108,109,110,111,112,113,114,115,116,117,118,119,120,121,122,48,49,50,51,52,53,54,55,56,57,43,47] (ae (((BitVec.ofInt 64 (Int.fdiv f (2 ^ min (0:Int).toNat 64))&&&BitVec.ofInt 64 63).toNat:Int)))).bind fun B=>bif decide (a<3) then(g7 61 y s 61 d b).bind fun j=>bif decide (0<=a/\a<=(c.length:Int)) then e (List.drop a.toNat c) j.1 j.2 else none else(g7 61 y s B d b).bind fun v=>bif decide (0<=a/\a<=(c.length:Int)) then e (List.drop a.toNat c) v.1 v.2 else none else(am [65,66,67,68,69,70,71,72,73,74,75,76,77,78,79,80,81,82,83,84,85,86,87,88,89,90,97,98,99,100,101,102,103,104,105,106,107,108,109,110,111,112,113,114,115,116,117,118,119,120,121,122,48,49,50,51,52,53,54,55,56,57,43,47] (ae (((BitVec.ofInt 64 (Int.fdiv f (2 ^ min (12:Int).toNat 64))&&&BitVec.ofInt 64 63).toNat:Int)))).bind fun g=>bif decide (a<1) then(am [65,66,67,68,69,70,71,72,73,74,75,76,77,78,79,80,81,82,83,84,85,86,87,88,89,90,97,98,99,100,101,102,103,104,105,106,107,108,109,110,111,112,113,114,115,116,117,118,119,120,121,122,48,49,50,51,52,53,54,55,56,57,43,47] (ae (((BitVec.ofInt 64 (Int.fdiv f (2 ^ min (6:Int).toNat 64))&&&BitVec.ofInt 64 63).toNat:Int)))).bind fun x=>bif decide (a<2) then(am [65,66,67,68,69,70,71,72,73,74,75,76,77,78,79,80,81,82,83,84,85,86,87,88,89,90,97,98,99,100,101,102,103,104,105,106,107,108,109,110,111,112,113,114,115,116,117,118,119,120,121,122,48,49,50,51,52,53,54,55,56,57,43,47] (ae (((BitVec.ofInt 64 (Int.fdiv f (2 ^ min (0:Int).toNat 64))&&&BitVec.ofInt 64 63).toNat:Int)))).bind fun D=>bif decide (a<3) then(g7 h 61 61 61 d b).bind fun m=>bif decide (0<=a/\a<=(c.length:Int)) then e (List.drop a.toNat c) m.1 m.2 else none else(g7 h 61 61 D d b).bind fun r=>bif decide (0<=a/\a<=(c.length:Int)) then e (List.drop a.toNat c) r.1 r.2 else none else(am [65,66,67,68,69,70,71,72,73,74,75,76,77,78,79,80,81,82,83,84,85,86,87,88,89,90,97,98,99,100,101,102,103,104,105,106,107,108,109,110,111,112,113,114,115,116,117,118,119,120,121,122,48,49,50,51,52,53,54,55,56,57,43,47] (ae (((BitVec.ofInt 64 (Int.fdiv f (2 ^ min (0:Int).toNat 64))&&&BitVec.ofInt 64 63).toNat:Int)))).bind fun E=>bif decide (a<3) then(g7 h 61 x 61 d b).bind fun i=>bif decide (0<=a/\a<=(c.length:Int)) then e (List.drop a.toNat c) i.1 i.2 else none else(g7 h 61 x E d b).bind fun w=>bif decide (0<=a/\a<=(c.length:Int)) then e (List.drop a.toNat c) w.1 w.2 else none else(am [65,66,67,68,69,70,71,72,73,74,75,76,77,78,79,80,81,82,83,84,85,86,87,88,89,90,97,98,99,100,101,102,103,104,105,106,107,108,109,110,111,112,113,114,115,116,117,118,119,120,121,122,48,49,50,51,52,53,54,55,56,57,43,47] (ae (((BitVec.ofInt 64 (Int.fdiv f (2 ^ min (6:Int).toNat 64))&&&BitVec.ofInt 64 63).toNat:Int)))).bind fun k=>bif decide (a<2) then(am [65,66,67,68,69,70,71,72,73,74,75,76,77,78,79,80,81,82,83,84,85,86,87,88,89,90,97,98,99,100,101,102,103,104,105,106,107,108,109,110,111,112,113,114,115,116,117,118,119,120,121,122,48,49,50,51,52,53,54,55,56,57,43,47] (ae (((BitVec.ofInt 64 (Int.fdiv f (2 ^ min (0:Int).toNat 64))&&&BitVec.ofInt 64 63).toNat:Int)))).bind fun A=>bif decide (a<3) then(g7 h g 61 61 d b).bind fun u=>bif decide (0<=a/\a<=(c.length:Int)) then e (List.drop a.toNat c) u.1 u.2 else none else(g7 h g 61 A d b).bind fun p=>bif decide (0<=a/\a<=(c.length:Int)) then e (List.drop a.toNat c) p.1 p.2 else none else(am [65,66,67,68,69,70,71,72,73,74,75,76,77,78,79,80,81,82,83,84,85,86,87,88,89,90,97,98,99,100,101,102,103,104,105,106,107,108,109,110,111,112,113,114,115,116,117,118,119,120,121,122,48,49,50,51,52,53,54,55,56,57,43,47] (ae (((BitVec.ofInt 64 (Int.fdiv f (2 ^ min (0:Int).toNat 64))&&&BitVec.ofInt 64 63).toNat:Int)))).bind fun z=>bif decide (a<3) then(g7 h g k 61 d b).bind fun o=>bif decide (0<=a/\a<=(c.length:Int)) then e (List.drop a.toNat c) o.1 o.2 else none else(g7 h g k z d b).bind fun l=>bif decide (0<=a/\a<=(c.length:Int)) then e (List.drop a.toNat c) l.1 l.2 else none
def qa7(f:qdw):q42:=fun b d c e a=>bif decide (2<b) then(am c 2).bind fun g=>sg fu f b (ae (((BitVec.ofInt 64 (ae (d*2 ^ min (8:Int).toNat 64))|||BitVec.ofInt 64 (g.toNat:Int)).toNat:Int))) c e a else sg fu f b (ae (d*2 ^ min (8:Int).toNat 64)) c e a
def qa6(f:qdw):q42:=fun b d c e a=>bif decide (1<b) then(am c 1).bind fun g=>qa7 fu f b (ae (((BitVec.ofInt 64 (ae (d*2 ^ min (8:Int).toNat 64))|||BitVec.ofInt 64 (g.toNat:Int)).toNat:Int))) c e a else qa7 fu f b (ae (d*2 ^ min (8:Int).toNat 64)) c e a
def sf(d:qdw):qdw:=fun a c b=>bif decide (0<(a.length:Int)) then bif decide (0<(if(a.length:Int)<3 then(a.length:Int) else 3)) then(am a 0).bind fun e=>qa6 fu d (if(a.length:Int)<3 then(a.length:Int) else 3) (ae (((BitVec.ofInt 64 0|||BitVec.ofInt 64 (e.toNat:Int)).toNat:Int))) a c b else qa6 fu d (if(a.length:Int)<3 then(a.length:Int) else 3) 0 a c b else some (a,(c,b))
def nk(fu:Nat):Nat->qdw|0=>fun _ _ _=>none|n+1=>sf fu (nk fu n)
def qrj(c:Bs)(a:Int)(b:Bs):Option (Bs×Int×Bs):=nk fu fu c a b
def qe1(b:Bs):Option ((Int×Int)×Bs):=bif decide (12000<(b.length:Int)) then(aq 1 (-1)).bind fun d=>some (d,[]) else(qri b).bind fun e=>(qrj fu e 0 []).bind fun a=>bif decide (0<a.2.1) then bif decide (List.length (a.2.2++([13,10]:Bs))<=ao) then(cd).bind fun c=>some (c,a.2.2++([13,10]:Bs)) else none else(cd).bind fun f=>some (f,a.2.2)
def yl(c:Bs):Option (Bs):=(qe1 fu c).bind fun b=>(qbq b.2 [13,10] []).bind fun a=>some a
abbrev qp1:=Bs->Int->Bs->Option (Bool×Bs)
def qgd(fu:Nat)(f:qp1):Bs->Int->Bool->Bs->Option (Bool×Bs):=fun c d b a=>bif b then(am c d).bind fun e=>bif decide (List.length (a++([e]:Bs))<=ao) then f c (ae (d+1)) (a++([e]:Bs)) else none else some (false,[])
def qx0(d:qp1):qp1:=fun c b a=>bif decide (b<(c.length:Int)) then(am c b).bind fun i=>bif i==95 then bif decide (List.length (a++([32]:Bs))<=ao) then d c (ae (b+1)) (a++([32]:Bs)) else none else(am c b).bind fun f=>bif f==61 then bif decide (0<=ae (b+1)/\ae (b+1)<=(c.length:Int)) then(qba (List.drop (ae (b+1)).toNat c)).bind fun e=>bif !e.2 then some (false,[]) else bif decide (List.length (a++([e.1]:Bs))<=ao) then d c (ae ((ae (b+2))+1)) (a++([e.1]:Bs)) else none else none else(am c b).bind fun h=>bif decide (33<=h) then(am c b).bind fun g=>qgd fu d c b (decide (g<=126)) a else qgd fu d c b false a else some (true,a)
def qbt(fu:Nat):Nat->qp1|0=>fun _ _ _=>none|n+1=>qx0 fu (qbt fu n)
def qgc:Bs->Bool->Option (Bool×Bs):=fun b a=>bif a then qbt fu fu b 0 [] else some (false,[])
def qgb:Bs->Bs->Bool->Option (Bool×Bs):=fun b a c=>bif c then bif decide (b.length<=maxLen) then(qe2 fu b).bind fun d=>(yl fu d.2).bind fun e=>some (e==b,d.2) else none else bif a==([81]:Bs) then qgc fu b true else qgc fu b (a==([113]:Bs))
def qls(a:Bs)(b:Bs):Option (Bool×Bs):=bif a==([66]:Bs) then qgb fu b a true else qgb fu b a (a==([98]:Bs))
def qkc(b:Bs)(a:Int):Option (Bs×Int):=some (b,a)
abbrev zqk:=(Bs×Bool×Int) ⊕ ((Bs×Bool) ⊕ ((Bs×Bool) ⊕ (Bs×Bool)))
def uu(a:Bs):Option zqk:=(qkc [97,115,99,105,105] 128).bind fun b=>(qkc [108,97,116,105,110,49] 256).bind fun c=>(fm fu b.1 a).bind fun f=>bif f then some (.inl (b.1,(true,b.2))) else(fm fu c.1 a).bind fun d=>bif d then some (.inl (c.1,(true,c.2))) else(fm fu [117,116,102,56] a).bind fun g=>bif g then some (.inr (.inl (([117,116,102,56]:Bs),true))) else(fm fu [117,116,102,49,54,98,101] a).bind fun e=>bif e then some (.inr (.inr (.inl (([117,116,102,49,54,98,101]:Bs),true)))) else some (.inr (.inr (.inr (([]:Bs),false))))
abbrev q43:=Bs->Int->Int->Int->(List Int)->Option (Int×(List Int))
def qsr(fu:Nat)(g:q43):q43:=fun e f b c a=>bif decide (b<f) then(am e b).bind fun d=>bif decide (c<=(d.toNat:Int)) then bif decide (List.length (a++([65533]:List Int))<=ao) then g e f (ae (b+1)) c (a++([65533]:List Int)) else none else bif decide (List.length (a++([(d.toNat:Int)]:List Int))<=ao) then g e f (ae (b+1)) c (a++([(d.toNat:Int)]:List Int)) else none else some (c,a)
def qe8(fu:Nat):Nat->q43|0=>fun _ _ _ _ _=>none|n+1=>qsr fu (qe8 fu n)
def qsq(a:Bs)(b:Int):Option (Int×(List Int)):=qe8 fu fu a (a.length:Int) 0 b []
def qsp(a:Bs):Option ((List Int)):=bif decide (a.length<=4294967296) then some (ge a) else none
def qe9(b:Int)(a:Bs):Option (Int×Bs):=(am a b).bind fun c=>(am a (ae (b+1))).bind fun d=>some (IntKind.i32.wrap (((BitVec.ofInt 32 (IntKind.i32.wrap ((c.toNat:Int)*2 ^ min (8:Int).toNat 32))|||BitVec.ofInt 32 (d.toNat:Int)).toNat:Int)),a)
abbrev qdy:=Int->Bs->(List Int)->Option ((List Int))
def ye(fu:Nat)(d:qdy):Int->Int->Bs->(List Int)->Option ((List Int)):=fun e c b a=>bif decide (55296<=c) then bif decide (c<57344) then bif decide (List.length (a++([65533]:List Int))<=ao) then d (ae (e+2)) b (a++([65533]:List Int)) else none else bif decide (List.length (a++([c]:List Int))<=ao) then d (ae (e+2)) b (a++([c]:List Int)) else none else bif decide (List.length (a++([c]:List Int))<=ao) then d (ae (e+2)) b (a++([c]:List Int)) else none
def qfa(e:qdy):Int->Int->Int->Bool->Bs->(List Int)->Option ((List Int)):=fun f d g c a b=>bif c then ye fu e (ae (f+2)) (IntKind.i32.wrap ((IntKind.i32.wrap ((IntKind.i32.wrap (65536+(IntKind.i32.wrap ((IntKind.i32.wrap (d-55296))*2 ^ min (10:Int).toNat 32))))+g))-56320)) a b else ye fu e f d a b
def qbb(f:qdy):Int->Int->Bool->Bs->(List Int)->Option ((List Int)):=fun d e g c a=>bif g then(qe9 (ae (d+2)) c).bind fun b=>bif decide (56320<=b.1) then qfa fu f d e b.1 (decide (b.1<57344)) b.2 a else qfa fu f d e b.1 false b.2 a else ye fu f d e c a
def qst(e:qdy):qdy:=fun d c a=>bif decide (d<(c.length:Int)) then bif(ae (d+1))==(c.length:Int) then bif decide (List.length (a++([65533]:List Int))<=ao) then some (a++([65533]:List Int)) else none else(qe9 d c).bind fun b=>bif decide (55296<=b.1) then bif decide (b.1<56320) then qbb fu e d b.1 (decide ((ae (d+3))<(b.2.length:Int))) b.2 a else qbb fu e d b.1 false b.2 a else qbb fu e d b.1 false b.2 a else some a
def uv(fu:Nat):Nat->qdy|0=>fun _ _ _=>none|n+1=>qst fu (uv fu n)
def qss(a:Bs):Option ((List Int)):=uv fu fu 0 a []
def qkb(s:Bs)(a:Bs):Option (Bs×(Int×Int)):=bif decide (12000<(a.length:Int)) then(aq 1 (-1)).bind fun t=>some (([]:Bs),t) else(uu fu s).bind fun r=>ay r (fun k=>bif !k.2.1 then(aq 18 (-2)).bind fun q=>some (([]:Bs),q) else(qsq fu a k.2.2).bind fun g=>(cd).bind fun b=>some (ik g.2,b)) (fun p=>ay p (fun o=>bif !o.2 then(aq 18 (-2)).bind fun d=>some (([]:Bs),d) else(qsp a).bind fun f=>(cd).bind fun i=>some (ik f,i)) (fun m=>ay m (fun l=>bif !l.2 then(aq 18 (-2)).bind fun c=>some (([]:Bs),c) else(qss fu a).bind fun h=>(cd).bind fun j=>some (ik h,j)) (fun u=>bif !u.2 then(aq 18 (-2)).bind fun e=>some (([]:Bs),e) else none)))
def qx4:(List Bs)->Option (Bs×Int×Bool):=fun a=>(am a 1).bind fun i=>(am a 2).bind fun j=>(qls fu i j).bind fun e=>(am a 0).bind fun h=>(qkb fu h e.2).bind fun b=>(am a 0).bind fun c=>(am a 1).bind fun d=>(am a 2).bind fun f=>bif e.1 then(ck b.2).bind fun g=>some (b.1,(ae ((ae ((ae ((ae (2+(c.length:Int)))+(d.length:Int)))+(f.length:Int)))+4),!g)) else some (b.1,(ae ((ae ((ae ((ae (2+(c.length:Int)))+(d.length:Int)))+(f.length:Int)))+4),false))
def qge:(List Bs)->Bool->Option (Bs×Int×Bool):=fun b a=>bif a then some (([]:Bs),(0,false)) else qx4 fu b
def qlt(a:Bs):Option (Bs×Int×Bool):=(qbp a [61,63]).bind fun e=>bif !e then some (([]:Bs),(0,false)) else bif decide (0<=(2:Int)/\2<=(if 75<(a.length:Int) then 75 else(a.length:Int))/\(if 75<(a.length:Int) then 75 else(a.length:Int))<=(a.length:Int)) then(qlj fu (List.take ((if 75<(a.length:Int) then 75 else(a.length:Int)).toNat-(2:Int).toNat) (List.drop (2:Int).toNat a)) [63] 4).bind fun b=>bif decide ((b.length:Int)<4) then qge fu b true else(am b 3).bind fun c=>(qbp c [61]).bind fun d=>qge fu b (!d) else none
def qbn(b:UInt8)(c:Bs):Option (Bs):=(ql c).bind fun a=>bif decide (List.length (a++([b]:Bs))<=ao) then some (a++([b]:Bs)) else none
def qbo(a:Bs)(c:Bs):Option (Int×Bs):=(ql c).bind fun b=>bif decide (List.length (b++a)<=ao) then some ((a.length:Int),b++a) else none
abbrev xj:=Bs->Int->Int->(Int×Int)->Bs->Option (Bs×(Int×Int))
def qga(fu:Nat)(d:xj):xj:=fun e f c a b=>d e f (ae (c+1)) a b
def qf9(g:xj):Bs->Int->Int->Bool->(Int×Int)->Bs->Option (Bs×(Int×Int)):=fun e d a f b c=>bif f then bif decide (0<=d/\d<=ae (a+1)/\ae (a+1)<=(e.length:Int)) then(qbo (List.take ((ae (a+1)).toNat-d.toNat) (List.drop d.toNat e)) c).bind fun h=>qga fu g e (-1) a b h.2 else none else qga fu g e d a b c
def qf8(f:xj):xj:=fun d e c a b=>bif decide (0<=e) then(am d c).bind fun h=>(oq h).bind fun g=>qf9 fu f d e c (!g) a b else qf9 fu f d e c false a b
def qxy(g:xj):xj:=fun c e b d a=>bif decide (b<(c.length:Int)) then bif decide (0<=b/\b<=(c.length:Int)) then(qlt fu (List.drop b.toNat c)).bind fun f=>bif !f.2.2 then bif decide (e<0) then(am c b).bind fun i=>(qbn i a).bind fun m=>qf8 fu g c e b d m else qf8 fu g c e b d a else(qbo f.1 a).bind fun j=>g c (ae (b+f.2.1)) (ae (b+f.2.1)) d j.2 else none else bif decide (0<=e) then bif decide (0<=e/\e<=(c.length:Int)) then(qbo (List.drop e.toNat c) a).bind fun p=>(ya p.2).bind fun k=>(cd).bind fun o=>some (k,o) else none else(ya a).bind fun l=>(cd).bind fun h=>some (l,h)
def uw(fu:Nat):Nat->xj|0=>fun _ _ _ _ _=>none|n+1=>qxy fu (uw fu n)
def qlr(a:Bs):Option (Bs×(Int×Int)):=bif decide (4000<(a.length:Int)) then(aq 1 (-1)).bind fun b=>some (([]:Bs),b) else uw fu fu a (-1) 0 (0,0) []
abbrev zqg:=(List Bs)×(List Bs)
def qet(b:List Bs)(a:List Bs):Option zqg:=bif decide (0<(b.length:Int)) then(jt b [32]).bind fun d=>(qlr fu d).bind fun c=>bif decide (List.length (a++([c.1]:List Bs))<=ao) then some ([],a++([c.1]:List Bs)) else none else some (b,a)
abbrev q46:=(List (Bs×Bool))->Int->Int->(List Bs)->(List Bs)->Option (Bs)
def qq0(h:q46):q46:=fun f d a c b=>bif decide (a<d) then(am f a).bind fun e=>bif e.2 then(qet fu b c).bind fun g=>bif decide (List.length (g.2++([e.1]:List Bs))<=ao) then h f d (ae (a+1)) (g.2++([e.1]:List Bs)) g.1 else none else bif decide (List.length (b++([e.1]:List Bs))<=ao) then h f d (ae (a+1)) c (b++([e.1]:List Bs)) else none else(qet fu b c).bind fun j=>(jt j.2 [32]).bind fun i=>some i
def qeu(fu:Nat):Nat->q46|0=>fun _ _ _ _ _=>none|n+1=>qq0 fu (qeu fu n)
def qjy(a:List (Bs×Bool)):Option (Bs):=qeu fu fu a (a.length:Int) 0 [] []
abbrev zqi:=Int ⊕ ((Bs×Bs×Bs)×(Bs×Int)×(List (Bs×Bool)))
def qev(q:Bs×Int)(e:List (Bs×Bool)):Option zqi:=(rz fu 60 q).bind fun s=>ay s (fun r=>some (.inl r)) (fun c=>bif !c.1 then(qex fu c.2 e).bind fun l=>ay l (fun p=>some (.inl p)) (fun m=>some (.inr m)) else(qey fu c.2).bind fun o=>ay o (fun k=>some (.inl k)) (fun j=>(qex fu j.1 j.2).bind fun h=>ay h (fun d=>some (.inl d)) (fun a=>(qjy fu e).bind fun g=>(qa1 fu 62 a.2.1).bind fun i=>ay i (fun f=>some (.inl f)) (fun b=>some (.inr ((g,a.1.2),(b,e)))))))
abbrev qyf:=Int ⊕ ((Bs×Bool×(List (Bs×Bs×Bs)))×(Bs×Int))
abbrev q49:=(Bs×Int)->Bs->Bool->Bs->(List (Bs×Bs×Bs))->Option qyf
def qq6(m:q49):q49:=fun q a c d b=>(qey fu q).bind fun s=>ay s (fun r=>some (.inl r)) (fun j=>(qev fu j.1 j.2).bind fun l=>ay l (fun p=>some (.inl p)) (fun e=>bif decide (List.length (b++([e.1]:List (Bs×Bs×Bs)))<=ao) then(rz fu 59 e.2.1).bind fun o=>ay o (fun k=>some (.inl k)) (fun f=>bif f.1 then some (.inr ((d,(true,b++([e.1]:List (Bs×Bs×Bs)))),f.2)) else(qa1 fu 44 f.2).bind fun h=>ay h (fun g=>some (.inl g)) (fun i=>m i a c d (b++([e.1]:List (Bs×Bs×Bs))))) else none))
def qew(fu:Nat):Nat->q49|0=>fun _ _ _ _ _=>none|n+1=>qq6 fu (qew fu n)
def qq7:(Bs×Int)->Bs->Bool->Bs->Option qyf:=fun e b a c=>(rz fu 59 e).bind fun g=>ay g (fun f=>some (.inl f)) (fun d=>bif d.1 then some (.inr ((c,(true,[])),d.2)) else qew fu fu d.2 b a c [])
def xz(h:Bs×Int):Option qyf:=(qey fu h).bind fun k=>ay k (fun i=>some (.inl i)) (fun d=>(rz fu 58 d.1).bind fun j=>ay j (fun l=>some (.inl l)) (fun b=>bif !b.1 then(qev fu b.2 d.2).bind fun g=>ay g (fun f=>some (.inl f)) (fun e=>some (.inr ((([]:Bs),(false,([e.1]:List (Bs×Bs×Bs)))),e.2.1))) else(qjy fu d.2).bind fun a=>bif a==([]:Bs) then(lg b.2).bind fun c=>some (.inl c) else qq7 fu b.2 [] false a))
def qeo(a:Bs):Option Int:=bif decide (500<(a.length:Int)) then some 1 else(im a).bind fun b=>bif !b then some 5 else some 0
def qjv(a:Bs×Bs×Bs):Option ((Int×Int)):=(qeo a.1).bind fun b=>bif b != 0 then(aq b (-3)).bind fun g=>some g else(qes fu a.2.1).bind fun e=>bif !e then(aq 10 (-4)).bind fun c=>some c else(qep fu a.2.2).bind fun h=>bif !h then(aq 10 (-5)).bind fun d=>some d else(cd).bind fun f=>some f
abbrev q5a:=(List (Bs×Bs×Bs))->Int->Int->Option Int
def qqy(e:q5a):q5a:=fun c b a=>bif decide (a<b) then(am c a).bind fun g=>(qjv fu g).bind fun d=>(ck d).bind fun f=>bif f then some d.1 else e c b (ae (a+1)) else some 0
def qer(fu:Nat):Nat->q5a|0=>fun _ _ _=>none|n+1=>qqy fu (qer fu n)
def qqz:((Bs×Bool×(List (Bs×Bs×Bs)))->Option Int):=fun a=>qer fu fu a.2.2 (a.2.2.length:Int) 0
def qaw:(Bool->(Bs×Bool×(List (Bs×Bs×Bs)))->Option Int):=fun b a=>bif b then some 5 else qqz fu a
def qjw(a:Bs×Bool×(List (Bs×Bs×Bs))):Option Int:=(qeo a.1).bind fun b=>bif b != 0 then some b else bif !(a.2.1==(!(a.1==([]:Bs)))) then qaw fu true a else bif !a.2.1 then qaw fu ((a.2.2.length:Int) != 1) a else qaw fu false a
abbrev q5c:=(List (Bs×Bool×(List (Bs×Bs×Bs))))->Int->Int->(Int×Int)->Option ((Int×Int))
abbrev q5b:=(List (Bs×Bool×(List (Bs×Bs×Bs))))->Int->(List (Bs×Bool×(List (Bs×Bs×Bs))))->Int->Int->(Int×Int)->Option ((Int×Int))
def qqu(f:q5c):q5c:=fun c b a d=>bif decide (a<b) then(am c a).bind fun i=>(qjw fu i).bind fun e=>bif e != 0 then(aq e a).bind fun h=>some h else f c b (ae (a+1)) d else(cd).bind fun g=>some g
def qel(fu:Nat):Nat->q5c|0=>fun _ _ _ _=>none|n+1=>qqu fu (qel fu n)
def qqv:((List (Bs×Bool×(List (Bs×Bs×Bs))))->(Int×Int)->Option ((Int×Int))):=fun b a=>qel fu fu b (b.length:Int) 0 a
def qek:((List (Bs×Bool×(List (Bs×Bs×Bs))))->Bool->(Int×Int)->Option ((Int×Int))):=fun c b a=>bif b then(aq 2 (-1)).bind fun d=>some d else qqv fu c a
def qqt(h:q5b):q5b:=fun d e f c b a=>bif decide (b<c) then(am f b).bind fun g=>h d (ae (e+(g.2.2.length:Int))) f c (ae (b+1)) a else bif decide (60<(d.length:Int)) then qek fu d true a else qek fu d (decide (60<e)) a
def qej(fu:Nat):Nat->q5b|0=>fun _ _ _ _ _ _=>none|n+1=>qqt fu (qej fu n)
def qjp(a:List (Bs×Bool×(List (Bs×Bs×Bs)))):Option ((Int×Int)):=qej fu fu a 0 a (a.length:Int) 0 (0,0)
abbrev qgm:=(Int×Bs) ⊕ ((List (Bs×Bool×(List (Bs×Bs×Bs))))×(Int×Int))
abbrev q5e:=Bs->(Int×Int)->(Bs×Int)->(List (Bs×Bool×(List (Bs×Bs×Bs))))->Option qgm
def qen:(Bs->(Int×Int)->(List (Bs×Bool×(List (Bs×Bs×Bs))))->Option qgm):=fun g f a=>(qjp fu a).bind fun b=>(ck b).bind fun e=>bif e then(aq b.1 (-2)).bind fun d=>some (.inr ([],d)) else(cd).bind fun c=>some (.inr (a,c))
def qqw(s:q5e):q5e:=fun b k i a=>(rz fu 44 i).bind fun u=>ay u (fun t=>some (.inl (t,b))) (fun f=>bif f.1 then(xz fu f.2).bind fun m=>ay m (fun q=>some (.inl (q,b))) (fun e=>bif decide (List.length (a++([e.1]:List (Bs×Bool×(List (Bs×Bs×Bs)))))<=ao) then s b k e.2 (a++([e.1]:List (Bs×Bool×(List (Bs×Bs×Bs))))) else none) else(sc fu f.2).bind fun o=>ay o (fun l=>some (.inl (l,b))) (fun r=>ay r (fun p=>qen fu b k a) (fun d=>ay d (fun j=>(lg j.2.2).bind fun h=>some (.inl (h,b))) (fun g=>(lg g.2).bind fun c=>some (.inl (c,b))))))
def xw(fu:Nat):Nat->q5e|0=>fun _ _ _ _=>none|n+1=>qqw fu (xw fu n)
def qau:Bs->(Int×Int)->Option qgm:=fun a e=>(sc fu (a,0)).bind fun l=>ay l (fun i=>some (.inl (i,a))) (fun m=>ay m (fun p=>qen fu a e []) (fun h=>ay h (fun o=>(xz fu o.2.2).bind fun k=>ay k (fun j=>some (.inl (j,a))) (fun b=>bif decide (List.length ([b.1]:List (Bs×Bool×(List (Bs×Bs×Bs))))<=ao) then xw fu fu a e b.2 ([b.1]:List (Bs×Bool×(List (Bs×Bs×Bs)))) else none)) (fun g=>(xz fu g.2).bind fun d=>ay d (fun f=>some (.inl (f,a))) (fun c=>bif decide (List.length ([c.1]:List (Bs×Bool×(List (Bs×Bs×Bs))))<=ao) then xw fu fu a e c.2 ([c.1]:List (Bs×Bool×(List (Bs×Bs×Bs)))) else none))))
def qem(c:Bs)(a:Int)(b:Int):Option qgm:=qau fu c (a,b)
abbrev qye:=(List (Bs×Bool×(List (Bs×Bs×Bs))))×(Int×Int)
def qat:Bs->(Int×Int)->Option qye:=fun c a=>(qem fu c a.1 a.2).bind fun d=>ay d (fun b=>some ([],(11,if(b.2.length:Int)<b.1 then(b.2.length:Int) else b.1))) (fun e=>some e)
def qjq(a:Bs):Option qye:=bif decide (4000<(a.length:Int)) then(aq 1 (-1)).bind fun b=>some ([],b) else qat fu a (0,0)
def qa0(c:Bs):Option (Bs):=(qf4 ([([92]:Bs),([92,92]:Bs),([34]:Bs),([92,34]:Bs)]:List Bs)).bind fun a=>(si c a.1 a.2.1 a.2.2.1 a.2.2.2).bind fun b=>bif decide (List.length ([34]:Bs)+b.length<=bz) then bif decide (List.length (([34]:Bs)++b)+List.length ([34]:Bs)<=bz) then some ((([34]:Bs)++b)++[34]) else none else none
def qe0(a:Bs×Bs×Bs):Option (Bs):=(qeq fu a.2.1).bind fun c=>bif c then bif decide (a.2.1.length+List.length ([64]:Bs)<=bz) then bif decide (List.length (a.2.1++[64])+a.2.2.length<=bz) then some ((a.2.1++[64])++a.2.2) else none else none else(qa0 a.2.1).bind fun b=>bif decide (b.length+List.length ([64]:Bs)<=bz) then bif decide (List.length (b++[64])+a.2.2.length<=bz) then some ((b++[64])++a.2.2) else none else none
def zdk(fu:Nat)(b:dy):dy:=fun c d a=>b c d (ae (a+1))
def qx3(c:dy):Bs->Int->Int->Bool->Option Bool:=fun d e b a=>bif a then some false else zdk fu c d e b
def zdj(d:dy):dy:=fun a c b=>bif decide (b<c) then(am a b).bind fun h=>bif decide (h<32) then qx3 fu d a c b true else(am a b).bind fun e=>qx3 fu d a c b (decide (126<e)) else(qbp a [32]).bind fun g=>bif !g then(qvy a [32]).bind fun f=>bif !f then(qlg a [61,63]).bind fun i=>some (!i) else some false else some false
def qx2(fu:Nat):Nat->dy|0=>fun _ _ _=>none|n+1=>zdj fu (qx2 fu n)
def zdi(a:Bs):Option Bool:=qx2 fu fu a (a.length:Int) 0
abbrev q5f:=Bs->Bs->Nat->Option (Bs)
def q78(fu:Nat)(d:q5f):q5f:=fun c b a=>bif Nat.blt a (b.length) then bif decide (255<(((d8 b a).1:Nat):Int)) then some [117,116,102,56] else bif decide (127<(((d8 b a).1:Nat):Int)) then d [108,97,116,105,110,49] b (a+(d8 b a).2) else d c b (a+(d8 b a).2) else some c
def qsk(fu:Nat):Nat->q5f|0=>fun _ _ _=>none|n+1=>q78 fu (qsk fu n)
def q77(a:Bs):Option (Bs):=qsk fu fu [97,115,99,105,105] a 0
def zdl(b:Bs)(a:Bs):Option (Bs×Bs):=some (a,b)
def q8u(a:Bs):Option (Bs):=some a
abbrev q5g:=Int->(List (Int×Int×Int))->Int->Int->Option (Int×Bool)
def q8t(fu:Nat)(f:q5g):q5g:=fun b d e a=>bif decide (a<e) then(am d a).bind fun c=>bif decide (c.1<=b) then bif decide (b<=c.2.1) then some (c.2.2,true) else f b d e (ae (a+1)) else f b d e (ae (a+1)) else some (0,false)
def qta(fu:Nat):Nat->q5g|0=>fun _ _ _ _=>none|n+1=>q8t fu (qta fu n)
def q8s(b:Int)(a:List (Int×Int×Int)):Option (Int×Bool):=qta fu fu b a (a.length:Int) 0
def qs3(a:Int):Option Int:=(q8s fu a ([(13,13,1),(10,10,2),(0,31,3),(127,159,3),(768,879,4),(6832,6911,4),(7616,7679,4),(8400,8447,4),(65024,65039,4),(65056,65071,4),(127995,127999,4),(8205,8205,5),(127462,127487,6),(4352,4447,7),(4448,4519,8),(4520,4607,9)]:List (Int×Int×Int))).bind fun b=>some b.1
def qs9(b:Bs):Option ((Int×Bool×Int)):=(iz b).bind fun a=>bif a.1==65533 then bif a.2==1 then some (0,(true,1)) else(qs3 fu a.1).bind fun d=>some (d,(false,a.2)) else(qs3 fu a.1).bind fun c=>some (c,(false,a.2))
def qs4(a:Int):Option Bool:=bif a==1 then some true else bif a==2 then some true else some (a==3)
abbrev qp4:=Int->Bool->(Int×Bool×Int)->(Int×Bool×Int)->Option Bool
def q8r:(Int×Bool×Int)->(Int×Bool×Int)->Option Bool:=fun b a=>bif b.1==7 then bif a.1==7 then some true else bif a.1==8 then some true else bif b.1==8 then bif a.1==8 then some true else bif a.1==9 then some true else bif b.1==9 then some (a.1==9) else some false else bif b.1==9 then some (a.1==9) else some false else bif b.1==8 then bif a.1==8 then some true else bif a.1==9 then some true else bif b.1==9 then some (a.1==9) else some false else bif b.1==9 then some (a.1==9) else some false
def qs8:qp4:=fun d c b a=>bif c then some true else bif b.1==5 then some (a.1==0) else bif a.1==6 then some ((Int.tmod d 2)==1) else q8r b a
def qs7:qp4:=fun d c b a=>bif c then some false else bif a.1==4 then qs8 d true b a else qs8 d (a.1==5) b a
def qs6:qp4:=fun d c a b=>bif c then some true else(qs4 a.1).bind fun e=>bif e then qs7 d true a b else(qs4 b.1).bind fun f=>qs7 d f a b
def qs5:qp4:=fun c d a b=>bif d then some false else bif a.1==1 then qs6 c (b.1==2) a b else qs6 c false a b
def q8q(b:Int×Bool×Int)(a:Int×Bool×Int)(c:Int):Option Bool:=bif b.2.1 then qs5 c true b a else qs5 c a.2.1 b a
def qs2(b:Bs)(a:List Bs):Option ((List Bs)):=bif decide (List.length (a++([b]:List Bs))<=ao) then some (a++([b]:List Bs)) else none
abbrev qp5:=Int->Int->Bs->(Int×Bool×Int)->(List Bs)->Option (Bs×(List Bs))
abbrev qd2:=Bs->(List Bs)->Option (Bs×(List Bs))
def qtc(fu:Nat)(h:qd2)(d:qp5):Int->Int->Bs->(Int×Bool×Int)->(Int×Bool×Int)->(List Bs)->Option (Bs×(List Bs)):=fun c g f e a b=>d (ae (c+a.2.2)) g f a b
def q8x(e:qd2)(g:qp5):qp5:=fun a h b d c=>bif decide (a<(b.length:Int)) then bif decide (0<=a/\a<=(b.length:Int)) then(qs9 fu (List.drop a.toNat b)).bind fun f=>(q8q d f h).bind fun k=>bif !k then bif decide (0<=a/\a<=(b.length:Int)) then(qs2 (List.take a.toNat b) c).bind fun j=>bif decide (0<=a/\a<=(b.length:Int)) then e (List.drop a.toNat b) j else none else none else bif f.1 != 6 then qtc fu e g a 0 b d f c else qtc fu e g a (ae (h+1)) b d f c else none else bif decide (0<=a/\a<=(b.length:Int)) then(qs2 (List.take a.toNat b) c).bind fun i=>bif decide (0<=a/\a<=(b.length:Int)) then e (List.drop a.toNat b) i else none else none
def qkl(fu:Nat)(a:qd2):Nat->qp5|0=>fun _ _ _ _ _=>none|n+1=>q8x fu a (qkl fu a n)
def q8w(d:qd2):qd2:=fun c a=>bif !(c==([]:Bs)) then(qs9 fu c).bind fun b=>bif b.1==6 then qkl fu d fu b.2.2 1 c b a else qkl fu d fu b.2.2 0 c b a else some (c,a)
def qtb(fu:Nat):Nat->qd2|0=>fun _ _=>none|n+1=>q8w fu (qtb fu n)
def q8v(b:Bs)(a:List Bs):Option (Bs×(List Bs)):=qtb fu fu b a
def q8p(c:Bs):Option ((List Bs)):=(q8u c).bind fun b=>(q8v fu b []).bind fun a=>some a.2
def q8g(b:Int)(a:Int):Option (Bool×Int×Bs):=some (decide (b<a),(a,([di b]:Bs)))
def qxs:Int->Bool->Option (Bs):=fun a b=>bif b then bif decide (List.length ([240|||(di (Int.fdiv a (2 ^ min (18:Int).toNat 32))),128|||((di (Int.fdiv a (2 ^ min (12:Int).toNat 32)))&&&63),128|||((di (Int.fdiv a (2 ^ min (6:Int).toNat 32)))&&&63),128|||((di a)&&&63)]:Bs)<=ao) then some ([240|||(di (Int.fdiv a (2 ^ min (18:Int).toNat 32))),128|||((di (Int.fdiv a (2 ^ min (12:Int).toNat 32)))&&&63),128|||((di (Int.fdiv a (2 ^ min (6:Int).toNat 32)))&&&63),128|||((di a)&&&63)]:Bs) else none else bif decide (List.length ([239,191,189]:Bs)<=ao) then some ([239,191,189]:Bs) else none
def qlq:Int->Int->Bool->Option (Bs):=fun a c b=>bif b then bif decide (List.length ([224|||(di (Int.fdiv a (2 ^ min (12:Int).toNat 32))),128|||((di (Int.fdiv a (2 ^ min (6:Int).toNat 32)))&&&63),128|||((di a)&&&63)]:Bs)<=ao) then some ([224|||(di (Int.fdiv a (2 ^ min (12:Int).toNat 32))),128|||((di (Int.fdiv a (2 ^ min (6:Int).toNat 32)))&&&63),128|||((di a)&&&63)]:Bs) else none else bif decide (65535<c) then qxs a (decide (c<=1114111)) else qxs a false
def zc9(a:Int):Option (Bs):=bif decide ((IntKind.u32.wrap (a))<=2047) then bif decide (List.length ([192|||(di (Int.fdiv a (2 ^ min (6:Int).toNat 32))),128|||((di a)&&&63)]:Bs)<=ao) then some ([192|||(di (Int.fdiv a (2 ^ min (6:Int).toNat 32))),128|||((di a)&&&63)]:Bs) else none else bif decide ((IntKind.u32.wrap (a))<55296) then qlq a (IntKind.u32.wrap (a)) true else bif decide (57343<(IntKind.u32.wrap (a))) then qlq a (IntKind.u32.wrap (a)) (decide ((IntKind.u32.wrap (a))<=65535)) else qlq a (IntKind.u32.wrap (a)) false
def zc1(a:Int):Option (Bs):=bif decide ((IntKind.u32.wrap (a))<=127) then bif decide (List.length ([di a]:Bs)<=ao) then some ([di a]:Bs) else none else(zc9 a).bind fun b=>some b
def q8f(b:Int):Option (Bool×Bs):=(zc1 b).bind fun a=>some (true,a)
def q8e(a:Int):Option (Bool×Bs):=bif decide (a<65536) then some (true,([di (Int.fdiv a (2 ^ min (8:Int).toNat 32)),di a]:Bs)) else some (true,([di (Int.fdiv (IntKind.i32.wrap (55296+(Int.fdiv (IntKind.i32.wrap (a-65536)) (2 ^ min (10:Int).toNat 32)))) (2 ^ min (8:Int).toNat 32)),di (IntKind.i32.wrap (55296+(Int.fdiv (IntKind.i32.wrap (a-65536)) (2 ^ min (10:Int).toNat 32)))),di (Int.fdiv (IntKind.i32.wrap (56320+(IntKind.i32.wrap (((BitVec.ofInt 32 (IntKind.i32.wrap (a-65536))&&&BitVec.ofInt 32 1023).toNat:Int))))) (2 ^ min (8:Int).toNat 32)),di (IntKind.i32.wrap (56320+(IntKind.i32.wrap (((BitVec.ofInt 32 (IntKind.i32.wrap (a-65536))&&&BitVec.ofInt 32 1023).toNat:Int)))))]:Bs))
abbrev q5i:=(Int×Int)->Bs->Bs->Nat->Int->Bs->Option ((Int×Int)×Bs)
abbrev qd3:=(Int×Int)->Bs->Bs->Nat->Bs->Option ((Int×Int)×Bs)
abbrev q5j:=(Int×Int)->Bs->Bs->Nat->Option ((Int×Int)×Bs)
def q8a(fu:Nat)(h:q5i):q5i:=fun e f b a g c=>bif Nat.blt a (b.length) then(q8g (((d8 b a).1:Nat):Int) g).bind fun d=>bif !d.1 then(aq 17 ((a:Nat):Int)).bind fun j=>some (j,[]) else bif decide (List.length (c++d.2.2)<=ao) then h e f b (a+(d8 b a).2) d.2.1 (c++d.2.2) else none else(cd).bind fun i=>some (i,c)
def qsl(fu:Nat):Nat->q5i|0=>fun _ _ _ _ _ _=>none|n+1=>q8a fu (qsl fu n)
def q8b(fu:Nat)(g:qd3):qd3:=fun d f b a c=>bif Nat.blt a (b.length) then(q8f (((d8 b a).1:Nat):Int)).bind fun e=>bif !e.1 then(aq 17 ((a:Nat):Int)).bind fun i=>some (i,[]) else bif decide (List.length (c++e.2)<=ao) then g d f b (a+(d8 b a).2) (c++e.2) else none else(cd).bind fun h=>some (h,c)
def qsm(fu:Nat):Nat->qd3|0=>fun _ _ _ _ _=>none|n+1=>q8b fu (qsm fu n)
def q8c(fu:Nat)(g:qd3):qd3:=fun d f b a c=>bif Nat.blt a (b.length) then(q8e (((d8 b a).1:Nat):Int)).bind fun e=>bif !e.1 then(aq 17 ((a:Nat):Int)).bind fun i=>some (i,[]) else bif decide (List.length (c++e.2)<=ao) then g d f b (a+(d8 b a).2) (c++e.2) else none else(cd).bind fun h=>some (h,c)
def qsn(fu:Nat):Nat->qd3|0=>fun _ _ _ _ _=>none|n+1=>q8c fu (qsn fu n)
def q8d(fu:Nat)(f:q5j):q5j:=fun c e a b=>bif Nat.blt b (a.length) then none else(cd).bind fun d=>some (d,[])
def qso(fu:Nat):Nat->q5j|0=>fun _ _ _ _=>none|n+1=>q8d fu (qso fu n)
def q79(v:Bs)(a:Bs):Option ((Int×Int)×Bs):=bif decide (12000<(a.length:Int)) then(aq 1 (-1)).bind fun w=>some (w,[]) else(uu fu v).bind fun u=>ay u (fun f=>bif !f.2.1 then(aq 18 (-2)).bind fun t=>some (t,[]) else(im a).bind fun j=>bif !j then(aq 5 (-3)).bind fun c=>some (c,[]) else qsl fu fu (0,0) f.1 a 0 f.2.2 []) (fun s=>ay s (fun p=>bif !p.2 then(aq 18 (-2)).bind fun g=>some (g,[]) else(im a).bind fun i=>bif !i then(aq 5 (-3)).bind fun l=>some (l,[]) else qsm fu fu (0,0) p.1 a 0 []) (fun r=>ay r (fun o=>bif !o.2 then(aq 18 (-2)).bind fun d=>some (d,[]) else(im a).bind fun k=>bif !k then(aq 5 (-3)).bind fun m=>some (m,[]) else qsn fu fu (0,0) o.1 a 0 []) (fun q=>bif !q.2 then(aq 18 (-2)).bind fun h=>some (h,[]) else(im a).bind fun b=>bif !b then(aq 5 (-3)).bind fun e=>some (e,[]) else qso fu fu (0,0) q.1 a 0)))
def zbq(a:Bs)(c:Bs):Option (Int×Bs×Bs):=(ql c).bind fun b=>bif decide (List.length (b++a)<=ao) then some ((a.length:Int),(a,b++a)) else none
def zdh(fu:Nat)(f:qdl):qdl:=fun d e b a=>bif decide (b<e) then(am d b).bind fun c=>bif c==32 then(qbn 95 a).bind fun j=>f d e (ae (b+1)) j else(qe5 c).bind fun h=>bif h then(qbn c a).bind fun g=>f d e (ae (b+1)) g else(qe4 (qaf c (min (4:Int).toNat 8))).bind fun k=>(qe4 c).bind fun m=>(zbq ([61,k,m]:Bs) a).bind fun i=>f d e (ae (b+1)) i.2.2 else(ya a).bind fun l=>some l
def qx1(fu:Nat):Nat->qdl|0=>fun _ _ _ _=>none|n+1=>zdh fu (qx1 fu n)
def zdg(a:Bs):Option (Bs):=qx1 fu fu a (a.length:Int) 0 []
def qgf(a:Bs)(e:Bs):Option (Bs):=(q79 fu a e).bind fun d=>bif a==([117,116,102,56]:Bs) then bif decide (List.length ([61,63]:Bs)+a.length<=bz) then bif decide (List.length (([61,63]:Bs)++a)+List.length ([63,66,63]:Bs)<=bz) then(yl fu d.2).bind fun c=>bif decide (List.length ((([61,63]:Bs)++a)++[63,66,63])+c.length<=bz) then bif decide (List.length (((([61,63]:Bs)++a)++[63,66,63])++c)+List.length ([63,61]:Bs)<=bz) then some ((((([61,63]:Bs)++a)++[63,66,63])++c)++[63,61]) else none else none else none else none else bif decide (List.length ([61,63]:Bs)+a.length<=bz) then bif decide (List.length (([61,63]:Bs)++a)+List.length ([63,81,63]:Bs)<=bz) then(zdg fu d.2).bind fun b=>bif decide (List.length ((([61,63]:Bs)++a)++[63,81,63])+b.length<=bz) then bif decide (List.length (((([61,63]:Bs)++a)++[63,81,63])++b)+List.length ([63,61]:Bs)<=bz) then some ((((([61,63]:Bs)++a)++[63,81,63])++b)++[63,61]) else none else none else none else none
abbrev zq5:=Bs×Bs×(List Bs)
def qxz(a:Bs)(c:Bs)(b:Bs)(d:List Bs):Option zq5:=bif !(b==([]:Bs)) then bif decide (b.length+a.length<=bz) then(qgf fu c (b++a)).bind fun f=>bif decide (75<(f.length:Int)) then(qgf fu c b).bind fun e=>bif decide (List.length (d++([e]:List Bs))<=ao) then bif decide (List.length ([]:Bs)+a.length<=bz) then some (c,(([]:Bs)++a,d++([e]:List Bs))) else none else none else bif decide (b.length+a.length<=bz) then some (c,(b++a,d)) else none else none else bif decide (b.length+a.length<=bz) then some (c,(b++a,d)) else none
abbrev qyk:=Bs×Bs×Bs×Bs×(List Bs)
abbrev q5m:=Int->Int->Bs->Bs->Bs->Bs->(List Bs)->Bs->Nat->(List Bs)->Option qyk
abbrev qi6:=Int->Int->Bs->Bs->Bs->Bs->(List Bs)->(List Bs)->Option qyk
def zdo(l:qi6)(m:q5m):q5m:=fun e d j h i k c b a f=>bif Nat.blt a (b.length) then(qxz fu (l7 (((d8 b a).1:Nat):Int)) i k f).bind fun g=>m e d j h g.1 g.2.1 c b (a+(d8 b a).2) g.2.2 else l e (ae (d+1)) j h i k c f
def qx6(fu:Nat)(a:qi6):Nat->q5m|0=>fun _ _ _ _ _ _ _ _ _ _=>none|n+1=>zdo fu a (qx6 fu a n)
def zdn(k:qi6):qi6:=fun d a g e f h b c=>bif decide (a<d) then bif decide (0<=a/\a.toNat<b.length) then(b[a.toNat]?).bind fun i=>(qgf fu e i).bind fun l=>bif decide ((l.length:Int)<=75) then(qxz fu i f h c).bind fun j=>k d (ae (a+1)) g e j.1 j.2.1 b j.2.2 else qx6 fu k fu d a g e f h b i 0 c else none else some (g,(e,(f,(h,c))))
def qx5(fu:Nat):Nat->qi6|0=>fun _ _ _ _ _ _ _ _=>none|n+1=>zdn fu (qx5 fu n)
def zdm(a:Bs)(e:Bs)(f:Bs)(c:Bs)(d:List Bs):Option qyk:=(q8p fu a).bind fun b=>qx5 fu fu (b.length:Int) 0 a e f c b d
def zdf(a:Bs):Option (Bs×(Int×Int)):=bif decide (1000<(a.length:Int)) then(aq 1 (-1)).bind fun i=>some (([]:Bs),i) else(im a).bind fun k=>bif !k then(aq 5 (-2)).bind fun j=>some (([]:Bs),j) else(zdi fu a).bind fun h=>bif h then(cd).bind fun l=>some (a,l) else(q77 fu a).bind fun e=>(zdl e a).bind fun g=>(zdm fu g.1 g.2 e ([]:Bs) []).bind fun b=>(qgf fu b.2.2.1 b.2.2.2.1).bind fun f=>bif decide (List.length (b.2.2.2.2++([f]:List Bs))<=ao) then(jt (b.2.2.2.2++([f]:List Bs)) [32]).bind fun c=>(cd).bind fun d=>some (c,d) else none
abbrev zqh:=(Bs×Bs) ⊕ (Bs×Bs)
def qjz(b:Bs)(a:Bs)(c:Bs):Option zqh:=bif b==([]:Bs) then(qa0 a).bind fun d=>some (.inl (a,d)) else(qj3 fu b).bind fun f=>bif !f then(qa0 a).bind fun e=>some (.inl (a,e)) else some (.inr (a,c))
abbrev zd1:=(Bs×Bs×Int×Bs×Bs) ⊕ (Bs×Bs×Int×Bs×Bs)
abbrev qd4:=Bs->Bs->Int->Bs->Bs->Option zd1
def zcq(h:qd4):qd4:=fun d a c e f=>bif decide (0<(a.length:Int)) then(iz a).bind fun b=>bif decide (0<=b.2/\b.2<=(a.length:Int)) then(qjz fu (List.take b.2.toNat a) e f).bind fun j=>ay j (fun i=>some (.inl (d,(a,(c,i))))) (fun g=>bif decide (0<=b.2/\b.2<=(a.length:Int)) then h d (List.drop b.2.toNat a) c g.1 g.2 else none) else none else some (.inr (d,(a,(c,(e,f)))))
def qw1(fu:Nat):Nat->qd4|0=>fun _ _ _ _ _=>none|n+1=>zcq fu (qw1 fu n)
def zcr(i:qd4):qd4:=fun b a c f g=>(jr a b).bind fun d=>bif decide (d<0) then(qjz fu a f g).bind fun l=>ay l (fun j=>some (.inl (b,(a,(c,j))))) (fun k=>some (.inr (b,(a,(c,k))))) else bif decide (0<=ae (d+c)/\ae (d+c)<=(a.length:Int)) then(qjz fu (List.take (ae (d+c)).toNat a) f g).bind fun m=>ay m (fun h=>some (.inl (b,(a,(c,h))))) (fun e=>bif decide (0<=ae (d+(b.length:Int))/\ae (d+(b.length:Int))<=(a.length:Int)) then i b (List.drop (ae (d+(b.length:Int))).toNat a) c e.1 e.2 else none) else none
def qw2(fu:Nat):Nat->qd4|0=>fun _ _ _ _ _=>none|n+1=>zcr fu (qw2 fu n)
def zcp(a:Bs)(d:Bs)(e:Int)(b:Bs)(c:Bs):Option zd1:=bif(a.length:Int)==0 then qw1 fu fu a d e b c else qw2 fu fu a d e b c
def qq3(a:Bs):Option (Bs):=(zdf fu a).bind fun c=>bif !(c.1==a) then some c.1 else(qbr a [32]).bind fun b=>(zcp fu b.1 b.2.1 b.2.2 a []).bind fun f=>ay f (fun d=>some d.2.2.2.2) (fun e=>some e.2.2.2.1)
def qjx(b:Bs×Bs×Bs):Option (Bs):=bif b.1==([]:Bs) then(qe0 fu b).bind fun d=>some d else(qq3 fu b.1).bind fun a=>bif decide (a.length+List.length ([32,60]:Bs)<=bz) then(qe0 fu b).bind fun c=>bif decide (List.length (a++[32,60])+c.length<=bz) then bif decide (List.length ((a++[32,60])++c)+List.length ([62]:Bs)<=bz) then some (((a++[32,60])++c)++[62]) else none else none else none
abbrev xp:=(List (Bs×Bool×(List (Bs×Bs×Bs))))->Int->Int->(Int×Int)->(List Bs)->Option (Bs×(Int×Int))
abbrev q5o:=(List (Bs×Bool×(List (Bs×Bs×Bs))))->Int->Int->(List (Bs×Bs×Bs))->Int->Int->(Int×Int)->(Bs×Bool×(List (Bs×Bs×Bs)))->(List Bs)->(List Bs)->Option (Bs×(Int×Int))
def qqx(fu:Nat)(f:xp):xp:=fun b a e c d=>f b a (ae (e+1)) c d
def qju(g:xp):(Bs->(List (Bs×Bool×(List (Bs×Bs×Bs))))->Int->Int->(Int×Int)->(List Bs)->Option (Bs×(Int×Int))):=fun a d c f e b=>bif decide (List.length (b++([a]:List Bs))<=ao) then qqx fu g d c f e (b++([a]:List Bs)) else none
def qjt(m:xp)(r:q5o):q5o:=fun b a g j i d c e f h=>bif decide (d<i) then(am j d).bind fun q=>(qjx fu q).bind fun o=>bif decide (List.length (f++([o]:List Bs))<=ao) then r b a g j i (ae (d+1)) c e (f++([o]:List Bs)) h else none else(jt f [44,32]).bind fun l=>bif e.2.1 then(qq3 fu e.1).bind fun k=>bif decide (k.length+List.length ([58,32]:Bs)<=bz) then bif decide (List.length (k++[58,32])+l.length<=bz) then(qwl ((k++[58,32])++l) [32]).bind fun p=>bif decide (p.length+List.length ([59]:Bs)<=bz) then qju fu m (p++[59]) b a g c h else none else none else none else qju fu m l b a g c h
def up(fu:Nat)(a:xp):Nat->q5o|0=>fun _ _ _ _ _ _ _ _ _ _=>none|n+1=>qjt fu a (up fu a n)
def qjs(i:xp):xp:=fun c b a e d=>bif decide (a<b) then(am c a).bind fun f=>up fu i fu c b a f.2.2 (f.2.2.length:Int) 0 e f [] d else(jt d [44,32]).bind fun g=>bif decide (4000<(g.length:Int)) then(aq 1 (-2)).bind fun j=>some (([]:Bs),j) else(cd).bind fun h=>some (g,h)
def nj(fu:Nat):Nat->xp|0=>fun _ _ _ _ _=>none|n+1=>qjs fu (nj fu n)
def qjr(a:List (Bs×Bool×(List (Bs×Bs×Bs)))):Option (Bs×(Int×Int)):=(qjp fu a).bind fun b=>(ck b).bind fun c=>bif c then some (([]:Bs),b) else nj fu fu a (a.length:Int) 0 (0,0) []
def qtn:(Bs->(List (Bs×Bool×(List (Bs×Bs×Bs))))->(Int×Int)->Option Bool):=fun d b c=>(qjr fu b).bind fun a=>(ck a.2).bind fun e=>bif !e then some (a.1==d) else some false
def yg:(Bs->(List (Bs×Bool×(List (Bs×Bs×Bs))))->Bool->(Int×Int)->Option Bool):=fun c d b a=>bif b then some false else qtn fu c d a
def qfl(b:Bs):Option Bool:=(qjq fu b).bind fun a=>(ck a.2).bind fun e=>bif e then yg fu b a.1 true a.2 else bif(a.1.length:Int) != 1 then yg fu b a.1 true a.2 else(am a.1 0).bind fun d=>bif d.2.1 then yg fu b a.1 true a.2 else(am a.1 0).bind fun c=>(am c.2.2 0).bind fun f=>yg fu b a.1 (!(f.1==([]:Bs))) a.2
def qtl(b:Bs×Int)(a:Bs×Int):Option (Bool×(Bs×Int)):=some (b.1==a.1,a)
abbrev q5q:=(List (Bs×Int))->Int->Int->(Bs×Int)->Option (Int×(Bs×Int))
def qvm(fu:Nat)(f:q5q):q5q:=fun e c a d=>bif decide (a<c) then(am e a).bind fun g=>(qtl g d).bind fun b=>bif b.1 then some (a,b.2) else f e c (ae (a+1)) b.2 else some ((-1),d)
def qf0(fu:Nat):Nat->q5q|0=>fun _ _ _ _=>none|n+1=>qvm fu (qf0 fu n)
def qvl(a:List (Bs×Int))(b:Bs×Int):Option (Int×(Bs×Int)):=qf0 fu fu a (a.length:Int) 0 b
def qvh(c:List (Bs×Int))(b:Bs×Int):Option (Bool×(Bs×Int)):=(qvl fu c b).bind fun a=>some (decide (0<=a.1),a.2)
abbrev qp8:=(List (Bs×Int))->(List (Bs×Int))->Int->Int->(Int×Int)->Option ((Int×Int))
def qfk(h:qp8):(List (Bs×Int))->Int->(List (Bs×Int))->Int->Int->Bool->(Int×Int)->(Bs×Int)->Option ((Int×Int)):=fun c a k f d g b e=>bif g then(aq 4 a).bind fun i=>some i else bif decide (0<=a/\a<=(c.length:Int)) then(qvh fu (List.take a.toNat c) e).bind fun l=>bif l.1 then(aq 7 a).bind fun j=>some j else h c k f (ae (d+1)) b else none
def qtm(f:qp8):qp8:=fun g e b a d=>bif decide (a<b) then(am e a).bind fun c=>(qfl fu c.1).bind fun j=>bif !j then(aq 10 a).bind fun i=>some i else bif decide (c.2<1) then qfk fu f g a e b a true d c else qfk fu f g a e b a (decide (4<c.2)) d c else(cd).bind fun h=>some h
def qbi(fu:Nat):Nat->qp8|0=>fun _ _ _ _ _=>none|n+1=>qtm fu (qbi fu n)
def qkr(a:List (Bs×Int)):Option ((Int×Int)):=bif decide (30<(a.length:Int)) then(aq 2 (-9)).bind fun b=>some b else qbi fu fu a a (a.length:Int) 0 (0,0)
def qrx(a:UInt8):Option Bool:=(qe5 a).bind fun b=>bif b then some true else bif a==45 then some true else bif a==95 then some true else some (a==46)
def qrs(fu:Nat)(d:dy):dy:=fun c b a=>bif decide (a<b) then(am c a).bind fun f=>(qrx f).bind fun e=>bif !e then some false else d c b (ae (a+1)) else some true
def qe3(fu:Nat):Nat->dy|0=>fun _ _ _=>none|n+1=>qrs fu (qe3 fu n)
def qrr(a:Bs):Option Bool:=qe3 fu fu a (a.length:Int) 0
def qj7(a:Bs):Option Bool:=bif !(a==([]:Bs)) then bif decide ((a.length:Int)<=60) then(qrr fu a).bind fun b=>some b else some false else some false
def np(a:Int)(b:Int)(c:Int):Option Bool:=bif decide (b<=a) then some (decide (a<=c)) else some false
def qbw(a:Bs×Int×Int×(Int×Int×Int×Int)×Int×Int×Int×Int):Option Bool:=some ((a.2.2.2.1.1==0)&&((a.2.2.2.1.2.1==0)&&((a.2.2.2.1.2.2.1==0)&&((a.2.2.2.1.2.2.2==0)&&true))))
def qgj(a:Int×Int×Int×Int):Option Bool:=(np a.1 1 12).bind fun c=>bif c then(np a.2.1 1 5).bind fun e=>bif e then(np a.2.2.1 0 6).bind fun d=>bif d then(np a.2.2.2 0 1439).bind fun b=>some b else some false else some false else some false
def qx7(fu:Nat):(Int×Int)->Option ((Int×Int)):=fun a=>(cd).bind fun b=>some b
def qlw:Bool->(Int×Int)->Option ((Int×Int)):=fun b a=>bif b then(aq 5 (-5)).bind fun c=>some c else qx7 fu a
def qlx(fu:Nat):Bool->(Bs×Int×Int×(Int×Int×Int×Int)×Int×Int×Int×Int)->(Int×Int)->Option ((Int×Int)):=fun b a f=>bif b then(aq 3 (-5)).bind fun e=>some e else(qgj a.2.2.2.1).bind fun i=>bif !i then(aq 3 (-6)).bind fun g=>some g else(qgj a.2.2.2.2).bind fun c=>bif !c then(aq 3 (-7)).bind fun j=>some j else bif a.2.2.2.1.1==a.2.2.2.2.1 then(aq 5 (-7)).bind fun d=>some d else(cd).bind fun h=>some h
def ym(a:Bs×Int×Int×(Int×Int×Int×Int)×Int×Int×Int×Int):Option ((Int×Int)):=(qj7 fu a.1).bind fun d=>bif !d then(aq 10 (-3)).bind fun g=>some g else(np a.2.1 (-900) 900).bind fun e=>bif !e then(aq 3 (-4)).bind fun b=>some b else(qbw a).bind fun h=>bif h then bif a.2.2.1 != 0 then qlw fu true (0,0) else qlw fu (!((a.2.2.2.2.1==0)&&((a.2.2.2.2.2.1==0)&&((a.2.2.2.2.2.2.1==0)&&((a.2.2.2.2.2.2.2==0)&&true))))) (0,0) else(np a.2.2.1 (-900) 900).bind fun c=>bif !c then qlx fu true a (0,0) else(np a.2.2.1 (ae (a.2.1+1)) (ae (a.2.1+180))).bind fun f=>qlx fu (!f) a (0,0)
def ot(a:Int)(b:Int)(c:Int):Option Bool:=bif decide (b<=a) then some (decide (a<=c)) else some false
def qkj(a:Int):Option Bool:=bif(Int.tmod a 4)==0 then bif(Int.tmod a 100) != 0 then some true else some ((Int.tmod a 400)==0) else some false
def qfe(c:Int)(b:Int):Option Int:=(am ([31,28,31,30,31,30,31,31,30,31,30,31]:List Int) (ae (b-1))).bind fun a=>bif b==2 then(qkj c).bind fun d=>bif d then some (ae (a+1)) else some a else some a
def qbe(a:Int×Int×Int×Int×Int×Int×Int):Option ((Int×Int)):=(ot a.1 1 4000).bind fun r=>bif r then(ot a.2.1 1 12).bind fun m=>bif m then(qfe a.1 (if 12<if 1>a.2.1 then 1 else a.2.1 then 12 else if 1>a.2.1 then 1 else a.2.1)).bind fun j=>(ot a.2.2.1 1 j).bind fun i=>bif i then(ot a.2.2.2.1 0 23).bind fun o=>bif o then(ot a.2.2.2.2.1 0 59).bind fun q=>bif q then(ot a.2.2.2.2.2.1 0 59).bind fun k=>bif k then(ot a.2.2.2.2.2.2 (-900) 900).bind fun p=>bif !p then(aq 3 (-3)).bind fun l=>some l else(cd).bind fun f=>some f else(aq 3 (-3)).bind fun b=>some b else(aq 3 (-3)).bind fun d=>some d else(aq 3 (-3)).bind fun e=>some e else(aq 3 (-3)).bind fun h=>some h else(aq 3 (-3)).bind fun c=>some c else(aq 3 (-3)).bind fun g=>some g
def qfc(a:Int):Option Int:=some (ae ((ae ((ae ((ae (365*(ae (a-1))))+(ae (Int.tdiv (ae (a-1)) 4))))-(ae (Int.tdiv (ae (a-1)) 100))))+(ae (Int.tdiv (ae (a-1)) 400))))
abbrev q5v:=Int->Int->Int->Int->Option Int
def qsw(fu:Nat)(e:q5v):q5v:=fun c d b a=>bif decide (a<d) then(qfe c a).bind fun f=>e c d (ae (b+f)) (ae (a+1)) else some b
def qfd(fu:Nat):Nat->q5v|0=>fun _ _ _ _=>none|n+1=>qsw fu (qfd fu n)
def qm(a:Int)(b:Int)(c:Int):Option Int:=(qfc a).bind fun d=>(qfc 1970).bind fun e=>qfd fu fu a b (ae ((ae ((ae (d-e))+c))-1)) 1
def yf(a:Int×Int×Int×Int×Int×Int×Int):Option (Int×(Int×Int)):=(qbe a).bind fun b=>(ck b).bind fun e=>bif e then some (0,b) else(qm fu a.1 a.2.1 a.2.2.1).bind fun d=>(cd).bind fun c=>some (ae ((ae ((ae ((ae (d*86400))+(ae (a.2.2.2.1*3600))))+(ae ((ae (a.2.2.2.2.1-a.2.2.2.2.2.2))*60))))+a.2.2.2.2.2.1),c)
def qk(a:Int):Option Bool:=bif decide ((-68719476736)<=a) then some (decide (a<=68719476736)) else some false
def qff(b:Int)(a:Int):Option (Int×Int):=bif decide (a≠0) then bif decide (a≠0) then bif decide (a≠0) then some (ae (Int.tdiv (ae (b-(Int.tmod (ae ((Int.tmod b a)+a)) a))) a),Int.tmod (ae ((Int.tmod b a)+a)) a) else none else none else none
abbrev qgn:=(Int×Int×Int×Int×Int×Int×Int)×(Int×Int)
abbrev ui:=Int->Int->Int->Int->Int->(Int×Int×Int×Int×Int×Int×Int)->(Int×Int)->Option qgn
def qki(fu:Nat)(c:ui):ui:=fun g d e f h a b=>c g d e f (ae (Int.tdiv h 2)) a b
def qkh(e:ui):Int->Int->Int->Int->Int->Bool->(Int×Int×Int×Int×Int×Int×Int)->(Int×Int)->Option qgn:=fun i f g h d c a b=>bif c then qki fu e i f g (ae (h+d)) d a b else qki fu e i f g h d a b
def qsu(k:ui):ui:=fun g d b c a e f=>(qm fu c a 1).bind fun h=>bif decide (d<h) then k g d b c (ae (a-1)) e f else(qm fu c a 1).bind fun j=>(cd).bind fun i=>some ((c,(a,(ae ((ae (d-j))+1),(ae (Int.tdiv b 3600),(Int.tmod (ae (Int.tdiv b 60)) 60,(Int.tmod b 60,g)))))),i)
def qfb(fu:Nat):Nat->ui|0=>fun _ _ _ _ _ _ _=>none|n+1=>qsu fu (qfb fu n)
def qkf(h:ui):ui:=fun g e f c d a b=>bif decide (0<d) then bif decide ((ae (c+d))<=4000) then(qm fu (ae (c+d)) 1 1).bind fun i=>qkh fu h g e f c d (decide (i<=e)) a b else qkh fu h g e f c d false a b else qfb fu fu g e f c 12 a b
def qbd(fu:Nat):Nat->ui|0=>fun _ _ _ _ _ _ _=>none|n+1=>qkf fu (qbd fu n)
def qsv:Int->Int->Int->(Int×Int×Int×Int×Int×Int×Int)->(Int×Int)->Option qgn:=fun e c d a b=>qbd fu fu e c d 1 2048 a b
def qkg:Int->Int->Int->Bool->(Int×Int×Int×Int×Int×Int×Int)->(Int×Int)->Option qgn:=fun f d e a b c=>bif a then(aq 3 (-3)).bind fun g=>some ((0,(0,(0,(0,(0,(0,0)))))),g) else qsv fu f d e b c
def qbc(c:Int)(b:Int):Option qgn:=(qk c).bind fun f=>bif !f then(aq 3 (-2)).bind fun i=>some ((0,(0,(0,(0,(0,(0,0)))))),i) else(ot b (-900) 900).bind fun g=>bif !g then(aq 3 (-4)).bind fun d=>some ((0,(0,(0,(0,(0,(0,0)))))),d) else(qff (ae (c+(ae (60*b)))) 86400).bind fun a=>(qm fu 1 1 1).bind fun e=>bif decide (a.1<e) then qkg fu b a.1 a.2 true (0,(0,(0,(0,(0,(0,0)))))) (0,0) else(qm fu 4000 12 31).bind fun h=>qkg fu b a.1 a.2 (decide (h<a.1)) (0,(0,(0,(0,(0,(0,0)))))) (0,0)
def qbf(a:Int×Int×Int×Int×Int×Int×Int):Option (Int×(Int×Int)):=(qbe a).bind fun b=>(ck b).bind fun e=>bif e then some (0,b) else(qm fu a.1 a.2.1 a.2.2.1).bind fun d=>(qff (ae (d+4)) 7).bind fun c=>(cd).bind fun f=>some (c.2,f)
def qlz:Int->(Int×Int×Int×Int)->(Int×Int×Int×Int×Int×Int×Int)->Option Int:=fun c a b=>(yf fu b).bind fun d=>some (ae (d.1+(ae (60*(ae (a.2.2.2-c))))))
def qly:Int->Bool->(Int×Int×Int×Int)->(Int×Int×Int×Int×Int×Int×Int)->Option Int:=fun d c b a=>bif c then qlz fu d b (a.1,(a.2.1,(ae (a.2.2.1-7),a.2.2.2))) else qlz fu d b a
def qgg(a:Int×Int×Int×Int)(b:Int)(d:Int):Option Int:=(qbf fu (b,(a.1,(1,(0,(0,(0,0))))))).bind fun c=>bif a.2.1==5 then(qbe (b,(a.1,(ae ((ae (1+(Int.tmod (ae ((ae (a.2.2.1-c.1))+7)) 7)))+(ae (7*(ae (a.2.1-1))))),(0,(0,(0,0))))))).bind fun f=>(ck f).bind fun e=>qly fu d e a (b,(a.1,(ae ((ae (1+(Int.tmod (ae ((ae (a.2.2.1-c.1))+7)) 7)))+(ae (7*(ae (a.2.1-1))))),(0,(0,(0,0)))))) else qly fu d false a (b,(a.1,(ae ((ae (1+(Int.tmod (ae ((ae (a.2.2.1-c.1))+7)) 7)))+(ae (7*(ae (a.2.1-1))))),(0,(0,(0,0))))))
abbrev qd6:=Int->Int->Int->Int->Bool->Int->(Bs×Int×Int×(Int×Int×Int×Int)×Int×Int×Int×Int)->Option Int
def ql0(e:qd6):qd6:=fun c d g i h b a=>(qgg fu a.2.2.2.2 b a.2.2.1).bind fun f=>bif decide (f<=c) then bif !h then e c d f a.2.1 true (ae (b+1)) a else bif decide (g<=f) then e c d f a.2.1 true (ae (b+1)) a else e c d g i h (ae (b+1)) a else e c d g i h (ae (b+1)) a
def qgi(f:qd6):Int->Int->Int->Int->Bool->Int->Int->Bool->(Bs×Int×Int×(Int×Int×Int×Int)×Int×Int×Int×Int)->Option Int:=fun g e h i j b c d a=>bif d then ql0 fu f g e c a.2.2.1 true b a else ql0 fu f g e h i j b a
def qgh(i:qd6):qd6:=fun g e d f h b a=>bif decide (b<=(ae (e+1))) then(qgg fu a.2.2.2.1 b a.2.1).bind fun c=>bif decide (c<=g) then bif !h then qgi fu i g e d f h b c true a else qgi fu i g e d f h b c (decide (d<c)) a else qgi fu i g e d f h b c false a else some f
def ou(fu:Nat):Nat->qd6|0=>fun _ _ _ _ _ _ _=>none|n+1=>qgh fu (ou fu n)
def qbx(a:Bs×Int×Int×(Int×Int×Int×Int)×Int×Int×Int×Int)(c:Int)(b:Int):Option Int:=(qbw a).bind fun d=>bif d then some a.2.1 else ou fu fu c b 0 a.2.1 false (ae (b-1)) a
def qlv(c:Bs×Int×Int×(Int×Int×Int×Int)×Int×Int×Int×Int)(b:Int):Option (Int×(Int×Int)):=(ym fu c).bind fun f=>(ck f).bind fun m=>bif m then some (0,f) else(qk b).bind fun j=>bif !j then(aq 3 (-2)).bind fun g=>some (0,g) else(qbc fu b c.2.1).bind fun e=>(ck e.2).bind fun i=>bif i then(aq 3 (-8)).bind fun l=>some (0,l) else(np e.1.1 2 3999).bind fun h=>bif !h then(aq 3 (-8)).bind fun k=>some (0,k) else(qbx fu c b e.1.1).bind fun a=>(cd).bind fun d=>some (a,d)
abbrev q50:=Int->Int->Int->(Bs×Int×Int×(Int×Int×Int×Int)×Int×Int×Int×Int)->(Int×Int)->(List Int)->(List Int)->Option ((Int×Int)×(List Int))
def qbv(i:q50):q50:=fun g e a d f b c=>bif decide (a<e) then bif decide (0<=a/\a.toNat<b.length) then(b[a.toNat]?).bind fun h=>(qlv fu d (ae (g-(ae (60*h))))).bind fun j=>(ck j.2).bind fun l=>bif !l then bif j.1==h then bif decide (List.length (c++([ae (g-(ae (60*h)))]:List Int))<=ao) then i g e (ae (a+1)) d f b (c++([ae (g-(ae (60*h)))]:List Int)) else none else i g e (ae (a+1)) d f b c else i g e (ae (a+1)) d f b c else none else(sj c).bind fun k=>(cd).bind fun m=>some (m,k)
def qo(fu:Nat):Nat->q50|0=>fun _ _ _ _ _ _ _=>none|n+1=>qbv fu (qo fu n)
def qlu:Int->(Bs×Int×Int×(Int×Int×Int×Int)×Int×Int×Int×Int)->(Int×Int)->(List Int)->Option ((Int×Int)×(List Int)):=fun d b c a=>qo fu fu d (a.length:Int) 0 b c a []
def qbu(a:Bs×Int×Int×(Int×Int×Int×Int)×Int×Int×Int×Int)(c:Int×Int×Int×Int×Int×Int×Int):Option ((Int×Int)×(List Int)):=(ym fu a).bind fun d=>(ck d).bind fun i=>bif i then some (d,[]) else(yf fu c).bind fun b=>(ck b.2).bind fun e=>bif e then some (b.2,[]) else bif c.2.2.2.2.2.2 != 0 then(aq 5 (-9)).bind fun j=>some (j,[]) else(np c.1 3 3998).bind fun g=>bif !g then(aq 3 (-9)).bind fun h=>some (h,[]) else(qbw a).bind fun f=>bif !f then bif decide (List.length (([a.2.1]:List Int)++([a.2.2.1]:List Int))<=ao) then qlu fu b.1 a (0,0) (([a.2.1]:List Int)++([a.2.2.1]:List Int)) else none else qlu fu b.1 a (0,0) ([a.2.1]:List Int)
abbrev qi8:=(List Int)->Int->Int->(Int×Int×Int×Int×Bool×(List Int)×(List Int)×(List Int))->(Int×Int)->Option ((Int×Int))
abbrev zof:=(Int×Int×Int×Int×Bool×(List Int)×(List Int)×(List Int))->(Int×Int)->Option ((Int×Int))
abbrev qd7:=Bool->(Int×Int×Int×Int×Bool×(List Int)×(List Int)×(List Int))->(Int×Int)->Option ((Int×Int))
def qvf(fu:Nat)(f:qi8):Int->Int->(List Int)->Int->Int->(Int×Int×Int×Int×Bool×(List Int)×(List Int)×(List Int))->(Int×Int)->Option ((Int×Int)):=fun g h e b c a d=>bif decide (0<g) then(am a.2.2.2.2.2.1 (ae (g-1))).bind fun i=>bif decide (h<=i) then(aq 19 (-7)).bind fun j=>some j else f e b (ae (c+1)) a d else f e b (ae (c+1)) a d
def qla(g:qi8):Int->Int->(List Int)->Int->Int->Bool->(Int×Int×Int×Int×Bool×(List Int)×(List Int)×(List Int))->(Int×Int)->Option ((Int×Int)):=fun h i f a b c d e=>bif c then(aq 3 (-7)).bind fun j=>some j else qvf fu g h i f a b d e
def qvd(g:qi8):qi8:=fun c b a d e=>bif decide (a<b) then(am c a).bind fun f=>bif decide (f<0) then qla fu g a f c b a true d e else qla fu g a f c b a (decide (6<f)) d e else(cd).bind fun h=>some h
def qfv(fu:Nat):Nat->qi8|0=>fun _ _ _ _ _=>none|n+1=>qvd fu (qfv fu n)
def qve:zof:=fun a b=>qfv fu fu a.2.2.2.2.2.1 (a.2.2.2.2.2.1.length:Int) 0 a b
def qk9:qd7:=fun a b c=>bif a then(aq 5 (-7)).bind fun d=>some d else qve fu b c
def qk8(a:Int×Int×Int×Int×Bool×(List Int)×(List Int)×(List Int)):Option ((Int×Int)):=bif decide (0<(a.2.2.2.2.2.1.length:Int)) then qk9 fu (a.1 != 2) a (0,0) else qk9 fu false a (0,0)
abbrev q51:=(List Int)->Int->(List Int)->Int->Int->(Int×Int)->Option ((Int×Int))
def qvc(fu:Nat)(h:q51):q51:=fun f e c b a d=>bif decide (a<b) then(am c a).bind fun g=>(qk g).bind fun l=>bif !l then(aq 3 e).bind fun k=>some k else bif decide (0<a) then(am f (ae (a-1))).bind fun i=>bif decide (g<=i) then(aq 19 e).bind fun m=>some m else h f e c b (ae (a+1)) d else h f e c b (ae (a+1)) d else(cd).bind fun j=>some j
def qfu(fu:Nat):Nat->q51|0=>fun _ _ _ _ _ _=>none|n+1=>qvc fu (qfu fu n)
def qft(a:List Int)(b:Int):Option ((Int×Int)):=bif decide (300<(a.length:Int)) then(aq 2 b).bind fun c=>some c else qfu fu fu a b a (a.length:Int) 0 (0,0)
def qu8:zof:=fun a e=>(qk8 fu a).bind fun b=>(ck b).bind fun f=>bif f then some b else(qft fu a.2.2.2.2.2.2.1 (-8)).bind fun c=>(ck c).bind fun d=>bif d then some c else(qft fu a.2.2.2.2.2.2.2 (-9)).bind fun g=>some g
def qk5:qd7:=fun a b c=>bif a then(aq 5 (-6)).bind fun d=>some d else qu8 fu b c
def qk4:qd7:=fun c a b=>bif c then(aq 3 (-6)).bind fun d=>some d else bif !a.2.2.2.2.1 then qk5 fu (a.2.2.2.1 != 0) a b else qk5 fu false a b
def qk3:qd7:=fun c a b=>bif c then(aq 3 (-5)).bind fun d=>some d else bif a.2.2.2.2.1 then(qk a.2.2.2.1).bind fun e=>qk4 fu (!e) a b else qk4 fu false a b
def qk2:qd7:=fun c a b=>bif c then(aq 3 (-4)).bind fun d=>some d else bif decide (a.2.2.1<0) then qk3 fu true a b else qk3 fu (decide (1500<a.2.2.1)) a b
def qk1:qd7:=fun d a b=>bif d then(aq 4 (-3)).bind fun c=>some c else bif decide (a.2.1<1) then qk2 fu true a b else qk2 fu (decide (100<a.2.1)) a b
def qfs(a:Int×Int×Int×Int×Bool×(List Int)×(List Int)×(List Int)):Option ((Int×Int)):=bif decide (a.1<0) then qk1 fu true a (0,0) else qk1 fu (decide (4<a.1)) a (0,0)
abbrev qi9:=Bool->(Bs×Int×Int×Bs×Bs×Bs×(List (Bs×Int))×Bs×(Int×Int×Int×Int×Int×Int×Int)×Int×Int×Int×Int×Int×Bool×(List Int)×(List Int)×(List Int))->(Int×Int)->Option ((Int×Int))
def qfj:qi9:=fun a b f=>bif a then(aq 3 (-12)).bind fun e=>some e else(qfs fu b.2.2.2.2.2.2.2.2.2.2).bind fun c=>(ck c).bind fun g=>bif g then(aq c.1 (-13)).bind fun d=>some d else(cd).bind fun h=>some h
def qkq:((Bs×Int×Int×Bs×Bs×Bs×(List (Bs×Int))×Bs×(Int×Int×Int×Int×Int×Int×Int)×Int×Int×Int×Int×Int×Bool×(List Int)×(List Int)×(List Int))->(Int×Int)->Option ((Int×Int))):=fun a b=>(qkr fu a.2.2.2.2.2.2.1).bind fun d=>(ck d).bind fun i=>bif i then some d else(ym fu (a.2.2.2.2.2.2.2.1,(0,(0,((0,(0,(0,0))),(0,(0,(0,0)))))))).bind fun g=>(ck g).bind fun e=>bif e then(aq 10 (-10)).bind fun j=>some j else(qbu fu (([122]:Bs),(0,(0,((0,(0,(0,0))),(0,(0,(0,0))))))) a.2.2.2.2.2.2.2.2.1).bind fun c=>(ck c.1).bind fun h=>bif h then(aq c.1.1 (-11)).bind fun f=>some f else bif decide (a.2.2.2.2.2.2.2.2.2.1<0) then qfj fu true a b else qfj fu (decide (1000000<a.2.2.2.2.2.2.2.2.2.1)) a b
def qfi:qi9:=fun a b c=>bif a then(aq 10 (-8)).bind fun d=>some d else qkq fu b c
def qfh:qi9:=fun c a b=>bif c then(aq 3 (-5)).bind fun g=>some g else(yh a.2.2.2.1).bind fun j=>bif j != 0 then(yh a.2.2.2.1).bind fun h=>(aq h (-6)).bind fun d=>some d else(yh a.2.2.2.2.1).bind fun k=>bif k != 0 then(yh a.2.2.2.2.1).bind fun f=>(aq f (-7)).bind fun i=>some i else bif !(a.2.2.2.2.2.1==([]:Bs)) then(qfl fu a.2.2.2.2.2.1).bind fun e=>qfi fu (!e) a b else qfi fu false a b
def qfg:qi9:=fun c a b=>bif c then(aq 4 (-4)).bind fun d=>some d else bif decide (a.2.2.1<0) then qfh fu true a b else qfh fu (decide (1000000<a.2.2.1)) a b
def qbh:qi9:=fun c a b=>bif c then(aq 10 (-3)).bind fun d=>some d else bif decide (a.2.1<1) then qfg fu true a b else qfg fu (decide (5<a.2.1)) a b
def qkp(a:Bs×Int×Int×Bs×Bs×Bs×(List (Bs×Int))×Bs×(Int×Int×Int×Int×Int×Int×Int)×Int×Int×Int×Int×Int×Bool×(List Int)×(List Int)×(List Int)):Option ((Int×Int)):=bif a.1==([]:Bs) then qbh fu true a (0,0) else bif decide (60<(a.1.length:Int)) then qbh fu true a (0,0) else(qro fu a.1).bind fun b=>qbh fu (!b) a (0,0)
abbrev zq0:=(Int×Int×Int×Int×Int×Int×Int)×(Int×Int×Int×Int×Bool×(List Int)×(List Int)×(List Int))×(Bs×Int×Int×(Int×Int×Int×Int)×Int×Int×Int×Int)
def qu9(c:Bs×Int×Int×(Int×Int×Int×Int)×Int×Int×Int×Int)(a:Int×Int×Int×Int×Int×Int×Int)(b:Int×Int×Int×Int×Bool×(List Int)×(List Int)×(List Int)):Option zq0:=some (a,(b,c))
abbrev q52:=(List Int)->Int->Int->Int->Option Int
def qvu(fu:Nat)(e:q52):q52:=fun c d b a=>bif decide (a<b) then(am c a).bind fun f=>bif d==f then some a else e c d b (ae (a+1)) else some (-1)
def qf2(fu:Nat):Nat->q52|0=>fun _ _ _ _=>none|n+1=>qvu fu (qf2 fu n)
def qvt(a:List Int)(b:Int):Option Int:=qf2 fu fu a b (a.length:Int) 0
def qld(c:List Int)(a:Int):Option Bool:=(qvt fu c a).bind fun b=>some (decide (0<=b))
def qk7(fu:Nat):Int->Int->Bool->(Int×Int×Int×Int×Bool×(List Int)×(List Int)×(List Int))->Option Bool:=fun d b c a=>bif c then bif decide (a.2.1≠0) then some ((Int.tmod (ae (Int.tdiv (ae (d+b)) 7)) a.2.1)==0) else none else some false
def qk6(a:Int×Int×Int×Int×Bool×(List Int)×(List Int)×(List Int))(b:Int×Int×Int×Int×Int×Int×Int)(c:Int×Int×Int×Int×Int×Int×Int)(d:Int):Option Bool:=(qbf fu c).bind fun f=>(qbf fu b).bind fun e=>bif a.1==1 then bif decide (a.2.1≠0) then some ((Int.tmod d a.2.1)==0) else none else bif a.1==2 then bif decide (0<(a.2.2.2.2.2.1.length:Int)) then(qld fu a.2.2.2.2.2.1 f.1).bind fun g=>qk7 fu d e.1 g a else qk7 fu d e.1 (f.1==e.1) a else bif a.1==3 then bif c.2.2.1==b.2.2.1 then bif decide (a.2.1≠0) then some ((Int.tmod (ae ((ae ((ae (12*(ae (c.1-b.1))))+c.2.1))-b.2.1)) a.2.1)==0) else none else some false else bif a.1==4 then bif c.2.2.1==b.2.2.1 then bif c.2.1==b.2.1 then bif decide (a.2.1≠0) then some ((Int.tmod (ae (c.1-b.1)) a.2.1)==0) else none else some false else some false else some (d==0)
def qke(a:Int):Option Bool:=some (a != a)
def qkd(b:Int)(a:Int):Option Bool:=(qke b).bind fun d=>bif d then(qke a).bind fun c=>bif !c then some true else some (decide (b<a)) else some (decide (b<a))
def qlf(a:Int):Option Bool:=some (a != a)
abbrev q53:=(List Int)->Int->Int->Int->Int->Option (Int×Bool)
def qvg(fu:Nat)(f:q53):q53:=fun c d e a b=>bif decide (a<b) then(am c (ae (Int.fdiv (IntKind.u64.wrap (ae (a+b))) (2 ^ min (1:Int).toNat 64)))).bind fun j=>(qkd j d).bind fun k=>bif k then f c d e (ae ((ae (Int.fdiv (IntKind.u64.wrap (ae (a+b))) (2 ^ min (1:Int).toNat 64)))+1)) b else f c d e a (ae (Int.fdiv (IntKind.u64.wrap (ae (a+b))) (2 ^ min (1:Int).toNat 64))) else bif decide (a<e) then(am c a).bind fun h=>bif h==d then some (a,true) else(am c a).bind fun g=>(qlf g).bind fun l=>bif l then(qlf d).bind fun i=>some (a,i) else some (a,false) else some (a,false)
def qfy(fu:Nat):Nat->q53|0=>fun _ _ _ _ _=>none|n+1=>qvg fu (qfy fu n)
def qlb(a:List Int)(b:Int):Option (Int×Bool):=qfy fu fu a b (a.length:Int) 0 (a.length:Int)
abbrev zqz:=(Int×Int×Int×Int×Bool×(List Int)×(List Int)×(List Int))×(List Int)
def qfr(c:Int)(a:Int×Int×Int×Int×Bool×(List Int)×(List Int)×(List Int))(b:List Int):Option zqz:=(qlb fu a.2.2.2.2.2.2.1 c).bind fun d=>bif !d.2 then bif decide (List.length (b++([c]:List Int))<=ao) then some (a,b++([c]:List Int)) else none else some (a,b)
abbrev zdx:=(Int×Int×Int×Int×Int×Int×Int)×(Int×Int×Int×Int×Bool×(List Int)×(List Int)×(List Int))×(Bs×Int×Int×(Int×Int×Int×Int)×Int×Int×Int×Int)×(Int×Int×Int×Int×Bool×(List Int)×(List Int)×(List Int))×(List Int)
abbrev q54:=Int->Int->Int->(Int×Int×Int×Int×Int×Int×Int)->(Int×Int×Int×Int×Bool×(List Int)×(List Int)×(List Int))->(Bs×Int×Int×(Int×Int×Int×Int)×Int×Int×Int×Int)->(Int×Int×Int×Int×Bool×(List Int)×(List Int)×(List Int))->(List Int)->Option zdx
def qvb(j:q54):q54:=fun i g e d a c h b=>bif decide (e<=1500) then(qbc fu (ae (i+(ae (e*86400)))) 0).bind fun m=>(qk6 fu a d m.1 e).bind fun r=>bif !r then j i g (ae (e+1)) d a c h b else(qbu fu c m.1).bind fun f=>bif(f.2.length:Int)==0 then j i g (ae (e+1)) d a c h b else bif a.2.2.2.2.1 then bif decide (0<=(0:Int)/\(0:Int).toNat<f.2.length) then(f.2[(0:Int).toNat]?).bind fun q=>bif decide (a.2.2.2.1<q) then some (d,(a,(c,(h,b)))) else bif decide (0<=(0:Int)/\(0:Int).toNat<f.2.length) then(f.2[(0:Int).toNat]?).bind fun p=>(qfr fu p h b).bind fun l=>bif(ae (g+1))==a.2.2.1 then some (d,(a,(c,l))) else j i (ae (g+1)) (ae (e+1)) d a c l.1 l.2 else none else none else bif decide (0<=(0:Int)/\(0:Int).toNat<f.2.length) then(f.2[(0:Int).toNat]?).bind fun o=>(qfr fu o h b).bind fun k=>bif(ae (g+1))==a.2.2.1 then some (d,(a,(c,k))) else j i (ae (g+1)) (ae (e+1)) d a c k.1 k.2 else none else some (d,(a,(c,(h,b))))
def qbm(fu:Nat):Nat->q54|0=>fun _ _ _ _ _ _ _ _=>none|n+1=>qvb fu (qbm fu n)
def qva(a:Int×Int×Int×Int×Int×Int×Int)(d:Int×Int×Int×Int×Bool×(List Int)×(List Int)×(List Int))(e:Bs×Int×Int×(Int×Int×Int×Int)×Int×Int×Int×Int)(b:Int×Int×Int×Int×Bool×(List Int)×(List Int)×(List Int))(c:List Int):Option zdx:=(yf fu a).bind fun f=>qbm fu fu f.1 0 0 a d e b c
def qfq(c:Int)(a:Int)(b:Int):Option (Bool×Int×Int):=bif decide (c<a) then some (true,(a,b)) else some (decide (b<c),(a,b))
abbrev q55:=Int->Int->(List Int)->Int->Int->Option (Int×(List Int)×Int×Int)
def qvr(fu:Nat)(g:q55):q55:=fun d a b f e=>bif decide (a<d) then bif decide (0<=a/\a.toNat<b.length) then(b[a.toNat]?).bind fun h=>(qfq h f e).bind fun c=>bif c.1 then some (a,(b,c.2)) else g d (ae (a+1)) b c.2.1 c.2.2 else none else some ((-1),(b,(f,e)))
def qf1(fu:Nat):Nat->q55|0=>fun _ _ _ _ _=>none|n+1=>qvr fu (qf1 fu n)
def qvq(a:List Int)(b:Int)(c:Int):Option (Int×(List Int)×Int×Int):=qf1 fu fu (a.length:Int) 0 a b c
abbrev q56:=Int->Int->Int->Int->(List Int)->Option (Int×Int×(List Int))
def qvk(fu:Nat)(f:q56):q56:=fun b c g e a=>bif decide (c<(a.length:Int)) then bif decide (0<=c/\c.toNat<a.length) then(a[c.toNat]?).bind fun h=>(qfq h g e).bind fun d=>bif !d.1 then bif decide (0<=b/\b.toNat<a.length) then(a[b.toNat]?).bind fun i=>f (ae (b+1)) (ae (c+1)) d.2.1 d.2.2 (List.set a b.toNat h) else none else f b (ae (c+1)) d.2.1 d.2.2 a else none else bif decide (0<=b/\b.toNat<a.length) then bif decide (0<=b/\b<=(List.length (List.take b.toNat a++List.replicate (a.length-b.toNat) 0):Int)) then some (g,(e,List.take b.toNat (List.take b.toNat a++List.replicate (a.length-b.toNat) 0))) else none else none
def qfz(fu:Nat):Nat->q56|0=>fun _ _ _ _ _=>none|n+1=>qvk fu (qfz fu n)
def qle(c:List Int)(b:Int)(d:Int):Option (Int×Int×(List Int)):=(qvq fu c b d).bind fun a=>bif a.1==(-1) then some (a.2.2.1,(a.2.2.2,a.2.1)) else qfz fu fu a.1 (ae (a.1+1)) a.2.2.1 a.2.2.2 a.2.1
def qu7:(Bs×Int×Int×(Int×Int×Int×Int)×Int×Int×Int×Int)->(Int×Int×Int×Int×Int×Int×Int)->(Int×Int×Int×Int×Bool×(List Int)×(List Int)×(List Int))->Int->Int->(Int×Int)->Option ((Int×Int)×(List Int)):=fun d f a g c k=>(qu9 d f a).bind fun e=>(qva fu e.1 e.2.1 e.2.2 a []).bind fun b=>bif decide (List.length (b.2.2.2.2++b.2.2.2.1.2.2.2.2.2.2.2)<=ao) then(qle fu (b.2.2.2.2++b.2.2.2.1.2.2.2.2.2.2.2) g c).bind fun j=>(sj j.2.2).bind fun h=>(qlc h).bind fun l=>(cd).bind fun i=>some (i,l) else none
def qbl:Bool->(Bs×Int×Int×(Int×Int×Int×Int)×Int×Int×Int×Int)->(Int×Int×Int×Int×Int×Int×Int)->(Int×Int×Int×Int×Bool×(List Int)×(List Int)×(List Int))->Int->Int->(Int×Int)->Option ((Int×Int)×(List Int)):=fun e b c d g a f=>bif e then(aq 3 (-12)).bind fun h=>some (h,[]) else qu7 fu b c d g a f
def yj(d:Bs×Int×Int×(Int×Int×Int×Int)×Int×Int×Int×Int)(c:Int×Int×Int×Int×Int×Int×Int)(e:Int×Int×Int×Int×Bool×(List Int)×(List Int)×(List Int))(a:Int)(b:Int):Option ((Int×Int)×(List Int)):=(ym fu d).bind fun j=>(ck j).bind fun o=>bif o then(aq j.1 (-10)).bind fun k=>some (k,[]) else(qbu fu d c).bind fun h=>(ck h.1).bind fun p=>bif p then(aq h.1.1 (-11)).bind fun q=>some (q,[]) else bif decide (3980<c.1) then(aq 3 (-11)).bind fun l=>some (l,[]) else(qfs fu e).bind fun i=>(ck i).bind fun m=>bif m then some (i,[]) else(qk a).bind fun g=>bif !g then qbl fu true d c e a b (0,0) else(qk b).bind fun f=>bif !f then qbl fu true d c e a b (0,0) else qbl fu (decide (b<a)) d c e a b (0,0)
def qko(a:Bs×Int×Int×Bs×Bs×Bs×(List (Bs×Int))×Bs×(Int×Int×Int×Int×Int×Int×Int)×Int×Int×Int×Int×Int×Bool×(List Int)×(List Int)×(List Int))(c:Bs×Int×Int×(Int×Int×Int×Int)×Int×Int×Int×Int)(f:Int)(e:Int):Option ((Int×Int)×(List Int)):=(qkp fu a).bind fun d=>(ck d).bind fun j=>bif j then some (d,[]) else bif !(c.1==a.2.2.2.2.2.2.2.1) then(aq 6 (-14)).bind fun h=>some (h,[]) else(yj fu c a.2.2.2.2.2.2.2.2.1 a.2.2.2.2.2.2.2.2.2.2 f e).bind fun b=>(ck b.1).bind fun k=>bif k then(aq b.1.1 (-15)).bind fun g=>some (g,[]) else(cd).bind fun i=>some (i,b.2)
abbrev q59:=Int->Int->Int->(List Int)->(List Int)->Option Bool
def qqq(fu:Nat)(f:q59):q59:=fun e d a b c=>bif decide (a<(b.length:Int)) then bif decide (0<=a/\a.toNat<b.length) then(b[a.toNat]?).bind fun g=>bif decide (0<=a/\a.toNat<c.length) then(c[a.toNat]?).bind fun h=>bif(ae (g-h)) != (ae (60*(ae (d-e)))) then some false else f e d (ae (a+1)) b c else none else none else some true
def qei(fu:Nat):Nat->q59|0=>fun _ _ _ _ _=>none|n+1=>qqq fu (qei fu n)
def qqr:Int->Int->(List Int)->(List Int)->Option Bool:=fun d c a b=>bif(a.length:Int) != (b.length:Int) then some false else qei fu fu d c 0 a b
def xv:Int->Int->Bool->(List Int)->(Int×Int)->(List Int)->Option Bool:=fun f e b a c d=>bif b then bif c.1==0 then some true else some ((a.length:Int)==0) else qqr fu f e a d
def qas(a:Bs×Int×Int×Bs×Bs×Bs×(List (Bs×Int))×Bs×(Int×Int×Int×Int×Int×Int×Int)×Int×Int×Int×Int×Int×Bool×(List Int)×(List Int)×(List Int))(c:Int)(d:Int):Option Bool:=(qqs fu).bind fun f=>bif !f then some false else(qko fu (a.1,(a.2.1,(a.2.2.1,(a.2.2.2.1,(a.2.2.2.2.1,(a.2.2.2.2.2.1,(a.2.2.2.2.2.2.1,(a.2.2.2.2.2.2.2.1,(a.2.2.2.2.2.2.2.2.1,(a.2.2.2.2.2.2.2.2.2.1,(a.2.2.2.2.2.2.2.2.2.2.1,(a.2.2.2.2.2.2.2.2.2.2.2.1,(a.2.2.2.2.2.2.2.2.2.2.2.2.1,(0,(false,(a.2.2.2.2.2.2.2.2.2.2.2.2.2.2.2.1,([],[]))))))))))))))))) (a.2.2.2.2.2.2.2.1,(c,(0,((0,(0,(0,0))),(0,(0,(0,0))))))) (-68719476736) 68719476736).bind fun b=>(yj fu (a.2.2.2.2.2.2.2.1,(d,(0,((0,(0,(0,0))),(0,(0,(0,0))))))) a.2.2.2.2.2.2.2.2.1 (a.2.2.2.2.2.2.2.2.2.2.1,(a.2.2.2.2.2.2.2.2.2.2.2.1,(a.2.2.2.2.2.2.2.2.2.2.2.2.1,(0,(false,(a.2.2.2.2.2.2.2.2.2.2.2.2.2.2.2.1,([],[]))))))) (-68719476736) 68719476736).bind fun e=>bif b.1.1 != 0 then xv fu c d true b.2 b.1 e.2 else xv fu c d (e.1.1 != 0) b.2 b.1 e.2
end
end Go.Sym

