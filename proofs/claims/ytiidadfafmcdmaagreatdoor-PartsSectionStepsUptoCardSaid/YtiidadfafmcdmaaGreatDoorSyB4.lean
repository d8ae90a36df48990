/- What the claim rests on, part 4: gathered texts. -/
import Derived.Shelf.LaysC
import Derived.Shelf.LaysM
import Derived.Shelf.SlGeneric
import Derived.Shelf.SlLaysF0
import Derived.Ground.NamesProg
import Derived.Test.YtiidadfafmcdmaaGreatDoorProg
import Derived.Below
import Derived.Tactics
import Derived.Tactics2
import Derived.Laws.AppendOwn
import Derived.Shelf.Strconv.Itoa4
import Derived.Shelf.Bytes.SlIndexWhole
import Derived.Shelf.Strconv.AtoiAll
import Derived.Shelf.Strconv.ErrVarAll
import Derived.Shelf.SlicesE.Clone
import Derived.Shelf.SlSortCmp.NoneTotal
import Derived.Shelf.Strings.BuilderCap
import Derived.Shelf.Unicode.DecodeAny
import Derived.Laws.DeepStrings4
import Derived.Deep.LoopGhost
import Derived.Deep.DeepCutAuto
import Derived.Deep.DeepFit
import Derived.Deep.DeepMust
import Derived.Shelf.Unicode.ValidAny
import Derived.Test.YtiidadfafmcdmaaGreatDoorSyB3
namespace Go.Sym
set_option linter.unusedVariables false
abbrev wU : Type := Tree (List (Bs × Bs) × Bs)
abbrev wV : Type := List (Bs × Bs)
def tab1:List UInt8:=[240,240,240,240,240,240,240,240,240,240,240,240,240,240,240,240,240,240,240,240,240,240,240,240,240,240,240,240,240,240,240,240,240,240,240,240,240,240,240,240,240,240,240,240,240,240,240,240,240,240,240,240,240,240,240,240,240,240,240,240,240,240,240,240,240,240,240,240,240,240,240,240,240,240,240,240,240,240,240,240,240,240,240,240,240,240,240,240,240,240,240,240,240,240,240,240,240,240,240,240,240,240,240,240,240,240,240,240,240,240,240,240,240,240,240,240,240,240,240,240,240,240,240,240,240,240,240,240,241,241,241,241,241,241,241,241,241,241,241,241,241,241,241,241,241,241,241,241,241,241,241,241,241,241,241,241,241,241,241,241,241,241,241,241,241,241,241,241,241,241,241,241,241,241,241,241,241,241,241,241,241,241,241,241,241,241,241,241,241,241,241,241,241,241,2,2,2,2,2,2,2,2,2,2,2,2,2,2,2,2,2,2,2,2,2,2,2,2,2,2,2,2,2,2,19,3,3,3,3,3,3,3,3,3,3,3,3,35,3,3,52,4,4,4,68,241,241,241,241,241,241,241,241,241,241,241]
def tab2:List (UInt8×UInt8):=[(128,191),(160,191),(128,159),(144,191),(128,143),(0,0),(0,0),(0,0),(0,0),(0,0),(0,0),(0,0),(0,0),(0,0),(0,0),(0,0)]
def tab3:List Int:=[1,10,100,1000,10000,100000,1000000,10000000,100000000,1000000000,10000000000,100000000000,1000000000000,10000000000000,100000000000000,1000000000000000,10000000000000000,100000000000000000,1000000000000000000,10000000000000000000]
abbrev zf5:=wU
def q3r:Option zf5:=bif decide (0<List.length ([(97:UInt8)]:Bs)) then bif decide (0<List.length ([(98:UInt8),(13:UInt8),(10:UInt8)]:Bs)) then some (Tree.node (([(([67,111,110,116,101,110,116,45,84,121,112,101]:Bs),([109,117,108,116,105,112,97,114,116,47,109,105,120,101,100]:Bs))]:List (Bs×Bs)),[]) ([(Tree.node ([],([(97:UInt8)]:Bs)) []),(Tree.node ([],([(98:UInt8),(13:UInt8),(10:UInt8)]:Bs)) [])]:List wU)) else none else none
abbrev q9r:=wU
def qs6 (p0:Tree (wV×Bs)):Option q9r:=some (Tree.node p0.val p0.kids)
def qae (p0:Int) (p1:Int):Option ((Int×Int)):=some (p0,p1)
abbrev qsc:=((Int×Int)×Bool) ⊕ ((Int×Int)×Bool)
def ql5 (p0:Int) (p1:List (Bs×Bs)) (p2:Bs) (p3:List wU) (p4:Int) (p5:Int×Int) (p6:Bool):Option qsc:=bif decide ((40:Int)<=p0) then (qae (2:Int) (-1:Int)).bind fun x1=>some (.inl (x1,p6)) else bif p6 then some (.inr (p5,true)) else some (.inr (p5,decide ((8:Int)<p4)))
abbrev qlz:=(Int×(Int×Int)×Bool) ⊕ (Int×(Int×Int)×Bool)
abbrev x4T:=wU->Int->Int->(Int×Int)->Bool->Option qlz
abbrev x4t0:=Int->(List wU)->Int->Int->Int->(Int×Int)->Bool->Option qlz
def ql6 (rs8:x4T) (fu:Nat) (r0:x4t0):x4t0:=fun s1 s20 s21 s22 m1 m4 m5=>bif decide (s22<s21) then (idx s20 s22).bind fun y1=>(rs8 (Tree.node y1.val y1.kids) (w64 (s1+(1:Int))) m1 m4 m5).bind fun x2=>sumK x2 (fun a3=>some (.inl a3)) (fun b4=>r0 s1 s20 s21 (w64 (s22+(1:Int))) b4.1 b4.2.1 b4.2.2) else some (.inr (m1,(m4,m5)))
def qff (rs8:x4T) (fu:Nat):Nat->x4t0|0=>fun _ _ _ _ _ _ _=>none|n+1=>ql6 rs8 fu (qff rs8 fu n)
def qj4 (rs8:x4T) (fu:Nat) (p0:Tree (wV×Bs)) (p1:Int) (p2:Int) (p3:Int×Int) (p4:Bool):Option qlz:=(ql5 p2 p0.val.1 p0.val.2 p0.kids p1 p3 p4).bind fun x1=>sumK x1 (fun a2=>some (.inl (p2,a2))) (fun b3=>qff rs8 fu fu p1 p0.kids (p0.kids.length:Int) (0:Int) (w64 (p2+(1:Int))) b3.1 b3.2)
def qec (fu:Nat):Nat->x4T|0=>fun _ _ _ _ _=>none|n+1=>qj4 (qec fu n) fu
def qvf (fu:Nat) (p0:Tree (wV×Bs)) (p1:Int) (p2:Int) (p3:Int×Int) (p4:Bool):Option qlz:=qec fu fu p0 p1 p2 p3 p4
abbrev q4e:=(wU×(Int×Int)×Bool) ⊕ (wU×(Int×Int)×Bool)
def qpu (fu:Nat) (p0:Tree (wV×Bs)) (p1:Int×Int) (p2:Bool):Option q4e:=(qvf fu (Tree.node p0.val p0.kids) (0:Int) (0:Int) p1 p2).bind fun x1=>sumK x1 (fun a2=>some (.inl ((Tree.node p0.val p0.kids),a2.2))) (fun b3=>some (.inr ((Tree.node p0.val p0.kids),b3.2)))
def qq5 (p0:UInt8):Option Bool:=bif decide ((33:UInt8)<=p0) then bif decide (p0<=(126:UInt8)) then some (p0 != (58:UInt8)) else some false else some false
abbrev x7t0:=Bs->Int->Int->Option Bool
def qti (fu:Nat) (r0:x7t0):x7t0:=fun s0 s7 s8=>bif decide (s8<s7) then (idx s0 s8).bind fun c1=>(qq5 c1).bind fun x2=>bif !x2 then some false else r0 s0 s7 (w64 (s8+(1:Int))) else some true
def qli (fu:Nat):Nat->x7t0|0=>fun _ _ _=>none|n+1=>qti fu (qli fu n)
def qyb (fu:Nat) (p0:Bs):Option Bool:=qli fu fu p0 (p0.length:Int) (0:Int)
def qu0 (fu:Nat) (p0:Bs):Option Bool:=bif !(p0==([]:Bs)) then bif decide ((p0.length:Int)<=(60:Int)) then (qyb fu p0).bind fun x1=>some x1 else some false else some false
def qfb (p0:Int):Option Bool:=some (decide ((8:Int)<p0))
abbrev zrw:=Bs->Int->(List Bool)->Option ((List Bool)×Bool)
def qln (fu:Nat) (r0:zrw):zrw:=fun s0 s4 m32=>bif decide (s4<(s0.length:Int)) then (idx s0 s4).bind fun c1=>bif decide ((128:UInt8)<=c1) then bif decide (m32.length=256) then bif decide (m32.length=m32.length)&&decide (m32.length=256) then bif decide (m32.length=256)&&(true&&true) then some (m32,false) else none else none else none else (m32[c1.toNat]?).bind fun y2=>r0 s0 (w64 (s4+(1:Int))) (List.set m32 c1.toNat true) else bif decide (m32.length=256) then bif decide (m32.length=m32.length)&&decide (m32.length=256) then bif decide (m32.length=256)&&(true&&true) then some (m32,true) else none else none else none
def qgq (fu:Nat):Nat->zrw|0=>fun _ _ _=>none|n+1=>qln fu (qgq fu n)
def qca (fu:Nat) (p0:Bs):Option ((List Bool)×Bool):=qgq fu fu p0 (0:Int) (List.replicate 256 false)
def qdc (p0:Bs) (p1:UInt8):Option Int:=(qbv p0 p1).bind fun x1=>some x1
def qfg (p0:Bs) (p1:UInt8):Option Int:=(qdc p0 p1).bind fun x1=>some x1
def qd6 (p0:Int):Option Bool:=bif decide ((0:Int)<=p0) then bif decide (p0<(55296:Int)) then some true else bif decide ((57343:Int)<p0) then bif decide (p0<=(1114111:Int)) then some true else some false else some false else bif decide ((57343:Int)<p0) then bif decide (p0<=(1114111:Int)) then some true else some false else some false
abbrev zp8:=Bs->Nat->Option Int
abbrev zqo:=Bs->Bs->Int->Int->Int->Option Int
abbrev vbl:=Bs->Bs->Int->Int->Option Int
abbrev zeg:=Bs->Bs->Int->Int->Option Int
abbrev vaq:=Bs->Int->Bool->Option Int
def qjk (fu:Nat) (r1:zp8):zp8:=fun m32_0 m32_1=>bif Nat.blt m32_1 (m32_0.length) then bif (((rdec m32_0 m32_1).1:Nat):Int)==(65533:Int) then some ((m32_1:Nat):Int) else r1 m32_0 (m32_1+(rdec m32_0 m32_1).2) else some (-1:Int)
def qdg (fu:Nat):Nat->zp8|0=>fun _ _=>none|n+1=>qjk fu (qdg fu n)
def qnt (fu:Nat) (r2:zeg) (r4:zqo):zqo:=fun s0 s7 s8 s9 s12=>bif decide (s12<(s7.length:Int)) then (idx s0 (w64 (s9-s12))).bind fun c1=>(idx s7 (w64 (s8-s12))).bind fun c2=>bif c1 != c2 then none else r4 s0 s7 s8 s9 (w64 (s12+(1:Int))) else some (w64 (s9-s8))
def qjn (fu:Nat) (r2:zeg):Nat->zqo|0=>fun _ _ _ _ _=>none|n+1=>qnt fu r2 (qjn fu r2 n)
def qjm (fu:Nat) (r2:zeg):vbl:=fun s0 s7 s8 s9=>qjn fu r2 fu s0 s7 s8 s9 (1:Int)
def qjl (fu:Nat) (r2:zeg):zeg:=fun s0 s7 s8 s9=>bif decide (s9<(s0.length:Int)) then (idx s0 s9).bind fun c1=>(idx s7 s8).bind fun c2=>bif c1 != c2 then bif decide (0<=w64 (s9+(1:Int))/\w64 (s9+(1:Int))<=(s0.length:Int)) then (idx s7 s8).bind fun c3=>(qfg (List.drop (w64 (s9+(1:Int))).toNat s0) c3).bind fun x4=>bif decide (x4<(0:Int)) then some (-1:Int) else qjm fu r2 s0 s7 s8 (w64 (s9+(w64 (x4+(1:Int))))) else none else qjm fu r2 s0 s7 s8 s9 else some (-1:Int)
def qfq (fu:Nat):Nat->zeg|0=>fun _ _ _ _=>none|n+1=>qjl fu (qfq fu n)
def qdi (fu:Nat):vaq:=fun s0 s1 s160=>bif s160 then (qfg s0 (toU8 s1)).bind fun x1=>some x1 else bif s1==(65533:Int) then qdg fu fu s0 0 else (qd6 s1).bind fun x2=>bif !x2 then some (-1:Int) else qfq fu fu s0 (renc s1) (w64 ((List.length (renc s1):Int)-(1:Int))) (w64 ((List.length (renc s1):Int)-(1:Int)))
def qbw (fu:Nat) (p0:Bs) (p1:Int):Option Int:=bif decide ((0:Int)<=p1) then qdi fu p0 p1 (decide (p1<(128:Int))) else qdi fu p0 p1 false
def qa9 (p0:UInt8) (p1:List Bool):Option (Bool×(List Bool)):=(p1[p0.toNat]?).bind fun y1=>some (y1,p1)
abbrev vao:=Bs->Int->Option Int
abbrev zpu:=Bs->Int->(List Bool)->Option Int
abbrev zq4:=Bs->Bs->Nat->Option Int
abbrev vbg:=Bs->Bs->Option Int
def qko (fu:Nat):vao:=fun s0 s5=>(qbw fu s0 s5).bind fun x1=>some x1
def qj8 (fu:Nat) (r1:zpu):zpu:=fun s0 s8 m32=>bif decide (s8<(s0.length:Int)) then (idx s0 s8).bind fun c1=>(qa9 c1 m32).bind fun x2=>bif x2.1 then some s8 else r1 s0 (w64 (s8+(1:Int))) x2.2 else some (-1:Int)
def qd0 (fu:Nat):Nat->zpu|0=>fun _ _ _=>none|n+1=>qj8 fu (qd0 fu n)
def qks (fu:Nat) (r3:zq4):zq4:=fun s1 m32_0 m32_1=>bif Nat.blt m32_1 (m32_0.length) then (qbw fu s1 (((rdec m32_0 m32_1).1:Nat):Int)).bind fun x1=>bif decide ((0:Int)<=x1) then some ((m32_1:Nat):Int) else r3 s1 m32_0 (m32_1+(rdec m32_0 m32_1).2) else some (-1:Int)
def qdz (fu:Nat):Nat->zq4|0=>fun _ _ _=>none|n+1=>qks fu (qdz fu n)
def qf1 (fu:Nat):vbg:=fun s0 s1=>qdz fu fu s1 s0 0
def qjy (fu:Nat) (p0:Bs) (p1:Bs):Option Int:=bif p1==([]:Bs) then some (-1:Int) else bif (p1.length:Int)==(1:Int) then (idx p1 (0:Int)).bind fun c1=>bif decide ((128:Int)<=(c1.toNat:Int)) then qko fu p0 (65533:Int) else qko fu p0 (c1.toNat:Int) else (qfb (p0.length:Int)).bind fun x2=>bif x2 then (qca fu p1).bind fun x3=>bif decide (x3.1.length=List.length (List.replicate 256 false))&&decide (x3.1.length=256) then bif x3.2 then qd0 fu fu p0 (0:Int) x3.1 else qf1 fu p0 p1 else none else qf1 fu p0 p1
def qf5 (fu:Nat) (p0:Bs) (p1:Bs):Option Bool:=(qjy fu p0 p1).bind fun x1=>some (decide ((0:Int)<=x1))
def qya (fu:Nat) (p0:Bs):Option Bool:=(qf5 fu p0 ([13,10,0]:Bs)).bind fun x1=>some x1
def qgc (p0:UInt8):Option Bool:=bif p0==(32:UInt8) then some true else some (p0==(9:UInt8))
def qs4 (fu:Nat) (p0:Bs):Option Bool:=(qya fu p0).bind fun x1=>bif !x1 then bif p0==([]:Bs) then some true else (idx p0 (0:Int)).bind fun c2=>(qgc c2).bind fun x3=>bif !x3 then (idx p0 (w64 ((p0.length:Int)-(1:Int)))).bind fun c4=>(qgc c4).bind fun x5=>some (!x5) else some false else some false
abbrev z4h:=Bs->Int->Int->Bool->Option Int
abbrev znt:=Bs->Int->Int->Option Int
def qnj (fu:Nat) (r0:znt):z4h:=fun s0 s5 s6 s26=>bif s26 then r0 s0 s5 (w64 (s6+(1:Int))) else bif decide ((0:Int)<s5) then bif decide ((78:Int)<s6) then some s5 else r0 s0 s6 (w64 (s6+(1:Int))) else r0 s0 s6 (w64 (s6+(1:Int)))
def qr0 (fu:Nat) (r0:znt):znt:=fun s0 s5 s6=>bif decide (s6<(s0.length:Int)) then (idx s0 s6).bind fun c1=>(qgc c1).bind fun x2=>bif !x2 then qnj fu r0 s0 s5 s6 true else (idx s0 (w64 (s6-(1:Int)))).bind fun c3=>(qgc c3).bind fun x4=>qnj fu r0 s0 s5 s6 x4 else some s5
def qkq (fu:Nat):Nat->znt|0=>fun _ _ _=>none|n+1=>qr0 fu (qkq fu n)
def qs5 (fu:Nat) (p0:Bs) (p1:Int):Option Int:=qkq fu fu p0 (0:Int) (if (1:Int)>p1 then (1:Int) else p1)
def qa0:Option ((Int×Int)):=some ((0:Int),(0:Int))
abbrev zqi:=Int->Int->(Int×Int)->(List Bs)->Option ((Int×Int)×(List Bs))
abbrev z6p:=Bs->(Int×Int)->(List Bs)->Option ((Int×Int)×(List Bs))
abbrev ztr:=Bs->Int->(Int×Int)->(List Bs)->Option ((Int×Int)×(List Bs))
def qtg (fu:Nat) (r2:zqi):zqi:=fun s56 s57 m32 m33=>bif decide (s57<s56) then bif decide (0<=s57/\s57.toNat<m33.length) then (m33[s57.toNat]?).bind fun y1=>bif decide ((998:Int)<(y1.length:Int)) then (qae (1:Int) s57).bind fun x2=>some (x2,[]) else r2 s56 (w64 (s57+(1:Int))) m32 m33 else none else (qa0).bind fun x3=>some (x3,m33)
def qlg (fu:Nat):Nat->zqi|0=>fun _ _ _ _=>none|n+1=>qtg fu (qlg fu n)
def qlp (fu:Nat):z6p:=fun s6 m32 m33=>bif decide (List.length (m33++([s6]:List Bs))<=qaq) then qlg fu fu (List.length (m33++([s6]:List Bs)):Int) (0:Int) m32 (m33++([s6]:List Bs)) else none
def qtn (fu:Nat) (r0:ztr):ztr:=fun s6 s7 m32 m33=>bif decide ((78:Int)<(s6.length:Int)) then (qs5 fu s6 s7).bind fun x1=>bif x1==(0:Int) then qlp fu s6 m32 m33 else bif decide (0<=x1/\x1<=(s6.length:Int)) then bif decide (List.length (m33++([List.take x1.toNat s6]:List Bs))<=qaq) then bif decide (0<=x1/\x1<=(s6.length:Int)) then r0 (List.drop x1.toNat s6) (0:Int) m32 (m33++([List.take x1.toNat s6]:List Bs)) else none else none else none else qlp fu s6 m32 m33
def qlu (fu:Nat):Nat->ztr|0=>fun _ _ _ _=>none|n+1=>qtn fu (qlu fu n)
def qma (fu:Nat) (p0:Bs) (p1:Bs):Option ((Int×Int)×(List Bs)):=(qu0 fu p0).bind fun x1=>bif !x1 then (qae (10:Int) (-1:Int)).bind fun x2=>some (x2,[]) else bif decide ((4000:Int)<(p1.length:Int)) then (qae (1:Int) (-1:Int)).bind fun x3=>some (x3,[]) else (qs4 fu p1).bind fun x4=>bif !x4 then (qae (11:Int) (-1:Int)).bind fun x5=>some (x5,[]) else bif decide (p0.length+List.length ([58,32]:Bs)<=qad) then bif decide (List.length (p0++([58,32]:Bs))+p1.length<=qad) then qlu fu fu ((p0++([58,32]:Bs))++p1) (w64 ((p0.length:Int)+(2:Int))) ((0:Int),(0:Int)) [] else none else none
def qak (p0:Int×Int):Option Bool:=some (p0.1 != (0:Int))
abbrev zsc:=wV->Int->Int->(Int×Int)->Option ((Int×Int))
def qle (fu:Nat) (r0:zsc):zsc:=fun s11 s12 s13 m32=>bif decide (s13<s12) then (idx s11 s13).bind fun y1=>(qma fu y1.1 y1.2).bind fun x2=>(qak x2.1).bind fun x3=>bif x3 then (qae x2.1.1 s13).bind fun x4=>some x4 else r0 s11 s12 (w64 (s13+(1:Int))) m32 else (qa0).bind fun x5=>some x5
def qel (fu:Nat):Nat->zsc|0=>fun _ _ _ _=>none|n+1=>qle fu (qel fu n)
def qhs (fu:Nat) (p0:List (Bs×Bs)):Option ((Int×Int)):=bif decide ((60:Int)<(p0.length:Int)) then (qae (2:Int) (-1:Int)).bind fun x1=>some x1 else qel fu fu p0 (p0.length:Int) (0:Int) ((0:Int),(0:Int))
abbrev ztf:=Int->Int->Bs->Option (Bs)
def ql2 (fu:Nat) (r0:ztf):ztf:=fun s9 s10 m32=>bif decide (s10<s9) then bif decide (0<=s10/\s10.toNat<m32.length) then (m32[s10.toNat]?).bind fun y1=>bif decide ((65:UInt8)<=y1) then bif decide (y1<=(90:UInt8)) then bif decide (0<=s10/\s10.toNat<m32.length) then (m32[s10.toNat]?).bind fun y2=>r0 s9 (w64 (s10+(1:Int))) (List.set m32 s10.toNat ((y1+(97:UInt8))-(65:UInt8))) else none else r0 s9 (w64 (s10+(1:Int))) m32 else r0 s9 (w64 (s10+(1:Int))) m32 else none else some m32
def qf0 (fu:Nat):Nat->ztf|0=>fun _ _ _=>none|n+1=>ql2 fu (qf0 fu n)
def qm8 (fu:Nat) (p0:Bs):Option (Bs):=bif decide (p0.length<=maxLen) then qf0 fu fu (p0.length:Int) (0:Int) p0 else none
def qb7 (fu:Nat) (p0:Bs) (p1:Bs):Option Bool:=bif (p0.length:Int)==(p1.length:Int) then (qm8 fu p0).bind fun x1=>(qm8 fu p1).bind fun x2=>some (x1==x2) else some false
abbrev zrz:=Bs->UInt8->Option (Bs)
def qlm (fu:Nat) (r0:zrz):zrz:=fun s0 s1=>bif decide ((0:Int)<(s0.length:Int)) then (idx s0 (0:Int)).bind fun c1=>bif c1==s1 then bif decide (0<=(1:Int)/\(1:Int)<=(s0.length:Int)) then r0 (List.drop (1:Int).toNat s0) s1 else none else some s0 else some s0
def qgv (fu:Nat):Nat->zrz|0=>fun _ _=>none|n+1=>qlm fu (qgv fu n)
def qjs (fu:Nat) (p0:Bs) (p1:UInt8):Option (Bs):=qgv fu fu p0 p1
abbrev zqv:=Bs->(List Bool)->Option (Bs×(List Bool))
def qfr (fu:Nat) (r0:zqv):zqv:=fun s0 m0=>bif decide ((0:Int)<(s0.length:Int)) then (idx s0 (0:Int)).bind fun c1=>(qa9 c1 m0).bind fun x2=>bif !x2.1 then some (s0,x2.2) else bif decide (0<=(1:Int)/\(1:Int)<=(s0.length:Int)) then r0 (List.drop (1:Int).toNat s0) x2.2 else none else some (s0,m0)
def qb4 (fu:Nat):Nat->zqv|0=>fun _ _=>none|n+1=>qfr fu (qb4 fu n)
def qep (fu:Nat) (p0:Bs) (p1:List Bool):Option (Bs×(List Bool)):=qb4 fu fu p0 p1
abbrev z63:=UInt8->UInt8->UInt8->UInt8->Option (Int×Int)
abbrev z7b:=UInt8->UInt8->UInt8->UInt8->Bool->Option (Int×Int)
abbrev vbh:=Bs->UInt8->Int->UInt8->UInt8->Option (Int×Int)
abbrev z7n:=Bs->UInt8->Int->UInt8->UInt8->Bool->Option (Int×Int)
abbrev z5j:=Bs->UInt8->Int->UInt8->Option (Int×Int)
abbrev z4x:=Bs->UInt8->Int->UInt8->Bool->Option (Int×Int)
def qdv:z63:=fun s5 s10 s11 s12=>some (IntKind.i32.wrap (((BitVec.ofInt 32 (IntKind.i32.wrap (((BitVec.ofInt 32 (IntKind.i32.wrap (((BitVec.ofInt 32 (IntKind.i32.wrap (((s5&&&(7:UInt8)).toNat:Int)*2 ^ min (18:Int).toNat 32))|||BitVec.ofInt 32 (IntKind.i32.wrap (((s10&&&(63:UInt8)).toNat:Int)*2 ^ min (12:Int).toNat 32))).toNat:Int)))|||BitVec.ofInt 32 (IntKind.i32.wrap (((s11&&&(63:UInt8)).toNat:Int)*2 ^ min (6:Int).toNat 32))).toNat:Int)))|||BitVec.ofInt 32 ((s12&&&(63:UInt8)).toNat:Int)).toNat:Int)),(4:Int))
def qbr:z7b:=fun s5 s10 s11 s12 s98=>bif s98 then some ((65533:Int),(1:Int)) else qdv s5 s10 s11 s12
def qdt:vbh:=fun s0 s5 s8 s10 s11=>bif decide (s8<=(3:Int)) then some (IntKind.i32.wrap (((BitVec.ofInt 32 (IntKind.i32.wrap (((BitVec.ofInt 32 (IntKind.i32.wrap (((s5&&&(15:UInt8)).toNat:Int)*2 ^ min (12:Int).toNat 32))|||BitVec.ofInt 32 (IntKind.i32.wrap (((s10&&&(63:UInt8)).toNat:Int)*2 ^ min (6:Int).toNat 32))).toNat:Int)))|||BitVec.ofInt 32 ((s11&&&(63:UInt8)).toNat:Int)).toNat:Int)),(3:Int)) else (idx s0 (3:Int)).bind fun c1=>bif decide (c1<(128:UInt8)) then qbr s5 s10 s11 c1 true else qbr s5 s10 s11 c1 (decide ((191:UInt8)<c1))
def qbt:z7n:=fun s0 s5 s8 s10 s11 s75=>bif s75 then some ((65533:Int),(1:Int)) else qdt s0 s5 s8 s10 s11
def qds:z5j:=fun s0 s5 s8 s10=>bif decide (s8<=(2:Int)) then some (IntKind.i32.wrap (((BitVec.ofInt 32 (IntKind.i32.wrap (((s5&&&(31:UInt8)).toNat:Int)*2 ^ min (6:Int).toNat 32))|||BitVec.ofInt 32 ((s10&&&(63:UInt8)).toNat:Int)).toNat:Int)),(2:Int)) else (idx s0 (2:Int)).bind fun c1=>bif decide (c1<(128:UInt8)) then qbt s0 s5 s8 s10 c1 true else qbt s0 s5 s8 s10 c1 (decide ((191:UInt8)<c1))
def qbs:z4x:=fun s0 s5 s8 s10 s57=>bif s57 then some ((65533:Int),(1:Int)) else qds s0 s5 s8 s10
def qb5 (p0:Bs):Option (Int×Int):=bif decide ((p0.length:Int)<(1:Int)) then some ((65533:Int),(0:Int)) else (idx p0 (0:Int)).bind fun c1=>(tab1[c1.toNat]?).bind fun y2=>bif decide ((240:UInt8)<=y2) then (idx p0 (0:Int)).bind fun c3=>some (IntKind.i32.wrap (((BitVec.ofInt 32 (IntKind.i32.wrap (((BitVec.ofInt 32 (c3.toNat:Int) &&& ~~~ BitVec.ofInt 32 (Int.fdiv (IntKind.i32.wrap ((y2.toNat:Int)*2 ^ min (31:Int).toNat 32)) (2 ^ min (31:Int).toNat 32))).toNat:Int)))|||BitVec.ofInt 32 (IntKind.i32.wrap (((BitVec.ofInt 32 (65533:Int)&&&BitVec.ofInt 32 (Int.fdiv (IntKind.i32.wrap ((y2.toNat:Int)*2 ^ min (31:Int).toNat 32)) (2 ^ min (31:Int).toNat 32))).toNat:Int)))).toNat:Int)),(1:Int)) else (tab2[(q34 y2 (min (4:Int).toNat 8)).toNat]?).bind fun y4=>bif decide ((p0.length:Int)<((y2&&&(7:UInt8)).toNat:Int)) then some ((65533:Int),(1:Int)) else (idx p0 (1:Int)).bind fun c5=>bif decide (c5<y4.1) then qbs p0 c1 ((y2&&&(7:UInt8)).toNat:Int) c5 true else qbs p0 c1 ((y2&&&(7:UInt8)).toNat:Int) c5 (decide (y4.2<c5))
def qcy (p0:Bs):Option (Int×Int):=bif !(p0==([]:Bs)) then (idx p0 (0:Int)).bind fun c1=>bif decide (c1<(128:UInt8)) then (idx p0 (0:Int)).bind fun c2=>some ((c2.toNat:Int),(1:Int)) else (qb5 p0).bind fun x3=>some x3 else (qb5 p0).bind fun x4=>some x4
def qfn (fu:Nat) (p0:Bs) (p1:Int):Option Bool:=(qbw fu p0 p1).bind fun x1=>some (decide ((0:Int)<=x1))
abbrev zsz:=Bs->Bs->Option (Bs)
def qju (fu:Nat) (r0:zsz):zsz:=fun s0 s1=>bif decide ((0:Int)<(s0.length:Int)) then (qcy s0).bind fun x1=>(qfn fu s1 x1.1).bind fun x2=>bif !x2 then some s0 else bif decide (0<=x1.2/\x1.2<=(s0.length:Int)) then r0 (List.drop x1.2.toNat s0) s1 else none else some s0
def qeq (fu:Nat):Nat->zsz|0=>fun _ _=>none|n+1=>qju fu (qeq fu n)
def qgp (fu:Nat) (p0:Bs) (p1:Bs):Option (Bs):=qeq fu fu p0 p1
abbrev z4i:=Bs->Bs->Option (Bs)
abbrev z4f:=Bs->Bs->Bool->Option (Bs)
abbrev z4q:=Bs->Bs->Option (Bs)
abbrev z88:=Bs->Bs->Bool->Option (Bs)
def qkv (fu:Nat):z4i:=fun s0 s1=>(qca fu s1).bind fun x1=>bif decide (x1.1.length=List.length (List.replicate 256 false))&&decide (x1.1.length=256) then bif x1.2 then (qep fu s0 x1.1).bind fun x2=>some x2.1 else (qgp fu s0 s1).bind fun x3=>some x3 else none
def qf4 (fu:Nat):z4f:=fun s0 s1 s21=>bif s21 then (idx s1 (0:Int)).bind fun c1=>(qjs fu s0 c1).bind fun x2=>some x2 else qkv fu s0 s1
def qkm (fu:Nat):z4q:=fun s0 s1=>bif (s1.length:Int)==(1:Int) then (idx s1 (0:Int)).bind fun c1=>qf4 fu s0 s1 (decide (c1<(128:UInt8))) else qf4 fu s0 s1 false
def qgn (fu:Nat):z88:=fun s0 s1 s12=>bif s12 then some s0 else qkm fu s0 s1
def qj2 (fu:Nat) (p0:Bs) (p1:Bs):Option (Bs):=bif p0==([]:Bs) then qgn fu p0 p1 true else qgn fu p0 p1 (p1==([]:Bs))
def qbd (fu:Nat) (p0:Bs):Option (Bs):=(qj2 fu p0 ([32,9]:Bs)).bind fun x1=>some x1
def qba (p0:UInt8):Option Bool:=bif decide ((33:UInt8)<=p0) then bif decide (p0<=(126:UInt8)) then (qfg ([40,41,60,62,64,44,59,58,92,34,47,91,93,63,61,42,37,39]:Bs) p0).bind fun x1=>some (decide (x1<(0:Int))) else some false else some false
abbrev z62:=Int->Bs->Option (Bs×Bs)
abbrev z93:=Int->Bool->Bs->Option (Bs×Bs)
abbrev zkb:=Int->Bs->Option (Bs×Bs)
def qns (fu:Nat) (r0:zkb):z62:=fun s5 m0=>r0 (w64 (s5+(1:Int))) m0
def qjj (fu:Nat) (r0:zkb):z93:=fun s5 s25 m0=>bif s25 then qns fu r0 s5 m0 else bif decide (0<=s5/\s5<=(m0.length:Int)) then bif decide (0<=s5/\s5<=(m0.length:Int)) then some (List.take s5.toNat m0,List.drop s5.toNat m0) else none else none
def qnr (fu:Nat) (r0:zkb):zkb:=fun s5 m0=>bif decide (s5<(m0.length:Int)) then (idx m0 s5).bind fun c1=>(qba c1).bind fun x2=>qjj fu r0 s5 x2 m0 else qjj fu r0 s5 false m0
def qdf (fu:Nat):Nat->zkb|0=>fun _ _=>none|n+1=>qnr fu (qdf fu n)
def qfd (fu:Nat) (p0:Bs):Option (Bs×Bs):=(qbd fu p0).bind fun x1=>qdf fu fu (0:Int) x1
def qch (fu:Nat) (p0:UInt8) (p1:Bs):Option (Bool×Bs):=(qbd fu p1).bind fun x1=>bif x1==([]:Bs) then some (false,x1) else (idx x1 (0:Int)).bind fun c2=>bif c2 != p0 then some (false,x1) else bif decide (0<=(1:Int)/\(1:Int)<=(x1.length:Int)) then some (true,List.drop (1:Int).toNat x1) else none
def qd3 (p0:UInt8):Option Bool:=(qba p0).bind fun x1=>bif x1 then some true else some (p0==(42:UInt8))
abbrev z8e:=Int->Bs->Option (Bs×Bs)
abbrev z38:=Int->Bool->Bs->Option (Bs×Bs)
abbrev zhs:=Int->Bs->Option (Bs×Bs)
def qlf (fu:Nat) (r0:zhs):z8e:=fun s5 m0=>r0 (w64 (s5+(1:Int))) m0
def qgt (fu:Nat) (r0:zhs):z38:=fun s5 s25 m0=>bif s25 then qlf fu r0 s5 m0 else bif decide (0<=s5/\s5<=(m0.length:Int)) then bif decide (0<=s5/\s5<=(m0.length:Int)) then some (List.take s5.toNat m0,List.drop s5.toNat m0) else none else none
def qll (fu:Nat) (r0:zhs):zhs:=fun s5 m0=>bif decide (s5<(m0.length:Int)) then (idx m0 s5).bind fun c1=>(qd3 c1).bind fun x2=>qgt fu r0 s5 x2 m0 else qgt fu r0 s5 false m0
def qcd (fu:Nat):Nat->zhs|0=>fun _ _=>none|n+1=>qll fu (qcd fu n)
def qfm (fu:Nat) (p0:Bs):Option (Bs×Bs):=(qbd fu p0).bind fun x1=>qcd fu fu (0:Int) x1
def qdh (p0:UInt8):Option Bool:=(qba p0).bind fun x1=>bif x1 then some true else bif p0==(37:UInt8) then some true else bif p0==(39:UInt8) then some true else some (p0==(42:UInt8))
abbrev z44:=Int->Bs->Option (Bs×Bs)
abbrev z5i:=Int->Bool->Bs->Option (Bs×Bs)
abbrev zgc:=Int->Bs->Option (Bs×Bs)
def qlx (fu:Nat) (r0:zgc):z44:=fun s5 m0=>r0 (w64 (s5+(1:Int))) m0
def qgu (fu:Nat) (r0:zgc):z5i:=fun s5 s25 m0=>bif s25 then qlx fu r0 s5 m0 else bif decide (0<=s5/\s5<=(m0.length:Int)) then bif decide (0<=s5/\s5<=(m0.length:Int)) then some (List.take s5.toNat m0,List.drop s5.toNat m0) else none else none
def qlq (fu:Nat) (r0:zgc):zgc:=fun s5 m0=>bif decide (s5<(m0.length:Int)) then (idx m0 s5).bind fun c1=>(qdh c1).bind fun x2=>qgu fu r0 s5 x2 m0 else qgu fu r0 s5 false m0
def qcb (fu:Nat):Nat->zgc|0=>fun _ _=>none|n+1=>qlq fu (qcb fu n)
def qfp (fu:Nat) (p0:Bs):Option (Bs×Bs):=(qbd fu p0).bind fun x1=>qcb fu fu (0:Int) x1
abbrev ztj:=Int->Bs->Bs->Option (Bs×Bool×Bs)
def qir (fu:Nat) (r0:ztj):ztj:=fun s5 m0 m32=>bif decide (s5<(m0.length:Int)) then (idx m0 s5).bind fun c1=>bif c1==(34:UInt8) then bif decide (0<=w64 (s5+(1:Int))/\w64 (s5+(1:Int))<=(m0.length:Int)) then some (m32,(true,List.drop (w64 (s5+(1:Int))).toNat m0)) else none else bif c1==(92:UInt8) then bif (w64 (s5+(1:Int)))==(m0.length:Int) then some (([]:Bs),(false,m0)) else (idx m0 (w64 (s5+(1:Int)))).bind fun c2=>bif decide (List.length (m32++([c2]:Bs))<=qaq) then r0 (w64 ((w64 (s5+(1:Int)))+(1:Int))) m0 (m32++([c2]:Bs)) else none else bif decide (List.length (m32++([c1]:Bs))<=qaq) then r0 (w64 (s5+(1:Int))) m0 (m32++([c1]:Bs)) else none else some (([]:Bs),(false,m0))
def qcv (fu:Nat):Nat->ztj|0=>fun _ _ _=>none|n+1=>qir fu (qcv fu n)
def qg0 (fu:Nat) (p0:Bs):Option (Bs×Bool×Bs):=(qch fu (34:UInt8) p0).bind fun x1=>bif !x1.1 then (qfp fu x1.2).bind fun x2=>some (x2.1,(true,x2.2)) else qcv fu fu (0:Int) x1.2 []
abbrev vav:=Bs->Bs->Int->Bool->Option Int
def qb1:vav:=fun s0 s1 s5 s16=>bif s16 then some (0:Int) else bif s5==(1:Int) then (idx s1 (0:Int)).bind fun c1=>(qdc s0 c1).bind fun x2=>some x2 else bif decide ((s0.length:Int)<=s5) then some (-1:Int) else none
def qcs (p0:Bs) (p1:Bs):Option Int:=bif (p1.length:Int)==(0:Int) then qb1 p0 p1 (p1.length:Int) true else qb1 p0 p1 (p1.length:Int) (p1==p0)
def qfs (p0:Bs) (p1:Bs):Option (Bs×Bs×Bool):=(qcs p0 p1).bind fun x1=>bif decide ((0:Int)<=x1) then bif decide (0<=x1/\x1<=(p0.length:Int)) then bif decide (0<=w64 (x1+(p1.length:Int))/\w64 (x1+(p1.length:Int))<=(p0.length:Int)) then some (List.take x1.toNat p0,(List.drop (w64 (x1+(p1.length:Int))).toNat p0,true)) else none else none else some (p0,(([]:Bs),false))
def qmq (p0:Bs) (p1:Bs):Option (Bs×Bs×Bool):=(qfs p0 p1).bind fun x1=>some x1
def qa6 (p0:Bs) (p1:Bs):Option Bool:=bif decide ((p1.length:Int)<=(p0.length:Int)) then bif decide (0<=w64 ((p0.length:Int)-(p1.length:Int))/\w64 ((p0.length:Int)-(p1.length:Int))<=(p0.length:Int)) then some ((List.drop (w64 ((p0.length:Int)-(p1.length:Int))).toNat p0)==p1) else none else some false
def qde (p0:Bs) (p1:Bs):Option (Bs×Bool):=(qa6 p0 p1).bind fun x1=>bif !x1 then some (p0,false) else bif decide (0<=w64 ((p0.length:Int)-(p1.length:Int))/\w64 ((p0.length:Int)-(p1.length:Int))<=(p0.length:Int)) then some (List.take (w64 ((p0.length:Int)-(p1.length:Int))).toNat p0,true) else none
def qis (p0:Bs) (p1:Bs):Option (Bs×Bool):=(qde p0 p1).bind fun x1=>some x1
abbrev qx0:=(Bs×Int×Bool×Bs)×Bool×Bs
def qio (fu:Nat) (p0:Bs):Option qx0:=(qfm fu p0).bind fun x1=>(qch fu (61:UInt8) x1.2).bind fun x2=>bif !x2.1 then some ((([]:Bs),((0:Int),(false,([]:Bs)))),(false,x2.2)) else (qg0 fu x2.2).bind fun x3=>(qmq x1.1 ([42]:Bs)).bind fun x4=>bif x4.2.2 then (qis x4.2.1 ([42]:Bs)).bind fun x5=>(qgw x5.1 (1099511627776:Int)).bind fun x6=>bif x3.2.1 then bif x6.2 then some ((x4.1,(x6.1,(x5.2,x3.1))),(!(x4.1==([]:Bs)),x3.2.2)) else some ((x4.1,(x6.1,(x5.2,x3.1))),(false,x3.2.2)) else some ((x4.1,(x6.1,(x5.2,x3.1))),(false,x3.2.2)) else bif x3.2.1 then some ((x4.1,((-1:Int),(false,x3.1))),(!(x4.1==([]:Bs)),x3.2.2)) else some ((x4.1,((-1:Int),(false,x3.1))),(false,x3.2.2))
abbrev q1d:=Bool×(Bs×Int×Bool×Bs)
def qi1 (fu:Nat) (p0:Bs×Int×Bool×Bs) (p1:Bs×Int×Bool×Bs):Option q1d:=(qb7 fu p0.1 p1.1).bind fun x1=>some (x1,p1)
abbrev qc9:=Int×(Bs×Int×Bool×Bs)
abbrev zt2:=(List (Bs×Int×Bool×Bs))->Int->Int->(Bs×Int×Bool×Bs)->Option qc9
def qa7 (fu:Nat) (r0:zt2):zt2:=fun s0 s7 s8 m0=>bif decide (s8<s7) then (idx s0 s8).bind fun y1=>(qi1 fu y1 m0).bind fun x2=>bif x2.1 then some (s8,x2.2) else r0 s0 s7 (w64 (s8+(1:Int))) x2.2 else some ((-1:Int),m0)
def qao (fu:Nat):Nat->zt2|0=>fun _ _ _ _=>none|n+1=>qa7 fu (qao fu n)
def qbh (fu:Nat) (p0:List (Bs×Int×Bool×Bs)) (p1:Bs×Int×Bool×Bs):Option qc9:=qao fu fu p0 (p0.length:Int) (0:Int) p1
abbrev qhn:=Bool×(Bs×Int×Bool×Bs)
def qav (fu:Nat) (p0:List (Bs×Int×Bool×Bs)) (p1:Bs×Int×Bool×Bs):Option qhn:=(qbh fu p0 p1).bind fun x1=>some (decide ((0:Int)<=x1.1),x1.2)
abbrev z71:=UInt8->Bool->Option (UInt8×Bool)
abbrev z86:=UInt8->Bool->Option (UInt8×Bool)
def qte:z71:=fun s0 s13=>bif s13 then some ((s0-(65:UInt8))+(10:UInt8),true) else bif decide ((97:UInt8)<=s0) then bif decide (s0<=(102:UInt8)) then some ((s0-(97:UInt8))+(10:UInt8),true) else some ((0:UInt8),false) else some ((0:UInt8),false)
def qtj:z86:=fun s0 s4=>bif s4 then some (s0-(48:UInt8),true) else bif decide ((65:UInt8)<=s0) then qte s0 (decide (s0<=(70:UInt8))) else qte s0 false
def qo1 (p0:UInt8):Option (UInt8×Bool):=bif decide ((48:UInt8)<=p0) then qtj p0 (decide (p0<=(57:UInt8))) else qtj p0 false
def qqa (p0:Bs):Option (UInt8×Bool):=bif decide ((p0.length:Int)<(2:Int)) then some ((0:UInt8),false) else (idx p0 (0:Int)).bind fun c1=>(qo1 c1).bind fun x2=>(idx p0 (1:Int)).bind fun c3=>(qo1 c3).bind fun x4=>bif x2.2 then some ((q2q x2.1 (min (4:Int).toNat 8))|||x4.1,x4.2) else some ((q2q x2.1 (min (4:Int).toNat 8))|||x4.1,false)
abbrev zs4:=Bs->Int->Bs->Option (Bs)
abbrev z6r:=Bs->Option (Bs)
abbrev vaw:=Bs->Bool->Option (Bs)
def qkw (fu:Nat) (r2:zs4):zs4:=fun s3 s5 m32=>bif decide (s5<(s3.length:Int)) then (idx s3 s5).bind fun c1=>bif c1==(37:UInt8) then bif decide (0<=w64 (s5+(1:Int))/\w64 (s5+(1:Int))<=(s3.length:Int)) then (qqa (List.drop (w64 (s5+(1:Int))).toNat s3)).bind fun x2=>bif x2.2 then bif decide (List.length (m32++([x2.1]:Bs))<=qaq) then r2 s3 (w64 ((w64 (s5+(2:Int)))+(1:Int))) (m32++([x2.1]:Bs)) else none else (idx s3 s5).bind fun c3=>bif decide (List.length (m32++([c3]:Bs))<=qaq) then r2 s3 (w64 (s5+(1:Int))) (m32++([c3]:Bs)) else none else none else (idx s3 s5).bind fun c4=>bif decide (List.length (m32++([c4]:Bs))<=qaq) then r2 s3 (w64 (s5+(1:Int))) (m32++([c4]:Bs)) else none else some m32
def qd2 (fu:Nat):Nat->zs4|0=>fun _ _ _=>none|n+1=>qkw fu (qd2 fu n)
def qcm (fu:Nat):z6r:=fun s3=>qd2 fu fu s3 (0:Int) []
def qbe (fu:Nat):vaw:=fun s3 s26=>bif s26 then bif decide (0<=(6:Int)/\(6:Int)<=(s3.length:Int)) then qcm fu (List.drop (6:Int).toNat s3) else none else qcm fu s3
def qj3 (fu:Nat) (p0:Bs×Int×Bool×Bs):Option (Bs):=bif !p0.2.2.1 then some p0.2.2.2 else bif p0.2.1==(0:Int) then bif decide ((6:Int)<=(p0.2.2.2.length:Int)) then bif decide (0<=(6:Int)/\(6:Int)<=(p0.2.2.2.length:Int)) then (qb7 fu (List.take (6:Int).toNat p0.2.2.2) ([117,116,102,56,39,39]:Bs)).bind fun x1=>qbe fu p0.2.2.2 x1 else none else qbe fu p0.2.2.2 false else qbe fu p0.2.2.2 false
abbrev zse:=Int->Int->(Bs×Bs)->(Bs×Bs)->(List (Bs×Int×Bool×Bs))->Option ((Bs×Bs)×Bool)
def qld (fu:Nat) (r0:zse):zse:=fun s29 s30 m32 m33 m34=>bif decide (s30<s29) then bif decide (0<=s30/\s30.toNat<m34.length) then (m34[s30.toNat]?).bind fun y1=>bif y1.2.1 != s30 then some (m33,false) else (qj3 fu y1).bind fun x2=>bif decide (m33.2.length+x2.length<=qad) then r0 s29 (w64 (s30+(1:Int))) m32 (m33.1,m33.2++x2) m34 else none else none else (qby m33.2 ([239,191,189]:Bs)).bind fun x3=>some ((m33.1,x3),true)
def qem (fu:Nat):Nat->zse|0=>fun _ _ _ _ _=>none|n+1=>qld fu (qem fu n)
def qhy (fu:Nat) (p0:List (Bs×Int×Bool×Bs)):Option ((Bs×Bs)×Bool):=bif decide (0<=(0:Int)/\(0:Int).toNat<p0.length) then (p0[(0:Int).toNat]?).bind fun y1=>bif decide (0<=(0:Int)/\(0:Int).toNat<p0.length) then (p0[(0:Int).toNat]?).bind fun y2=>bif decide (0<=(0:Int)/\(0:Int).toNat<p0.length) then (p0[(0:Int).toNat]?).bind fun y3=>bif decide (y3.2.1<(0:Int)) then some ((y1.1,y2.2.2.2),(p0.length:Int)==(1:Int)) else (qx2 p0).bind fun x4=>qem fu fu (x4.length:Int) (0:Int) (([]:Bs),([]:Bs)) (y1.1,([]:Bs)) x4 else none else none else none
abbrev qlj:=Bool×wV
abbrev z5m:=(List (Bs×Int×Bool×Bs))->(List (Bs×Int×Bool×Bs))->Int->Int->(List (Bs×Int×Bool×Bs))->Int->Int->(Bs×Int×Bool×Bs)->(List (Bs×Int×Bool×Bs))->wV->Option qlj
abbrev zl8:=(List (Bs×Int×Bool×Bs))->(List (Bs×Int×Bool×Bs))->Int->Int->(List (Bs×Int×Bool×Bs))->Int->Int->(Bs×Int×Bool×Bs)->wV->(List (Bs×Int×Bool×Bs))->Option qlj
abbrev q8r:=(List (Bs×Int×Bool×Bs))->(List (Bs×Int×Bool×Bs))->Int->Int->wV->Option qlj
def qht (fu:Nat) (r0:q8r) (r1:zl8):z5m:=fun s0 s13 s14 s15 s26 s27 s28 m32 m33 m34=>r1 s0 s13 s14 s15 s26 s27 (w64 (s28+(1:Int))) m32 m34 m33
def qol (fu:Nat) (r0:q8r) (r1:zl8):zl8:=fun s0 s13 s14 s15 s26 s27 s28 m32 m33 m34=>bif decide (s28<s27) then (idx s26 s28).bind fun y1=>(qi1 fu y1 m32).bind fun x2=>bif x2.1 then bif decide (List.length (m34++([y1]:List (Bs×Int×Bool×Bs)))<=qaq) then qht fu r0 r1 s0 s13 s14 s15 s26 s27 s28 x2.2 (m34++([y1]:List (Bs×Int×Bool×Bs))) m33 else none else qht fu r0 r1 s0 s13 s14 s15 s26 s27 s28 x2.2 m34 m33 else (qhy fu m34).bind fun x3=>bif !x3.2 then some (false,[]) else bif decide (List.length (m33++([(m32.1,x3.1.2)]:List (Bs×Bs)))<=qaq) then r0 s0 s13 s14 (w64 (s15+(1:Int))) (m33++([(m32.1,x3.1.2)]:List (Bs×Bs))) else none
def qh0 (fu:Nat) (r0:q8r):Nat->zl8|0=>fun _ _ _ _ _ _ _ _ _ _=>none|n+1=>qol fu r0 (qh0 fu r0 n)
def qov (fu:Nat) (r0:q8r):q8r:=fun s0 s13 s14 s15 m32=>bif decide (s15<s14) then (idx s13 s15).bind fun y1=>bif decide (0<=s15/\s15<=(s0.length:Int)) then (qav fu (List.take s15.toNat s0) y1).bind fun x2=>bif x2.1 then r0 s0 s13 s14 (w64 (s15+(1:Int))) m32 else qh0 fu r0 fu s0 s13 s14 s15 s0 (s0.length:Int) (0:Int) x2.2 m32 [] else none else some (true,m32)
def qeu (fu:Nat):Nat->q8r|0=>fun _ _ _ _ _=>none|n+1=>qov fu (qeu fu n)
def qja (fu:Nat) (p0:List (Bs×Int×Bool×Bs)):Option qlj:=qeu fu fu p0 p0 (p0.length:Int) (0:Int) []
abbrev qne:=(Bs×Bs×Bool) ⊕ (Bs×Bs×Bool×wV)
abbrev zqj:=Bs->Bs->Bs->Bs->Bs->(List (Bs×Int×Bool×Bs))->Option qne
abbrev z6a:=Bs->Bs->Bs->Bs->Bs->Option qne
abbrev z6v:=Bool->Bs->Bs->Bs->Bs->Bs->Option qne
def qqv (fu:Nat) (r2:zqj):zqj:=fun m32_0 m32_1 m33 m34_0 m34_1 m35=>(qch fu (59:UInt8) m33).bind fun x1=>bif x1.1 then (qio fu x1.2).bind fun x2=>bif !x2.2.1 then some (.inl (m34_0,(m34_1,false))) else bif decide (List.length (m35++([x2.1]:List (Bs×Int×Bool×Bs)))<=qaq) then r2 m32_0 m32_1 x2.2.2 m34_0 m34_1 (m35++([x2.1]:List (Bs×Int×Bool×Bs))) else none else (qbd fu x1.2).bind fun x3=>(qja fu m35).bind fun x4=>bif x4.1 then some (.inr (m34_0,(m34_1,(x3==([]:Bs),x4.2)))) else some (.inr (m34_0,(m34_1,(false,x4.2))))
def qi2 (fu:Nat):Nat->zqj|0=>fun _ _ _ _ _ _=>none|n+1=>qqv fu (qi2 fu n)
def qqx (fu:Nat):z6a:=fun m32_0 m32_1 m33 m34_0 m34_1=>qi2 fu fu m32_0 m32_1 m33 m34_0 m34_1 []
def qda (fu:Nat):z6v:=fun s33 m32_0 m32_1 m33 m34_0 m34_1=>bif s33 then some (.inl (m34_0,(m34_1,false))) else qqx fu m32_0 m32_1 m33 m34_0 m34_1
def qq8 (fu:Nat) (p0:Bs):Option qne:=(qfd fu p0).bind fun x1=>(qch fu (47:UInt8) x1.2).bind fun x2=>(qfd fu x2.2).bind fun x3=>bif x1.1==([]:Bs) then qda fu true ([]:Bs) ([]:Bs) x3.2 x1.1 x3.1 else bif !x2.1 then qda fu true ([]:Bs) ([]:Bs) x3.2 x1.1 x3.1 else qda fu (x3.1==([]:Bs)) ([]:Bs) ([]:Bs) x3.2 x1.1 x3.1
abbrev zs1:=Bs->Int->Int->Option Bool
def qts (fu:Nat) (r0:zs1):zs1:=fun s0 s7 s8=>bif decide (s8<s7) then (idx s0 s8).bind fun c1=>(qba c1).bind fun x2=>bif !x2 then some false else r0 s0 s7 (w64 (s8+(1:Int))) else some true
def qhw (fu:Nat):Nat->zs1|0=>fun _ _ _=>none|n+1=>qts fu (qhw fu n)
def qpe (fu:Nat) (p0:Bs):Option Bool:=qhw fu fu p0 (p0.length:Int) (0:Int)
def qim (fu:Nat) (p0:Bs):Option Bool:=bif !(p0==([]:Bs)) then bif decide ((p0.length:Int)<=(60:Int)) then (qpe fu p0).bind fun x1=>some x1 else some false else some false
def qmp (fu:Nat) (p0:Bs×Bs) (p1:Bs×Bs):Option (Bool×(Bs×Bs)):=(qb7 fu p0.1 p1.1).bind fun x1=>some (x1,p1)
abbrev zpn:=wV->Int->Int->(Bs×Bs)->Option (Int×(Bs×Bs))
def qbo (fu:Nat) (r0:zpn):zpn:=fun s0 s7 s8 m0=>bif decide (s8<s7) then (idx s0 s8).bind fun y1=>(qmp fu y1 m0).bind fun x2=>bif x2.1 then some (s8,x2.2) else r0 s0 s7 (w64 (s8+(1:Int))) x2.2 else some ((-1:Int),m0)
def qar (fu:Nat):Nat->zpn|0=>fun _ _ _ _=>none|n+1=>qbo fu (qar fu n)
def qb2 (fu:Nat) (p0:List (Bs×Bs)) (p1:Bs×Bs):Option (Int×(Bs×Bs)):=qar fu fu p0 (p0.length:Int) (0:Int) p1
def qaz (fu:Nat) (p0:List (Bs×Bs)) (p1:Bs×Bs):Option (Bool×(Bs×Bs)):=(qb2 fu p0 p1).bind fun x1=>some (decide ((0:Int)<=x1.1),x1.2)
abbrev z65:=Int->wV->Int->Int->Bool->(Bs×Bs×wV)->(Int×Int)->(Bs×Bs)->Option ((Int×Int))
abbrev zl5:=wV->Int->Int->(Bs×Bs×wV)->(Int×Int)->Option ((Int×Int))
abbrev z5l:=(Bs×Bs×wV)->(Int×Int)->Option ((Int×Int))
abbrev z83:=Bool->(Bs×Bs×wV)->(Int×Int)->Option ((Int×Int))
def qcg (fu:Nat) (r2:zl5):z65:=fun s3 s22 s23 s24 s29 m32 m33 m34=>bif s29 then (qae (10:Int) s3).bind fun x1=>some x1 else bif decide (0<=s3/\s3<=(m32.2.2.length:Int)) then (qaz fu (List.take s3.toNat m32.2.2) m34).bind fun x2=>bif x2.1 then (qae (7:Int) s3).bind fun x3=>some x3 else bif decide ((500:Int)<(x2.2.2.length:Int)) then (qae (1:Int) s3).bind fun x4=>some x4 else (qa2 x2.2.2).bind fun x5=>bif !x5 then (qae (5:Int) s3).bind fun x6=>some x6 else r2 s22 s23 (w64 (s24+(1:Int))) m32 m33 else none
def ql8 (fu:Nat) (r2:zl5):zl5:=fun s22 s23 s24 m32 m33=>bif decide (s24<s23) then (idx s22 s24).bind fun y1=>(qim fu y1.1).bind fun x2=>bif !x2 then qcg fu r2 s24 s22 s23 s24 true m32 m33 y1 else qcg fu r2 s24 s22 s23 s24 (decide ((20:Int)<(y1.1.length:Int))) m32 m33 y1 else (qa0).bind fun x3=>some x3
def qdq (fu:Nat):Nat->zl5|0=>fun _ _ _ _ _=>none|n+1=>ql8 fu (qdq fu n)
def ql7 (fu:Nat):z5l:=fun m32 m33=>bif decide ((60:Int)<(m32.2.2.length:Int)) then (qae (2:Int) (-3:Int)).bind fun x1=>some x1 else qdq fu fu m32.2.2 (m32.2.2.length:Int) (0:Int) m32 m33
def qdr (fu:Nat):z83:=fun s14 m32 m33=>bif s14 then (qae (10:Int) (-2:Int)).bind fun x1=>some x1 else ql7 fu m32 m33
def qce (fu:Nat) (p0:Bs×Bs×wV):Option ((Int×Int)):=(qim fu p0.1).bind fun x1=>bif !x1 then qdr fu true p0 ((0:Int),(0:Int)) else (qim fu p0.2.1).bind fun x2=>qdr fu (!x2) p0 ((0:Int),(0:Int))
abbrev qzd:=(Bs×Bs×Int×Int) ⊕ (Bs×Bs×Int×Int×wV)
def qnb (fu:Nat) (p0:Bs):Option qzd:=bif decide ((4000:Int)<(p0.length:Int)) then (qae (1:Int) (-1:Int)).bind fun x1=>some (.inl (([]:Bs),(([]:Bs),x1))) else (qq8 fu p0).bind fun x2=>sumK x2 (fun a3=>bif !a3.2.2 then (qae (11:Int) (-5:Int)).bind fun x5=>some (.inl (([]:Bs),(([]:Bs),x5))) else (qce fu (a3.1,(a3.2.1,[]))).bind fun x6=>(qak x6).bind fun x7=>bif x7 then (qae x6.1 (-6:Int)).bind fun x8=>some (.inl (([]:Bs),(([]:Bs),x8))) else (qa0).bind fun x9=>some (.inl (a3.1,(a3.2.1,x9)))) (fun b4=>bif !b4.2.2.1 then (qae (11:Int) (-5:Int)).bind fun x10=>some (.inl (([]:Bs),(([]:Bs),x10))) else (qce fu (b4.1,(b4.2.1,b4.2.2.2))).bind fun x11=>(qak x11).bind fun x12=>bif x12 then (qae x11.1 (-6:Int)).bind fun x13=>some (.inl (([]:Bs),(([]:Bs),x13))) else (qa0).bind fun x14=>some (.inr (b4.1,(b4.2.1,(x14.1,(x14.2,b4.2.2.2))))))
abbrev qsu:=(Bs×Bs×Int×Bool) ⊕ (Bs×Bs×Int×Bool×wV)
abbrev z8g:=wV->Int->wV->Int->Int->Bs->Bs->Option qsu
abbrev zl7:=wV->Int->wV->Int->Int->Bs->Bs->Option qsu
def qhe (fu:Nat) (r0:zl7):z8g:=fun s0 s5 s10 s11 s12 m32_0 m32_1=>r0 s0 s5 s10 s11 (w64 (s12+(1:Int))) m32_0 m32_1
def qms (fu:Nat) (r0:zl7):zl7:=fun s0 s5 s10 s11 s12 m32_0 m32_1=>bif decide (s12<s11) then (idx s10 s12).bind fun y1=>(qb7 fu y1.1 ([67,111,110,116,101,110,116,45,84,121,112,101]:Bs)).bind fun x2=>bif x2 then bif decide ((0:Int)<=s5) then some (.inl (([]:Bs),(([]:Bs),((0:Int),false)))) else qhe fu r0 s0 s12 s10 s11 s12 m32_0 m32_1 else qhe fu r0 s0 s5 s10 s11 s12 m32_0 m32_1 else bif decide (s5<(0:Int)) then some (.inl (([]:Bs),(([]:Bs),((0:Int),false)))) else (idx s0 s5).bind fun y3=>(qnb fu y3.2).bind fun x4=>sumK x4 (fun a5=>(qak a5.2.2).bind fun x7=>some (.inl (a5.1,(a5.2.1,(s5,!x7))))) (fun b6=>(qak (b6.2.2.1,b6.2.2.2.1)).bind fun x8=>some (.inr (b6.1,(b6.2.1,(s5,(!x8,b6.2.2.2.2))))))
def qd4 (fu:Nat):Nat->zl7|0=>fun _ _ _ _ _ _ _=>none|n+1=>qms fu (qd4 fu n)
def qke (fu:Nat) (p0:List (Bs×Bs)):Option qsu:=qd4 fu fu p0 (-1:Int) p0 (p0.length:Int) (0:Int) ([]:Bs) ([]:Bs)
abbrev zro:=Bs->wV->Int->Int->(Int×Int)->Option (Bs×Bool×(Int×Int))
def qqr (fu:Nat) (r0:zro):zro:=fun s1 s16 s17 s18 m32=>bif decide (s18<s17) then (idx s16 s18).bind fun y1=>(qb7 fu y1.1 s1).bind fun x2=>bif x2 then (qa0).bind fun x3=>some (y1.2,(true,x3)) else r0 s1 s16 s17 (w64 (s18+(1:Int))) m32 else (qa0).bind fun x4=>some (([]:Bs),(false,x4))
def qiw (fu:Nat):Nat->zro|0=>fun _ _ _ _ _=>none|n+1=>qqr fu (qiw fu n)
def qmx (fu:Nat) (p0:Bs×Bs×wV) (p1:Bs):Option (Bs×Bool×(Int×Int)):=(qce fu p0).bind fun x1=>(qak x1).bind fun x2=>bif x2 then some (([]:Bs),(false,x1)) else qiw fu fu p1 p0.2.2 (p0.2.2.length:Int) (0:Int) ((0:Int),(0:Int))
def qkc (p0:UInt8):Option Bool:=bif decide ((32:UInt8)<=p0) then some (decide (p0<=(126:UInt8))) else some false
abbrev zs8:=Bs->Int->Int->Option Bool
def qtv (fu:Nat) (r0:zs8):zs8:=fun s0 s7 s8=>bif decide (s8<s7) then (idx s0 s8).bind fun c1=>(qkc c1).bind fun x2=>bif !x2 then some false else r0 s0 s7 (w64 (s8+(1:Int))) else some true
def qhi (fu:Nat):Nat->zs8|0=>fun _ _ _=>none|n+1=>qtv fu (qhi fu n)
def qpq (fu:Nat) (p0:Bs):Option Bool:=qhi fu fu p0 (p0.length:Int) (0:Int)
def qgj (p0:List Bs):Option (Int×Int×Int×(List Bs)):=bif (Int.tmod (p0.length:Int) (2:Int))==(1:Int) then none else bif decide (p0.length<=qaq) then some ((0:Int),((0:Int),((0:Int),p0))) else none
abbrev qa1:=Int×Int×Int×Bs×(List Bs)
abbrev vai:=Bool->Int->Int->Int->Int->(List Bs)->Option qa1
abbrev ztx:=Int->Int->Int->Int->(List Bs)->Bs->Option qa1
abbrev zr8:=Int->Int->Int->Int->(List Bs)->Bs->Option qa1
abbrev zqu:=Int->Int->Int->Int->(List Bs)->(List Bs)->Option qa1
abbrev zm4:=Bool->Int->Int->Int->Int->(List Bs)->Option qa1
abbrev z9b:=Int->Int->Int->(List Bs)->Option qa1
abbrev z7w:=Bool->Int->Int->Int->(List Bs)->Option qa1
def qe5 (fu:Nat) (r2:zm4):vai:=fun s4 s5 m0_0 m0_1 m0_2 m32=>r2 s4 (w64 (s5+(2:Int))) m0_0 m0_1 m0_2 m32
def qkt (fu:Nat) (r6:ztx):ztx:=fun s8 m0_0 m0_1 m0_2 m32 m33=>bif decide ((0:Int)<=s8) then bif decide (0<=s8/\s8.toNat<m32.length) then (m32[s8.toNat]?).bind fun y1=>(idx y1 (0:Int)).bind fun c2=>bif decide (0<=w64 (s8+(1:Int))/\(w64 (s8+(1:Int))).toNat<m32.length) then (m32[(w64 (s8+(1:Int))).toNat]?).bind fun y3=>(idx y3 (0:Int)).bind fun c4=>(m33[c2.toNat]?).bind fun y5=>r6 (w64 (s8-(2:Int))) m0_0 m0_1 m0_2 m32 (List.set m33 c2.toNat c4) else none else none else some (m0_0,(m0_1,(m0_2,(m33,m32))))
def qe6 (fu:Nat):Nat->ztx|0=>fun _ _ _ _ _ _=>none|n+1=>qkt fu (qe6 fu n)
def qkf (fu:Nat) (r4:zr8):zr8:=fun s61 m0_0 m0_1 m0_2 m32 m33=>bif decide (s61<(256:Int)) then bif decide (0<=s61)&&decide (s61<(256:Int)) then (m33[s61.toNat]?).bind fun y1=>r4 (w64 (s61+(1:Int))) m0_0 m0_1 m0_2 m32 (List.set m33 s61.toNat (toU8 s61)) else none else qe6 fu fu (w64 ((m32.length:Int)-(2:Int))) m0_0 m0_1 m0_2 m32 m33
def qe8 (fu:Nat):Nat->zr8|0=>fun _ _ _ _ _ _=>none|n+1=>qkf fu (qe8 fu n)
def qkj (fu:Nat) (r5:zqu):zqu:=fun s12 m0_0 m0_1 m0_2 m32 m34=>bif decide ((0:Int)<=s12) then bif decide (0<=s12/\s12.toNat<m32.length) then (m32[s12.toNat]?).bind fun y1=>(idx y1 (0:Int)).bind fun c2=>bif decide (0<=w64 (s12+(1:Int))/\(w64 (s12+(1:Int))).toNat<m32.length) then (m32[(w64 (s12+(1:Int))).toNat]?).bind fun y3=>none else none else none else none
def qe4 (fu:Nat):Nat->zqu|0=>fun _ _ _ _ _ _=>none|n+1=>qkj fu (qe4 fu n)
def qkh (fu:Nat) (r2:zm4):zm4:=fun s4 s5 m0_0 m0_1 m0_2 m32=>bif decide (s5<(m32.length:Int)) then bif decide (0<=s5/\s5.toNat<m32.length) then (m32[s5.toNat]?).bind fun y1=>bif (y1.length:Int) != (1:Int) then none else bif decide (0<=w64 (s5+(1:Int))/\(w64 (s5+(1:Int))).toNat<m32.length) then (m32[(w64 (s5+(1:Int))).toNat]?).bind fun y2=>bif (y2.length:Int) != (1:Int) then qe5 fu r2 false s5 m0_0 m0_1 m0_2 m32 else qe5 fu r2 s4 s5 m0_0 m0_1 m0_2 m32 else none else none else bif s4 then bif decide (List.length (List.replicate 256 (0:UInt8))=List.length (List.replicate 256 (0:UInt8)))&&decide (List.length (List.replicate 256 (0:UInt8))=256) then qe8 fu fu (0:Int) m0_0 m0_1 m0_2 m32 (List.replicate 256 (0:UInt8)) else none else bif decide (0<=(0:Int)/\(0:Int)=w64 (Int.tdiv (m32.length:Int) (2:Int))/\(0:Int)<=4294967296) then qe4 fu fu (w64 ((m32.length:Int)-(2:Int))) m0_0 m0_1 m0_2 m32 (List.replicate (0:Int).toNat ([]:Bs)) else none
def qfi (fu:Nat):Nat->zm4|0=>fun _ _ _ _ _ _=>none|n+1=>qkh fu (qfi fu n)
def qkd (fu:Nat):z9b:=fun m0_0 m0_1 m0_2 m32=>qfi fu fu true (0:Int) m0_0 m0_1 m0_2 m32
def qfc (fu:Nat):z7w:=fun s28 m0_0 m0_1 m0_2 m32=>bif s28 then bif decide (0<=(0:Int)/\(0:Int).toNat<m32.length) then (m32[(0:Int).toNat]?).bind fun y1=>bif decide (0<=(1:Int)/\(1:Int).toNat<m32.length) then (m32[(1:Int).toNat]?).bind fun y2=>none else none else none else qkd fu m0_0 m0_1 m0_2 m32
def qml (fu:Nat) (p0:Int) (p1:Int) (p2:Int) (p3:List Bs):Option qa1:=bif (p3.length:Int)==(2:Int) then bif decide (0<=(0:Int)/\(0:Int).toNat<p3.length) then (p3[(0:Int).toNat]?).bind fun y1=>qfc fu (decide ((1:Int)<(y1.length:Int))) p0 p1 p2 p3 else none else qfc fu false p0 p1 p2 p3
abbrev qrb:=Int×Int×Int×Bs×(List Bs)
def qen (fu:Nat) (p0:Int) (p1:Int) (p2:Int) (p3:List Bs):Option qrb:=(qml fu p0 p1 p2 p3).bind fun x1=>some (x1.1,(x1.2.1,(x1.2.2.1,(x1.2.2.2.1,[]))))
abbrev z9v:=Bs->Int->UInt8->Bs->Bs->Option (Bs×Bs)
abbrev zmi:=Bs->Int->Bs->Bs->Option (Bs×Bs)
abbrev zr2:=Bs->Int->Bs->Option (Bs×Bs)
def qc5 (fu:Nat) (r2:zmi):z9v:=fun s1 s6 s7 m0 m32=>(m0[s7.toNat]?).bind fun y1=>bif decide (0<=s6/\s6.toNat<m32.length) then (m32[s6.toNat]?).bind fun y2=>r2 s1 (w64 (s6+(1:Int))) m0 (List.set m32 s6.toNat y1) else none
def qf7 (fu:Nat) (r2:zmi):zmi:=fun s1 s6 m0 m32=>bif decide (s6<(s1.length:Int)) then (idx s1 s6).bind fun c1=>(m0[c1.toNat]?).bind fun y2=>bif y2 != c1 then bif decide (0<m32.length) then qc5 fu r2 s1 s6 c1 m0 m32 else none else r2 s1 (w64 (s6+(1:Int))) m0 m32 else bif decide (0<m32.length) then some (m32,m0) else none
def qcz (fu:Nat):Nat->zmi|0=>fun _ _ _ _=>none|n+1=>qf7 fu (qcz fu n)
def qgm (fu:Nat) (r0:zr2):zr2:=fun s1 s6 m0=>bif decide (s6<(s1.length:Int)) then (idx s1 s6).bind fun c1=>(m0[c1.toNat]?).bind fun y2=>bif y2 != c1 then bif decide (s1.length<=maxLen) then qc5 fu (qcz fu fu) s1 s6 c1 m0 s1 else none else r0 s1 (w64 (s6+(1:Int))) m0 else some (s1,m0)
def qc6 (fu:Nat):Nat->zr2|0=>fun _ _ _=>none|n+1=>qgm fu (qc6 fu n)
def qb8 (fu:Nat) (p0:Bs) (p1:Bs):Option (Bs×Bs):=qc6 fu fu p0 (0:Int) p1
def qp6 (fu:Nat) (s:Bs) (p0 p1 p2:Int) (on:List Bs):Option (Bs×Int×Int×Int×Bs):=
 bif decide (p0=0)&&decide (p1=0) then
 (qen fu 0 1 p2 on).bind fun x=>
 bif decide (x.1=0)&&decide (x.2.1=1) then
 (qb8 fu s x.2.2.2.1).bind fun y=>
 some (y.1,1,0,x.2.2.1,y.2)
 else none else none
def qp5 (fu:Nat) (s:Bs) (p0 p1 p2:Int) (tab:Bs):Option (Bs×Int×Int×Int×Bs):=
 bif !decide (p0=0) then
 (qb8 fu s tab).bind fun y=>
 some (y.1,p0,p1,p2,y.2)
 else none
def qcw (p0:UInt8):Option UInt8:=(([48,49,50,51,52,53,54,55,56,57,65,66,67,68,69,70]:Bs)[(p0&&&(15:UInt8)).toNat]?).bind fun c1=>some c1
abbrev z67:=Bs->Bs->Int->Int->(List Bs)->Option ((List Bs))
abbrev zme:=Bs->Int->Int->(List Bs)->Option ((List Bs))
def qg2 (fu:Nat) (r0:zme):z67:=fun s0 s5 s9 s10 m32=>bif decide (0<=w64 ((m32.length:Int)-(1:Int))/\(w64 ((m32.length:Int)-(1:Int))).toNat<m32.length) then (m32[(w64 ((m32.length:Int)-(1:Int))).toNat]?).bind fun y1=>bif decide ((w64 ((y1.length:Int)+(s5.length:Int)))<=(60:Int)) then bif decide (0<=w64 ((m32.length:Int)-(1:Int))/\(w64 ((m32.length:Int)-(1:Int))).toNat<m32.length) then (m32[(w64 ((m32.length:Int)-(1:Int))).toNat]?).bind fun y2=>bif decide (y2.length+s5.length<=qad) then bif decide (0<=w64 ((m32.length:Int)-(1:Int))/\(w64 ((m32.length:Int)-(1:Int))).toNat<m32.length) then (m32[(w64 ((m32.length:Int)-(1:Int))).toNat]?).bind fun y3=>r0 s0 s9 (w64 (s10+(1:Int))) (List.set m32 ((w64 ((m32.length:Int)-(1:Int))).toNat) (y2++s5)) else none else none else none else bif decide (List.length (m32++([s5]:List Bs))<=qaq) then r0 s0 s9 (w64 (s10+(1:Int))) (m32++([s5]:List Bs)) else none else none
def qox (fu:Nat) (r0:zme):zme:=fun s0 s9 s10 m32=>bif decide (s10<s9) then bif decide (0<=s10/\s10<=w64 (s10+(1:Int))/\w64 (s10+(1:Int))<=(s0.length:Int)) then (idx s0 s10).bind fun c1=>(qba c1).bind fun x2=>bif !x2 then (idx s0 s10).bind fun c3=>(qcw (q34 c3 (min (4:Int).toNat 8))).bind fun x4=>(idx s0 s10).bind fun c5=>(qcw c5).bind fun x6=>qg2 fu r0 s0 ([(37:UInt8),x4,x6]:Bs) s9 s10 m32 else qg2 fu r0 s0 (List.take ((w64 (s10+(1:Int))).toNat-s10.toNat) (List.drop s10.toNat s0)) s9 s10 m32 else none else some m32
def qe1 (fu:Nat):Nat->zme|0=>fun _ _ _ _=>none|n+1=>qox fu (qe1 fu n)
def qpp (fu:Nat) (p0:Bs):Option ((List Bs)):=qe1 fu fu p0 (p0.length:Int) (0:Int) ([([117,116,102,56,39,39]:Bs)]:List Bs)
abbrev zsd:=Bs->Int->Int->(Bs×Bs)->(List Bs)->Option (Bs)
abbrev va3:=(Bs×Bs)->Option (Bs)
abbrev z8o:=Bool->(Bs×Bs)->Option (Bs)
def qql (fu:Nat) (r2:zsd):zsd:=fun s3 s39 s40 m32 m33=>bif decide (s40<s39) then bif decide (0<=s40/\s40.toNat<m33.length) then (m33[s40.toNat]?).bind fun y1=>bif decide (List.length ([59,32]:Bs)+m32.1.length<=qad) then bif decide (List.length (([59,32]:Bs)++m32.1)+List.length ([42]:Bs)<=qad) then (qdw s40).bind fun x2=>bif decide (List.length ((([59,32]:Bs)++m32.1)++([42]:Bs))+x2.length<=qad) then bif decide (List.length (((([59,32]:Bs)++m32.1)++([42]:Bs))++x2)+List.length ([42,61]:Bs)<=qad) then bif decide (List.length ((((([59,32]:Bs)++m32.1)++([42]:Bs))++x2)++([42,61]:Bs))+y1.length<=qad) then bif decide (s3.length+List.length (((((([59,32]:Bs)++m32.1)++([42]:Bs))++x2)++([42,61]:Bs))++y1)<=qad) then r2 (s3++(((((([59,32]:Bs)++m32.1)++([42]:Bs))++x2)++([42,61]:Bs))++y1)) s39 (w64 (s40+(1:Int))) m32 m33 else none else none else none else none else none else none else none else some s3
def qi3 (fu:Nat):Nat->zsd|0=>fun _ _ _ _ _=>none|n+1=>qql fu (qi3 fu n)
def qqd (fu:Nat):va3:=fun m32=>(qpp fu m32.2).bind fun x1=>qi3 fu fu ([]:Bs) (x1.length:Int) (0:Int) m32 x1
def qfy (fu:Nat):z8o:=fun s24 m32=>bif s24 then bif decide (List.length ([59,32]:Bs)+m32.1.length<=qad) then bif decide (List.length (([59,32]:Bs)++m32.1)+List.length ([61,34]:Bs)<=qad) then (qgj ([([92]:Bs),([92,92]:Bs),([34]:Bs),([92,34]:Bs)]:List Bs)).bind fun x1=>(qif m32.2 x1.1 x1.2.1 x1.2.2.1 x1.2.2.2).bind fun x2=>bif decide (List.length ((([59,32]:Bs)++m32.1)++([61,34]:Bs))+x2.length<=qad) then bif decide (List.length (((([59,32]:Bs)++m32.1)++([61,34]:Bs))++x2)+List.length ([34]:Bs)<=qad) then some ((((([59,32]:Bs)++m32.1)++([61,34]:Bs))++x2)++([34]:Bs)) else none else none else none else none else qqd fu m32
def qrh (fu:Nat) (p0:Bs×Bs):Option (Bs):=(qim fu p0.2).bind fun x1=>bif x1 then bif decide (List.length ([59,32]:Bs)+p0.1.length<=qad) then bif decide (List.length (([59,32]:Bs)++p0.1)+List.length ([61]:Bs)<=qad) then bif decide (List.length ((([59,32]:Bs)++p0.1)++([61]:Bs))+p0.2.length<=qad) then some (((([59,32]:Bs)++p0.1)++([61]:Bs))++p0.2) else none else none else none else bif decide ((p0.2.length:Int)<=(60:Int)) then (qpq fu p0.2).bind fun x2=>qfy fu x2 p0 else qfy fu false p0
abbrev zqq:=Bs->wV->Int->Int->(Int×Int)->Option (Bs×(Int×Int))
def qqs (fu:Nat) (r0:zqq):zqq:=fun s5 s20 s21 s22 m32=>bif decide (s22<s21) then (idx s20 s22).bind fun y1=>(qrh fu y1).bind fun x2=>bif decide (s5.length+x2.length<=qad) then r0 (s5++x2) s20 s21 (w64 (s22+(1:Int))) m32 else none else bif decide ((4000:Int)<(s5.length:Int)) then (qae (1:Int) (-4:Int)).bind fun x3=>some (([]:Bs),x3) else (qa0).bind fun x4=>some (s5,x4)
def qi7 (fu:Nat):Nat->zqq|0=>fun _ _ _ _ _=>none|n+1=>qqs fu (qi7 fu n)
def qf3 (fu:Nat) (p0:Bs×Bs×wV):Option (Bs×(Int×Int)):=(qce fu p0).bind fun x1=>(qak x1).bind fun x2=>bif x2 then some (([]:Bs),x1) else bif decide (p0.1.length+List.length ([47]:Bs)<=qad) then bif decide (List.length (p0.1++([47]:Bs))+p0.2.1.length<=qad) then qi7 fu fu ((p0.1++([47]:Bs))++p0.2.1) p0.2.2 (p0.2.2.length:Int) (0:Int) ((0:Int),(0:Int)) else none else none
abbrev z95:=Int->wU->Bs->Bs->wV->Option Int
abbrev z5p:=Int->Bool->wU->Bs->Bs->wV->Option Int
def qqq (fu:Nat):z95:=fun s4 m32 m33_0 m33_1 m34=>(qmx fu (m33_0,(m33_1,m34)) ([98,111,117,110,100,97,114,121]:Bs)).bind fun x1=>(qf3 fu (m33_0,(m33_1,m34))).bind fun x2=>bif x1.2.1 then some (5:Int) else bif decide ((60:Int)<=(m34.length:Int)) then some (5:Int) else (qak x2.2).bind fun x3=>bif x3 then some (5:Int) else (idx m32.val.1 s4).bind fun y4=>bif !(x2.1==y4.2) then some (5:Int) else bif decide ((2000:Int)<(x2.1.length:Int)) then some (5:Int) else some (0:Int)
def qbi (fu:Nat):z5p:=fun s4 s31 m32 m33_0 m33_1 m34=>bif s31 then some (5:Int) else qqq fu s4 (Tree.node m32.val m32.kids) m33_0 m33_1 m34
def qrm (fu:Nat) (p0:Tree (wV×Bs)):Option Int:=(qke fu p0.val.1).bind fun x1=>sumK x1 (fun a2=>bif decide ((0:Int)<(p0.val.2.length:Int)) then qbi fu a2.2.2.1 true (Tree.node p0.val p0.kids) a2.1 a2.2.1 [] else bif !a2.2.2.2 then qbi fu a2.2.2.1 true (Tree.node p0.val p0.kids) a2.1 a2.2.1 [] else (qb7 fu a2.1 ([109,117,108,116,105,112,97,114,116]:Bs)).bind fun x4=>qbi fu a2.2.2.1 (!x4) (Tree.node p0.val p0.kids) a2.1 a2.2.1 []) (fun b3=>bif decide ((0:Int)<(p0.val.2.length:Int)) then qbi fu b3.2.2.1 true (Tree.node p0.val p0.kids) b3.1 b3.2.1 b3.2.2.2.2 else bif !b3.2.2.2.1 then qbi fu b3.2.2.1 true (Tree.node p0.val p0.kids) b3.1 b3.2.1 b3.2.2.2.2 else (qb7 fu b3.1 ([109,117,108,116,105,112,97,114,116]:Bs)).bind fun x5=>qbi fu b3.2.2.1 (!x5) (Tree.node p0.val p0.kids) b3.1 b3.2.1 b3.2.2.2.2)
abbrev z9u:=Bs->Int->Int->UInt8->Option Int
abbrev z42:=Bs->Int->Int->UInt8->Bool->Option Int
abbrev zh8:=Bs->Int->Int->Option Int
def qr9 (fu:Nat) (r0:zh8):z9u:=fun s0 s3 s4 s5=>bif s5==(13:UInt8) then some (11:Int) else bif s5==(10:UInt8) then some (11:Int) else bif decide ((998:Int)<(w64 (s3+(1:Int)))) then some (1:Int) else r0 s0 (w64 (s3+(1:Int))) (w64 (s4+(1:Int)))
def qhd (fu:Nat) (r0:zh8):z42:=fun s0 s3 s4 s5 s32=>bif s32 then r0 s0 (0:Int) (w64 ((w64 (s4+(1:Int)))+(1:Int))) else qr9 fu r0 s0 s3 s4 s5
def qr7 (fu:Nat) (r0:zh8):zh8:=fun s0 s3 s4=>bif decide (s4<(s0.length:Int)) then (idx s0 s4).bind fun y1=>bif y1==(13:UInt8) then bif decide ((w64 (s4+(1:Int)))<(s0.length:Int)) then (idx s0 (w64 (s4+(1:Int)))).bind fun y2=>qhd fu r0 s0 s3 s4 y1 (y2==(10:UInt8)) else qhd fu r0 s0 s3 s4 y1 false else qhd fu r0 s0 s3 s4 y1 false else some (0:Int)
def qh1 (fu:Nat):Nat->zh8|0=>fun _ _ _=>none|n+1=>qr7 fu (qh1 fu n)
def qp7 (fu:Nat) (p0:Bs):Option Int:=qh1 fu fu p0 (0:Int) (0:Int)
def qf8 (p0:UInt8):Option Bool:=bif decide ((32:UInt8)<=p0) then some (decide (p0<=(126:UInt8))) else some false
abbrev zsn:=Bs->Int->Int->Option Bool
def qt0 (fu:Nat) (r0:zsn):zsn:=fun s0 s7 s8=>bif decide (s8<s7) then (idx s0 s8).bind fun c1=>(qf8 c1).bind fun x2=>bif !x2 then some false else r0 s0 s7 (w64 (s8+(1:Int))) else some true
def qhg (fu:Nat):Nat->zsn|0=>fun _ _ _=>none|n+1=>qt0 fu (qhg fu n)
def qpw (fu:Nat) (p0:Bs):Option Bool:=qhg fu fu p0 (p0.length:Int) (0:Int)
def qij (p0:Bs) (p1:Bs):Option Bool:=(qa6 p0 p1).bind fun x1=>some x1
abbrev z7q:=Bs->Bs->wV->Option (Bs×Bool)
abbrev z5r:=Bool->Bs->Bs->wV->Option (Bs×Bool)
def ql9 (fu:Nat):z7q:=fun m32_0 m32_1 m33=>(qmx fu (m32_0,(m32_1,m33)) ([98,111,117,110,100,97,114,121]:Bs)).bind fun x1=>bif !(x1.1==([]:Bs)) then bif decide ((x1.1.length:Int)<=(60:Int)) then (qpw fu x1.1).bind fun x2=>bif x2 then (qij x1.1 ([32]:Bs)).bind fun x3=>bif x1.2.1 then some (x1.1,!x3) else some (x1.1,false) else bif x1.2.1 then some (x1.1,false) else some (x1.1,false) else bif x1.2.1 then some (x1.1,false) else some (x1.1,false) else bif x1.2.1 then some (x1.1,false) else some (x1.1,false)
def qcf (fu:Nat):z5r:=fun s24 m32_0 m32_1 m33=>bif s24 then some (([]:Bs),false) else ql9 fu m32_0 m32_1 m33
def ql1 (fu:Nat) (p0:List (Bs×Bs)):Option (Bs×Bool):=(qke fu p0).bind fun x1=>sumK x1 (fun a2=>bif !a2.2.2.2 then qcf fu true a2.1 a2.2.1 [] else (qb7 fu a2.1 ([109,117,108,116,105,112,97,114,116]:Bs)).bind fun x4=>qcf fu (!x4) a2.1 a2.2.1 []) (fun b3=>bif !b3.2.2.2.1 then qcf fu true b3.1 b3.2.1 b3.2.2.2.2 else (qb7 fu b3.1 ([109,117,108,116,105,112,97,114,116]:Bs)).bind fun x5=>qcf fu (!x5) b3.1 b3.2.1 b3.2.2.2.2)
def qro (p0:Bs):Option (Bs):=some p0
abbrev zrr:=Bs->UInt8->Option (Bs)
def qlb (fu:Nat) (r0:zrr):zrr:=fun s0 s1=>bif decide ((0:Int)<(s0.length:Int)) then (idx s0 (w64 ((s0.length:Int)-(1:Int)))).bind fun c1=>bif c1==s1 then bif decide (0<=w64 ((s0.length:Int)-(1:Int))/\w64 ((s0.length:Int)-(1:Int))<=(s0.length:Int)) then r0 (List.take (w64 ((s0.length:Int)-(1:Int))).toNat s0) s1 else none else some s0 else some s0
def qfu (fu:Nat):Nat->zrr|0=>fun _ _=>none|n+1=>qlb fu (qfu fu n)
def qik (fu:Nat) (p0:Bs) (p1:UInt8):Option (Bs):=qfu fu fu p0 p1
abbrev zr1:=Bs->(List Bool)->Option (Bs×(List Bool))
def qfe (fu:Nat) (r0:zr1):zr1:=fun s0 m0=>bif decide ((0:Int)<(s0.length:Int)) then (idx s0 (w64 ((s0.length:Int)-(1:Int)))).bind fun c1=>(qa9 c1 m0).bind fun x2=>bif !x2.1 then some (s0,x2.2) else bif decide (0<=w64 ((s0.length:Int)-(1:Int))/\w64 ((s0.length:Int)-(1:Int))<=(s0.length:Int)) then r0 (List.take (w64 ((s0.length:Int)-(1:Int))).toNat s0) x2.2 else none else some (s0,m0)
def qbx (fu:Nat):Nat->zr1|0=>fun _ _=>none|n+1=>qfe fu (qbx fu n)
def qea (fu:Nat) (p0:Bs) (p1:List Bool):Option (Bs×(List Bool)):=qbx fu fu p0 p1
def qmg (p0:UInt8):Option Bool:=some ((p0&&&(192:UInt8)) != (128:UInt8))
abbrev z43:=Bs->Int->Int->Option (Int×Int)
abbrev z9p:=Bs->Int->Int->Option (Int×Int)
abbrev zs6:=Bs->Int->Int->Int->Option (Int×Int)
def qbp (fu:Nat):z43:=fun s0 s4 s5=>bif decide (0<=s5/\s5<=s4/\s4<=(s0.length:Int)) then (qcy (List.take (s4.toNat-s5.toNat) (List.drop s5.toNat s0))).bind fun x1=>bif (w64 (s5+x1.2)) != s4 then some ((65533:Int),(1:Int)) else some x1 else none
def qbq (fu:Nat):z9p:=fun s0 s4 s5=>bif decide (s5<(0:Int)) then qbp fu s0 s4 (0:Int) else qbp fu s0 s4 s5
def qdu (fu:Nat) (r0:zs6):zs6:=fun s0 s4 s5 s6=>bif decide (s6<=s5) then (idx s0 s5).bind fun c1=>(qmg c1).bind fun x2=>bif x2 then qbq fu s0 s4 s5 else r0 s0 s4 (w64 (s5-(1:Int))) s6 else qbq fu s0 s4 s5
def qbu (fu:Nat):Nat->zs6|0=>fun _ _ _ _=>none|n+1=>qdu fu (qbu fu n)
def qej (fu:Nat) (p0:Bs):Option (Int×Int):=bif (p0.length:Int)==(0:Int) then some ((65533:Int),(0:Int)) else (idx p0 (w64 ((p0.length:Int)-(1:Int)))).bind fun c1=>bif decide ((c1.toNat:Int)<(128:Int)) then some ((c1.toNat:Int),(1:Int)) else qbu fu fu p0 (p0.length:Int) (w64 ((w64 ((p0.length:Int)-(1:Int)))-(1:Int))) (if (0:Int)>w64 ((p0.length:Int)-(4:Int)) then (0:Int) else w64 ((p0.length:Int)-(4:Int)))
abbrev zpb:=Bs->Bs->Option (Bs)
def qi0 (fu:Nat) (r0:zpb):zpb:=fun s0 s1=>bif decide ((0:Int)<(s0.length:Int)) then (idx s0 (w64 ((s0.length:Int)-(1:Int)))).bind fun c1=>bif decide ((128:Int)<=(c1.toNat:Int)) then (qej fu s0).bind fun x2=>(qfn fu s1 x2.1).bind fun x3=>bif !x3 then some s0 else bif decide (0<=w64 ((s0.length:Int)-x2.2)/\w64 ((s0.length:Int)-x2.2)<=(s0.length:Int)) then r0 (List.take (w64 ((s0.length:Int)-x2.2)).toNat s0) s1 else none else (qfn fu s1 (c1.toNat:Int)).bind fun x4=>bif !x4 then some s0 else bif decide (0<=w64 ((s0.length:Int)-(1:Int))/\w64 ((s0.length:Int)-(1:Int))<=(s0.length:Int)) then r0 (List.take (w64 ((s0.length:Int)-(1:Int))).toNat s0) s1 else none else some s0
def qei (fu:Nat):Nat->zpb|0=>fun _ _=>none|n+1=>qi0 fu (qei fu n)
def qft (fu:Nat) (p0:Bs) (p1:Bs):Option (Bs):=qei fu fu p0 p1
abbrev z5f:=Bs->Bs->Option (Bs)
abbrev z8l:=Bs->Bs->Bool->Option (Bs)
abbrev z9c:=Bs->Bs->Option (Bs)
abbrev z6q:=Bs->Bs->Bool->Option (Bs)
def qjr (fu:Nat):z5f:=fun s0 s1=>(qca fu s1).bind fun x1=>bif decide (x1.1.length=List.length (List.replicate 256 false))&&decide (x1.1.length=256) then bif x1.2 then (qea fu s0 x1.1).bind fun x2=>some x2.1 else (qft fu s0 s1).bind fun x3=>some x3 else none
def qfl (fu:Nat):z8l:=fun s0 s1 s21=>bif s21 then (idx s1 (0:Int)).bind fun c1=>(qik fu s0 c1).bind fun x2=>some x2 else qjr fu s0 s1
def qjp (fu:Nat):z9c:=fun s0 s1=>bif (s1.length:Int)==(1:Int) then (idx s1 (0:Int)).bind fun c1=>qfl fu s0 s1 (decide (c1<(128:UInt8))) else qfl fu s0 s1 false
def qfo (fu:Nat):z6q:=fun s0 s1 s12=>bif s12 then some s0 else qjp fu s0 s1
def qfj (fu:Nat) (p0:Bs) (p1:Bs):Option (Bs):=bif p0==([]:Bs) then qfo fu p0 p1 true else qfo fu p0 p1 (p1==([]:Bs))
def qs8 (fu:Nat) (p0:Bs) (p1:Bs):Option Int:=(qfj fu p0 ([32,9]:Bs)).bind fun x1=>bif decide (List.length ([45,45]:Bs)+p1.length<=qad) then bif x1==(([45,45]:Bs)++p1) then some (1:Int) else bif decide (List.length ([45,45]:Bs)+p1.length<=qad) then bif decide (List.length (([45,45]:Bs)++p1)+List.length ([45,45]:Bs)<=qad) then bif x1==((([45,45]:Bs)++p1)++([45,45]:Bs)) then some (2:Int) else some (0:Int) else none else none else none
abbrev qxd:=(Bs×Bs×Int×(List Bs)×(List Bs)) ⊕ (Bs×Bs×Int×(List Bs))
def qc7 (fu:Nat) (p0:Int) (p1:Bs) (p2:Bs) (p3:Bs) (p4:Int) (p5:List Bs) (p6:List Bs):Option qxd:=(qs8 fu p1 p3).bind fun x1=>bif x1==(0:Int) then some (.inl (p2,(p3,(p4,(p5,p6))))) else bif decide ((0:Int)<=p4) then bif decide (0<=p4/\p4<=(if w64 (p0-(2:Int))>p4 then w64 (p0-(2:Int)) else p4)/\(if w64 (p0-(2:Int))>p4 then w64 (p0-(2:Int)) else p4)<=(p2.length:Int)) then bif decide (List.length (p6++([List.take ((if w64 (p0-(2:Int))>p4 then w64 (p0-(2:Int)) else p4).toNat-p4.toNat) (List.drop p4.toNat p2)]:List Bs))<=qaq) then bif x1==(2:Int) then some (.inr (p2,(p3,(p4,p6++([List.take ((if w64 (p0-(2:Int))>p4 then w64 (p0-(2:Int)) else p4).toNat-p4.toNat) (List.drop p4.toNat p2)]:List Bs))))) else some (.inl (p2,(p3,(if (p2.length:Int)<w64 ((w64 (p0+(p1.length:Int)))+(2:Int)) then (p2.length:Int) else w64 ((w64 (p0+(p1.length:Int)))+(2:Int)),(p5,p6++([List.take ((if w64 (p0-(2:Int))>p4 then w64 (p0-(2:Int)) else p4).toNat-p4.toNat) (List.drop p4.toNat p2)]:List Bs)))))) else none else none else bif x1==(2:Int) then some (.inr (p2,(p3,(p4,p6)))) else some (.inl (p2,(p3,(if (p2.length:Int)<w64 ((w64 (p0+(p1.length:Int)))+(2:Int)) then (p2.length:Int) else w64 ((w64 (p0+(p1.length:Int)))+(2:Int)),(p5,p6)))))
abbrev qr1:=(Bs×Bs×Bs×Int×(List Bs)) ⊕ (Bs×Bs×Bs×Int×(List Bs)×(List Bs))
abbrev zpa:=Int->Bs->Bs->Bs->Int->(List Bs)->(List Bs)->Option qr1
def qmr (fu:Nat) (r0:zpa):zpa:=fun s3 m1 m2 m3 m6 m32 m33=>bif decide (s3<(m1.length:Int)) then bif decide (0<=s3/\s3<=(m1.length:Int)) then bif decide (0<List.length ([(13:UInt8),(10:UInt8)]:Bs)) then (qer (List.drop s3.toNat m1) ([(13:UInt8),(10:UInt8)]:Bs)).bind fun x1=>bif decide ((0:Int)<=x1) then bif decide (0<=s3/\s3<=w64 (s3+x1)/\w64 (s3+x1)<=(m1.length:Int)) then (qc7 fu s3 (List.take ((w64 (s3+x1)).toNat-s3.toNat) (List.drop s3.toNat m1)) m2 m3 m6 m32 m33).bind fun x2=>sumK x2 (fun a3=>r0 (w64 ((w64 (s3+x1))+(2:Int))) m1 a3.1 a3.2.1 a3.2.2.1 a3.2.2.2.1 a3.2.2.2.2) (fun b4=>some (.inl (m1,b4))) else none else bif decide (0<=s3/\s3<=(m1.length:Int)/\(m1.length:Int)<=(m1.length:Int)) then (qc7 fu s3 (List.take ((m1.length:Int).toNat-s3.toNat) (List.drop s3.toNat m1)) m2 m3 m6 m32 m33).bind fun x5=>sumK x5 (fun a6=>r0 (m1.length:Int) m1 a6.1 a6.2.1 a6.2.2.1 a6.2.2.2.1 a6.2.2.2.2) (fun b7=>some (.inl (m1,b7))) else none else none else none else some (.inr (m1,(m2,(m3,(m6,(m32,m33))))))
def qc0 (fu:Nat):Nat->zpa|0=>fun _ _ _ _ _ _ _=>none|n+1=>qmr fu (qc0 fu n)
def qsb (fu:Nat) (p0:Bs) (p1:Bs) (p2:Bs) (p3:Int) (p4:List Bs) (p5:List Bs):Option qr1:=qc0 fu fu (0:Int) p0 p1 p2 p3 p4 p5
def qk0 (fu:Nat) (p0:Bs) (p1:Bs):Option ((List Bs)):=(qro p0).bind fun x1=>(qsb fu x1 p0 p1 (-1:Int) [] []).bind fun x2=>sumK x2 (fun a3=>some a3.2.2.2.2) (fun b4=>bif decide ((0:Int)<=b4.2.2.2.1) then bif decide (0<=b4.2.2.2.1/\b4.2.2.2.1<=(b4.2.1.length:Int)) then bif decide (List.length (b4.2.2.2.2.2++([List.drop b4.2.2.2.1.toNat b4.2.1]:List Bs))<=qaq) then some (b4.2.2.2.2.2++([List.drop b4.2.2.2.1.toNat b4.2.1]:List Bs)) else none else none else some b4.2.2.2.2.2)
def qk2 (fu:Nat) (p0:List (Bs×Bs)) (p1:Bs) (p2:Int):Option ((List Bs)):=(ql1 fu p0).bind fun x1=>bif !x1.2 then some [] else bif decide ((8:Int)<=p2) then some [] else (qk0 fu p1 x1.1).bind fun x2=>some x2
def qra (fu:Nat) (p0:wU×Int):Option Int:=(qhs fu p0.1.val.1).bind fun x1=>(qak x1).bind fun x2=>bif x2 then some x1.1 else bif decide ((0:Int)<(p0.1.kids.length:Int)) then (qrm fu (Tree.node p0.1.val p0.1.kids)).bind fun x3=>some x3 else bif decide ((12000:Int)<(p0.1.val.2.length:Int)) then some (1:Int) else (qp7 fu p0.1.val.2).bind fun x4=>bif x4 != (0:Int) then some x4 else (qk2 fu p0.1.val.1 p0.1.val.2 p0.2).bind fun x5=>bif decide ((0:Int)<(x5.length:Int)) then some (5:Int) else some (0:Int)
def ql3 (fu:Nat) (p0:Int) (p1:List (Bs×Bs)) (p2:Bs) (p3:List wU) (p4:Int) (p5:Int×Int):Option (((Int×Int)) ⊕ ((Int×Int))):=(qra fu ((Tree.node (p1,p2) p3),p4)).bind fun x1=>bif x1 != (0:Int) then (qae x1 p0).bind fun x2=>some (.inl x2) else some (.inr p5)
abbrev qil:=(Int×(Int×Int)) ⊕ (Int×(Int×Int))
abbrev zkv:=wU->Int->Int->(Int×Int)->Option qil
abbrev zj8:=Int->(List wU)->Int->Int->Int->(Int×Int)->Option qil
def qji (rs12:zkv) (fu:Nat) (r0:zj8):zj8:=fun s1 s20 s21 s22 m1 m4=>bif decide (s22<s21) then (idx s20 s22).bind fun y1=>(rs12 (Tree.node y1.val y1.kids) (w64 (s1+(1:Int))) m1 m4).bind fun x2=>sumK x2 (fun a3=>some (.inl a3)) (fun b4=>r0 s1 s20 s21 (w64 (s22+(1:Int))) b4.1 b4.2) else some (.inr (m1,m4))
def qdj (rs12:zkv) (fu:Nat):Nat->zj8|0=>fun _ _ _ _ _ _=>none|n+1=>qji rs12 fu (qdj rs12 fu n)
def qgk (rs12:zkv) (fu:Nat) (p0:Tree (wV×Bs)) (p1:Int) (p2:Int) (p3:Int×Int):Option qil:=(ql3 fu p2 p0.val.1 p0.val.2 p0.kids p1 p3).bind fun x1=>sumK x1 (fun a2=>some (.inl (p2,a2))) (fun b3=>qdj rs12 fu fu p1 p0.kids (p0.kids.length:Int) (0:Int) (w64 (p2+(1:Int))) b3)
def qcq (fu:Nat):Nat->zkv|0=>fun _ _ _ _=>none|n+1=>qgk (qcq fu n) fu
def qsa (fu:Nat) (p0:Tree (wV×Bs)) (p1:Int) (p2:Int) (p3:Int×Int):Option qil:=qcq fu fu p0 p1 p2 p3
abbrev qz3:=(wU×(Int×Int)) ⊕ (wU×(Int×Int))
def qky (fu:Nat) (p0:Tree (wV×Bs)) (p1:Int×Int):Option qz3:=(qsa fu (Tree.node p0.val p0.kids) (0:Int) (0:Int) p1).bind fun x1=>sumK x1 (fun a2=>some (.inl ((Tree.node p0.val p0.kids),a2.2))) (fun b3=>some (.inr ((Tree.node p0.val p0.kids),b3.2)))
def qeh (fu:Nat) (p0:Tree (wV×Bs)):Option ((Int×Int)):=(qs6 (Tree.node p0.val p0.kids)).bind fun x1=>(qpu fu (Tree.node x1.val x1.kids) ((0:Int),(0:Int)) false).bind fun x2=>sumK x2 (fun a3=>some a3.2.1) (fun b4=>bif b4.2.2 then (qae (2:Int) (-2:Int)).bind fun x5=>some x5 else (qs6 (Tree.node p0.val p0.kids)).bind fun x6=>(qky fu (Tree.node x6.val x6.kids) b4.2.1).bind fun x7=>sumK x7 (fun a8=>some a8.2) (fun b9=>(qa0).bind fun x10=>some x10))
abbrev zft:=Bs->wV->Int->Int->Int->Int->(List Bs)->Bs->Option (Bs)
abbrev q71:=Bs->wV->Int->Int->Bs->Option (Bs)
def qva (fu:Nat) (r0:q71) (r1:zft):zft:=fun s1 s12 s13 s14 s27 s28 m32 m33=>bif decide (s28<s27) then bif decide (0<=s28/\s28.toNat<m32.length) then (m32[s28.toNat]?).bind fun y1=>bif decide (List.length (m33++y1)<=qaq) then bif decide (List.length ((m33++y1)++([(13:UInt8),(10:UInt8)]:Bs))<=qaq) then r1 s1 s12 s13 s14 s27 (w64 (s28+(1:Int))) m32 ((m33++y1)++([(13:UInt8),(10:UInt8)]:Bs)) else none else none else none else r0 s1 s12 s13 (w64 (s14+(1:Int))) m33
def qqy (fu:Nat) (r0:q71):Nat->zft|0=>fun _ _ _ _ _ _ _ _=>none|n+1=>qva fu r0 (qqy fu r0 n)
def qvh (fu:Nat) (r0:q71):q71:=fun s1 s12 s13 s14 m32=>bif decide (s14<s13) then (idx s12 s14).bind fun y1=>(qma fu y1.1 y1.2).bind fun x2=>qqy fu r0 fu s1 s12 s13 s14 (x2.2.length:Int) (0:Int) x2.2 m32 else bif decide (List.length (m32++([(13:UInt8),(10:UInt8)]:Bs))<=qaq) then bif decide (List.length ((m32++([(13:UInt8),(10:UInt8)]:Bs))++s1)<=qaq) then some ((m32++([(13:UInt8),(10:UInt8)]:Bs))++s1) else none else none
def qq2 (fu:Nat):Nat->q71|0=>fun _ _ _ _ _=>none|n+1=>qvh fu (qq2 fu n)
def qyu (fu:Nat) (p0:List (Bs×Bs)) (p1:Bs):Option (Bs):=qq2 fu fu p1 p0 (p0.length:Int) (0:Int) []
abbrev qpd:=wV×Bs
abbrev q7t:=wU->Option qpd
def qvg (rs107:q7t) (fu:Nat) (p0:Tree (wV×Bs)):Option (Bs):=(rs107 (Tree.node p0.val p0.kids)).bind fun x1=>(qyu fu x1.1 x1.2).bind fun x2=>some x2
abbrev zhx:=(List wU)->Int->Int->(List Bs)->Option ((List Bs))
def qh8 (rs107:q7t) (fu:Nat) (r0:zhx):zhx:=fun s8 s9 s10 m32=>bif decide (s10<s9) then (idx s8 s10).bind fun y1=>(qvg rs107 fu (Tree.node y1.val y1.kids)).bind fun x2=>bif decide (List.length (m32++([x2]:List Bs))<=qaq) then r0 s8 s9 (w64 (s10+(1:Int))) (m32++([x2]:List Bs)) else none else some m32
def qdp (rs107:q7t) (fu:Nat):Nat->zhx|0=>fun _ _ _ _=>none|n+1=>qh8 rs107 fu (qdp rs107 fu n)
def qjx (rs107:q7t) (fu:Nat) (p0:List wU):Option ((List Bs)):=qdp rs107 fu fu p0 (p0.length:Int) (0:Int) []
def qgz (p0:Bs) (p1:Bs):Option Bool:=bif decide ((p1.length:Int)<=(p0.length:Int)) then bif decide (0<=(p1.length:Int)/\(p1.length:Int)<=(p0.length:Int)) then some ((List.take (p1.length:Int).toNat p0)==p1) else none else some false
def qsi (p0:Bs) (p1:Bs):Option Bool:=(qgz p0 p1).bind fun x1=>some x1
abbrev qzx:=(Bs×Bool) ⊕ (Bs×Bool)
def qon (p0:Int) (p1:Bs) (p2:Bs) (p3:Bool):Option qzx:=bif decide (List.length ([45,45]:Bs)+p2.length<=qad) then (qsi p1 (([45,45]:Bs)++p2)).bind fun x1=>bif x1 then some (.inl (p2,true)) else some (.inr (p2,p3)) else none
abbrev qsn:=(Bs×Bs×Bool) ⊕ (Bs×Bs×Bool)
abbrev zil:=Int->Bs->Bs->Bool->Option qsn
def qp2 (fu:Nat) (r0:zil):zil:=fun s3 m1 m2 m3=>bif decide (s3<(m1.length:Int)) then bif decide (0<=s3/\s3<=(m1.length:Int)) then bif decide (0<List.length ([(13:UInt8),(10:UInt8)]:Bs)) then (qer (List.drop s3.toNat m1) ([(13:UInt8),(10:UInt8)]:Bs)).bind fun x1=>bif decide ((0:Int)<=x1) then bif decide (0<=s3/\s3<=w64 (s3+x1)/\w64 (s3+x1)<=(m1.length:Int)) then (qon s3 (List.take ((w64 (s3+x1)).toNat-s3.toNat) (List.drop s3.toNat m1)) m2 m3).bind fun x2=>sumK x2 (fun a3=>some (.inl (m1,a3))) (fun b4=>r0 (w64 ((w64 (s3+x1))+(2:Int))) m1 b4.1 b4.2) else none else bif decide (0<=s3/\s3<=(m1.length:Int)/\(m1.length:Int)<=(m1.length:Int)) then (qon s3 (List.take ((m1.length:Int).toNat-s3.toNat) (List.drop s3.toNat m1)) m2 m3).bind fun x5=>sumK x5 (fun a6=>some (.inl (m1,a6))) (fun b7=>r0 (m1.length:Int) m1 b7.1 b7.2) else none else none else none else some (.inr (m1,(m2,m3)))
def qkl (fu:Nat):Nat->zil|0=>fun _ _ _ _=>none|n+1=>qp2 fu (qkl fu n)
def qsy (fu:Nat) (p0:Bs) (p1:Bs) (p2:Bool):Option qsn:=qkl fu fu (0:Int) p0 p1 p2
def qxi (fu:Nat) (p0:Bs) (p1:Bs):Option (Bool×Bs):=(qro p0).bind fun x1=>(qsy fu x1 p1 false).bind fun x2=>sumK x2 (fun a3=>some (a3.2.2,a3.2.1)) (fun b4=>some (false,b4.2.1))
abbrev zhc:=(List Bs)->Int->Int->Bs->Option (Int×Bs)
def qh4 (fu:Nat) (r0:zhc):zhc:=fun s0 s7 s8 m0=>bif decide (s8<s7) then (idx s0 s8).bind fun y1=>(qxi fu y1 m0).bind fun x2=>bif x2.1 then some (s8,x2.2) else r0 s0 s7 (w64 (s8+(1:Int))) x2.2 else some ((-1:Int),m0)
def qdn (fu:Nat):Nat->zhc|0=>fun _ _ _ _=>none|n+1=>qh4 fu (qdn fu n)
def qj1 (fu:Nat) (p0:List Bs) (p1:Bs):Option (Int×Bs):=qdn fu fu p0 (p0.length:Int) (0:Int) p1
def qhc (fu:Nat) (p0:List Bs) (p1:Bs):Option (Bool×Bs):=(qj1 fu p0 p1).bind fun x1=>some (decide ((0:Int)<=x1.1),x1.2)
abbrev zff:=(List Bs)->Int->Option (Bs)
def qwu (fu:Nat) (r0:zff):zff:=fun s0 s3=>(qdw s3).bind fun x1=>bif decide (List.length ([98]:Bs)+x1.length<=qad) then (qhc fu s0 (([98]:Bs)++x1)).bind fun x2=>bif !x2.1 then some x2.2 else r0 s0 (w64 (s3+(1:Int))) else none
def qr5 (fu:Nat):Nat->zff|0=>fun _ _=>none|n+1=>qwu fu (qr5 fu n)
def q01 (fu:Nat) (p0:List Bs):Option (Bs):=qr5 fu fu p0 (0:Int)
abbrev zj1:=Bs->Int->Int->wV->(List Bs)->Bs->Option qpd
def qt9 (rs107:q7t) (fu:Nat) (r0:zj1):zj1:=fun s5 s54 s55 m32 m33 m34=>bif decide (s55<s54) then bif decide (0<=s55/\s55.toNat<m33.length) then (m33[s55.toNat]?).bind fun y1=>bif decide (List.length ([45,45]:Bs)+s5.length<=qad) then bif decide (List.length (([45,45]:Bs)++s5)+List.length ([13,10]:Bs)<=qad) then bif decide (List.length (m34++((([45,45]:Bs)++s5)++([13,10]:Bs)))<=qaq) then bif decide (List.length ((m34++((([45,45]:Bs)++s5)++([13,10]:Bs)))++y1)<=qaq) then bif decide (List.length (((m34++((([45,45]:Bs)++s5)++([13,10]:Bs)))++y1)++([(13:UInt8),(10:UInt8)]:Bs))<=qaq) then r0 s5 s54 (w64 (s55+(1:Int))) m32 m33 (((m34++((([45,45]:Bs)++s5)++([13,10]:Bs)))++y1)++([(13:UInt8),(10:UInt8)]:Bs)) else none else none else none else none else none else none else bif decide (List.length ([45,45]:Bs)+s5.length<=qad) then bif decide (List.length (([45,45]:Bs)++s5)+List.length ([45,45,13,10]:Bs)<=qad) then bif decide (List.length (m34++((([45,45]:Bs)++s5)++([45,45,13,10]:Bs)))<=qaq) then some (m32,m34++((([45,45]:Bs)++s5)++([45,45,13,10]:Bs))) else none else none else none
def qk5 (rs107:q7t) (fu:Nat):Nat->zj1|0=>fun _ _ _ _ _ _=>none|n+1=>qt9 rs107 fu (qk5 rs107 fu n)
def qqo (rs107:q7t) (fu:Nat) (p0:Tree (wV×Bs)):Option qpd:=bif (p0.kids.length:Int)==(0:Int) then some p0.val else (qjx rs107 fu p0.kids).bind fun x1=>(q01 fu x1).bind fun x2=>(qke fu p0.val.1).bind fun x3=>sumK x3 (fun a4=>(qag []).bind fun x6=>bif decide (List.length (x6++([(([98,111,117,110,100,97,114,121]:Bs),x2)]:List (Bs×Bs)))<=qaq) then (qag p0.val.1).bind fun x7=>(qf3 fu (a4.1,(a4.2.1,x6++([(([98,111,117,110,100,97,114,121]:Bs),x2)]:List (Bs×Bs))))).bind fun x8=>bif decide (0<=a4.2.2.1/\a4.2.2.1.toNat<x7.length) then (x7[a4.2.2.1.toNat]?).bind fun y9=>qk5 rs107 fu fu x2 (x1.length:Int) (0:Int) (List.set x7 a4.2.2.1.toNat (y9.1,x8.1)) x1 [] else none else none) (fun b5=>(qag b5.2.2.2.2).bind fun x10=>bif decide (List.length (x10++([(([98,111,117,110,100,97,114,121]:Bs),x2)]:List (Bs×Bs)))<=qaq) then (qag p0.val.1).bind fun x11=>(qf3 fu (b5.1,(b5.2.1,x10++([(([98,111,117,110,100,97,114,121]:Bs),x2)]:List (Bs×Bs))))).bind fun x12=>bif decide (0<=b5.2.2.1/\b5.2.2.1.toNat<x11.length) then (x11[b5.2.2.1.toNat]?).bind fun y13=>qk5 rs107 fu fu x2 (x1.length:Int) (0:Int) (List.set x11 b5.2.2.1.toNat (y13.1,x12.1)) x1 [] else none else none)
def qqw (fu:Nat):Nat->q7t|0=>fun _=>none|n+1=>qqo (qqw fu n) fu
def q32 (fu:Nat) (p0:Tree (wV×Bs)):Option qpd:=qqw fu fu p0
abbrev zj3:=wV->Int->Int->Int->Int->(wV×Bs)->(List Bs)->Bs->Option (Bs)
abbrev q90:=wV->Int->Int->(wV×Bs)->Bs->Option (Bs)
def qsw (fu:Nat) (r0:q90) (r1:zj3):zj3:=fun s11 s12 s13 s26 s27 m32 m33 m34=>bif decide (s27<s26) then bif decide (0<=s27/\s27.toNat<m33.length) then (m33[s27.toNat]?).bind fun y1=>bif decide (List.length (m34++y1)<=qaq) then bif decide (List.length ((m34++y1)++([(13:UInt8),(10:UInt8)]:Bs))<=qaq) then r1 s11 s12 s13 s26 (w64 (s27+(1:Int))) m32 m33 ((m34++y1)++([(13:UInt8),(10:UInt8)]:Bs)) else none else none else none else r0 s11 s12 (w64 (s13+(1:Int))) m32 m34
def qng (fu:Nat) (r0:q90):Nat->zj3|0=>fun _ _ _ _ _ _ _ _=>none|n+1=>qsw fu r0 (qng fu r0 n)
def qso (fu:Nat) (r0:q90):q90:=fun s11 s12 s13 m32 m33=>bif decide (s13<s12) then (idx s11 s13).bind fun y1=>(qma fu y1.1 y1.2).bind fun x2=>qng fu r0 fu s11 s12 s13 (x2.2.length:Int) (0:Int) m32 x2.2 m33 else bif decide (List.length (m33++([(13:UInt8),(10:UInt8)]:Bs))<=qaq) then bif decide (List.length ((m33++([(13:UInt8),(10:UInt8)]:Bs))++m32.2)<=qaq) then some ((m33++([(13:UInt8),(10:UInt8)]:Bs))++m32.2) else none else none
def qmz (fu:Nat):Nat->q90|0=>fun _ _ _ _ _=>none|n+1=>qso fu (qmz fu n)
def qvw (fu:Nat) (p0:wV×Bs):Option (Bs):=qmz fu fu p0.1 (p0.1.length:Int) (0:Int) p0 []
def qxm (fu:Nat) (p0:Bs):Option ((Int×Int)):=(qp7 fu p0).bind fun x1=>bif x1==(11:Int) then (qae (11:Int) (-5:Int)).bind fun x2=>some x2 else bif x1==(1:Int) then (qae (1:Int) (-6:Int)).bind fun x3=>some x3 else (qa0).bind fun x4=>some x4
def qnn (fu:Nat) (p0:wV×Bs):Option ((Int×Int)):=(qhs fu p0.1).bind fun x1=>(qak x1).bind fun x2=>bif x2 then some x1 else (qvw fu p0).bind fun x3=>bif decide ((12000:Int)<(x3.length:Int)) then (qae (1:Int) (-4:Int)).bind fun x4=>some x4 else (qxm fu p0.2).bind fun x5=>some x5
abbrev q76:=(wV×Bs)×(Int×Int)
def q0u (fu:Nat) (p0:Tree (wV×Bs)):Option q76:=(qeh fu (Tree.node p0.val p0.kids)).bind fun x1=>(qak x1).bind fun x2=>bif x2 then some (([],[]),x1) else (q32 fu (Tree.node p0.val p0.kids)).bind fun x3=>(qag x3.1).bind fun x4=>(qag x3.2).bind fun x5=>(qnn fu (x4,x5)).bind fun x6=>(qak x6).bind fun x7=>bif x7 then (qae x6.1 (-3:Int)).bind fun x8=>some (([],[]),x8) else (qa0).bind fun x9=>some ((x4,x5),x9)
def qpl (fu:Nat) (p0:Bs×Bs):Option Bool:=(qb7 fu p0.1 ([98,111,117,110,100,97,114,121]:Bs)).bind fun x1=>some x1
abbrev zg2:=wV->Int->Int->Option Int
def qcu (fu:Nat) (r0:zg2):zg2:=fun s0 s7 s8=>bif decide (s8<s7) then (idx s0 s8).bind fun y1=>(qpl fu y1).bind fun x2=>bif x2 then some s8 else r0 s0 s7 (w64 (s8+(1:Int))) else some (-1:Int)
def qbc (fu:Nat):Nat->zg2|0=>fun _ _ _=>none|n+1=>qcu fu (qbc fu n)
def qbn (fu:Nat) (p0:List (Bs×Bs)):Option Int:=qbc fu fu p0 (p0.length:Int) (0:Int)
abbrev zjh:=wV->Int->Int->Option (wV)
def qdb (fu:Nat) (r0:zjh):zjh:=fun s0 s5 s6=>bif decide (s6<(s0.length:Int)) then (idx s0 s6).bind fun y1=>(qpl fu y1).bind fun x2=>bif !x2 then (idx s0 s5).bind fun y3=>none else r0 s0 s5 (w64 (s6+(1:Int))) else bif decide (0<=s5/\s5<=(s0.length:Int)) then none else none
def qbg (fu:Nat):Nat->zjh|0=>fun _ _ _=>none|n+1=>qdb fu (qbg fu n)
def qd1 (fu:Nat) (p0:List (Bs×Bs)):Option (wV):=(qbn fu p0).bind fun x1=>bif x1==(-1:Int) then some p0 else qbg fu fu p0 x1 (w64 (x1+(1:Int)))
abbrev zf6:=Int->Int->wV->Option (wV)
def qcn (fu:Nat) (r0:zf6):zf6:=fun s5 s6 m32=>bif decide (s6<(m32.length:Int)) then bif decide (0<=s6/\s6.toNat<m32.length) then (m32[s6.toNat]?).bind fun y1=>(qpl fu y1).bind fun x2=>bif !x2 then bif decide (0<=s5/\s5.toNat<m32.length) then (m32[s5.toNat]?).bind fun y3=>r0 (w64 (s5+(1:Int))) (w64 (s6+(1:Int))) (List.set m32 s5.toNat y1) else none else r0 s5 (w64 (s6+(1:Int))) m32 else none else bif decide (0<=s5/\s5.toNat<m32.length) then bif decide (0<=s5/\s5<=(List.length (List.take s5.toNat m32++List.replicate (m32.length-s5.toNat) (([]:Bs),([]:Bs))):Int)) then some (List.take s5.toNat (List.take s5.toNat m32++List.replicate (m32.length-s5.toNat) (([]:Bs),([]:Bs)))) else none else none
def qa8 (fu:Nat):Nat->zf6|0=>fun _ _ _=>none|n+1=>qcn fu (qa8 fu n)
def qc8 (fu:Nat) (p0:List (Bs×Bs)):Option (wV):=(qbn fu p0).bind fun x1=>bif x1==(-1:Int) then some p0 else qa8 fu fu x1 (w64 (x1+(1:Int))) p0
abbrev q9i:=Bool×wV
def qvz (fu:Nat) (p0:List (Bs×Bs)):Option q9i:=(qke fu p0).bind fun x1=>sumK x1 (fun a2=>(qd1 fu []).bind fun x4=>(qf3 fu (a2.1,(a2.2.1,x4))).bind fun x5=>(qak x5.2).bind fun x6=>bif x6 then some (false,[]) else (qag p0).bind fun x7=>bif decide (0<=a2.2.2.1/\a2.2.2.1.toNat<x7.length) then (x7[a2.2.2.1.toNat]?).bind fun y8=>some (true,List.set x7 a2.2.2.1.toNat (y8.1,x5.1)) else none) (fun b3=>(qc8 fu b3.2.2.2.2).bind fun x9=>(qf3 fu (b3.1,(b3.2.1,x9))).bind fun x10=>(qak x10.2).bind fun x11=>bif x11 then some (false,[]) else (qag p0).bind fun x12=>bif decide (0<=b3.2.2.1/\b3.2.2.1.toNat<x12.length) then (x12[b3.2.2.1.toNat]?).bind fun y13=>some (true,List.set x12 b3.2.2.1.toNat (y13.1,x10.1)) else none)
def qt2 (p0:Bs) (p1:UInt8):Option Int:=(qbv p0 p1).bind fun x1=>some x1
def qy6 (p0:Bs) (p1:Bs):Option Bool:=some (p0==p1)
def qt5 (p0:Bs) (p1:Bs):Option Bool:=bif decide ((p1.length:Int)<=(p0.length:Int)) then bif decide (0<=w64 ((p0.length:Int)-(p1.length:Int))/\w64 ((p0.length:Int)-(p1.length:Int))<=(p0.length:Int)) then (qy6 (List.drop (w64 ((p0.length:Int)-(p1.length:Int))).toNat p0) p1).bind fun x1=>some x1 else none else some false
def qsq (p0:Bs) (p1:Bs):Option (Bs):=(qt5 p0 p1).bind fun x1=>bif x1 then bif decide (0<=w64 ((p0.length:Int)-(p1.length:Int))/\w64 ((p0.length:Int)-(p1.length:Int))<=(p0.length:Int)) then some (List.take (w64 ((p0.length:Int)-(p1.length:Int))).toNat p0) else none else some p0
def qzr (p0:Bs):Option (Bs×Int):=(qt2 p0 (10:UInt8)).bind fun x1=>bif decide (x1<(0:Int)) then some (p0,(p0.length:Int)) else bif decide (0<=x1/\x1<=(p0.length:Int)) then bif decide (0<List.length ([(13:UInt8)]:Bs)) then (qsq (List.take x1.toNat p0) ([(13:UInt8)]:Bs)).bind fun x2=>some (x2,w64 (x1+(1:Int))) else none else none
def qy8 (fu:Nat) (p0:Bs):Option Bool:=(qma fu p0 ([]:Bs)).bind fun x1=>(qak x1.1).bind fun x2=>some (!x2)
def qwh (fu:Nat) (p0:Bs):Option ((Bs×Bs)×Bool):=(qmq p0 ([58]:Bs)).bind fun x1=>(qfj fu x1.1 ([32,9]:Bs)).bind fun x2=>bif x1.2.2 then (qy8 fu x2).bind fun x3=>some ((x2,x1.2.1),x3) else some ((x2,x1.2.1),false)
abbrev zzd:=Bs->Bs->Option (Bs)
abbrev z1p:=Bs->Bs->Bool->Option (Bs)
abbrev zwm:=Bs->Bs->Option (Bs)
abbrev zv1:=Bs->Bs->Bool->Option (Bs)
def qtw (fu:Nat):zzd:=fun s0 s1=>(qca fu s1).bind fun x1=>bif decide (x1.1.length=List.length (List.replicate 256 false))&&decide (x1.1.length=256) then bif x1.2 then (qea fu s0 x1.1).bind fun x2=>(qep fu x2.1 x2.2).bind fun x3=>some x3.1 else (qft fu s0 s1).bind fun x4=>(qgp fu x4 s1).bind fun x5=>some x5 else none
def qn6 (fu:Nat):z1p:=fun s0 s1 s21=>bif s21 then (idx s1 (0:Int)).bind fun c1=>(qik fu s0 c1).bind fun x2=>(idx s1 (0:Int)).bind fun c3=>(qjs fu x2 c3).bind fun x4=>some x4 else qtw fu s0 s1
def qt1 (fu:Nat):zwm:=fun s0 s1=>bif (s1.length:Int)==(1:Int) then (idx s1 (0:Int)).bind fun c1=>qn6 fu s0 s1 (decide (c1<(128:UInt8))) else qn6 fu s0 s1 false
def qn0 (fu:Nat):zv1:=fun s0 s1 s12=>bif s12 then some s0 else qt1 fu s0 s1
def qtd (fu:Nat) (p0:Bs) (p1:Bs):Option (Bs):=bif p0==([]:Bs) then qn0 fu p0 p1 true else qn0 fu p0 p1 (p1==([]:Bs))
abbrev qip:=Int×(Int×Int)×wV
abbrev zhn:=Int->Int->Int->(Int×Int)->wV->Int->Int->Int->Bs->Option qip
abbrev zfj:=Int->Int->(Int×Int)->Int->Int->Int->(List Bs)->wV->Option qip
abbrev zx1:=Int->(Int×Int)->wV->Option qip
abbrev z17:=Bs->Int->Bs->Int->(Int×Int)->wV->Option qip
abbrev zu9:=Bs->Int->Bs->Int->Bool->(Int×Int)->wV->Option qip
abbrev q9o:=Bs->Int->(Int×Int)->wV->Option qip
def qvi (fu:Nat) (r5:zhn):zhn:=fun s6 s77 s78 m32 m33 m34_0 m34_1 m34_2 m35=>bif decide (s78<s77) then bif decide (0<=s78/\s78.toNat<m33.length) then (m33[s78.toNat]?).bind fun y1=>(qp5 fu y1.2 m34_0 m34_1 m34_2 m35).bind fun x2=>(qtd fu x2.1 ([32,9]:Bs)).bind fun x3=>bif decide ((4000:Int)<(x3.length:Int)) then (qae (1:Int) s78).bind fun x4=>some ((0:Int),(x4,[])) else bif decide (0<=s78/\s78.toNat<m33.length) then (m33[s78.toNat]?).bind fun y5=>r5 s6 s77 (w64 (s78+(1:Int))) m32 (List.set m33 s78.toNat (y5.1,x3)) x2.2.1 x2.2.2.1 x2.2.2.2.1 x2.2.2.2.2 else none else none else (qa0).bind fun x6=>some (s6,(x6,m33))
def qq3 (fu:Nat):Nat->zhn|0=>fun _ _ _ _ _ _ _ _ _=>none|n+1=>qvi fu (qq3 fu n)
def qvc (fu:Nat) (r3:zfj):zfj:=fun s6 s77 m32 m33_0 m33_1 m33_2 m34 m35=>bif decide ((0:Int)<s77) then bif decide (0<=(0:Int)/\(0:Int).toNat<m35.length) then (m35[(0:Int).toNat]?).bind fun y1=>(qp6 fu y1.2 m33_0 m33_1 m33_2 m34).bind fun x2=>(qtd fu x2.1 ([32,9]:Bs)).bind fun x3=>bif decide ((4000:Int)<(x3.length:Int)) then (qae (1:Int) (0:Int)).bind fun x4=>some ((0:Int),(x4,[])) else bif decide (0<=(0:Int)/\(0:Int).toNat<m35.length) then (m35[(0:Int).toNat]?).bind fun y5=>qq3 fu fu s6 s77 (1:Int) m32 (List.set m35 ((0:Int).toNat) (y5.1,x3)) x2.2.1 x2.2.2.1 x2.2.2.2.1 x2.2.2.2.2 else none else none else (qa0).bind fun x6=>some (s6,(x6,m35))
def qqz (fu:Nat):Nat->zfj|0=>fun _ _ _ _ _ _ _ _=>none|n+1=>qvc fu (qqz fu n)
def qly (fu:Nat):zx1:=fun s6 m32 m33=>bif decide ((60:Int)<(m33.length:Int)) then (qae (2:Int) (-2:Int)).bind fun x1=>some ((0:Int),(x1,[])) else (qgj ([([0]:Bs),([32]:Bs),([13]:Bs),([32]:Bs)]:List Bs)).bind fun x2=>qqz fu fu s6 (m33.length:Int) m32 x2.1 x2.2.1 x2.2.2.1 x2.2.2.2 m33
def qu9 (fu:Nat) (r0:q9o):z17:=fun s0 s6 s7 s8 m32 m33=>(qwh fu s7).bind fun x1=>bif !x1.2 then qly fu s6 m32 m33 else bif decide (List.length (m33++([x1.1]:List (Bs×Bs)))<=qaq) then r0 s0 (w64 (s6+s8)) m32 (m33++([x1.1]:List (Bs×Bs))) else none
def qqt (fu:Nat) (r0:q9o):zu9:=fun s0 s6 s7 s8 s41 m32 m33=>bif s41 then bif decide (0<=w64 ((m33.length:Int)-(1:Int))/\(w64 ((m33.length:Int)-(1:Int))).toNat<m33.length) then (m33[(w64 ((m33.length:Int)-(1:Int))).toNat]?).bind fun y1=>bif decide (y1.2.length+s7.length<=qad) then bif decide (0<=w64 ((m33.length:Int)-(1:Int))/\(w64 ((m33.length:Int)-(1:Int))).toNat<m33.length) then (m33[(w64 ((m33.length:Int)-(1:Int))).toNat]?).bind fun y2=>r0 s0 (w64 (s6+s8)) m32 (List.set m33 ((w64 ((m33.length:Int)-(1:Int))).toNat) (y2.1,y1.2++s7)) else none else none else none else qu9 fu r0 s0 s6 s7 s8 m32 m33
def qve (fu:Nat) (r0:q9o):q9o:=fun s0 s6 m32 m33=>bif decide (s6<(s0.length:Int)) then bif decide (0<=s6/\s6<=(s0.length:Int)) then (qzr (List.drop s6.toNat s0)).bind fun x1=>bif x1.1==([]:Bs) then qly fu (w64 (s6+x1.2)) m32 m33 else (idx x1.1 (0:Int)).bind fun c2=>(qgc c2).bind fun x3=>bif x3 then qqt fu r0 s0 s6 x1.1 x1.2 (decide ((0:Int)<(m33.length:Int))) m32 m33 else qqt fu r0 s0 s6 x1.1 x1.2 false m32 m33 else none else qly fu s6 m32 m33
def qqn (fu:Nat):Nat->q9o|0=>fun _ _ _ _=>none|n+1=>qve fu (qqn fu n)
def qzw (fu:Nat) (p0:Bs):Option qip:=bif decide ((12000:Int)<(p0.length:Int)) then (qae (1:Int) (-1:Int)).bind fun x1=>some ((0:Int),(x1,[])) else qqn fu fu p0 (0:Int) ((0:Int),(0:Int)) []
abbrev qkr:=wU×Bool×(Int×Int×Int)
abbrev zio:=Bs->Int->(Int×Int×Int)->Option qkr
abbrev qmc:=wU×Bool×(Int×Int×Int)
abbrev zi9:=Int->Int->Int->(Int×Int×Int)->(List Bs)->wV->(List wU)->Option qmc
def qkk (rs129:zio) (fu:Nat) (r0:zi9):zi9:=fun s3 s49 s50 m0 m34 m35 m36=>bif decide (s50<s49) then bif decide (0<=s50/\s50.toNat<m34.length) then (m34[s50.toNat]?).bind fun y1=>(rs129 y1 (w64 (s3+(1:Int))) m0).bind fun x2=>bif !x2.2.1 then some ((Tree.node ([],[]) []),(false,x2.2.2)) else bif decide (List.length (m36++([(Tree.node x2.1.val x2.1.kids)]:List wU))<=qaq) then r0 s3 s49 (w64 (s50+(1:Int))) x2.2.2 m34 m35 (m36++([(Tree.node x2.1.val x2.1.kids)]:List wU)) else none else none else some ((Tree.node (m35,[]) m36),(true,m0))
def qfh (rs129:zio) (fu:Nat):Nat->zi9|0=>fun _ _ _ _ _ _ _=>none|n+1=>qkk rs129 fu (qfh rs129 fu n)
def qmh (rs129:zio) (fu:Nat) (p0:Bs) (p1:Int) (p2:Int×Int×Int) (p3:List (Bs×Bs)):Option qmc:=(qag p3).bind fun x1=>(qag p0).bind fun x2=>(qk2 fu p3 p0 p1).bind fun x3=>bif (x3.length:Int)==(0:Int) then some ((Tree.node (x1,x2) []),(true,(w64 (p2.1+(1:Int)),p2.2))) else (qvz fu p3).bind fun x4=>bif !x4.1 then some ((Tree.node (x1,x2) []),(true,(w64 (p2.1+(1:Int)),p2.2))) else qfh rs129 fu fu p1 (x3.length:Int) (0:Int) (w64 (p2.1+(1:Int)),p2.2) x3 x4.2 []
def qih (rs129:zio) (fu:Nat) (p0:Bs) (p1:Int) (p2:Int×Int×Int):Option qkr:=(qzw fu p0).bind fun x1=>(qak x1.2.1).bind fun x2=>bif x2 then (qae x1.2.1.1 (-8:Int)).bind fun x3=>some ((Tree.node ([],[]) []),(false,(p2.1,x3))) else bif p2.1==(40:Int) then (qae (2:Int) (-7:Int)).bind fun x4=>some ((Tree.node ([],[]) []),(false,(p2.1,x4))) else bif decide (0<=x1.1/\x1.1<=(p0.length:Int)) then (qmh rs129 fu (List.drop x1.1.toNat p0) p1 p2 x1.2.2).bind fun x5=>some ((Tree.node x5.1.val x5.1.kids),x5.2) else none
def qiu (fu:Nat):Nat->zio|0=>fun _ _ _=>none|n+1=>qih (qiu fu n) fu
def qvy (fu:Nat) (p0:Bs) (p1:Int) (p2:Int×Int×Int):Option qkr:=qiu fu fu p0 p1 p2
abbrev qqb:=wU×Bool×(Int×Int×Int)
abbrev zjj:=Int->Int->Int->(Int×Int×Int)->(List Bs)->wV->(List wU)->Option qqb
def qmn (fu:Nat) (r0:zjj):zjj:=fun s3 s49 s50 m0 m34 m35 m36=>bif decide (s50<s49) then bif decide (0<=s50/\s50.toNat<m34.length) then (m34[s50.toNat]?).bind fun y1=>(qvy fu y1 (w64 (s3+(1:Int))) m0).bind fun x2=>bif !x2.2.1 then some ((Tree.node ([],[]) []),(false,x2.2.2)) else bif decide (List.length (m36++([(Tree.node x2.1.val x2.1.kids)]:List wU))<=qaq) then r0 s3 s49 (w64 (s50+(1:Int))) x2.2.2 m34 m35 (m36++([(Tree.node x2.1.val x2.1.kids)]:List wU)) else none else none else some ((Tree.node (m35,[]) m36),(true,m0))
def qhb (fu:Nat):Nat->zjj|0=>fun _ _ _ _ _ _ _=>none|n+1=>qmn fu (qhb fu n)
def qp9 (fu:Nat) (p0:List (Bs×Bs)) (p1:Bs) (p2:Int) (p3:Int×Int×Int):Option qqb:=(qag p0).bind fun x1=>(qag p1).bind fun x2=>(qk2 fu p0 p1 p2).bind fun x3=>bif (x3.length:Int)==(0:Int) then some ((Tree.node (x1,x2) []),(true,(w64 (p3.1+(1:Int)),p3.2))) else (qvz fu p0).bind fun x4=>bif !x4.1 then some ((Tree.node (x1,x2) []),(true,(w64 (p3.1+(1:Int)),p3.2))) else qhb fu fu p2 (x3.length:Int) (0:Int) (w64 (p3.1+(1:Int)),p3.2) x3 x4.2 []
abbrev q7n:=wU×(Int×Int)
def qy0 (fu:Nat) (p0:wV×Bs):Option q7n:=(qnn fu p0).bind fun x1=>(qak x1).bind fun x2=>bif x2 then some ((Tree.node ([],[]) []),x1) else (qp9 fu p0.1 p0.2 (0:Int) ((0:Int),((0:Int),(0:Int)))).bind fun x3=>bif !x3.2.1 then some ((Tree.node ([],[]) []),x3.2.2.2) else (qeh fu (Tree.node x3.1.val x3.1.kids)).bind fun x4=>(qak x4).bind fun x5=>bif x5 then (qae x4.1 (-9:Int)).bind fun x6=>some ((Tree.node ([],[]) []),x6) else (qa0).bind fun x7=>some ((Tree.node x3.1.val x3.1.kids),x7)
abbrev qwk:=wU
abbrev zgd:=wU->Option qwk
abbrev qgy:=(List wU)
abbrev zi1:=(List wU)->Int->Int->(List wU)->Option qgy
def qci (rs141:zgd) (fu:Nat) (r0:zi1):zi1:=fun s8 s9 s10 m32=>bif decide (s10<s9) then (idx s8 s10).bind fun y1=>(rs141 (Tree.node y1.val y1.kids)).bind fun x2=>bif decide (List.length (m32++([(Tree.node x2.val x2.kids)]:List wU))<=qaq) then r0 s8 s9 (w64 (s10+(1:Int))) (m32++([(Tree.node x2.val x2.kids)]:List wU)) else none else some m32
def qay (rs141:zgd) (fu:Nat):Nat->zi1|0=>fun _ _ _ _=>none|n+1=>qci rs141 fu (qay rs141 fu n)
def qdd (rs141:zgd) (fu:Nat) (p0:List wU):Option qgy:=qay rs141 fu fu p0 (p0.length:Int) (0:Int) []
def qpi (rs141:zgd) (fu:Nat) (p0:Tree (wV×Bs)):Option qwk:=(qag p0.val.1).bind fun x1=>(qag p0.val.2).bind fun x2=>(qdd rs141 fu p0.kids).bind fun x3=>some (Tree.node (x1,x2) x3)
def qjg (fu:Nat):Nat->zgd|0=>fun _=>none|n+1=>qpi (qjg fu n) fu
def qwj (fu:Nat) (p0:Tree (wV×Bs)):Option qwk:=qjg fu fu p0
abbrev qrv:=wU×(Int×Int)
abbrev zyf:=Int->Int->Int->Int->Bool->wU->(Int×Int)->(List Int)->Option qrv
abbrev zdb:=Int->Int->wU->(Int×Int)->(List Int)->Option qrv
def qef (fu:Nat) (r0:zdb):zyf:=fun s7 s8 s16 s17 s30 m32 m34 m35=>bif s30 then (qae (3:Int) s7).bind fun x1=>some ((Tree.node ([],[]) []),x1) else (idx m32.kids s8).bind fun y2=>r0 s16 (w64 (s17+(1:Int))) (Tree.node y2.val y2.kids) m34 m35
def qnl (fu:Nat) (r0:zdb):zdb:=fun s16 s17 m32 m34 m35=>bif decide (s17<s16) then bif decide (0<=s17/\s17.toNat<m35.length) then (m35[s17.toNat]?).bind fun y1=>bif decide (y1<(0:Int)) then qef fu r0 s17 y1 s16 s17 true (Tree.node m32.val m32.kids) m34 m35 else qef fu r0 s17 y1 s16 s17 (decide ((m32.kids.length:Int)<=y1)) (Tree.node m32.val m32.kids) m34 m35 else none else (qwj fu (Tree.node m32.val m32.kids)).bind fun x2=>(qa0).bind fun x3=>some ((Tree.node x2.val x2.kids),x3)
def qee (fu:Nat):Nat->zdb|0=>fun _ _ _ _ _=>none|n+1=>qnl fu (qee fu n)
def qkp (fu:Nat) (p0:Tree (wV×Bs)) (p1:List Int):Option qrv:=(qeh fu (Tree.node p0.val p0.kids)).bind fun x1=>(qak x1).bind fun x2=>bif x2 then some ((Tree.node ([],[]) []),x1) else qee fu fu (p1.length:Int) (0:Int) (Tree.node p0.val p0.kids) ((0:Int),(0:Int)) p1
abbrev zi0:=wV->wV->Int->Option Bool
def qm1 (fu:Nat) (r0:zi0):zi0:=fun s0 s1 s5=>bif decide (s5<(s0.length:Int)) then (idx s0 s5).bind fun y1=>(idx s1 s5).bind fun y2=>bif !((y1.1==y2.1)&&((y1.2==y2.2)&&true)) then some false else r0 s0 s1 (w64 (s5+(1:Int))) else some true
def qgg (fu:Nat):Nat->zi0|0=>fun _ _ _=>none|n+1=>qm1 fu (qgg fu n)
def qm0 (fu:Nat) (p0:List (Bs×Bs)) (p1:List (Bs×Bs)):Option Bool:=bif (p0.length:Int) != (p1.length:Int) then some false else qgg fu fu p0 p1 (0:Int)
def qxb (p0:Bs) (p1:Bs):Option Bool:=some (p0==p1)
abbrev zel:=wU->wU->Option Bool
abbrev zgr:=Int->wU->wU->Option Bool
abbrev zwv:=wU->wU->Option Bool
abbrev z02:=Bool->wU->wU->Option Bool
def qqi (rs143:zel) (fu:Nat) (r2:zgr):zgr:=fun s5 m32 m33=>bif decide (s5<(m32.kids.length:Int)) then (idx m32.kids s5).bind fun y1=>(idx m33.kids s5).bind fun y2=>(rs143 (Tree.node y1.val y1.kids) (Tree.node y2.val y2.kids)).bind fun x3=>bif !x3 then some false else r2 (w64 (s5+(1:Int))) (Tree.node m32.val m32.kids) (Tree.node m33.val m33.kids) else some true
def qi5 (rs143:zel) (fu:Nat):Nat->zgr|0=>fun _ _ _=>none|n+1=>qqi rs143 fu (qi5 rs143 fu n)
def qqe (rs143:zel) (fu:Nat):zwv:=fun m32 m33=>qi5 rs143 fu fu (0:Int) (Tree.node m32.val m32.kids) (Tree.node m33.val m33.kids)
def qix (rs143:zel) (fu:Nat):z02:=fun s28 m32 m33=>bif s28 then some false else qqe rs143 fu (Tree.node m32.val m32.kids) (Tree.node m33.val m33.kids)
def qnd (rs143:zel) (fu:Nat) (p0:Tree (wV×Bs)) (p1:Tree (wV×Bs)):Option Bool:=(qm0 fu p0.val.1 p1.val.1).bind fun x1=>bif !x1 then qix rs143 fu true (Tree.node p0.val p0.kids) (Tree.node p1.val p1.kids) else (qxb p0.val.2 p1.val.2).bind fun x2=>bif !x2 then qix rs143 fu true (Tree.node p0.val p0.kids) (Tree.node p1.val p1.kids) else qix rs143 fu ((p0.kids.length:Int) != (p1.kids.length:Int)) (Tree.node p0.val p0.kids) (Tree.node p1.val p1.kids)
def qh7 (fu:Nat):Nat->zel|0=>fun _ _=>none|n+1=>qnd (qh7 fu n) fu
def qrk (fu:Nat) (p0:Tree (wV×Bs)) (p1:Tree (wV×Bs)):Option Bool:=qh7 fu fu p0 p1
def qoi (fu:Nat):Option Bool:=(q3r).bind fun x1=>(q0u fu (Tree.node x1.val x1.kids)).bind fun x2=>(qy0 fu x2.1).bind fun x3=>(qkp fu (Tree.node x3.1.val x3.1.kids) ([(1:Int)]:List Int)).bind fun x4=>bif x2.2.1==(0:Int) then bif x3.2.1==(0:Int) then bif x4.2.1==(0:Int) then bif (x2.1.1.length:Int)==(1:Int) then (idx x2.1.1 (0:Int)).bind fun y5=>bif y5.2==([109,117,108,116,105,112,97,114,116,47,109,105,120,101,100,59,32,98,111,117,110,100,97,114,121,61,98,48]:Bs) then bif x2.1.2==([45,45,98,48,13,10,13,10,97,13,10,45,45,98,48,13,10,13,10,98,13,10,13,10,45,45,98,48,45,45,13,10]:Bs) then (q3r).bind fun x6=>(qrk fu (Tree.node x3.1.val x3.1.kids) (Tree.node x6.val x6.kids)).bind fun x7=>bif x7 then some (x4.1.val.2==([98,13,10]:Bs)) else some false else some false else some false else some false else some false else some false else some false
abbrev qyq:=(List wU)×(List Int)
abbrev zn0:=wU->Int->Option qyq
abbrev zgk:=Int->Int->wU->(List wU)->(List Int)->Option qyq
def qvx (rs147:zn0) (fu:Nat) (r0:zgk):zgk:=fun s1 s8 m32 m33 m34=>bif decide (s8<(m32.kids.length:Int)) then (idx m32.kids s8).bind fun y1=>(rs147 (Tree.node y1.val y1.kids) (w64 (s1+(1:Int)))).bind fun x2=>bif decide (List.length (m33++x2.1)<=qaq) then bif decide (List.length (m34++x2.2)<=qaq) then r0 s1 (w64 (s8+(1:Int))) (Tree.node m32.val m32.kids) (m33++x2.1) (m34++x2.2) else none else none else some (m33,m34)
def qp1 (rs147:zn0) (fu:Nat):Nat->zgk|0=>fun _ _ _ _ _=>none|n+1=>qvx rs147 fu (qp1 rs147 fu n)
def qui (rs147:zn0) (fu:Nat) (p0:Tree (wV×Bs)) (p1:Int):Option qyq:=qp1 rs147 fu fu p1 (0:Int) (Tree.node p0.val p0.kids) ([(Tree.node p0.val p0.kids)]:List wU) ([p1]:List Int)
def qot (fu:Nat):Nat->zn0|0=>fun _ _=>none|n+1=>qui (qot fu n) fu
def q79 (fu:Nat) (p0:Tree (wV×Bs)) (p1:Int):Option qyq:=qot fu fu p0 p1
def qib (p0:Int) (p1:Int):Option ((Int×Int)):=some (p0,p1)
def qfk (p0:Int) (p1:Int) (p2:Int):Option Bool:=bif decide (p1<=p0) then some (decide (p0<=p2)) else some false
abbrev zhd:=Bs->Int->Option Bool
def qo3 (fu:Nat) (r0:zhd):zhd:=fun s0 s3=>bif decide (s3<(s0.length:Int)) then (idx s0 s3).bind fun c1=>(qfk (c1.toNat:Int) (33:Int) (126:Int)).bind fun x2=>bif !x2 then some false else (idx s0 s3).bind fun c3=>bif c3==(58:UInt8) then some false else r0 s0 (w64 (s3+(1:Int))) else (qfk (s0.length:Int) (1:Int) (60:Int)).bind fun x4=>some x4
def qh2 (fu:Nat):Nat->zhd|0=>fun _ _=>none|n+1=>qo3 fu (qh2 fu n)
def qpk (fu:Nat) (p0:Bs):Option Bool:=qh2 fu fu p0 (0:Int)
abbrev zke:=UInt8->Bs->Int->Option Bool
def qrd (fu:Nat) (r0:zke):zke:=fun s0 s1 s5=>bif decide (s5<(s1.length:Int)) then (idx s1 s5).bind fun c1=>bif c1==s0 then some true else r0 s0 s1 (w64 (s5+(1:Int))) else some false
def qkz (fu:Nat):Nat->zke|0=>fun _ _ _=>none|n+1=>qrd fu (qkz fu n)
def qmj (fu:Nat) (p0:UInt8) (p1:Bs):Option Bool:=qkz fu fu p0 p1 (0:Int)
def qkx (p0:UInt8):Option Bool:=bif p0==(32:UInt8) then some true else some (p0==(9:UInt8))
abbrev zwl:=Bs->Option (Bs)
abbrev zgb:=Bs->Option (Bs)
abbrev zxg:=Bs->Bool->Option (Bs)
abbrev q9k:=Bs->Option (Bs)
def qv3 (fu:Nat) (r0:q9k):zwl:=fun s0=>bif decide (0<=(1:Int)/\(1:Int)<=(s0.length:Int)) then r0 (List.drop (1:Int).toNat s0) else none
def qv7 (fu:Nat) (r3:zgb):zgb:=fun s0=>bif decide ((0:Int)<(s0.length:Int)) then (idx s0 (w64 ((s0.length:Int)-(1:Int)))).bind fun c1=>(qkx c1).bind fun x2=>bif x2 then bif decide (0<=w64 ((s0.length:Int)-(1:Int))/\w64 ((s0.length:Int)-(1:Int))<=(s0.length:Int)) then r3 (List.take (w64 ((s0.length:Int)-(1:Int))).toNat s0) else none else some s0 else some s0
def qqc (fu:Nat):Nat->zgb|0=>fun _=>none|n+1=>qv7 fu (qqc fu n)
def qp0 (fu:Nat) (r0:q9k):zxg:=fun s0 s10=>bif s10 then qv3 fu r0 s0 else qqc fu fu s0
def qv0 (fu:Nat) (r0:q9k):q9k:=fun s0=>bif decide ((0:Int)<(s0.length:Int)) then (idx s0 (0:Int)).bind fun c1=>(qkx c1).bind fun x2=>qp0 fu r0 s0 x2 else qp0 fu r0 s0 false
def qp3 (fu:Nat):Nat->q9k|0=>fun _=>none|n+1=>qv0 fu (qp3 fu n)
def q26 (fu:Nat) (p0:Bs):Option (Bs):=qp3 fu fu p0
abbrev zgh:=Bs->Int->Option Int
def qoz (fu:Nat) (r0:zgh):zgh:=fun s1 s5=>bif decide (s5<(s1.length:Int)) then (idx s1 s5).bind fun c1=>(qmj fu c1 ([13,10,0]:Bs)).bind fun x2=>bif x2 then some (11:Int) else r0 s1 (w64 (s5+(1:Int))) else (q26 fu s1).bind fun x3=>bif !(x3==s1) then some (11:Int) else some (0:Int)
def qe3 (fu:Nat):Nat->zgh|0=>fun _ _=>none|n+1=>qoz fu (qe3 fu n)
def qlv (fu:Nat) (p0:Bs) (p1:Bs):Option Int:=(qpk fu p0).bind fun x1=>bif !x1 then some (10:Int) else bif decide ((4000:Int)<(p1.length:Int)) then some (1:Int) else qe3 fu fu p1 (0:Int)
abbrev z0z:=Bs->Int->(List Int)->Option ((List Bs))
abbrev z27:=Bs->Int->Bool->(List Int)->Option ((List Bs))
abbrev zzo:=Bs->Int->Int->Int->(List Int)->(List Bs)->Option ((List Bs))
abbrev z2e:=Bs->Int->Int->Int->Int->Bool->(List Int)->(List Bs)->Option ((List Bs))
abbrev q8e:=Bs->Int->Int->Int->(List Int)->(List Bs)->Option ((List Bs))
abbrev q2x:=Bs->Int->(List Int)->(List Bs)->Option ((List Bs))
abbrev q9n:=Bs->Int->(List Int)->Option ((List Bs))
def qpj (fu:Nat) (r0:q9n):z0z:=fun s5 s7 m32=>r0 s5 (w64 (s7+(1:Int))) m32
def qpx (fu:Nat) (r0:q9n):z27:=fun s5 s7 s37 m32=>bif s37 then bif decide (List.length (m32++([s7]:List Int))<=qaq) then qpj fu r0 s5 s7 (m32++([s7]:List Int)) else none else qpj fu r0 s5 s7 m32
def qpm (fu:Nat) (r2:q2x) (r4:q8e):zzo:=fun s5 s9 s10 s11 m32 m33=>r4 s5 s9 s10 (w64 (s11+(1:Int))) m32 m33
def qlo (fu:Nat) (r2:q2x) (r4:q8e):z2e:=fun s5 s9 s10 s11 s12 s69 m32 m33=>bif s69 then qpm fu r2 r4 s5 s9 s12 s11 m32 m33 else qpm fu r2 r4 s5 s9 s10 s11 m32 m33
def qtf (fu:Nat) (r2:q2x) (r4:q8e):q8e:=fun s5 s9 s10 s11 m32 m33=>bif decide (s11<(m32.length:Int)) then bif decide (0<=s11/\s11.toNat<m32.length) then (m32[s11.toNat]?).bind fun y1=>bif decide (s9<y1) then bif decide ((w64 (y1-s9))<=(78:Int)) then qlo fu r2 r4 s5 s9 s10 s11 y1 true m32 m33 else qlo fu r2 r4 s5 s9 s10 s11 y1 (decide (s10<(0:Int))) m32 m33 else qlo fu r2 r4 s5 s9 s10 s11 y1 false m32 m33 else none else bif decide (s10<(0:Int)) then bif decide (0<=s9/\s9<=(s5.length:Int)) then bif decide (List.length (m33++([List.drop s9.toNat s5]:List Bs))<=qaq) then some (m33++([List.drop s9.toNat s5]:List Bs)) else none else none else bif decide (0<=s9/\s9<=s10/\s10<=(s5.length:Int)) then bif decide (List.length (m33++([List.take (s10.toNat-s9.toNat) (List.drop s9.toNat s5)]:List Bs))<=qaq) then r2 s5 s10 m32 (m33++([List.take (s10.toNat-s9.toNat) (List.drop s9.toNat s5)]:List Bs)) else none else none
def qgr (fu:Nat) (r2:q2x):Nat->q8e|0=>fun _ _ _ _ _ _=>none|n+1=>qtf fu r2 (qgr fu r2 n)
def qpg (fu:Nat) (r2:q2x):q2x:=fun s5 s9 m32 m33=>bif decide ((78:Int)<(w64 ((s5.length:Int)-s9))) then qgr fu r2 fu s5 s9 (-1:Int) (0:Int) m32 m33 else bif decide (0<=s9/\s9<=(s5.length:Int)) then bif decide (List.length (m33++([List.drop s9.toNat s5]:List Bs))<=qaq) then some (m33++([List.drop s9.toNat s5]:List Bs)) else none else none
def qdx (fu:Nat):Nat->q2x|0=>fun _ _ _ _=>none|n+1=>qpg fu (qdx fu n)
def qph (fu:Nat) (r0:q9n):q9n:=fun s5 s7 m32=>bif decide (s7<(s5.length:Int)) then (idx s5 s7).bind fun c1=>(qkx c1).bind fun x2=>bif x2 then (idx s5 (w64 (s7-(1:Int)))).bind fun c3=>(qkx c3).bind fun x4=>qpx fu r0 s5 s7 (!x4) m32 else qpx fu r0 s5 s7 false m32 else qdx fu fu s5 (0:Int) m32 []
def qjb (fu:Nat):Nat->q9n|0=>fun _ _ _=>none|n+1=>qph fu (qjb fu n)
def qum (fu:Nat) (p0:Bs) (p1:Bs):Option ((List Bs)):=bif decide (p0.length+List.length ([58,32]:Bs)<=qad) then bif decide (List.length (p0++([58,32]:Bs))+p1.length<=qad) then qjb fu fu ((p0++([58,32]:Bs))++p1) (w64 ((p0.length:Int)+(3:Int))) [] else none else none
abbrev zho:=Int->(Int×Int)->(List Bs)->Option ((Int×Int))
def qoa (fu:Nat) (r0:zho):zho:=fun s6 m32 m33=>bif decide (s6<(m33.length:Int)) then bif decide (0<=s6/\s6.toNat<m33.length) then (m33[s6.toNat]?).bind fun y1=>bif decide ((998:Int)<(y1.length:Int)) then (qib (1:Int) s6).bind fun x2=>some x2 else r0 (w64 (s6+(1:Int))) m32 m33 else none else some ((0:Int),(0:Int))
def qhp (fu:Nat):Nat->zho|0=>fun _ _ _=>none|n+1=>qoa fu (qhp fu n)
def qo9 (fu:Nat) (p0:Bs) (p1:Bs):Option ((Int×Int)):=(qlv fu p0 p1).bind fun x1=>bif x1 != (0:Int) then (qlv fu p0 p1).bind fun x2=>(qib x2 (-1:Int)).bind fun x3=>some x3 else (qum fu p0 p1).bind fun x4=>qhp fu fu (0:Int) ((0:Int),(0:Int)) x4
abbrev zjz:=wV->Int->(Int×Int)->Option ((Int×Int))
def ql4 (fu:Nat) (r0:zjz):zjz:=fun s0 s3 m32=>bif decide (s3<(s0.length:Int)) then (idx s0 s3).bind fun y1=>(idx s0 s3).bind fun y2=>(qo9 fu y1.1 y2.2).bind fun x3=>bif x3.1 != (0:Int) then (qib x3.1 s3).bind fun x4=>some x4 else r0 s0 (w64 (s3+(1:Int))) m32 else some ((0:Int),(0:Int))
def qfa (fu:Nat):Nat->zjz|0=>fun _ _ _=>none|n+1=>ql4 fu (qfa fu n)
def ql0 (fu:Nat) (p0:List (Bs×Bs)):Option ((Int×Int)):=bif decide ((60:Int)<(p0.length:Int)) then (qib (2:Int) (-1:Int)).bind fun x1=>some x1 else qfa fu fu p0 (0:Int) ((0:Int),(0:Int))
abbrev zkl:=Int->Bs->Option (Bs)
def qrf (fu:Nat) (r0:zkl):zkl:=fun s4 m32=>bif decide (s4<(m32.length:Int)) then bif decide (0<=s4/\s4.toNat<m32.length) then (m32[s4.toNat]?).bind fun y1=>(qfk (y1.toNat:Int) (65:Int) (90:Int)).bind fun x2=>bif x2 then bif decide (0<=s4/\s4.toNat<m32.length) then (m32[s4.toNat]?).bind fun y3=>bif decide (0<=s4/\s4.toNat<m32.length) then (m32[s4.toNat]?).bind fun y4=>r0 (w64 (s4+(1:Int))) (List.set m32 s4.toNat (y3+(32:UInt8))) else none else none else r0 (w64 (s4+(1:Int))) m32 else none else some m32
def qk7 (fu:Nat):Nat->zkl|0=>fun _ _=>none|n+1=>qrf fu (qk7 fu n)
def qmk (fu:Nat) (p0:Bs):Option (Bs):=bif decide (p0.length<=maxLen) then qk7 fu fu (0:Int) p0 else none
def qdm (fu:Nat) (p0:Bs) (p1:Bs):Option Bool:=(qmk fu p0).bind fun x1=>(qmk fu p1).bind fun x2=>some (x1==x2)
abbrev zgx:=wV->Bs->Int->(List Bs)->Option ((List Bs))
def qqf (fu:Nat) (r0:zgx):zgx:=fun s0 s1 s6 m32=>bif decide (s6<(s0.length:Int)) then (idx s0 s6).bind fun y1=>(qdm fu y1.1 s1).bind fun x2=>bif x2 then (idx s0 s6).bind fun y3=>bif decide (List.length (m32++([y3.2]:List Bs))<=qaq) then r0 s0 s1 (w64 (s6+(1:Int))) (m32++([y3.2]:List Bs)) else none else r0 s0 s1 (w64 (s6+(1:Int))) m32 else some m32
def qfw (fu:Nat):Nat->zgx|0=>fun _ _ _ _=>none|n+1=>qqf fu (qfw fu n)
def qri (fu:Nat) (p0:List (Bs×Bs)) (p1:Bs):Option ((List Bs)):=qfw fu fu p0 p1 (0:Int) []
abbrev zhq:=Bs->Int->Option Int
def qwa (fu:Nat) (r0:zhq):zhq:=fun s0 s1=>bif decide (s1<(s0.length:Int)) then (idx s0 s1).bind fun c1=>(qkx c1).bind fun x2=>bif x2 then r0 s0 (w64 (s1+(1:Int))) else some s1 else some s1
def qpy (fu:Nat):Nat->zhq|0=>fun _ _=>none|n+1=>qwa fu (qpy fu n)
def qlt (fu:Nat) (p0:Bs) (p1:Int):Option Int:=qpy fu fu p0 p1
def qje (fu:Nat) (p0:UInt8):Option Bool:=(qfk (p0.toNat:Int) (33:Int) (126:Int)).bind fun x1=>bif x1 then (qmj fu p0 ([40,41,60,62,64,44,59,58,92,34,47,91,93,63,61,42,37,39]:Bs)).bind fun x2=>some (!x2) else some false
abbrev zf3:=Bs->Int->Bs->Option Int
def qxu (fu:Nat) (r0:zf3):zf3:=fun s0 s1 s2=>bif decide (s1<(s0.length:Int)) then (idx s0 s1).bind fun c1=>(qje fu c1).bind fun x2=>bif x2 then r0 s0 (w64 (s1+(1:Int))) s2 else (idx s0 s1).bind fun c3=>(qmj fu c3 s2).bind fun x4=>bif x4 then r0 s0 (w64 (s1+(1:Int))) s2 else some s1 else some s1
def qrz (fu:Nat):Nat->zf3|0=>fun _ _ _=>none|n+1=>qxu fu (qrz fu n)
def qwx (fu:Nat) (p0:Bs) (p1:Int) (p2:Bs):Option Int:=qrz fu fu p0 p1 p2
abbrev zhk:=Bs->Bs->Int->Option Int
def qwl (fu:Nat) (r0:zhk):zhk:=fun s0 s1 s7=>bif decide ((w64 (s7+(s1.length:Int)))<=(s0.length:Int)) then bif decide (0<=s7/\s7<=w64 (s7+(s1.length:Int))/\w64 (s7+(s1.length:Int))<=(s0.length:Int)) then bif (List.take ((w64 (s7+(s1.length:Int))).toNat-s7.toNat) (List.drop s7.toNat s0))==s1 then some s7 else r0 s0 s1 (w64 (s7+(1:Int))) else none else some (-1:Int)
def qp4 (fu:Nat):Nat->zhk|0=>fun _ _ _=>none|n+1=>qwl fu (qp4 fu n)
def qzu (fu:Nat) (p0:Bs) (p1:Bs) (p2:Int):Option Int:=qp4 fu fu p0 p1 p2
abbrev zxs:=Bs->Int->Int->Int->Int->Option Int
abbrev zx9:=Bs->Int->Int->Int->Int->Bool->Option Int
abbrev q9p:=Bs->Int->Int->Int->Int->Option Int
def qqg (fu:Nat) (r0:q9p):zxs:=fun s0 s1 s2 s7 s8=>(idx s0 s8).bind fun c1=>r0 s0 s1 s2 (w64 ((w64 ((10:Int)*s7))+((c1-(48:UInt8)).toNat:Int))) (w64 (s8+(1:Int)))
def qiy (fu:Nat) (r0:q9p):zx9:=fun s0 s1 s2 s7 s8 s24=>bif s24 then some (-1:Int) else qqg fu r0 s0 s1 s2 s7 s8
def qqp (fu:Nat) (r0:q9p):q9p:=fun s0 s1 s2 s7 s8=>bif decide (s8<(s0.length:Int)) then (idx s0 s8).bind fun c1=>(qfk (c1.toNat:Int) (48:Int) (57:Int)).bind fun x2=>bif !x2 then qiy fu r0 s0 s1 s2 s7 s8 true else qiy fu r0 s0 s1 s2 s7 s8 (decide ((9:Int)<=s8)) else (qfk (s0.length:Int) s1 s2).bind fun x3=>bif !x3 then some (-1:Int) else some s7
def qi6 (fu:Nat):Nat->q9p|0=>fun _ _ _ _ _=>none|n+1=>qqp fu (qi6 fu n)
def qnm (fu:Nat) (p0:Bs) (p1:Int) (p2:Int):Option Int:=qi6 fu fu p0 p1 p2 (0:Int) (0:Int)
abbrev zw7:=Int->Option (Bs)
def qpc (rs171:zw7) (fu:Nat) (p0:Int):Option (Bs):=bif decide (p0<(10:Int)) then bif decide (0<=p0/\p0<=IntKind.u64.wrap (p0+(1:Int))/\IntKind.u64.wrap (p0+(1:Int))<=(List.length ([48,49,50,51,52,53,54,55,56,57]:Bs):Int)) then some (List.take ((IntKind.u64.wrap (p0+(1:Int))).toNat-p0.toNat) (List.drop p0.toNat ([48,49,50,51,52,53,54,55,56,57]:Bs))) else none else (rs171 (IntKind.u64.wrap (Int.tdiv p0 (10:Int)))).bind fun x1=>bif decide (0<=Int.tmod p0 (10:Int)/\Int.tmod p0 (10:Int)<=IntKind.u64.wrap ((Int.tmod p0 (10:Int))+(1:Int))/\IntKind.u64.wrap ((Int.tmod p0 (10:Int))+(1:Int))<=(List.length ([48,49,50,51,52,53,54,55,56,57]:Bs):Int)) then bif decide (x1.length+List.length (List.take ((IntKind.u64.wrap ((Int.tmod p0 (10:Int))+(1:Int))).toNat-(Int.tmod p0 (10:Int)).toNat) (List.drop (Int.tmod p0 (10:Int)).toNat ([48,49,50,51,52,53,54,55,56,57]:Bs)))<=qad) then some (x1++(List.take ((IntKind.u64.wrap ((Int.tmod p0 (10:Int))+(1:Int))).toNat-(Int.tmod p0 (10:Int)).toNat) (List.drop (Int.tmod p0 (10:Int)).toNat ([48,49,50,51,52,53,54,55,56,57]:Bs)))) else none else none
def qlw (fu:Nat):Nat->zw7|0=>fun _=>none|n+1=>qpc (qlw fu n) fu
def qwt (fu:Nat) (p0:Int):Option (Bs):=qlw fu fu p0
def qkn (fu:Nat) (p0:Int):Option (Bs):=bif decide (p0<(0:Int)) then (qwt fu (IntKind.u64.wrap ((IntKind.u64.wrap (w64 (0-(w64 (p0+(1:Int))))))+(1:Int)))).bind fun x1=>bif decide (List.length ([45]:Bs)+x1.length<=qad) then some (([45]:Bs)++x1) else none else (qwt fu (IntKind.u64.wrap (p0))).bind fun x2=>some x2
abbrev qvv:=(Bs×Bs×Int×Bool)×Bool
abbrev zxf:=Bs->(Bs×Bs×Int×Bool)->(Bs×Bs×Int×Bool)->Option qvv
abbrev zvj:=Bs->Bool->(Bs×Bs×Int×Bool)->(Bs×Bs×Int×Bool)->Option qvv
def qho (fu:Nat):zxf:=fun s7 m32 m33=>(qnm fu s7 (1:Int) (9:Int)).bind fun x1=>bif !(m33.1==([]:Bs)) then bif decide ((0:Int)<=x1) then (qkn fu x1).bind fun x2=>some ((m33.1,(m33.2.1,(x1,m33.2.2.2))),x2==s7) else some ((m33.1,(m33.2.1,(x1,m33.2.2.2))),false) else some ((m33.1,(m33.2.1,(x1,m33.2.2.2))),false)
def qkg (fu:Nat):zvj:=fun s7 s37 m32 m33=>bif s37 then bif decide (0<=w64 ((s7.length:Int)-(1:Int))/\w64 ((s7.length:Int)-(1:Int))<=(s7.length:Int)) then qho fu (List.take (w64 ((s7.length:Int)-(1:Int))).toNat s7) m32 (m33.1,(m33.2.1,(m33.2.2.1,true))) else none else qho fu s7 m32 m33
def qst (fu:Nat) (p0:Bs) (p1:Bs):Option qvv:=(qzu fu p0 ([42]:Bs) (0:Int)).bind fun x1=>bif decide (x1<(0:Int)) then some ((p0,(p1,((-1:Int),false))),!(p0==([]:Bs))) else bif decide (0<=w64 (x1+(1:Int))/\w64 (x1+(1:Int))<=(p0.length:Int)) then bif decide (0<=x1/\x1<=(p0.length:Int)) then bif decide ((0:Int)<(List.length (List.drop (w64 (x1+(1:Int))).toNat p0):Int)) then (idx (List.drop (w64 (x1+(1:Int))).toNat p0) (w64 ((List.length (List.drop (w64 (x1+(1:Int))).toNat p0):Int)-(1:Int)))).bind fun c2=>qkg fu (List.drop (w64 (x1+(1:Int))).toNat p0) (c2==(42:UInt8)) (([]:Bs),(([]:Bs),((0:Int),false))) (List.take x1.toNat p0,(p1,((-1:Int),false))) else qkg fu (List.drop (w64 (x1+(1:Int))).toNat p0) false (([]:Bs),(([]:Bs),((0:Int),false))) (List.take x1.toNat p0,(p1,((-1:Int),false))) else none else none
abbrev zha:=Bs->Int->Int->Int->Int->Int->Option (Int×Int)
abbrev zxp:=Bs->Int->Int->Int->Int->Option (Int×Int)
abbrev zua:=Bs->Int->Int->Int->Int->Bool->Option (Int×Int)
abbrev z0s:=Bs->Int->Int->Int->Int->Option (Int×Int)
def qs7 (fu:Nat) (r3:zha):zha:=fun s0 s1 s7 s8 s9 s10=>bif decide (s10<s7) then (idx s0 (w64 (s1+s10))).bind fun c1=>(qfk (c1.toNat:Int) (128:Int) (191:Int)).bind fun x2=>bif !x2 then some ((-1:Int),(1:Int)) else r3 s0 s1 s7 (w64 ((w64 ((w64 ((64:Int)*s8))+(c1.toNat:Int)))-(128:Int))) s9 (w64 (s10+(1:Int))) else bif decide (s8<s9) then some ((-1:Int),(1:Int)) else bif decide ((1114111:Int)<s8) then some ((-1:Int),(1:Int)) else (qfk s8 (55296:Int) (57343:Int)).bind fun x3=>bif x3 then some ((-1:Int),(1:Int)) else some (s8,s7)
def qgh (fu:Nat):Nat->zha|0=>fun _ _ _ _ _ _=>none|n+1=>qs7 fu (qgh fu n)
def q0y (fu:Nat):zxp:=fun s0 s1 s7 s8 s9=>qgh fu fu s0 s1 s7 s8 s9 (1:Int)
def qpz (fu:Nat):zua:=fun s0 s1 s7 s8 s9 s43=>bif s43 then some ((-1:Int),(1:Int)) else q0y fu s0 s1 s7 s8 s9
def qf2 (fu:Nat):z0s:=fun s0 s1 s7 s8 s9=>bif s7==(0:Int) then qpz fu s0 s1 s7 s8 s9 true else qpz fu s0 s1 s7 s8 s9 (decide ((s0.length:Int)<(w64 (s1+s7))))
def qv2 (fu:Nat) (p0:Bs) (p1:Int):Option (Int×Int):=(idx p0 p1).bind fun c1=>bif decide ((c1.toNat:Int)<(128:Int)) then some ((c1.toNat:Int),(1:Int)) else (qfk (c1.toNat:Int) (192:Int) (223:Int)).bind fun x2=>bif x2 then qf2 fu p0 p1 (2:Int) (w64 ((c1.toNat:Int)-(192:Int))) (128:Int) else (qfk (c1.toNat:Int) (224:Int) (239:Int)).bind fun x3=>bif x3 then qf2 fu p0 p1 (3:Int) (w64 ((c1.toNat:Int)-(224:Int))) (2048:Int) else (qfk (c1.toNat:Int) (240:Int) (247:Int)).bind fun x4=>bif x4 then qf2 fu p0 p1 (4:Int) (w64 ((c1.toNat:Int)-(240:Int))) (65536:Int) else qf2 fu p0 p1 (0:Int) (0:Int) (0:Int)
abbrev z0f:=Int->Option (Bs)
abbrev zu0:=Int->Bool->Option (Bs)
def qwp:z0f:=fun s0=>bif decide (s0<(128:Int)) then some ([toU8 s0]:Bs) else bif decide (s0<(2048:Int)) then some ([toU8 (w64 ((192:Int)+(w64 (Int.tdiv s0 (64:Int))))),toU8 (w64 ((128:Int)+(Int.tmod s0 (64:Int))))]:Bs) else bif decide (s0<(65536:Int)) then some ([toU8 (w64 ((224:Int)+(w64 (Int.tdiv s0 (4096:Int))))),toU8 (w64 ((128:Int)+(Int.tmod (w64 (Int.tdiv s0 (64:Int))) (64:Int)))),toU8 (w64 ((128:Int)+(Int.tmod s0 (64:Int))))]:Bs) else some ([toU8 (w64 ((240:Int)+(w64 (Int.tdiv s0 (262144:Int))))),toU8 (w64 ((128:Int)+(Int.tmod (w64 (Int.tdiv s0 (4096:Int))) (64:Int)))),toU8 (w64 ((128:Int)+(Int.tmod (w64 (Int.tdiv s0 (64:Int))) (64:Int)))),toU8 (w64 ((128:Int)+(Int.tmod s0 (64:Int))))]:Bs)
def qvp:zu0:=fun s0 s9=>bif s9 then qwp (65533:Int) else qwp s0
def q28 (p0:Int):Option (Bs):=(qfk p0 (0:Int) (1114111:Int)).bind fun x1=>bif !x1 then qvp p0 true else (qfk p0 (55296:Int) (57343:Int)).bind fun x2=>qvp p0 x2
abbrev zgt:=Bs->Bs->Bool->Int->Option (Bs)
def qqm (fu:Nat) (r0:zgt):zgt:=fun s0 s3 s4 s5=>bif decide (s5<(s0.length:Int)) then (qv2 fu s0 s5).bind fun x1=>bif decide ((0:Int)<=x1.1) then bif decide (0<=s5/\s5<=w64 (s5+x1.2)/\w64 (s5+x1.2)<=(s0.length:Int)) then bif decide (s3.length+List.length (List.take ((w64 (s5+x1.2)).toNat-s5.toNat) (List.drop s5.toNat s0))<=qad) then r0 s0 (s3++(List.take ((w64 (s5+x1.2)).toNat-s5.toNat) (List.drop s5.toNat s0))) (decide (x1.1<(0:Int))) (w64 (s5+x1.2)) else none else none else bif !s4 then (q28 (-1:Int)).bind fun x2=>bif decide (s3.length+x2.length<=qad) then r0 s0 (s3++x2) (decide (x1.1<(0:Int))) (w64 (s5+x1.2)) else none else r0 s0 s3 (decide (x1.1<(0:Int))) (w64 (s5+x1.2)) else some s3
def qi8 (fu:Nat):Nat->zgt|0=>fun _ _ _ _=>none|n+1=>qqm fu (qi8 fu n)
def qrj (fu:Nat) (p0:Bs):Option (Bs):=qi8 fu fu p0 ([]:Bs) false (0:Int)
abbrev zim:=UInt8->Int->Option Int
def qun (fu:Nat) (r0:zim):zim:=fun s0 s3=>bif decide (s3<(16:Int)) then (idx ([48,49,50,51,52,53,54,55,56,57,65,66,67,68,69,70]:Bs) s3).bind fun c1=>bif c1==s0 then some s3 else (qmk fu ([48,49,50,51,52,53,54,55,56,57,65,66,67,68,69,70]:Bs)).bind fun x2=>(idx x2 s3).bind fun c3=>bif c3==s0 then some s3 else r0 s0 (w64 (s3+(1:Int))) else some (-1:Int)
def qoe (fu:Nat):Nat->zim|0=>fun _ _=>none|n+1=>qun fu (qoe fu n)
def quy (fu:Nat) (p0:UInt8):Option Int:=qoe fu fu p0 (0:Int)
abbrev z0j:=Bs->Bs->Int->Bool->Option (Bs)
abbrev zdl:=Bs->Bs->Int->Option (Bs)
def qck (fu:Nat) (r0:zdl):z0j:=fun s0 s3 s4 s37=>bif s37 then (idx s0 (w64 (s4+(1:Int)))).bind fun c1=>(quy fu c1).bind fun x2=>(idx s0 (w64 (s4+(2:Int)))).bind fun c3=>(quy fu c3).bind fun x4=>bif decide (s3.length+List.length ([toU8 (w64 ((w64 ((16:Int)*x2))+x4))]:Bs)<=qad) then r0 s0 (s3++([toU8 (w64 ((w64 ((16:Int)*x2))+x4))]:Bs)) (w64 ((w64 (s4+(2:Int)))+(1:Int))) else none else bif decide (0<=s4/\s4<=w64 (s4+(1:Int))/\w64 (s4+(1:Int))<=(s0.length:Int)) then bif decide (s3.length+List.length (List.take ((w64 (s4+(1:Int))).toNat-s4.toNat) (List.drop s4.toNat s0))<=qad) then r0 s0 (s3++(List.take ((w64 (s4+(1:Int))).toNat-s4.toNat) (List.drop s4.toNat s0))) (w64 (s4+(1:Int))) else none else none
def qoy (fu:Nat) (r0:zdl):zdl:=fun s0 s3 s4=>bif decide (s4<(s0.length:Int)) then (idx s0 s4).bind fun c1=>bif c1==(37:UInt8) then bif decide ((w64 (s4+(2:Int)))<(s0.length:Int)) then (idx s0 (w64 (s4+(1:Int)))).bind fun c2=>(quy fu c2).bind fun x3=>bif decide ((0:Int)<=x3) then (idx s0 (w64 (s4+(2:Int)))).bind fun c4=>(quy fu c4).bind fun x5=>qck fu r0 s0 s3 s4 (decide ((0:Int)<=x5)) else qck fu r0 s0 s3 s4 false else qck fu r0 s0 s3 s4 false else qck fu r0 s0 s3 s4 false else some s3
def qew (fu:Nat):Nat->zdl|0=>fun _ _ _=>none|n+1=>qoy fu (qew fu n)
def qpt (fu:Nat) (p0:Bs):Option (Bs):=qew fu fu p0 ([]:Bs) (0:Int)
abbrev qaj:=(Bs×Bs×wV)×Bool
abbrev zth:=Bs->Int->Bs->Bs->Bs->Bs->Bs->Bs->(List (Bs×Bs×Int×Bool))->Option qaj
abbrev zp9:=Bs->Int->Bs->Bs->Bool->Bs->Bs->Bs->Bs->(List (Bs×Bs×Int×Bool))->Option qaj
abbrev zrs:=Bs->Int->Bs->Bs->Bs->Bs->Bs->Bs->(List (Bs×Bs×Int×Bool))->Option qaj
abbrev zp4:=Bs->Int->Bs->Bs->Bs->Bs->Bs->Bs->(List (Bs×Bs×Int×Bool))->Option qaj
abbrev zr6:=Bs->Int->Bs->Bs->Bool->Bs->Bs->Bs->Bs->(List (Bs×Bs×Int×Bool))->Option qaj
abbrev q14:=Bs->Int->Bs->Bs->Bs->Bs->Bs->Bs->(List (Bs×Bs×Int×Bool))->Option qaj
abbrev z0n:=Bs->Int->Bs->Bs->Bool->Bs->Bs->Bs->Bs->(List (Bs×Bs×Int×Bool))->Option qaj
abbrev zyc:=Bs->Int->Bs->Bs->Bs->Bs->Bs->(List (Bs×Bs×Int×Bool))->Option qaj
abbrev zw2:=Bs->Int->Bs->Bool->Bs->Bs->Bs->Bs->(List (Bs×Bs×Int×Bool))->Option qaj
abbrev zsl:=Int->Bool->Int->Bs->Bs->Bs->Bs->(List (Bs×Bs×Int×Bool))->wV->Option qaj
abbrev zr7:=Int->Bool->Int->Int->Bs->Bs->Bs->Bs->(List (Bs×Bs×Int×Bool))->wV->Option qaj
abbrev zp6:=Int->Int->Bs->Int->Int->Int->Bs->Bs->Bs->Bs->(List (Bs×Bs×Int×Bool))->wV->Option qaj
abbrev zrm:=Int->Int->Bs->Int->Int->Int->Bool->Bs->Bs->Bs->Bs->(List (Bs×Bs×Int×Bool))->wV->Option qaj
abbrev zt3:=Int->Int->Bs->Int->Bs->Bs->Bs->Bs->(List (Bs×Bs×Int×Bool))->wV->Option qaj
abbrev zpw:=Int->Int->Bs->Int->Bs->Bs->Bs->Bs->Bs->(List (Bs×Bs×Int×Bool))->wV->Option qaj
abbrev ztd:=Int->Int->Bs->Int->Bs->Bs->Bs->Bs->Bs->(List (Bs×Bs×Int×Bool))->wV->Option qaj
abbrev ztc:=Int->Int->Bs->Int->Bs->Bool->Bs->Bs->Bs->Bs->(List (Bs×Bs×Int×Bool))->wV->Option qaj
abbrev q3h:=Int->Int->Bs->Int->Int->Int->Bs->Bs->Bs->Bs->(List (Bs×Bs×Int×Bool))->wV->Option qaj
abbrev qnk:=Int->Int->Bs->Int->Bs->Bs->Bs->Bs->(List (Bs×Bs×Int×Bool))->wV->Option qaj
abbrev zdd:=Int->Bool->Int->Int->Bs->Bs->Bs->Bs->(List (Bs×Bs×Int×Bool))->wV->Option qaj
abbrev zb5:=Int->Bool->Int->Bs->Bs->Bs->Bs->(List (Bs×Bs×Int×Bool))->wV->Option qaj
abbrev qmf:=Int->Bs->Bs->Bs->Bs->(List (Bs×Bs×Int×Bool))->wV->Option qaj
abbrev qr4:=Bs->Int->Bs->Bs->Bs->Bs->(List (Bs×Bs×Int×Bool))->Option qaj
abbrev z08:=Bs->Int->Bs->Bs->Bs->Bs->Option qaj
abbrev zuc:=Bs->Int->Bool->Bs->Bs->Bs->Bs->Option qaj
def qgd (fu:Nat) (r2:qr4) (r9:q14):zth:=fun s0 s4 s8 s9 m32_0 m32_1 m33_0 m33_1 m34=>bif decide (0<=s4/\s4<=w64 (s4+(1:Int))/\w64 (s4+(1:Int))<=(s0.length:Int)) then bif decide (s9.length+List.length (List.take ((w64 (s4+(1:Int))).toNat-s4.toNat) (List.drop s4.toNat s0))<=qad) then r9 s0 (w64 (s4+(1:Int))) s8 (s9++(List.take ((w64 (s4+(1:Int))).toNat-s4.toNat) (List.drop s4.toNat s0))) m32_0 m32_1 m33_0 m33_1 m34 else none else none
def qeb (fu:Nat) (r2:qr4) (r9:q14):zp9:=fun s0 s4 s8 s9 s140 m32_0 m32_1 m33_0 m33_1 m34=>bif s140 then qgd fu r2 r9 s0 (w64 (s4+(1:Int))) s8 s9 m32_0 m32_1 m33_0 m33_1 m34 else qgd fu r2 r9 s0 s4 s8 s9 m32_0 m32_1 m33_0 m33_1 m34
def qm9 (fu:Nat) (r2:qr4) (r9:q14):zrs:=fun s0 s4 s8 s9 m32_0 m32_1 m33_0 m33_1 m34=>(idx s0 s4).bind fun c1=>bif c1==(92:UInt8) then qeb fu r2 r9 s0 s4 s8 s9 (decide ((w64 (s4+(1:Int)))<(s0.length:Int))) m32_0 m32_1 m33_0 m33_1 m34 else qeb fu r2 r9 s0 s4 s8 s9 false m32_0 m32_1 m33_0 m33_1 m34
def qc1 (fu:Nat) (r2:qr4):zp4:=fun s0 s4 s8 s9 m32_0 m32_1 m33_0 m33_1 m34=>(qst fu s8 s9).bind fun x1=>bif !x1.2 then some ((([]:Bs),(([]:Bs),[])),false) else bif decide (List.length (m34++([x1.1]:List (Bs×Bs×Int×Bool)))<=qaq) then (qlt fu s0 s4).bind fun x2=>r2 s0 x2 m32_0 m32_1 m33_0 m33_1 (m34++([x1.1]:List (Bs×Bs×Int×Bool))) else none
def qed (fu:Nat) (r2:qr4) (r9:q14):zr6:=fun s0 s4 s8 s9 s129 m32_0 m32_1 m33_0 m33_1 m34=>bif s129 then qm9 fu r2 r9 s0 s4 s8 s9 m32_0 m32_1 m33_0 m33_1 m34 else bif s4==(s0.length:Int) then some ((([]:Bs),(([]:Bs),[])),false) else qc1 fu r2 s0 (w64 (s4+(1:Int))) s8 s9 m32_0 m32_1 m33_0 m33_1 m34
def qk8 (fu:Nat) (r2:qr4) (r9:q14):q14:=fun s0 s4 s8 s9 m32_0 m32_1 m33_0 m33_1 m34=>bif decide (s4<(s0.length:Int)) then (idx s0 s4).bind fun c1=>qed fu r2 r9 s0 s4 s8 s9 (c1 != (34:UInt8)) m32_0 m32_1 m33_0 m33_1 m34 else qed fu r2 r9 s0 s4 s8 s9 false m32_0 m32_1 m33_0 m33_1 m34
def qcr (fu:Nat) (r2:qr4):Nat->q14|0=>fun _ _ _ _ _ _ _ _ _=>none|n+1=>qk8 fu r2 (qcr fu r2 n)
def qhx (fu:Nat) (r2:qr4):z0n:=fun s0 s4 s8 s9 s117 m32_0 m32_1 m33_0 m33_1 m34=>bif s117 then qcr fu r2 fu s0 (w64 (s4+(1:Int))) s8 s9 m32_0 m32_1 m33_0 m33_1 m34 else (qwx fu s0 s4 ([37,39,42]:Bs)).bind fun x1=>bif decide (0<=s4/\s4<=x1/\x1<=(s0.length:Int)) then qc1 fu r2 s0 x1 s8 (List.take (x1.toNat-s4.toNat) (List.drop s4.toNat s0)) m32_0 m32_1 m33_0 m33_1 m34 else none
def qo5 (fu:Nat) (r2:qr4):zyc:=fun s0 s4 s8 m32_0 m32_1 m33_0 m33_1 m34=>(qlt fu s0 (w64 (s4+(1:Int)))).bind fun x1=>bif decide (x1<(s0.length:Int)) then (idx s0 x1).bind fun c2=>qhx fu r2 s0 x1 s8 ([]:Bs) (c2==(34:UInt8)) m32_0 m32_1 m33_0 m33_1 m34 else qhx fu r2 s0 x1 s8 ([]:Bs) false m32_0 m32_1 m33_0 m33_1 m34
def qic (fu:Nat) (r2:qr4):zw2:=fun s0 s4 s8 s102 m32_0 m32_1 m33_0 m33_1 m34=>bif s102 then some ((([]:Bs),(([]:Bs),[])),false) else qo5 fu r2 s0 s4 s8 m32_0 m32_1 m33_0 m33_1 m34
def qgf (fu:Nat) (r4:qmf) (r6:zb5):zsl:=fun s12 s13 s14 m32_0 m32_1 m33_0 m33_1 m34 m35=>r6 s12 s13 (w64 (s14+(1:Int))) m32_0 m32_1 m33_0 m33_1 m34 m35
def qga (fu:Nat) (r4:qmf) (r8:zdd):zr7:=fun s12 s13 s15 s16 m32_0 m32_1 m33_0 m33_1 m34 m35=>r8 s12 s13 s15 (w64 (s16+(1:Int))) m32_0 m32_1 m33_0 m33_1 m34 m35
def qd8 (fu:Nat) (r4:qmf) (r13:qnk) (r17:q3h):zp6:=fun s12 s15 s17 s18 s19 s20 m32_0 m32_1 m33_0 m33_1 m34 m35=>r17 s12 s15 s17 s18 s19 (w64 (s20+(1:Int))) m32_0 m32_1 m33_0 m33_1 m34 m35
def qf9 (fu:Nat) (r4:qmf) (r13:qnk) (r17:q3h):zrm:=fun s12 s15 s17 s18 s19 s20 s283 m32_0 m32_1 m33_0 m33_1 m34 m35=>bif s283 then qd8 fu r4 r13 r17 s12 s15 s17 s18 s20 s20 m32_0 m32_1 m33_0 m33_1 m34 m35 else qd8 fu r4 r13 r17 s12 s15 s17 s18 s19 s20 m32_0 m32_1 m33_0 m33_1 m34 m35
def qnc (fu:Nat) (r4:qmf) (r13:qnk):zt3:=fun s12 s15 s17 s18 m32_0 m32_1 m33_0 m33_1 m34 m35=>r13 s12 s15 s17 (w64 (s18+(1:Int))) m32_0 m32_1 m33_0 m33_1 m34 m35
def qd5 (fu:Nat) (r4:qmf) (r13:qnk):zpw:=fun s12 s15 s17 s18 s21 m32_0 m32_1 m33_0 m33_1 m34 m35=>bif decide (s17.length+s21.length<=qad) then qnc fu r4 r13 s12 s15 (s17++s21) s18 m32_0 m32_1 m33_0 m33_1 m34 m35 else none
def qgb (fu:Nat) (r4:qmf) (r13:qnk):ztd:=fun s12 s15 s17 s18 s21 m32_0 m32_1 m33_0 m33_1 m34 m35=>(qpt fu s21).bind fun x1=>qd5 fu r4 r13 s12 s15 s17 s18 x1 m32_0 m32_1 m33_0 m33_1 m34 m35
def qbb (fu:Nat) (r4:qmf) (r13:qnk):ztc:=fun s12 s15 s17 s18 s21 s310 m32_0 m32_1 m33_0 m33_1 m34 m35=>bif s310 then bif decide (0<=(6:Int)/\(6:Int)<=(s21.length:Int)) then qgb fu r4 r13 s12 s15 s17 s18 (List.drop (6:Int).toNat s21) m32_0 m32_1 m33_0 m33_1 m34 m35 else none else qgb fu r4 r13 s12 s15 s17 s18 s21 m32_0 m32_1 m33_0 m33_1 m34 m35
def qc3 (fu:Nat) (r4:qmf) (r13:qnk) (r17:q3h):q3h:=fun s12 s15 s17 s18 s19 s20 m32_0 m32_1 m33_0 m33_1 m34 m35=>bif decide (s20<(m34.length:Int)) then bif decide (0<=s12/\s12.toNat<m34.length) then (m34[s12.toNat]?).bind fun y1=>bif decide (0<=s20/\s20.toNat<m34.length) then (m34[s20.toNat]?).bind fun y2=>(qdm fu y1.1 y2.1).bind fun x3=>bif x3 then bif decide (0<=s20/\s20.toNat<m34.length) then (m34[s20.toNat]?).bind fun y4=>qf9 fu r4 r13 r17 s12 s15 s17 s18 s19 s20 (y4.2.2.1==s18) m32_0 m32_1 m33_0 m33_1 m34 m35 else none else qf9 fu r4 r13 r17 s12 s15 s17 s18 s19 s20 false m32_0 m32_1 m33_0 m33_1 m34 m35 else none else none else bif decide (s19<(0:Int)) then some ((([]:Bs),(([]:Bs),[])),false) else bif decide (0<=s19/\s19.toNat<m34.length) then (m34[s19.toNat]?).bind fun y5=>bif decide (0<=s19/\s19.toNat<m34.length) then (m34[s19.toNat]?).bind fun y6=>bif y6.2.2.2 then bif s18==(0:Int) then bif decide ((6:Int)<=(y5.2.1.length:Int)) then bif decide (0<=(6:Int)/\(6:Int)<=(y5.2.1.length:Int)) then (qmk fu (List.take (6:Int).toNat y5.2.1)).bind fun x7=>qbb fu r4 r13 s12 s15 s17 s18 y5.2.1 (x7==([117,116,102,56,39,39]:Bs)) m32_0 m32_1 m33_0 m33_1 m34 m35 else none else qbb fu r4 r13 s12 s15 s17 s18 y5.2.1 false m32_0 m32_1 m33_0 m33_1 m34 m35 else qbb fu r4 r13 s12 s15 s17 s18 y5.2.1 false m32_0 m32_1 m33_0 m33_1 m34 m35 else qd5 fu r4 r13 s12 s15 s17 s18 y5.2.1 m32_0 m32_1 m33_0 m33_1 m34 m35 else none else none
def qas (fu:Nat) (r4:qmf) (r13:qnk):Nat->q3h|0=>fun _ _ _ _ _ _ _ _ _ _ _ _=>none|n+1=>qc3 fu r4 r13 (qas fu r4 r13 n)
def qc4 (fu:Nat) (r4:qmf) (r13:qnk):qnk:=fun s12 s15 s17 s18 m32_0 m32_1 m33_0 m33_1 m34 m35=>bif decide (s18<s15) then qas fu r4 r13 fu s12 s15 s17 s18 (-1:Int) (0:Int) m32_0 m32_1 m33_0 m33_1 m34 m35 else bif decide (0<=s12/\s12.toNat<m34.length) then (m34[s12.toNat]?).bind fun y1=>(qrj fu s17).bind fun x2=>bif decide (List.length (m35++([(y1.1,x2)]:List (Bs×Bs)))<=qaq) then r4 (w64 (s12+(1:Int))) m32_0 m32_1 m33_0 m33_1 m34 (m35++([(y1.1,x2)]:List (Bs×Bs))) else none else none
def qaw (fu:Nat) (r4:qmf):Nat->qnk|0=>fun _ _ _ _ _ _ _ _ _ _=>none|n+1=>qc4 fu r4 (qaw fu r4 n)
def qe2 (fu:Nat) (r4:qmf) (r8:zdd):zdd:=fun s12 s13 s15 s16 m32_0 m32_1 m33_0 m33_1 m34 m35=>bif decide (s16<(m34.length:Int)) then bif decide (0<=s12/\s12.toNat<m34.length) then (m34[s12.toNat]?).bind fun y1=>bif decide (0<=s16/\s16.toNat<m34.length) then (m34[s16.toNat]?).bind fun y2=>(qdm fu y1.1 y2.1).bind fun x3=>bif x3 then qga fu r4 r8 s12 s13 (w64 (s15+(1:Int))) s16 m32_0 m32_1 m33_0 m33_1 m34 m35 else qga fu r4 r8 s12 s13 s15 s16 m32_0 m32_1 m33_0 m33_1 m34 m35 else none else none else bif s13 then r4 (w64 (s12+(1:Int))) m32_0 m32_1 m33_0 m33_1 m34 m35 else bif decide (0<=s12/\s12.toNat<m34.length) then (m34[s12.toNat]?).bind fun y4=>bif decide (y4.2.2.1<(0:Int)) then bif s15 != (1:Int) then some ((([]:Bs),(([]:Bs),[])),false) else bif decide (0<=s12/\s12.toNat<m34.length) then (m34[s12.toNat]?).bind fun y5=>bif decide (0<=s12/\s12.toNat<m34.length) then (m34[s12.toNat]?).bind fun y6=>bif decide (List.length (m35++([(y5.1,y6.2.1)]:List (Bs×Bs)))<=qaq) then r4 (w64 (s12+(1:Int))) m32_0 m32_1 m33_0 m33_1 m34 (m35++([(y5.1,y6.2.1)]:List (Bs×Bs))) else none else none else none else qaw fu r4 fu s12 s15 ([]:Bs) (0:Int) m32_0 m32_1 m33_0 m33_1 m34 m35 else none
def qbk (fu:Nat) (r4:qmf):Nat->zdd|0=>fun _ _ _ _ _ _ _ _ _ _=>none|n+1=>qe2 fu r4 (qbk fu r4 n)
def qn3 (fu:Nat) (r4:qmf) (r6:zb5):zb5:=fun s12 s13 s14 m32_0 m32_1 m33_0 m33_1 m34 m35=>bif decide (s14<s12) then bif s13 then qgf fu r4 r6 s12 true s14 m32_0 m32_1 m33_0 m33_1 m34 m35 else bif decide (0<=s12/\s12.toNat<m34.length) then (m34[s12.toNat]?).bind fun y1=>bif decide (0<=s14/\s14.toNat<m34.length) then (m34[s14.toNat]?).bind fun y2=>(qdm fu y1.1 y2.1).bind fun x3=>qgf fu r4 r6 s12 x3 s14 m32_0 m32_1 m33_0 m33_1 m34 m35 else none else none else qbk fu r4 fu s12 s13 (0:Int) (0:Int) m32_0 m32_1 m33_0 m33_1 m34 m35
def qh9 (fu:Nat) (r4:qmf):Nat->zb5|0=>fun _ _ _ _ _ _ _ _ _=>none|n+1=>qn3 fu r4 (qh9 fu r4 n)
def qoo (fu:Nat) (r4:qmf):qmf:=fun s12 m32_0 m32_1 m33_0 m33_1 m34 m35=>bif decide (s12<(m34.length:Int)) then qh9 fu r4 fu s12 false (0:Int) m32_0 m32_1 m33_0 m33_1 m34 m35 else some ((m33_0,(m33_1,m35)),true)
def qa3 (fu:Nat):Nat->qmf|0=>fun _ _ _ _ _ _ _=>none|n+1=>qoo fu (qa3 fu n)
def qo0 (fu:Nat) (r2:qr4):qr4:=fun s0 s4 m32_0 m32_1 m33_0 m33_1 m34=>bif decide (s4<(s0.length:Int)) then (idx s0 s4).bind fun c1=>bif c1 != (59:UInt8) then some ((([]:Bs),(([]:Bs),[])),false) else (qlt fu s0 (w64 (s4+(1:Int)))).bind fun x2=>(qwx fu s0 x2 ([42]:Bs)).bind fun x3=>bif decide (0<=x2/\x2<=x3/\x3<=(s0.length:Int)) then (qlt fu s0 x3).bind fun x4=>bif x4==(s0.length:Int) then qic fu r2 s0 x4 (List.take (x3.toNat-x2.toNat) (List.drop x2.toNat s0)) true m32_0 m32_1 m33_0 m33_1 m34 else (idx s0 x4).bind fun c5=>qic fu r2 s0 x4 (List.take (x3.toNat-x2.toNat) (List.drop x2.toNat s0)) (c5 != (61:UInt8)) m32_0 m32_1 m33_0 m33_1 m34 else none else qa3 fu fu (0:Int) m32_0 m32_1 m33_0 m33_1 m34 []
def qey (fu:Nat):Nat->qr4|0=>fun _ _ _ _ _ _ _=>none|n+1=>qo0 fu (qey fu n)
def qo2 (fu:Nat):z08:=fun s0 s4 m32_0 m32_1 m33_0 m33_1=>(qlt fu s0 (w64 (s4+(1:Int)))).bind fun x1=>(qwx fu s0 x1 ([]:Bs)).bind fun x2=>bif decide (0<=x1/\x1<=x2/\x2<=(s0.length:Int)) then bif (List.take (x2.toNat-x1.toNat) (List.drop x1.toNat s0))==([]:Bs) then some ((([]:Bs),(([]:Bs),[])),false) else (qlt fu s0 x2).bind fun x3=>qey fu fu s0 x3 m32_0 m32_1 m33_0 (List.take (x2.toNat-x1.toNat) (List.drop x1.toNat s0)) [] else none
def qdk (fu:Nat):zuc:=fun s0 s4 s49 m32_0 m32_1 m33_0 m33_1=>bif s49 then some ((([]:Bs),(([]:Bs),[])),false) else qo2 fu s0 s4 m32_0 m32_1 m33_0 m33_1
def qlk (fu:Nat) (p0:Bs):Option qaj:=(qlt fu p0 (0:Int)).bind fun x1=>(qwx fu p0 x1 ([]:Bs)).bind fun x2=>bif decide (0<=x1/\x1<=x2/\x2<=(p0.length:Int)) then (qlt fu p0 x2).bind fun x3=>bif (List.take (x2.toNat-x1.toNat) (List.drop x1.toNat p0))==([]:Bs) then qdk fu p0 x3 true ([]:Bs) ([]:Bs) (List.take (x2.toNat-x1.toNat) (List.drop x1.toNat p0)) ([]:Bs) else bif x3==(p0.length:Int) then qdk fu p0 x3 true ([]:Bs) ([]:Bs) (List.take (x2.toNat-x1.toNat) (List.drop x1.toNat p0)) ([]:Bs) else (idx p0 x3).bind fun c4=>qdk fu p0 x3 (c4 != (47:UInt8)) ([]:Bs) ([]:Bs) (List.take (x2.toNat-x1.toNat) (List.drop x1.toNat p0)) ([]:Bs) else none
abbrev zhh:=Bs->Int->Option Bool
def qou (fu:Nat) (r0:zhh):zhh:=fun s0 s3=>bif decide (s3<(s0.length:Int)) then (idx s0 s3).bind fun c1=>(qje fu c1).bind fun x2=>bif !x2 then some false else r0 s0 (w64 (s3+(1:Int))) else (qfk (s0.length:Int) (1:Int) (60:Int)).bind fun x3=>some x3
def qid (fu:Nat):Nat->zhh|0=>fun _ _=>none|n+1=>qou fu (qid fu n)
def qgx (fu:Nat) (p0:Bs):Option Bool:=qid fu fu p0 (0:Int)
abbrev zh3:=Bs->Int->Option Bool
def qu4 (fu:Nat) (r0:zh3):zh3:=fun s0 s3=>bif decide (s3<(s0.length:Int)) then (qv2 fu s0 s3).bind fun x1=>bif decide (x1.1<(0:Int)) then some false else r0 s0 (w64 (s3+x1.2)) else some true
def qm6 (fu:Nat):Nat->zh3|0=>fun _ _=>none|n+1=>qu4 fu (qm6 fu n)
def qtr (fu:Nat) (p0:Bs):Option Bool:=qm6 fu fu p0 (0:Int)
abbrev zgi:=Int->Int->(Bs×Bs×wV)->(Int×Int)->(Bs×Bs)->Option ((Int×Int))
abbrev zvg:=Int->(Bs×Bs×wV)->(Int×Int)->(Bs×Bs)->Option ((Int×Int))
abbrev z3u:=Int->Bool->(Bs×Bs×wV)->(Int×Int)->(Bs×Bs)->Option ((Int×Int))
abbrev q08:=Int->(Bs×Bs×wV)->(Int×Int)->Option ((Int×Int))
abbrev zvy:=(Bs×Bs×wV)->(Int×Int)->Option ((Int×Int))
abbrev zvu:=Bool->(Bs×Bs×wV)->(Int×Int)->Option ((Int×Int))
def qmy (fu:Nat) (r2:q08) (r5:zgi):zgi:=fun s3 s5 m32 m33 m34=>bif decide (s5<s3) then (idx m32.2.2 s5).bind fun y1=>(qdm fu y1.1 m34.1).bind fun x2=>bif x2 then (qib (7:Int) s3).bind fun x3=>some x3 else r5 s3 (w64 (s5+(1:Int))) m32 m33 m34 else bif decide ((500:Int)<(m34.2.length:Int)) then (qib (1:Int) s3).bind fun x4=>some x4 else (qtr fu m34.2).bind fun x5=>bif !x5 then (qib (5:Int) s3).bind fun x6=>some x6 else r2 (w64 (s3+(1:Int))) m32 m33
def qf6 (fu:Nat) (r2:q08):Nat->zgi|0=>fun _ _ _ _ _=>none|n+1=>qmy fu r2 (qf6 fu r2 n)
def qna (fu:Nat) (r2:q08):zvg:=fun s3 m32 m33 m34=>qf6 fu r2 fu s3 (0:Int) m32 m33 m34
def qcx (fu:Nat) (r2:q08):z3u:=fun s3 s43 m32 m33 m34=>bif s43 then (qib (10:Int) s3).bind fun x1=>some x1 else qna fu r2 s3 m32 m33 m34
def qnp (fu:Nat) (r2:q08):q08:=fun s3 m32 m33=>bif decide (s3<(m32.2.2.length:Int)) then (idx m32.2.2 s3).bind fun y1=>(qgx fu y1.1).bind fun x2=>bif !x2 then qcx fu r2 s3 true m32 m33 y1 else qcx fu r2 s3 (decide ((20:Int)<(y1.1.length:Int))) m32 m33 y1 else some ((0:Int),(0:Int))
def qc2 (fu:Nat):Nat->q08|0=>fun _ _ _=>none|n+1=>qnp fu (qc2 fu n)
def qmw (fu:Nat):zvy:=fun m32 m33=>bif decide ((60:Int)<(m32.2.2.length:Int)) then (qib (2:Int) (-3:Int)).bind fun x1=>some x1 else qc2 fu fu (0:Int) m32 m33
def qd9 (fu:Nat):zvu:=fun s15 m32 m33=>bif s15 then (qib (10:Int) (-2:Int)).bind fun x1=>some x1 else qmw fu m32 m33
def qni (fu:Nat) (p0:Bs×Bs×wV):Option ((Int×Int)):=(qgx fu p0.1).bind fun x1=>bif !x1 then qd9 fu true p0 ((0:Int),(0:Int)) else (qgx fu p0.2.1).bind fun x2=>qd9 fu (!x2) p0 ((0:Int),(0:Int))
abbrev qxv:=(Bs×Bs×wV)×Bool
abbrev zw6:=Bs->Bs->(List Bs)->Option qxv
abbrev zx0:=Bool->Bs->Bs->(List Bs)->Option qxv
def qtq (fu:Nat):zw6:=fun m32_0 m32_1 m33=>bif decide (0<=(0:Int)/\(0:Int).toNat<m33.length) then (m33[(0:Int).toNat]?).bind fun y1=>(qlk fu y1).bind fun x2=>bif !x2.2 then some ((([]:Bs),(([]:Bs),[])),false) else (qni fu x2.1).bind fun x3=>bif x3.1 != (0:Int) then some ((([]:Bs),(([]:Bs),[])),false) else some (x2.1,true) else none
def qpr (fu:Nat):zx0:=fun s18 m32_0 m32_1 m33=>bif s18 then some ((([]:Bs),(([]:Bs),[])),false) else qtq fu m32_0 m32_1 m33
def qr8 (fu:Nat) (p0:List (Bs×Bs)):Option qxv:=(qri fu p0 ([99,111,110,116,101,110,116,45,116,121,112,101]:Bs)).bind fun x1=>bif (x1.length:Int) != (1:Int) then qpr fu true ([]:Bs) ([]:Bs) x1 else bif decide (0<=(0:Int)/\(0:Int).toNat<x1.length) then (x1[(0:Int).toNat]?).bind fun y2=>qpr fu (decide ((4000:Int)<(y2.length:Int))) ([]:Bs) ([]:Bs) x1 else none
abbrev zjn:=Bs->Int->(Bs×Bs×wV)->Option (Bs×Bool)
def qsf (fu:Nat) (r0:zjn):zjn:=fun s1 s6 m32=>bif decide (s6<(m32.2.2.length:Int)) then (idx m32.2.2 s6).bind fun y1=>(qdm fu y1.1 s1).bind fun x2=>bif x2 then (idx m32.2.2 s6).bind fun y3=>some (y3.2,true) else r0 s1 (w64 (s6+(1:Int))) m32 else some (([]:Bs),false)
def qj6 (fu:Nat):Nat->zjn|0=>fun _ _ _=>none|n+1=>qsf fu (qj6 fu n)
def qs3 (fu:Nat) (p0:Bs×Bs×wV) (p1:Bs):Option (Bs×Bool):=qj6 fu fu p1 (0:Int) p0
def qt7 (p0:Bs) (p1:Int):Option Bool:=bif decide ((w64 (p1+(1:Int)))<(p0.length:Int)) then (idx p0 p1).bind fun y1=>bif y1==(13:UInt8) then (idx p0 (w64 (p1+(1:Int)))).bind fun y2=>some (y2==(10:UInt8)) else some false else some false
abbrev zxd:=Bs->Int->Int->Bool->(Int×Int)->Option ((Int×Int))
abbrev zby:=Bs->Int->Int->(Int×Int)->Option ((Int×Int))
def qk9 (fu:Nat) (r0:zby):zxd:=fun s0 s3 s4 s29 m32=>bif s29 then (qib (11:Int) (-5:Int)).bind fun x1=>some x1 else bif decide ((998:Int)<=(w64 (s4-s3))) then (qib (1:Int) (-6:Int)).bind fun x2=>some x2 else r0 s0 s3 (w64 (s4+(1:Int))) m32
def qow (fu:Nat) (r0:zby):zby:=fun s0 s3 s4 m32=>bif decide (s4<(s0.length:Int)) then (qt7 s0 s4).bind fun x1=>bif x1 then r0 s0 (w64 ((w64 (s4+(1:Int)))+(1:Int))) (w64 ((w64 (s4+(1:Int)))+(1:Int))) m32 else (idx s0 s4).bind fun y2=>bif y2==(13:UInt8) then qk9 fu r0 s0 s3 s4 true m32 else (idx s0 s4).bind fun y3=>qk9 fu r0 s0 s3 s4 (y3==(10:UInt8)) m32 else some ((0:Int),(0:Int))
def qhm (fu:Nat):Nat->zby|0=>fun _ _ _ _=>none|n+1=>qow fu (qhm fu n)
def qs9 (fu:Nat) (p0:Bs):Option ((Int×Int)):=qhm fu fu p0 (0:Int) (0:Int) ((0:Int),(0:Int))
abbrev zf2:=Bs->Bool->Int->Option (Bs×Bool)
abbrev z2j:=(Bs×Bs×wV)->Option (Bs×Bool)
abbrev z1q:=Bool->(Bs×Bs×wV)->Option (Bs×Bool)
def qos (fu:Nat) (r2:zf2):zf2:=fun s6 s7 s8=>bif decide (s8<(s6.length:Int)) then (idx s6 s8).bind fun c1=>(qfk (c1.toNat:Int) (32:Int) (126:Int)).bind fun x2=>bif !x2 then some (([]:Bs),false) else r2 s6 s7 (w64 (s8+(1:Int))) else bif s7 then (qfk (s6.length:Int) (1:Int) (60:Int)).bind fun x3=>bif x3 then (idx s6 (w64 ((s6.length:Int)-(1:Int)))).bind fun c4=>some (s6,c4 != (32:UInt8)) else some (s6,false) else some (s6,false)
def qhl (fu:Nat):Nat->zf2|0=>fun _ _ _=>none|n+1=>qos fu (qhl fu n)
def qnw (fu:Nat):z2j:=fun m32=>(qs3 fu m32 ([98,111,117,110,100,97,114,121]:Bs)).bind fun x1=>qhl fu fu x1.1 x1.2 (0:Int)
def qg7 (fu:Nat):z1q:=fun s21 m32=>bif s21 then some (([]:Bs),false) else qnw fu m32
def qps (fu:Nat) (p0:List (Bs×Bs)):Option (Bs×Bool):=(qr8 fu p0).bind fun x1=>bif !x1.2 then qg7 fu true x1.1 else (qdm fu x1.1.1 ([109,117,108,116,105,112,97,114,116]:Bs)).bind fun x2=>qg7 fu (!x2) x1.1
abbrev zum:=Bs->Bs->Int->Option Int
abbrev z3i:=Bs->Bs->Int->Bool->Option Int
abbrev q7v:=Bs->Bs->Int->Option Int
def qqh (fu:Nat) (r0:q7v):zum:=fun s0 s1 s5=>r0 s0 s1 (w64 (s5-(1:Int)))
def qfv (fu:Nat) (r0:q7v):z3i:=fun s0 s1 s5 s16=>bif s16 then qqh fu r0 s0 s1 s5 else bif decide (0<=s5/\s5<=(s0.length:Int)) then bif decide (List.length ([45,45]:Bs)+s1.length<=qad) then bif (List.take s5.toNat s0)==(([45,45]:Bs)++s1) then some (1:Int) else bif decide (0<=s5/\s5<=(s0.length:Int)) then bif decide (List.length ([45,45]:Bs)+s1.length<=qad) then bif decide (List.length (([45,45]:Bs)++s1)+List.length ([45,45]:Bs)<=qad) then bif (List.take s5.toNat s0)==((([45,45]:Bs)++s1)++([45,45]:Bs)) then some (2:Int) else some (0:Int) else none else none else none else none else none
def qq1 (fu:Nat) (r0:q7v):q7v:=fun s0 s1 s5=>bif decide ((0:Int)<s5) then (idx s0 (w64 (s5-(1:Int)))).bind fun c1=>(qkx c1).bind fun x2=>qfv fu r0 s0 s1 s5 x2 else qfv fu r0 s0 s1 s5 false
def qfz (fu:Nat):Nat->q7v|0=>fun _ _ _=>none|n+1=>qq1 fu (qfz fu n)
def qu1 (fu:Nat) (p0:Bs) (p1:Bs):Option Int:=qfz fu fu p0 p1 (p0.length:Int)
abbrev zx4:=Bs->Bs->Int->Int->Int->(List Bs)->Option ((List Bs))
abbrev z1g:=Bs->Bs->Int->Int->Int->(List Bs)->Option ((List Bs))
abbrev zug:=Bs->Bs->Int->Int->(List Bs)->Option ((List Bs))
abbrev zwx:=Bs->Bs->Int->Int->Int->Int->(List Bs)->Option ((List Bs))
abbrev zzj:=Bs->Bs->Int->Int->Int->Int->(List Bs)->Option ((List Bs))
abbrev z2c:=Bs->Bs->Int->Int->Int->Bool->(List Bs)->Option ((List Bs))
abbrev q8o:=Bs->Bs->Int->Int->Int->(List Bs)->Option ((List Bs))
abbrev qvb:=Bs->Bs->Int->Int->(List Bs)->Option ((List Bs))
def qoq (fu:Nat) (r0:qvb) (r1:q8o):zx4:=fun s0 s1 s6 s7 s8 m32=>r1 s0 s1 s6 s7 (w64 (s8+(1:Int))) m32
def qet (fu:Nat) (r0:qvb):z1g:=fun s0 s1 s6 s9 s10 m32=>bif s10==(2:Int) then some m32 else r0 s0 s1 s6 s9 m32
def qdl (fu:Nat) (r0:qvb):zug:=fun s0 s1 s9 s10 m32=>qet fu r0 s0 s1 s9 s9 s10 m32
def qdo (fu:Nat) (r0:qvb):zwx:=fun s0 s1 s6 s9 s10 s11 m32=>bif decide (0<=s6/\s6<=s11/\s11<=(s0.length:Int)) then bif decide (List.length (m32++([List.take (s11.toNat-s6.toNat) (List.drop s6.toNat s0)]:List Bs))<=qaq) then qdl fu r0 s0 s1 s9 s10 (m32++([List.take (s11.toNat-s6.toNat) (List.drop s6.toNat s0)]:List Bs)) else none else none
def qhf (fu:Nat) (r0:qvb):zzj:=fun s0 s1 s6 s7 s8 s9 m32=>bif decide (0<=s7/\s7<=s8/\s8<=(s0.length:Int)) then (qu1 fu (List.take (s8.toNat-s7.toNat) (List.drop s7.toNat s0)) s1).bind fun x1=>bif decide ((0:Int)<x1) then bif decide ((0:Int)<=s6) then bif decide ((w64 (s7-(2:Int)))<s6) then qdo fu r0 s0 s1 s6 s9 x1 s6 m32 else qdo fu r0 s0 s1 s6 s9 x1 (w64 (s7-(2:Int))) m32 else qdl fu r0 s0 s1 s9 x1 m32 else qet fu r0 s0 s1 s6 s9 x1 m32 else none
def qhu (fu:Nat) (r0:qvb) (r1:q8o):z2c:=fun s0 s1 s6 s7 s8 s26 m32=>bif s26 then qoq fu r0 r1 s0 s1 s6 s7 s8 m32 else bif s8==(s0.length:Int) then qhf fu r0 s0 s1 s6 s7 s8 s8 m32 else qhf fu r0 s0 s1 s6 s7 s8 (w64 (s8+(2:Int))) m32
def qok (fu:Nat) (r0:qvb) (r1:q8o):q8o:=fun s0 s1 s6 s7 s8 m32=>bif decide (s8<(s0.length:Int)) then (qt7 s0 s8).bind fun x1=>qhu fu r0 r1 s0 s1 s6 s7 s8 (!x1) m32 else qhu fu r0 r1 s0 s1 s6 s7 s8 false m32
def qhv (fu:Nat) (r0:qvb):Nat->q8o|0=>fun _ _ _ _ _ _=>none|n+1=>qok fu r0 (qhv fu r0 n)
def qom (fu:Nat) (r0:qvb):qvb:=fun s0 s1 s6 s7 m32=>bif decide (s7<(s0.length:Int)) then qhv fu r0 fu s0 s1 s6 s7 s7 m32 else bif decide ((0:Int)<=s6) then bif decide (0<=s6/\s6<=(s0.length:Int)) then bif decide (List.length (m32++([List.drop s6.toNat s0]:List Bs))<=qaq) then some (m32++([List.drop s6.toNat s0]:List Bs)) else none else none else some m32
def qcl (fu:Nat):Nat->qvb|0=>fun _ _ _ _ _=>none|n+1=>qom fu (qcl fu n)
def qtp (fu:Nat) (p0:Bs) (p1:Bs):Option ((List Bs)):=qcl fu fu p0 p1 (-1:Int) (0:Int) []
abbrev z2v:=Bs->Bs->Int->Bool->Option (Bs)
abbrev zdo:=Bs->Bs->Int->Option (Bs)
def qii (fu:Nat) (r0:zdo):z2v:=fun s0 s3 s4 s20=>bif s20 then bif decide (s3.length+List.length ([92]:Bs)<=qad) then bif decide (0<=s4/\s4<=w64 (s4+(1:Int))/\w64 (s4+(1:Int))<=(s0.length:Int)) then bif decide (List.length (s3++([92]:Bs))+List.length (List.take ((w64 (s4+(1:Int))).toNat-s4.toNat) (List.drop s4.toNat s0))<=qad) then r0 s0 ((s3++([92]:Bs))++(List.take ((w64 (s4+(1:Int))).toNat-s4.toNat) (List.drop s4.toNat s0))) (w64 (s4+(1:Int))) else none else none else none else bif decide (0<=s4/\s4<=w64 (s4+(1:Int))/\w64 (s4+(1:Int))<=(s0.length:Int)) then bif decide (s3.length+List.length (List.take ((w64 (s4+(1:Int))).toNat-s4.toNat) (List.drop s4.toNat s0))<=qad) then r0 s0 (s3++(List.take ((w64 (s4+(1:Int))).toNat-s4.toNat) (List.drop s4.toNat s0))) (w64 (s4+(1:Int))) else none else none
def quw (fu:Nat) (r0:zdo):zdo:=fun s0 s3 s4=>bif decide (s4<(s0.length:Int)) then (idx s0 s4).bind fun c1=>bif c1==(34:UInt8) then qii fu r0 s0 s3 s4 true else (idx s0 s4).bind fun c2=>qii fu r0 s0 s3 s4 (c2==(92:UInt8)) else bif decide (s3.length+List.length ([34]:Bs)<=qad) then some (s3++([34]:Bs)) else none
def qin (fu:Nat):Nat->zdo|0=>fun _ _ _=>none|n+1=>quw fu (qin fu n)
def qxc (fu:Nat) (p0:Bs):Option (Bs):=qin fu fu p0 ([34]:Bs) (0:Int)
def qu5 (p0:UInt8):Option (Bs):=bif decide (0<=((p0/(16:UInt8)).toNat:Int)/\((p0/(16:UInt8)).toNat:Int)<=(((p0/(16:UInt8))+(1:UInt8)).toNat:Int)/\(((p0/(16:UInt8))+(1:UInt8)).toNat:Int)<=(List.length ([48,49,50,51,52,53,54,55,56,57,65,66,67,68,69,70]:Bs):Int)) then bif decide (0<=((p0%(16:UInt8)).toNat:Int)/\((p0%(16:UInt8)).toNat:Int)<=(((p0%(16:UInt8))+(1:UInt8)).toNat:Int)/\(((p0%(16:UInt8))+(1:UInt8)).toNat:Int)<=(List.length ([48,49,50,51,52,53,54,55,56,57,65,66,67,68,69,70]:Bs):Int)) then bif decide (List.length (List.take ((((p0/(16:UInt8))+(1:UInt8)).toNat:Int).toNat-((p0/(16:UInt8)).toNat:Int).toNat) (List.drop ((p0/(16:UInt8)).toNat:Int).toNat ([48,49,50,51,52,53,54,55,56,57,65,66,67,68,69,70]:Bs)))+List.length (List.take ((((p0%(16:UInt8))+(1:UInt8)).toNat:Int).toNat-((p0%(16:UInt8)).toNat:Int).toNat) (List.drop ((p0%(16:UInt8)).toNat:Int).toNat ([48,49,50,51,52,53,54,55,56,57,65,66,67,68,69,70]:Bs)))<=qad) then some ((List.take ((((p0/(16:UInt8))+(1:UInt8)).toNat:Int).toNat-((p0/(16:UInt8)).toNat:Int).toNat) (List.drop ((p0/(16:UInt8)).toNat:Int).toNat ([48,49,50,51,52,53,54,55,56,57,65,66,67,68,69,70]:Bs)))++(List.take ((((p0%(16:UInt8))+(1:UInt8)).toNat:Int).toNat-((p0%(16:UInt8)).toNat:Int).toNat) (List.drop ((p0%(16:UInt8)).toNat:Int).toNat ([48,49,50,51,52,53,54,55,56,57,65,66,67,68,69,70]:Bs)))) else none else none else none
abbrev z24:=Bool->Int->(Bs×Bs)->Option (Bs)
abbrev zzw:=Bs->Bs->Int->Int->(Bs×Bs)->Option (Bs)
abbrev z1d:=Bs->Bs->Int->Int->Bs->(Bs×Bs)->Option (Bs)
abbrev zyp:=Bs->Bs->Int->Int->Bs->(Bs×Bs)->Option (Bs)
abbrev q4x:=Bs->Bs->Int->Int->(Bs×Bs)->Option (Bs)
abbrev zcc:=Bool->Int->(Bs×Bs)->Option (Bs)
def qh3 (fu:Nat) (r0:zcc):z24:=fun s3 s4 m32=>r0 s3 (w64 (s4+(1:Int))) m32
def qk1 (fu:Nat) (r2:q4x):zzw:=fun s5 s6 s7 s8 m32=>r2 s5 s6 s7 (w64 (s8+(1:Int))) m32
def qg1 (fu:Nat) (r2:q4x):z1d:=fun s5 s6 s7 s8 s9 m32=>bif decide (s6.length+s9.length<=qad) then qk1 fu r2 s5 (s6++s9) s7 s8 m32 else none
def qhr (fu:Nat) (r2:q4x):zyp:=fun s5 s6 s7 s8 s9 m32=>bif decide ((60:Int)<(w64 ((s6.length:Int)+(s9.length:Int)))) then bif decide (s5.length+List.length ([59,32]:Bs)<=qad) then bif decide (List.length (s5++([59,32]:Bs))+m32.1.length<=qad) then bif decide (List.length ((s5++([59,32]:Bs))++m32.1)+List.length ([42]:Bs)<=qad) then (qkn fu s7).bind fun x1=>bif decide (List.length (((s5++([59,32]:Bs))++m32.1)++([42]:Bs))+x1.length<=qad) then bif decide (List.length ((((s5++([59,32]:Bs))++m32.1)++([42]:Bs))++x1)+List.length ([42,61]:Bs)<=qad) then bif decide (List.length (((((s5++([59,32]:Bs))++m32.1)++([42]:Bs))++x1)++([42,61]:Bs))+s6.length<=qad) then qg1 fu r2 ((((((s5++([59,32]:Bs))++m32.1)++([42]:Bs))++x1)++([42,61]:Bs))++s6) ([]:Bs) (w64 (s7+(1:Int))) s8 s9 m32 else none else none else none else none else none else none else qg1 fu r2 s5 s6 s7 s8 s9 m32
def qo4 (fu:Nat) (r2:q4x):q4x:=fun s5 s6 s7 s8 m32=>bif decide (s8<(m32.2.length:Int)) then (idx m32.2 s8).bind fun c1=>(qu5 c1).bind fun x2=>bif decide (List.length ([37]:Bs)+x2.length<=qad) then (idx m32.2 s8).bind fun c3=>(qje fu c3).bind fun x4=>bif x4 then bif decide (0<=s8/\s8<=w64 (s8+(1:Int))/\w64 (s8+(1:Int))<=(m32.2.length:Int)) then qhr fu r2 s5 s6 s7 s8 (List.take ((w64 (s8+(1:Int))).toNat-s8.toNat) (List.drop s8.toNat m32.2)) m32 else none else qhr fu r2 s5 s6 s7 s8 (([37]:Bs)++x2) m32 else none else bif decide (s5.length+List.length ([59,32]:Bs)<=qad) then bif decide (List.length (s5++([59,32]:Bs))+m32.1.length<=qad) then bif decide (List.length ((s5++([59,32]:Bs))++m32.1)+List.length ([42]:Bs)<=qad) then (qkn fu s7).bind fun x5=>bif decide (List.length (((s5++([59,32]:Bs))++m32.1)++([42]:Bs))+x5.length<=qad) then bif decide (List.length ((((s5++([59,32]:Bs))++m32.1)++([42]:Bs))++x5)+List.length ([42,61]:Bs)<=qad) then bif decide (List.length (((((s5++([59,32]:Bs))++m32.1)++([42]:Bs))++x5)++([42,61]:Bs))+s6.length<=qad) then some ((((((s5++([59,32]:Bs))++m32.1)++([42]:Bs))++x5)++([42,61]:Bs))++s6) else none else none else none else none else none else none
def qex (fu:Nat):Nat->q4x|0=>fun _ _ _ _ _=>none|n+1=>qo4 fu (qex fu n)
def qny (fu:Nat) (r0:zcc):zcc:=fun s3 s4 m32=>bif decide (s4<(m32.2.length:Int)) then bif s3 then (idx m32.2 s4).bind fun c1=>(qfk (c1.toNat:Int) (32:Int) (126:Int)).bind fun x2=>qh3 fu r0 x2 s4 m32 else qh3 fu r0 false s4 m32 else bif s3 then bif decide (List.length ([59,32]:Bs)+m32.1.length<=qad) then bif decide (List.length (([59,32]:Bs)++m32.1)+List.length ([61]:Bs)<=qad) then (qxc fu m32.2).bind fun x3=>bif decide (List.length ((([59,32]:Bs)++m32.1)++([61]:Bs))+x3.length<=qad) then some (((([59,32]:Bs)++m32.1)++([61]:Bs))++x3) else none else none else none else qex fu fu ([]:Bs) ([117,116,102,56,39,39]:Bs) (0:Int) (0:Int) m32
def qg4 (fu:Nat):Nat->zcc|0=>fun _ _ _=>none|n+1=>qny fu (qg4 fu n)
def qpn (fu:Nat) (p0:Bs×Bs):Option (Bs):=(qgx fu p0.2).bind fun x1=>bif x1 then bif decide (List.length ([59,32]:Bs)+p0.1.length<=qad) then bif decide (List.length (([59,32]:Bs)++p0.1)+List.length ([61]:Bs)<=qad) then bif decide (List.length ((([59,32]:Bs)++p0.1)++([61]:Bs))+p0.2.length<=qad) then some (((([59,32]:Bs)++p0.1)++([61]:Bs))++p0.2) else none else none else none else qg4 fu fu (decide ((p0.2.length:Int)<=(60:Int))) (0:Int) p0
abbrev zia:=Bs->Int->(Bs×Bs×wV)->Option (Bs)
def qog (fu:Nat) (r0:zia):zia:=fun s3 s4 m32=>bif decide (s4<(m32.2.2.length:Int)) then (idx m32.2.2 s4).bind fun y1=>(qpn fu y1).bind fun x2=>bif decide (s3.length+x2.length<=qad) then r0 (s3++x2) (w64 (s4+(1:Int))) m32 else none else some s3
def qg3 (fu:Nat):Nat->zia|0=>fun _ _ _=>none|n+1=>qog fu (qg3 fu n)
def qpf (fu:Nat) (p0:Bs×Bs×wV):Option (Bs):=bif decide (p0.1.length+List.length ([47]:Bs)<=qad) then bif decide (List.length (p0.1++([47]:Bs))+p0.2.1.length<=qad) then qg3 fu fu ((p0.1++([47]:Bs))++p0.2.1) (0:Int) p0 else none else none
abbrev zv3:=Option Int
abbrev zy7:=Bool->Option Int
abbrev z1f:=wU->(Bs×Bs×wV)->Option Int
abbrev zx6:=Bool->wU->(Bs×Bs×wV)->Option Int
def qu7 (fu:Nat):zv3:=some (0:Int)
def qiv (fu:Nat):zy7:=fun s72=>bif s72 then some (5:Int) else qu7 fu
def qqj (fu:Nat):z1f:=fun m32 m33=>(qpf fu m33).bind fun x1=>bif decide ((2000:Int)<(x1.length:Int)) then qiv fu true else (qri fu m32.val.1 ([99,111,110,116,101,110,116,45,116,121,112,101]:Bs)).bind fun x2=>bif decide (0<=(0:Int)/\(0:Int).toNat<x2.length) then (x2[(0:Int).toNat]?).bind fun y3=>qiv fu (!(y3==x1)) else none
def qbj (fu:Nat):zx6:=fun s58 m32 m33=>bif s58 then some (5:Int) else qqj fu (Tree.node m32.val m32.kids) m33
def qrn (fu:Nat) (p0:Tree (wV×Bs)) (p1:Int):Option Int:=(ql0 fu p0.val.1).bind fun x1=>bif x1.1 != (0:Int) then some x1.1 else bif decide ((0:Int)<(p0.kids.length:Int)) then (qr8 fu p0.val.1).bind fun x2=>(qs3 fu x2.1 ([98,111,117,110,100,97,114,121]:Bs)).bind fun x3=>bif !x2.2 then qbj fu true (Tree.node p0.val p0.kids) x2.1 else bif x3.2 then qbj fu true (Tree.node p0.val p0.kids) x2.1 else (qdm fu x2.1.1 ([109,117,108,116,105,112,97,114,116]:Bs)).bind fun x4=>bif !x4 then qbj fu true (Tree.node p0.val p0.kids) x2.1 else bif decide ((0:Int)<(p0.val.2.length:Int)) then qbj fu true (Tree.node p0.val p0.kids) x2.1 else qbj fu (decide ((60:Int)<=(x2.1.2.2.length:Int))) (Tree.node p0.val p0.kids) x2.1 else bif decide ((12000:Int)<(p0.val.2.length:Int)) then some (1:Int) else (qs9 fu p0.val.2).bind fun x5=>bif x5.1 != (0:Int) then some x5.1 else (qps fu p0.val.1).bind fun x6=>bif x6.2 then bif decide (p1<(8:Int)) then (qtp fu p0.val.2 x6.1).bind fun x7=>bif decide ((0:Int)<(x7.length:Int)) then some (5:Int) else some (0:Int) else some (0:Int) else some (0:Int)
abbrev zi6:=(List wU)->(List Int)->Int->(Int×Int)->Option ((Int×Int))
abbrev zi7:=(List wU)->(List Int)->Int->(Int×Int)->Option ((Int×Int))
def qn2 (fu:Nat) (r1:zi6):zi6:=fun s3 s4 s6 m32=>bif decide (s6<(s3.length:Int)) then (idx s3 s6).bind fun y1=>(idx s4 s6).bind fun y2=>(qrn fu (Tree.node y1.val y1.kids) y2).bind fun x3=>bif x3 != (0:Int) then (qib x3 s6).bind fun x4=>some x4 else r1 s3 s4 (w64 (s6+(1:Int))) m32 else some ((0:Int),(0:Int))
def qha (fu:Nat):Nat->zi6|0=>fun _ _ _ _=>none|n+1=>qn2 fu (qha fu n)
def qoh (fu:Nat) (r0:zi7):zi7:=fun s3 s4 s5 m32=>bif decide (s5<(s3.length:Int)) then (idx s4 s5).bind fun y1=>bif decide ((8:Int)<y1) then (qib (2:Int) (-2:Int)).bind fun x2=>some x2 else r0 s3 s4 (w64 (s5+(1:Int))) m32 else qha fu fu s3 s4 (0:Int) m32
def qg9 (fu:Nat):Nat->zi7|0=>fun _ _ _ _=>none|n+1=>qoh fu (qg9 fu n)
def qo7 (fu:Nat) (p0:Tree (wV×Bs)):Option ((Int×Int)):=(q79 fu (Tree.node p0.val p0.kids) (0:Int)).bind fun x1=>bif decide ((40:Int)<(x1.1.length:Int)) then (qib (2:Int) (-1:Int)).bind fun x2=>some x2 else qg9 fu fu x1.1 x1.2 (0:Int) ((0:Int),(0:Int))
abbrev qm4:=wU×(Int×Int)
abbrev z15:=Int->Int->(List Int)->Int->Int->Bool->wU->(Int×Int)->Option qm4
abbrev zco:=(List Int)->Int->Int->wU->(Int×Int)->Option qm4
def qco (fu:Nat) (r0:zco):z15:=fun s7 s8 s15 s16 s17 s30 m32 m34=>bif s30 then (qae (3:Int) s7).bind fun x1=>some ((Tree.node ([],[]) []),x1) else (idx m32.kids s8).bind fun y2=>r0 s15 s16 (w64 (s17+(1:Int))) (Tree.node y2.val y2.kids) m34
def qj9 (fu:Nat) (r0:zco):zco:=fun s15 s16 s17 m32 m34=>bif decide (s17<s16) then (idx s15 s17).bind fun y1=>bif decide (y1<(0:Int)) then qco fu r0 s17 y1 s15 s16 s17 true (Tree.node m32.val m32.kids) m34 else qco fu r0 s17 y1 s15 s16 s17 (decide ((m32.kids.length:Int)<=y1)) (Tree.node m32.val m32.kids) m34 else (qwj fu (Tree.node m32.val m32.kids)).bind fun x2=>(qa0).bind fun x3=>some ((Tree.node x2.val x2.kids),x3)
def qcp (fu:Nat):Nat->zco|0=>fun _ _ _ _ _=>none|n+1=>qj9 fu (qcp fu n)
def qj0 (fu:Nat) (p0:Tree (wV×Bs)) (p1:List Int):Option qm4:=(qeh fu (Tree.node p0.val p0.kids)).bind fun x1=>(qak x1).bind fun x2=>bif x2 then some ((Tree.node ([],[]) []),x1) else qcp fu fu p1 (p1.length:Int) (0:Int) (Tree.node p0.val p0.kids) ((0:Int),(0:Int))
abbrev qpv:=wU×(Int×Int)
abbrev zx7:=(List Int)->Int->wU->(Int×Int)->(Int×Int)->Option qpv
abbrev zz1:=(List Int)->Int->Bool->wU->(Int×Int)->(Int×Int)->Option qpv
abbrev q8c:=(List Int)->Int->wU->(Int×Int)->(Int×Int)->Option qpv
def qob (fu:Nat) (r0:q8c):zx7:=fun s1 s7 m32 m34 m35=>(idx s1 s7).bind fun y1=>(qfk y1 (0:Int) (w64 ((m32.kids.length:Int)-(1:Int)))).bind fun x2=>bif !x2 then (qib (3:Int) s7).bind fun x3=>some ((Tree.node ([],[]) []),x3) else (idx s1 s7).bind fun y4=>(idx m32.kids y4).bind fun y5=>r0 s1 (w64 (s7+(1:Int))) (Tree.node y5.val y5.kids) m34 m35
def qez (fu:Nat) (r0:q8c):zz1:=fun s1 s7 s18 m32 m34 m35=>bif s18 then qob fu r0 s1 s7 (Tree.node m32.val m32.kids) m34 m35 else bif m35.1 != (0:Int) then some ((Tree.node ([],[]) []),m35) else some ((Tree.node m32.val m32.kids),m35)
def qk4 (fu:Nat) (r0:q8c):q8c:=fun s1 s7 m32 m34 m35=>bif decide (s7<(s1.length:Int)) then qez fu r0 s1 s7 (m35.1==(0:Int)) (Tree.node m32.val m32.kids) m34 m35 else qez fu r0 s1 s7 false (Tree.node m32.val m32.kids) m34 m35
def qe0 (fu:Nat):Nat->q8c|0=>fun _ _ _ _ _=>none|n+1=>qk4 fu (qe0 fu n)
def qpa (fu:Nat) (p0:Tree (wV×Bs)) (p1:List Int):Option qpv:=(qo7 fu (Tree.node p0.val p0.kids)).bind fun x1=>qe0 fu fu p1 (0:Int) (Tree.node p0.val p0.kids) ((0:Int),(0:Int)) x1
def qb9 (fu:Nat) (p0:Tree (wV×Bs)) (p1:List Int) (p2:List Int):Option Bool:=(qoi fu).bind fun x1=>bif !x1 then some false else (qj0 fu (Tree.node p0.val p0.kids) p1).bind fun x2=>bif x2.2.1 != (0:Int) then (qrk fu (Tree.node x2.1.val x2.1.kids) (Tree.node ([],[]) [])).bind fun x3=>some x3 else bif decide (p1.length<=qaq) then bif decide (List.length (p1++p2)<=qaq) then (qkp fu (Tree.node p0.val p0.kids) (p1++p2)).bind fun x4=>(qpa fu (Tree.node x2.1.val x2.1.kids) p2).bind fun x5=>bif x5.2.1==(3:Int) then bif x4.2.1==(3:Int) then some (x4.2.2==(w64 (x5.2.2+(p1.length:Int)))) else some false else bif x5.2.1 != (0:Int) then some true else bif x4.2.1==(0:Int) then (qrk fu (Tree.node x4.1.val x4.1.kids) (Tree.node x5.1.val x5.1.kids)).bind fun x6=>some x6 else some false else none else none
end Go.Sym
namespace Go.Proofs
open Go.Shelf
def Tryz.uniR:Go.Shelf.Ren:=⟨fun|115=>163|129=>212|138=>321|143=>324|165=>243|166=>244|167=>246|169=>247|171=>94|172=>219|185=>131|187=>149|195=>322|196=>137|197=>180|205=>284|217=>216|218=>323|219=>201|224=>165|225=>226|240=>273|241=>274|243=>128|244=>238|245=>239|246=>162|247=>258|253=>164|254=>166|255=>176|259=>173|260=>202|266=>237|267=>227|270=>245|276=>290|277=>291|279=>259|280=>260|281=>261|282=>262|283=>186|284=>187|285=>188|286=>189|287=>282|291=>190|314=>248|316=>283|317=>211|318=>213|319=>214|320=>215|321=>292|322=>293|337=>235|338=>236|n=>n,fun|0=>0|2=>2|3=>3|4=>4|5=>5|9=>9|12=>12|20=>20|21=>21|37=>23|46=>202|51=>179|53=>120|70=>289|72=>291|75=>262|76=>263|80=>268|85=>309|105=>220|119=>215|127=>322|138=>217|139=>218|143=>339|145=>341|146=>230|164=>300|167=>308|168=>311|171=>225|173=>228|175=>326|210=>329|212=>257|213=>258|232=>306|233=>307|n=>n,fun|1=>0|3=>1|4=>2|15=>6|16=>7|17=>3|18=>4|19=>5|n=>n⟩
abbrev Tryz.laysM171_ren:Go.Shelf.Ren:=Tryz.uniR
theorem Tryz.laysM171:Go.Proofs.LaysM.n171 Tryz.prog Tryz.laysM171_ren:={
 mixed:=by kernel_rfl
 f129:=Tryz.func212.trans (congrArg some (by kernel_rfl))
 f171:=Tryz.func94.trans (congrArg some (by kernel_rfl))
 f243:=Tryz.func128.trans (congrArg some (by kernel_rfl))
 f246:=Tryz.func162.trans (congrArg some (by kernel_rfl))
 f283:=Tryz.func186.trans (congrArg some (by kernel_rfl))
 f284:=Tryz.func187.trans (congrArg some (by kernel_rfl))
 f285:=Tryz.func188.trans (congrArg some (by kernel_rfl))
 f286:=Tryz.func189.trans (congrArg some (by kernel_rfl))
 f317:=Tryz.func211.trans (congrArg some (by kernel_rfl))
 f318:=Tryz.func213.trans (congrArg some (by kernel_rfl))
 f319:=Tryz.func214.trans (congrArg some (by kernel_rfl))
 f320:=Tryz.func215.trans (congrArg some (by kernel_rfl))
 f337:=Tryz.func235.trans (congrArg some (by kernel_rfl))
 f338:=Tryz.func236.trans (congrArg some (by kernel_rfl))
 t0:=Tryz.underlying0
 a0:=Tryz.isAgg0
 z0:=Tryz.sizeOf0
 v0:=Tryz.zeroValue0
 t2:=Tryz.underlying2
 a2:=Tryz.isAgg2
 z2:=Tryz.sizeOf2
 v2:=Tryz.zeroValue2
 t3:=Tryz.underlying3
 a3:=Tryz.isAgg3
 z3:=Tryz.sizeOf3
 v3:=Tryz.zeroValue3
 t4:=Tryz.underlying4
 a4:=Tryz.isAgg4
 z4:=Tryz.sizeOf4
 v4:=Tryz.zeroValue4
 t5:=Tryz.underlying5
 a5:=Tryz.isAgg5
 z5:=Tryz.sizeOf5
 v5:=Tryz.zeroValue5
 t9:=Tryz.underlying9
 a9:=Tryz.isAgg9
 z9:=Tryz.sizeOf9
 v9:=Tryz.zeroValue9
 t20:=Tryz.underlying20
 a20:=Tryz.isAgg20
 z20:=Tryz.sizeOf20
 v20:=Tryz.zeroValue20
 t37:=Tryz.underlying23
 a37:=Tryz.isAgg23
 z37:=Tryz.sizeOf23
 v37:=Tryz.zeroValue23
 t46:=Tryz.underlying202
 a46:=Tryz.isAgg202
 z46:=Tryz.sizeOf202
 v46:=Tryz.zeroValue202
 t51:=Tryz.underlying179
 a51:=Tryz.isAgg179
 z51:=Tryz.sizeOf179
 v51:=Tryz.zeroValue179
 t53:=Tryz.underlying120
 a53:=Tryz.isAgg120
 z53:=Tryz.sizeOf120
 v53:=Tryz.zeroValue120
 t171:=Tryz.underlying225
 a171:=Tryz.isAgg225
 z171:=Tryz.sizeOf225
 v171:=Tryz.zeroValue225
 t173:=Tryz.underlying228
 a173:=Tryz.isAgg228
 z173:=Tryz.sizeOf228
 v173:=Tryz.zeroValue228
 t212:=Tryz.underlying257
 a212:=Tryz.isAgg257
 z212:=Tryz.sizeOf257
 v212:=Tryz.zeroValue257
 t213:=Tryz.underlying258
 a213:=Tryz.isAgg258
 z213:=Tryz.sizeOf258
 t232:=Tryz.underlying306
 a232:=Tryz.isAgg306
 z232:=Tryz.sizeOf306
 v232:=Tryz.zeroValue306
 t233:=Tryz.underlying307
 a233:=Tryz.isAgg307
 z233:=Tryz.sizeOf307
 v233:=Tryz.zeroValue307
 g17:=by kernel_rfl
 g18:=by kernel_rfl
 g19:=by kernel_rfl
 i0:=by kernel_rfl
 i2:=by kernel_rfl
 i3:=by kernel_rfl
 i4:=by kernel_rfl
 i5:=by kernel_rfl
 i9:=by kernel_rfl
 i20:=by kernel_rfl
 i37:=by kernel_rfl
 i46:=by kernel_rfl
 i51:=by kernel_rfl
 i53:=by kernel_rfl
 i171:=by kernel_rfl
 i173:=by kernel_rfl
 i212:=by kernel_rfl
 i232:=by kernel_rfl
 i233:=by kernel_rfl
 m17:=by kernel_rfl
 m18:=by kernel_rfl
 m19:=by kernel_rfl }
abbrev Tryz.laysC172_ren:Go.Shelf.Ren:=Tryz.uniR
theorem Tryz.laysC172:Go.Proofs.LaysC.n172 Tryz.prog Tryz.laysC172_ren:={
 mixed:=by kernel_rfl
 f129:=Tryz.func212.trans (congrArg some (by kernel_rfl))
 f171:=Tryz.func94.trans (congrArg some (by kernel_rfl))
 f172:=Tryz.func219.trans (congrArg some (by kernel_rfl))
 f205:=Tryz.func284.trans (congrArg some (by kernel_rfl))
 f243:=Tryz.func128.trans (congrArg some (by kernel_rfl))
 f244:=Tryz.func238.trans (congrArg some (by kernel_rfl))
 f245:=Tryz.func239.trans (congrArg some (by kernel_rfl))
 f246:=Tryz.func162.trans (congrArg some (by kernel_rfl))
 f247:=Tryz.func258.trans (congrArg some (by kernel_rfl))
 f279:=Tryz.func259.trans (congrArg some (by kernel_rfl))
 f280:=Tryz.func260.trans (congrArg some (by kernel_rfl))
 f281:=Tryz.func261.trans (congrArg some (by kernel_rfl))
 f282:=Tryz.func262.trans (congrArg some (by kernel_rfl))
 f283:=Tryz.func186.trans (congrArg some (by kernel_rfl))
 f284:=Tryz.func187.trans (congrArg some (by kernel_rfl))
 f285:=Tryz.func188.trans (congrArg some (by kernel_rfl))
 f286:=Tryz.func189.trans (congrArg some (by kernel_rfl))
 f287:=Tryz.func282.trans (congrArg some (by kernel_rfl))
 f316:=Tryz.func283.trans (congrArg some (by kernel_rfl))
 f317:=Tryz.func211.trans (congrArg some (by kernel_rfl))
 f318:=Tryz.func213.trans (congrArg some (by kernel_rfl))
 f319:=Tryz.func214.trans (congrArg some (by kernel_rfl))
 f320:=Tryz.func215.trans (congrArg some (by kernel_rfl))
 f321:=Tryz.func292.trans (congrArg some (by kernel_rfl))
 f322:=Tryz.func293.trans (congrArg some (by kernel_rfl))
 f337:=Tryz.func235.trans (congrArg some (by kernel_rfl))
 f338:=Tryz.func236.trans (congrArg some (by kernel_rfl))
 t0:=Tryz.underlying0
 a0:=Tryz.isAgg0
 z0:=Tryz.sizeOf0
 v0:=Tryz.zeroValue0
 t2:=Tryz.underlying2
 a2:=Tryz.isAgg2
 z2:=Tryz.sizeOf2
 v2:=Tryz.zeroValue2
 t3:=Tryz.underlying3
 a3:=Tryz.isAgg3
 z3:=Tryz.sizeOf3
 v3:=Tryz.zeroValue3
 t4:=Tryz.underlying4
 a4:=Tryz.isAgg4
 z4:=Tryz.sizeOf4
 v4:=Tryz.zeroValue4
 t5:=Tryz.underlying5
 a5:=Tryz.isAgg5
 z5:=Tryz.sizeOf5
 v5:=Tryz.zeroValue5
 t9:=Tryz.underlying9
 a9:=Tryz.isAgg9
 z9:=Tryz.sizeOf9
 v9:=Tryz.zeroValue9
 t20:=Tryz.underlying20
 a20:=Tryz.isAgg20
 z20:=Tryz.sizeOf20
 v20:=Tryz.zeroValue20
 t21:=Tryz.underlying21
 a21:=Tryz.isAgg21
 z21:=Tryz.sizeOf21
 v21:=Tryz.zeroValue21
 t37:=Tryz.underlying23
 a37:=Tryz.isAgg23
 z37:=Tryz.sizeOf23
 v37:=Tryz.zeroValue23
 t46:=Tryz.underlying202
 a46:=Tryz.isAgg202
 z46:=Tryz.sizeOf202
 v46:=Tryz.zeroValue202
 t51:=Tryz.underlying179
 a51:=Tryz.isAgg179
 z51:=Tryz.sizeOf179
 v51:=Tryz.zeroValue179
 t53:=Tryz.underlying120
 a53:=Tryz.isAgg120
 z53:=Tryz.sizeOf120
 v53:=Tryz.zeroValue120
 t75:=Tryz.underlying262
 a75:=Tryz.isAgg262
 z75:=Tryz.sizeOf262
 v75:=Tryz.zeroValue262
 t76:=Tryz.underlying263
 a76:=Tryz.isAgg263
 z76:=Tryz.sizeOf263
 v76:=Tryz.zeroValue263
 t85:=Tryz.underlying309
 a85:=Tryz.isAgg309
 z85:=Tryz.sizeOf309
 v85:=Tryz.zeroValue309
 t127:=Tryz.underlying322
 a127:=Tryz.isAgg322
 z127:=Tryz.sizeOf322
 v127:=Tryz.zeroValue322
 t143:=Tryz.underlying339
 a143:=Tryz.isAgg339
 z143:=Tryz.sizeOf339
 v143:=Tryz.zeroValue339
 t145:=Tryz.underlying341
 a145:=Tryz.isAgg341
 z145:=Tryz.sizeOf341
 v145:=Tryz.zeroValue341
 t167:=Tryz.underlying308
 a167:=Tryz.isAgg308
 z167:=Tryz.sizeOf308
 v167:=Tryz.zeroValue308
 t168:=Tryz.underlying311
 a168:=Tryz.isAgg311
 z168:=Tryz.sizeOf311
 v168:=Tryz.zeroValue311
 t171:=Tryz.underlying225
 a171:=Tryz.isAgg225
 z171:=Tryz.sizeOf225
 v171:=Tryz.zeroValue225
 t173:=Tryz.underlying228
 a173:=Tryz.isAgg228
 z173:=Tryz.sizeOf228
 v173:=Tryz.zeroValue228
 t175:=Tryz.underlying326
 a175:=Tryz.isAgg326
 z175:=Tryz.sizeOf326
 v175:=Tryz.zeroValue326
 t210:=Tryz.underlying329
 a210:=Tryz.isAgg329
 z210:=Tryz.sizeOf329
 v210:=Tryz.zeroValue329
 t212:=Tryz.underlying257
 a212:=Tryz.isAgg257
 z212:=Tryz.sizeOf257
 v212:=Tryz.zeroValue257
 t213:=Tryz.underlying258
 a213:=Tryz.isAgg258
 z213:=Tryz.sizeOf258
 t232:=Tryz.underlying306
 a232:=Tryz.isAgg306
 z232:=Tryz.sizeOf306
 v232:=Tryz.zeroValue306
 t233:=Tryz.underlying307
 a233:=Tryz.isAgg307
 z233:=Tryz.sizeOf307
 v233:=Tryz.zeroValue307
 g15:=by kernel_rfl
 g16:=by kernel_rfl
 g17:=by kernel_rfl
 g18:=by kernel_rfl
 g19:=by kernel_rfl
 t80:=Tryz.underlying268
 a80:=Tryz.isAgg268
 z80:=Tryz.sizeOf268
 v80:=Tryz.zeroValue268
 i0:=by kernel_rfl
 i2:=by kernel_rfl
 i3:=by kernel_rfl
 i4:=by kernel_rfl
 i5:=by kernel_rfl
 i9:=by kernel_rfl
 i20:=by kernel_rfl
 i21:=by kernel_rfl
 i37:=by kernel_rfl
 i46:=by kernel_rfl
 i51:=by kernel_rfl
 i53:=by kernel_rfl
 i75:=by kernel_rfl
 i76:=by kernel_rfl
 i80:=by kernel_rfl
 i85:=by kernel_rfl
 i127:=by kernel_rfl
 i143:=by kernel_rfl
 i145:=by kernel_rfl
 i167:=by kernel_rfl
 i168:=by kernel_rfl
 i171:=by kernel_rfl
 i173:=by kernel_rfl
 i175:=by kernel_rfl
 i210:=by kernel_rfl
 i212:=by kernel_rfl
 i232:=by kernel_rfl
 i233:=by kernel_rfl
 m15:=by kernel_rfl
 m16:=by kernel_rfl
 m17:=by kernel_rfl
 m18:=by kernel_rfl
 m19:=by kernel_rfl
 c0:=by kernel_rfl
 c2:=by kernel_rfl
 c3:=by kernel_rfl
 c4:=by kernel_rfl
 c5:=by kernel_rfl
 c9:=by kernel_rfl
 c20:=by kernel_rfl
 c21:=by kernel_rfl
 c37:=by kernel_rfl
 c46:=by kernel_rfl
 c51:=by kernel_rfl
 c53:=by kernel_rfl
 c75:=by kernel_rfl
 c76:=by kernel_rfl
 c80:=by kernel_rfl
 c85:=by kernel_rfl
 c127:=by kernel_rfl
 c143:=by kernel_rfl
 c145:=by kernel_rfl
 c167:=by kernel_rfl
 c168:=by kernel_rfl
 c171:=by kernel_rfl
 c173:=by kernel_rfl
 c175:=by kernel_rfl
 c210:=by kernel_rfl
 c212:=by kernel_rfl
 c213:=by kernel_rfl
 c232:=by kernel_rfl
 c233:=by kernel_rfl }
abbrev Tryz.lays185_ren:Go.Shelf.Ren:=Tryz.uniR
theorem Tryz.lays185:Go.Proofs.Lays.n185 Tryz.prog Tryz.lays185_ren:={
 mixed:=by kernel_rfl
 f115:=Tryz.func163.trans (congrArg some (by kernel_rfl))
 f185:=Tryz.func131.trans (congrArg some (by kernel_rfl))
 f187:=Tryz.func149.trans (congrArg some (by kernel_rfl))
 f224:=Tryz.func165.trans (congrArg some (by kernel_rfl))
 f253:=Tryz.func164.trans (congrArg some (by kernel_rfl))
 f254:=Tryz.func166.trans (congrArg some (by kernel_rfl))
 f255:=Tryz.func176.trans (congrArg some (by kernel_rfl))
 f291:=Tryz.func190.trans (congrArg some (by kernel_rfl))
 t0:=Tryz.underlying0
 a0:=Tryz.isAgg0
 z0:=Tryz.sizeOf0
 v0:=Tryz.zeroValue0
 t3:=Tryz.underlying3
 a3:=Tryz.isAgg3
 z3:=Tryz.sizeOf3
 v3:=Tryz.zeroValue3
 t4:=Tryz.underlying4
 a4:=Tryz.isAgg4
 z4:=Tryz.sizeOf4
 v4:=Tryz.zeroValue4
 t5:=Tryz.underlying5
 a5:=Tryz.isAgg5
 z5:=Tryz.sizeOf5
 v5:=Tryz.zeroValue5
 t9:=Tryz.underlying9
 a9:=Tryz.isAgg9
 z9:=Tryz.sizeOf9
 v9:=Tryz.zeroValue9
 t37:=Tryz.underlying23
 a37:=Tryz.isAgg23
 z37:=Tryz.sizeOf23
 v37:=Tryz.zeroValue23
 t46:=Tryz.underlying202
 a46:=Tryz.isAgg202
 z46:=Tryz.sizeOf202
 v46:=Tryz.zeroValue202
 t51:=Tryz.underlying179
 a51:=Tryz.isAgg179
 z51:=Tryz.sizeOf179
 v51:=Tryz.zeroValue179
 t146:=Tryz.underlying230
 a146:=Tryz.isAgg230
 z146:=Tryz.sizeOf230
 v146:=Tryz.zeroValue230
 g1:=by kernel_rfl }
abbrev Tryz.lays138_ren:Go.Shelf.Ren:=Tryz.uniR
theorem Tryz.lays138:Go.Proofs.Lays.n138 Tryz.prog Tryz.lays138_ren:={
 mixed:=by kernel_rfl
 f138:=Tryz.func321.trans (congrArg some (by kernel_rfl))
 f143:=Tryz.func324.trans (congrArg some (by kernel_rfl))
 f195:=Tryz.func322.trans (congrArg some (by kernel_rfl))
 f217:=Tryz.func216.trans (congrArg some (by kernel_rfl))
 f218:=Tryz.func323.trans (congrArg some (by kernel_rfl))
 f219:=Tryz.func201.trans (congrArg some (by kernel_rfl))
 f224:=Tryz.func165.trans (congrArg some (by kernel_rfl))
 f225:=Tryz.func226.trans (congrArg some (by kernel_rfl))
 f266:=Tryz.func237.trans (congrArg some (by kernel_rfl))
 f267:=Tryz.func227.trans (congrArg some (by kernel_rfl))
 f314:=Tryz.func248.trans (congrArg some (by kernel_rfl))
 t0:=Tryz.underlying0
 a0:=Tryz.isAgg0
 z0:=Tryz.sizeOf0
 v0:=Tryz.zeroValue0
 t3:=Tryz.underlying3
 a3:=Tryz.isAgg3
 z3:=Tryz.sizeOf3
 v3:=Tryz.zeroValue3
 t4:=Tryz.underlying4
 a4:=Tryz.isAgg4
 z4:=Tryz.sizeOf4
 v4:=Tryz.zeroValue4
 t5:=Tryz.underlying5
 a5:=Tryz.isAgg5
 z5:=Tryz.sizeOf5
 v5:=Tryz.zeroValue5
 t9:=Tryz.underlying9
 a9:=Tryz.isAgg9
 z9:=Tryz.sizeOf9
 v9:=Tryz.zeroValue9
 t46:=Tryz.underlying202
 a46:=Tryz.isAgg202
 z46:=Tryz.sizeOf202
 v46:=Tryz.zeroValue202
 t51:=Tryz.underlying179
 a51:=Tryz.isAgg179
 z51:=Tryz.sizeOf179
 v51:=Tryz.zeroValue179
 t146:=Tryz.underlying230
 a146:=Tryz.isAgg230
 z146:=Tryz.sizeOf230
 v146:=Tryz.zeroValue230
 g1:=by kernel_rfl }
abbrev Tryz.lays165_ren:Go.Shelf.Ren:=Tryz.uniR
theorem Tryz.lays165:Go.Proofs.Lays.n165 Tryz.prog Tryz.lays165_ren:={
 mixed:=by kernel_rfl
 f165:=Tryz.func243.trans (congrArg some (by kernel_rfl))
 f240:=Tryz.func273.trans (congrArg some (by kernel_rfl))
 f241:=Tryz.func274.trans (congrArg some (by kernel_rfl))
 f276:=Tryz.func290.trans (congrArg some (by kernel_rfl))
 f277:=Tryz.func291.trans (congrArg some (by kernel_rfl))
 t0:=Tryz.underlying0
 a0:=Tryz.isAgg0
 z0:=Tryz.sizeOf0
 v0:=Tryz.zeroValue0
 t3:=Tryz.underlying3
 a3:=Tryz.isAgg3
 z3:=Tryz.sizeOf3
 v3:=Tryz.zeroValue3
 t4:=Tryz.underlying4
 a4:=Tryz.isAgg4
 z4:=Tryz.sizeOf4
 v4:=Tryz.zeroValue4
 t9:=Tryz.underlying9
 a9:=Tryz.isAgg9
 z9:=Tryz.sizeOf9
 v9:=Tryz.zeroValue9
 t20:=Tryz.underlying20
 a20:=Tryz.isAgg20
 z20:=Tryz.sizeOf20
 v20:=Tryz.zeroValue20
 t37:=Tryz.underlying23
 a37:=Tryz.isAgg23
 z37:=Tryz.sizeOf23
 v37:=Tryz.zeroValue23
 t70:=Tryz.underlying289
 a70:=Tryz.isAgg289
 z70:=Tryz.sizeOf289
 v70:=Tryz.zeroValue289
 t72:=Tryz.underlying291
 a72:=Tryz.isAgg291
 z72:=Tryz.sizeOf291
 v72:=Tryz.zeroValue291
 t164:=Tryz.underlying300
 a164:=Tryz.isAgg300
 z164:=Tryz.sizeOf300
 v164:=Tryz.zeroValue300 }
abbrev Tryz.lays169_ren:Go.Shelf.Ren:=Tryz.uniR
theorem Tryz.lays169:Go.Proofs.Lays.n169 Tryz.prog Tryz.lays169_ren:={
 mixed:=by kernel_rfl
 f169:=Tryz.func247.trans (congrArg some (by kernel_rfl))
 t0:=Tryz.underlying0
 a0:=Tryz.isAgg0
 z0:=Tryz.sizeOf0
 v0:=Tryz.zeroValue0
 t3:=Tryz.underlying3
 a3:=Tryz.isAgg3
 z3:=Tryz.sizeOf3
 v3:=Tryz.zeroValue3
 t9:=Tryz.underlying9
 a9:=Tryz.isAgg9
 z9:=Tryz.sizeOf9
 v9:=Tryz.zeroValue9
 t37:=Tryz.underlying23
 a37:=Tryz.isAgg23
 z37:=Tryz.sizeOf23
 v37:=Tryz.zeroValue23
 t70:=Tryz.underlying289
 a70:=Tryz.isAgg289
 z70:=Tryz.sizeOf289
 v70:=Tryz.zeroValue289
 t72:=Tryz.underlying291
 a72:=Tryz.isAgg291
 z72:=Tryz.sizeOf291
 v72:=Tryz.zeroValue291
 t127:=Tryz.underlying322
 a127:=Tryz.isAgg322
 z127:=Tryz.sizeOf322
 v127:=Tryz.zeroValue322 }
abbrev Tryz.lays196_ren:Go.Shelf.Ren:=Tryz.uniR
theorem Tryz.lays196:Go.Proofs.Lays.n196 Tryz.prog Tryz.lays196_ren:={
 mixed:=by kernel_rfl
 f196:=Tryz.func137.trans (congrArg some (by kernel_rfl))
 f259:=Tryz.func173.trans (congrArg some (by kernel_rfl))
 t0:=Tryz.underlying0
 a0:=Tryz.isAgg0
 z0:=Tryz.sizeOf0
 v0:=Tryz.zeroValue0
 t3:=Tryz.underlying3
 a3:=Tryz.isAgg3
 z3:=Tryz.sizeOf3
 v3:=Tryz.zeroValue3
 t4:=Tryz.underlying4
 a4:=Tryz.isAgg4
 z4:=Tryz.sizeOf4
 v4:=Tryz.zeroValue4
 t5:=Tryz.underlying5
 a5:=Tryz.isAgg5
 z5:=Tryz.sizeOf5
 v5:=Tryz.zeroValue5
 t9:=Tryz.underlying9
 a9:=Tryz.isAgg9
 z9:=Tryz.sizeOf9
 v9:=Tryz.zeroValue9
 t12:=Tryz.underlying12
 a12:=Tryz.isAgg12
 z12:=Tryz.sizeOf12
 v12:=Tryz.zeroValue12
 t46:=Tryz.underlying202
 a46:=Tryz.isAgg202
 z46:=Tryz.sizeOf202
 v46:=Tryz.zeroValue202
 t53:=Tryz.underlying120
 a53:=Tryz.isAgg120
 z53:=Tryz.sizeOf120
 v53:=Tryz.zeroValue120
 t119:=Tryz.underlying215
 a119:=Tryz.isAgg215
 z119:=Tryz.sizeOf215
 t138:=Tryz.underlying217
 a138:=Tryz.isAgg217
 z138:=Tryz.sizeOf217
 v138:=Tryz.zeroValue217
 t139:=Tryz.underlying218
 a139:=Tryz.isAgg218
 z139:=Tryz.sizeOf218
 v139:=Tryz.zeroValue218
 g3:=by kernel_rfl
 g4:=by kernel_rfl }
abbrev Tryz.lays197_ren:Go.Shelf.Ren:=Tryz.uniR
theorem Tryz.lays197:Go.Proofs.Lays.n197 Tryz.prog Tryz.lays197_ren:={
 mixed:=by kernel_rfl
 f197:=Tryz.func180.trans (congrArg some (by kernel_rfl))
 f260:=Tryz.func202.trans (congrArg some (by kernel_rfl))
 t0:=Tryz.underlying0
 a0:=Tryz.isAgg0
 z0:=Tryz.sizeOf0
 v0:=Tryz.zeroValue0
 t3:=Tryz.underlying3
 a3:=Tryz.isAgg3
 z3:=Tryz.sizeOf3
 v3:=Tryz.zeroValue3
 t4:=Tryz.underlying4
 a4:=Tryz.isAgg4
 z4:=Tryz.sizeOf4
 v4:=Tryz.zeroValue4
 t5:=Tryz.underlying5
 a5:=Tryz.isAgg5
 z5:=Tryz.sizeOf5
 v5:=Tryz.zeroValue5
 t9:=Tryz.underlying9
 a9:=Tryz.isAgg9
 z9:=Tryz.sizeOf9
 v9:=Tryz.zeroValue9
 t21:=Tryz.underlying21
 a21:=Tryz.isAgg21
 z21:=Tryz.sizeOf21
 v21:=Tryz.zeroValue21
 t46:=Tryz.underlying202
 a46:=Tryz.isAgg202
 z46:=Tryz.sizeOf202
 v46:=Tryz.zeroValue202
 t105:=Tryz.underlying220
 a105:=Tryz.isAgg220
 z105:=Tryz.sizeOf220
 v105:=Tryz.zeroValue220
 t119:=Tryz.underlying215
 a119:=Tryz.isAgg215
 z119:=Tryz.sizeOf215
 t138:=Tryz.underlying217
 a138:=Tryz.isAgg217
 z138:=Tryz.sizeOf217
 v138:=Tryz.zeroValue217
 t139:=Tryz.underlying218
 a139:=Tryz.isAgg218
 z139:=Tryz.sizeOf218
 v139:=Tryz.zeroValue218
 g3:=by kernel_rfl
 g4:=by kernel_rfl }
def Tryz.sortP_ren:Go.Shelf.Ren:=⟨fun|6=>221|15=>241|14=>240|28=>271|29=>212|20=>263|21=>264|22=>265|23=>266|24=>267|25=>268|26=>269|27=>270|46=>285|47=>286|48=>287|49=>288|50=>289|57=>294|n=>n,fun|22=>207|24=>209|25=>267|3=>3|39=>202|0=>0|53=>179|55=>120|4=>4|46=>316|45=>315|50=>235|5=>5|9=>9|66=>331|70=>335|76=>342|77=>170|n=>n,fun|n=>n⟩
theorem Tryz.sortP:Go.Proofs.SlLaysF0.n6 Tryz.prog Tryz.sortP_ren:={
 mixed:=by kernel_rfl
 f6:=⟨Tryz.f221.name,by decide,Tryz.func221.trans (congrArg some (by kernel_rfl))⟩
 f14:=⟨Tryz.f240.name,by decide,Tryz.func240.trans (congrArg some (by kernel_rfl))⟩
 f15:=Tryz.func241.trans (congrArg some (by kernel_rfl))
 f20:=⟨Tryz.f263.name,by decide,Tryz.func263.trans (congrArg some (by kernel_rfl))⟩
 f21:=⟨Tryz.f264.name,by decide,Tryz.func264.trans (congrArg some (by kernel_rfl))⟩
 f22:=⟨Tryz.f265.name,by decide,Tryz.func265.trans (congrArg some (by kernel_rfl))⟩
 f23:=⟨Tryz.f266.name,by decide,Tryz.func266.trans (congrArg some (by kernel_rfl))⟩
 f24:=⟨Tryz.f267.name,by decide,Tryz.func267.trans (congrArg some (by kernel_rfl))⟩
 f25:=⟨Tryz.f268.name,by decide,Tryz.func268.trans (congrArg some (by kernel_rfl))⟩
 f26:=⟨Tryz.f269.name,by decide,Tryz.func269.trans (congrArg some (by kernel_rfl))⟩
 f27:=⟨Tryz.f270.name,by decide,Tryz.func270.trans (congrArg some (by kernel_rfl))⟩
 f28:=Tryz.func271.trans (congrArg some (by kernel_rfl))
 f29:=Tryz.func212.trans (congrArg some (by kernel_rfl))
 f46:=⟨Tryz.f285.name,by decide,Tryz.func285.trans (congrArg some (by kernel_rfl))⟩
 f47:=Tryz.func286.trans (congrArg some (by kernel_rfl))
 f48:=Tryz.func287.trans (congrArg some (by kernel_rfl))
 f49:=⟨Tryz.f288.name,by decide,Tryz.func288.trans (congrArg some (by kernel_rfl))⟩
 f50:=⟨Tryz.f289.name,by decide,Tryz.func289.trans (congrArg some (by kernel_rfl))⟩
 f57:=⟨Tryz.f294.name,by decide,Tryz.func294.trans (congrArg some (by kernel_rfl))⟩
 t0:=Tryz.underlying0
 a0:=Tryz.isAgg0
 z0:=Tryz.sizeOf0
 v0:=Tryz.zeroValue0
 t3:=Tryz.underlying3
 a3:=Tryz.isAgg3
 z3:=Tryz.sizeOf3
 v3:=Tryz.zeroValue3
 t4:=Tryz.underlying4
 a4:=Tryz.isAgg4
 z4:=Tryz.sizeOf4
 v4:=Tryz.zeroValue4
 t5:=Tryz.underlying5
 a5:=Tryz.isAgg5
 z5:=Tryz.sizeOf5
 v5:=Tryz.zeroValue5
 t9:=Tryz.underlying9
 a9:=Tryz.isAgg9
 z9:=Tryz.sizeOf9
 v9:=Tryz.zeroValue9
 t22:=Tryz.underlying207
 a22:=Tryz.isAgg207
 z22:=Tryz.sizeOf207
 v22:=Tryz.zeroValue207
 t25:=Tryz.underlying267
 a25:=Tryz.isAgg267
 z25:=Tryz.sizeOf267
 v25:=Tryz.zeroValue267
 t39:=Tryz.underlying202
 a39:=Tryz.isAgg202
 z39:=Tryz.sizeOf202
 v39:=Tryz.zeroValue202
 t45:=Tryz.underlying315
 a45:=Tryz.isAgg315
 z45:=Tryz.sizeOf315
 v45:=Tryz.zeroValue315
 t46:=Tryz.underlying316
 a46:=Tryz.isAgg316
 z46:=Tryz.sizeOf316
 v46:=Tryz.zeroValue316
 t50:=Tryz.underlying235
 a50:=Tryz.isAgg235
 z50:=Tryz.sizeOf235
 v50:=Tryz.zeroValue235
 t53:=Tryz.underlying179
 a53:=Tryz.isAgg179
 z53:=Tryz.sizeOf179
 v53:=Tryz.zeroValue179
 t55:=Tryz.underlying120
 a55:=Tryz.isAgg120
 z55:=Tryz.sizeOf120
 v55:=Tryz.zeroValue120
 t66:=Tryz.underlying331
 a66:=Tryz.isAgg331
 z66:=Tryz.sizeOf331
 v66:=Tryz.zeroValue331
 t70:=Tryz.underlying335
 a70:=Tryz.isAgg335
 z70:=Tryz.sizeOf335
 v70:=Tryz.zeroValue335
 t76:=Tryz.underlying342
 a76:=Tryz.isAgg342
 z76:=Tryz.sizeOf342
 v76:=Tryz.zeroValue342
 t77:=Tryz.underlying170
 a77:=Tryz.isAgg170
 z77:=Tryz.sizeOf170
 v77:=Tryz.zeroValue170 }
end Go.Proofs
namespace Go.Sym
open Go.RowKit
variable [LC]
theorem qbm.data {P:Program} {f:FuncId} {xs:List AV} {r:AV}
  (h:∀ (w:World) (G:Gh) (vs:List Value),Mem G [] w->Reps xs G vs->Calls P f vs.toArray w fun e w'=>∃ v,e = .returned v/\Rep r G v/\qev w w'):qbm P f xs [] r []:=by
 intro w G vs hm hr;refine (h w G vs hm hr).mono ?_;rintro e w' ⟨v,rfl,hv,hs⟩
 refine⟨v,G,rfl,?_,hv⟩;exact (qoc hm).extend (new:=[]) (Gh.le.refl G) hs (fun _ _ _ h => .inl h) (fun b o v hv=>by
  have hc:=hm.agree b o v hv;have hlt:=World.block_lt_of_cell? _ _ hc;rw[World.cell?_of_block (w:=w) (hs.block b hlt (fun h=>h))];exact hc) hm.one (fun n bx h=>by cases h) (fun n bx h=>by cases h) (fun n m bx bx' b h=>by cases h)
omit [LC] in
theorem qev.of_below {w w':World} (h:Below w.heap.size w w'):qev w w':=⟨h.os,h.tape,h.output,h.size,fun k hk _=>h.block k hk⟩
omit [LC] in
theorem qev.refl (w:World):qev w w:=⟨rfl,rfl,rfl,wF _,fun _ _ _=>rfl⟩
theorem qbm.fresh {P:Program} {f:FuncId} {xs:List AV} {τ:Ty} {l:List τ.den} {E:TypeId}
  (h:∀ (w:World) (G:Gh) (vs:List Value),Mem G [] w->Reps xs G vs->Calls P f vs.toArray w fun e w'=>∃ ad c us,e = .returned (.slice ad l.length c)/\qre w' E τ.sz ad l.length c us/\Reps (l.flatMap τ.enc) G.data us/\(∀ b,qhz ad=some b->w.heap.size<=b)/\qev w w') :
  qbm P f xs [] (.own 0) [(0,.row τ l E)]:=by
 intro w G vs hm hr;refine (h w G vs hm hr).mono ?_;rintro e w' ⟨ad,c,us,rfl,hrow,hus,hb,hs⟩
 let G':Gh:={ imm:=G.imm,box:=fun _=>none,own:=fun m=>bif Nat.beq m 0 then some (ad,l.length,c) else none }
 have hself:(G'.own 0)=some (ad,l.length,c):=rfl;have hag:∀ b o v,G.imm b o=some v->w'.cell? ⟨b,o,none⟩=some v:=fun b o v hv=>by
  have hc:=hm.agree b o v hv;have hlt:=World.block_lt_of_cell? _ _ hc;rw[World.cell?_of_block (w:=w) (hs.block b hlt (fun h=>h))];exact hc
 have hlt:∀ b o v,G.imm b o=some v->b<w.heap.size:=fun b o v hv=>World.block_lt_of_cell? _ _ (hm.agree b o v hv)
 have hlk:∀ m b,look [(0,Box.row τ l E)] m=some b->m=0/\b = .row τ l E:=fun m b hh=>by
  simp only[look]at hh;cases hb:Nat.beq 0 m
  ·rw[hb]at hh;cases hh
  ·rw[hb]at hh;simp only[qT,qI]at hh;exact⟨(qN hb).symm,hh.symm⟩
 have hat:G'.at 0 (.row τ l E)=qhz ad:=by
  simp only[Gh.at,hself];cases ad<;>rfl
 refine⟨.slice ad l.length c,G',rfl,⟨⟨hag,hm.one,fun m b hh => ?_,fun m m' b b' c' h1 h2 _ _ => ?_,LC.mono (fun _ _ _ h=>h) (fun b o v h=>hs.block b (hlt b o v h) fun h=>h) hm.tab⟩,⟨hs.os,hs.tape,hs.output,hs.size,fun k hk _=>hs.block k hk fun h=>h⟩,fun _ _ _ h=>h,fun _ _ _ h => .inl h,fun m b c' h1 h2 => ?_,fun _ _ _ h=>(by cases h),fun _ _ _ h=>(by cases h)⟩,ad,l.length,c,hself,rfl⟩
 ·obtain⟨rfl,rfl⟩:=hlk m b hh;refine qj5.row hself hrow (Reps.data_le (fun _ _ _ h=>h) hus) fun b hb' o => ?_
  cases hq:G.imm b o with
  | none=>rfl
  | some v=>have:=hlt b o v hq;have:=hb b hb';omega
 ·obtain⟨rfl,_⟩:=hlk m b h1;obtain⟨rfl,_⟩:=hlk m' b' h2;rfl
 ·obtain⟨rfl,rfl⟩:=hlk m b h1;rw[hat]at h2;exact .inl (hb c' h2)
theorem zf4 {P:Program} {G:Gh} {w:World} (hm:Mem G [] w) {τ:Ty} {l:List τ.den} {v:Value} (h:Rep (.sl τ l) G v) :
  ∃ news,(∀ w,(Builtin.lenOf v).run P w = .ok l.length w)/\(∀ w',(∀ k,k<w.heap.size->w'.heap[k]? = w.heap[k]?)->(Builtin.firstCells τ.sz l.length v).run P w' = .ok news.toArray w')/\Reps (l.flatMap τ.enc) G.data news/\∀ u∈news,u.oneCell'=true:=by
 let s:St:={ n:=0,fr:=[],hp:=[],nx:=0,df:=[] }
 have hr:Rel w G.data [] G.data s { tmps:=#[],defers:=[] } w:=
  ⟨⟨[],rfl,rfl⟩,rfl,fun i x h=>(by cases h),fun _ _ _=>⟨rfl,rfl⟩,qoc ⟨hm.agree,hm.one,fun _ _ h=>(by cases h),fun _ _ _ _ _ h=>(by cases h),hm.tab⟩⟩
 rcases q8n hr (x := .sl τ l) (v:=v) (flat:=l.flatMap τ.enc) (n:=l.length) h rfl with ⟨b,hb,_⟩|⟨ad,c,us,rfl,h1,h2,h3⟩
 ·cases hb
 ·refine⟨us,fun w=>by simp[Builtin.lenOf],fun w' hw' => ?_,h1,h2⟩
  have hul:us.length=l.length*τ.sz:=by rw[← h1.length,qjv]
  cases ad with
  | none=>
   have:us=[]:=by
    rcases h3 with h3|⟨_,_,h3,_⟩
    ·exact h3
    ·cases h3
   subst this;simp[Builtin.firstCells]
  | some ad=>
   have h3':us=[]\/∃ b o,some ad=some (⟨b,o,none⟩:Addr)/\∀ j u,us[j]? = some u->w'.cell? ⟨b,o+j,none⟩=some u:=by
    rcases h3 with h3|⟨b,o,h4,h5⟩
    ·exact .inl h3
    ·refine .inr ⟨b,o,h4,fun j u hu => ?_⟩
     have hc:=h5 j u hu;rw[World.cell?_of_block (w:=w) (hw' _ (World.block_lt_of_cell? _ _ hc))];exact hc
   have:=qjf (P:=P) (w:=w') (ad:=ad) h3';rw[hul]at this;simp[Builtin.firstCells,this]
omit [LC] in
theorem qor {P:Program} {ops:Array Oper} {rest:List Oper} {o:Oper} {a:Act} {w:World} {Q:Exit->Act->World->Prop} (hgd:o.guard=none) (s x:Operand) (t:TypeId)
  (ho:o.op = .call { callee := .builtin .append,args:=#[s,x],argTypes:=#[t,t] }) {E:TypeId} {sz:Nat} (ht:P.underlying t=some (.slice E)) (hz:qjt P E=true) (hsz:qmo P E=some sz) (ht2:q20 P t=true)
  {ad:Option Addr} {n c:Nat} {us:List Value} (hs:a.eval s = .slice ad n c) (hrow:qre w E sz ad n c us) {v:Value} (hx:a.eval x=v) {m:Nat} {news:List Value}
  (vbu:∀ w,(Builtin.lenOf v).run P w = .ok m w) (hcells:∀ w',w'.heap=w.heap->(Builtin.firstCells sz m v).run P w' = .ok news.toArray w') (hnl:news.length=m*sz) (hn1:∀ v∈news,v.oneCell'=true) (hmax:n+m<=qaq)
  (h:∀ ad' c' w',qre w' E sz ad' (n+m) c' (us++news)->(qhz ad'=qhz ad\/∃ g,qhz ad'=some g/\w.heap.size<=g)->Bel (fun b=>qhz ad=some b) w w'->wpList P ops Q rest (a.put o.dst (.slice ad' (n+m) c')) w'):wpList P ops Q (o::rest) a w:=by
 obtain⟨i,z,hi,hz',z1,z2,z3,z4,zs⟩:=qr2 hz hsz;rw[← zs]at hrow hcells hnl h;refine wpList_plain hgd fun _ hK => ?_
 obtain⟨ad',c',w',r1,r2,r3,r4⟩:=q3q (ty:=o.type) ht hi hz' z1 z2 z3 z4 ht2 hrow vbu hcells hnl hn1 hmax;unfold Oper.wp execOp;simp only[ho,resolve,invoke,builtin,Sem.run_bind,Sem.run_pure,Result.andThen_ok,List.map_toArray,List.map_cons,List.map_nil,hs,hx,r1];exact hK _ _ (h ad' c' w' r2 r3 r4)
end Go.Sym
namespace Go.Sym
open Go.Proofs Go.RowKit Go.Sort
variable [LC]
omit [LC] in
theorem qev.below {w w':World} (h:qev w w'):Below w.heap.size w w':=⟨h.os,h.tape,h.output,h.size,fun k hk=>h.block k hk (fun h=>h)⟩
theorem Mem.still {G:Gh} {w w':World} (hm:Mem G [] w) (hs:qev w w'):Mem G [] w':=
 have hlt:∀ b o v,G.imm b o=some v->w'.heap[b]? = w.heap[b]? := fun b o v hv=>hs.block b (World.block_lt_of_cell? _ _ (hm.agree b o v hv)) (fun h=>h)
 ⟨fun b o v hv=>by rw[World.cell?_of_block (w:=w) (hlt b o v hv)];exact hm.agree b o v hv,hm.one,fun n bx h=>(by cases h),fun n m bx bx' b h=>(by cases h),LC.mono (fun _ _ _ h=>h) hlt hm.tab⟩
theorem zyr {G:Gh} {w:World} (hm:Mem G [] w) (hg:LC.glob 3=some ⟨.int .u64,Lib.pow10Tab⟩) (hs:(3,20)∈LC.sizes):∃ t fr,w.heap[3]? = some (.cells (Lib.pow10Tab.map fun z=>Value.int .u64 z).toArray t fr):=by
 obtain⟨_,cs,t,fr,hh,hz⟩:=hm.tab.2.2.2 _ hs;refine⟨t,fr,hh.trans ?_⟩;congr 2;apply Array.ext
 ·rw[hz];simp[Lib.pow10Tab]
 ·intro j h1 h2;have hj:j<Lib.pow10Tab.length:=by simpa using h2
  have h3:=hm.agree _ _ _ (hm.tab.1 _ _ _ hg j _ (List.getElem?_eq_getElem hj));rw[show j*(Ty.int .u64).sz=j from Nat.mul_one j]at h3
  simp only[World.cell?,hh]at h3;rw[Array.getElem?_eq_getElem h1]at h3;simp only[List.getElem_toArray,List.getElem_map];exact qJ h3
theorem q5o {G:Gh} {w:World} (hm:Mem G [] w) (hg:LC.glob 3=some ⟨.int .u64,Lib.pow10Tab⟩) (hs:(3,20)∈LC.sizes) (n:Int) (h0 : -9223372036854775808<=n) (h1:n<=9223372036854775807) :
  Calls Tryz.prog 94 #[.int .i64 n] w fun e w'=>e = .returned (.string ⟨(Lib.itoa n).toArray⟩)/\qev w w':=
 (Any.strconv_Itoa Tryz.laysM171 n h0 h1 w (by
  unfold Lib.TabIs World.var?;obtain⟨t,fr,hh⟩:=zyr hm hg hs;rw[show Tryz.prog.globalNamed _=some 3 by kernel_rfl,qB,hh])).mono fun e w' ⟨he,k,os,hw⟩=>⟨he,by
   subst hw;refine⟨rfl,rfl,rfl,by simp[grow],fun j hj _ => ?_⟩
   show (w.heap++os)[j]? = _;rw[Array.getElem?_append_left hj]⟩
def zpf:IF:=⟨.fn 94,[.h (.int .i64)],[],_,RS.mk (.h .str) []⟩
theorem zjl (hg:LC.glob 3=some ⟨.int .u64,Lib.pow10Tab⟩) (hs:(3,20)∈LC.sizes):(zpf.e qdw).Sound Tryz.prog:=fun d d' r h=>by
 have h:qdw d.1=some r:=h;unfold qdw at h;cases hd:decide (-9223372036854775808<=(show Int from d.1)/\(show Int from d.1)<=9223372036854775807)<;>rw[hd]at h<;>simp only[qT,qF,reduceCtorEq]at h
 have h:=qJ h;subst h;have hd:=of_decide_eq_true hd;refine⟨Tryz.call94,qbm.data fun w G vs hm hr => ?_⟩
 match vs,hr with
 | [v],⟨h1,_⟩=>
  have h1:v = .int .i64 d.1:=h1;subst h1;exact (q5o hm hg hs _ hd.1 hd.2).mono fun e w' ⟨he,hw⟩=>⟨_,he,rfl,hw⟩
theorem zbi {G:Gh} {w:World} (hm:Mem G [] w) (hi:0∈LC.ints) {a b:Bs} {u v:Value} (hu:Rep (.sl .byte a) G u) (hv:Rep (.sl .byte b) G v) (h2:2<=b.length) (hb:b.length<=maxLen) (ha:a.length<4294967281) :
  Calls Tryz.prog 131 #[u,v] w fun e w'=>e = .returned (.int .i64 (Lib.index a b))/\qev w w':=by
 obtain⟨p,c,rfl,hc,hp⟩:SlAt 1 (Ty.byte.At G.imm) a u:=hu;obtain⟨q,d,rfl,hd,hq⟩:SlAt 1 (Ty.byte.At G.imm) b v:=hv;by_cases hlt:a.length<b.length
 ·have h:=Any.bytes_Index_longer Tryz.lays185 p q a.length c b.length d w h2 hlt (by unfold maxLen at hb;omega)
  rw[Lib.index_past (i:=0) (by intro e;subst e;simp at h2) (fun j hj=>absurd hj (Nat.not_lt_zero _)) (by simpa using hlt)]
  exact h.mono fun e w' ⟨he,hw⟩=>⟨he,by subst hw;exact qev.refl _⟩
 ·rcases hp with rfl|⟨g,o,rfl,hcells⟩
  ·exact absurd (show ([]:Bs).length<b.length from by show 0<_;omega) hlt
  rcases hq with rfl|⟨g',o',rfl,hcells'⟩
  ·exact absurd h2 (by show ¬ 2<=0;omega)
  obtain⟨k,hk⟩:=hm.tab.2.1 _ hi;have hk:=hm.agree _ _ _ hk;have bb:∀ l:Bs,Lib.bytesOf (l.map fun x=>(x.toNat:Int))=l:=fun l=>by
   unfold Lib.bytesOf;rw[List.map_map];have:((fun n:Int=>UInt8.ofNat n.toNat) ∘ fun x:UInt8=>(x.toNat:Int))=id:=by funext x;simp
   rw[this,List.map_id]
  have cl:∀ (l:Bs) (g o:Nat),(∀ (j:Nat) (x:UInt8),l[j]? = some x->Ty.byte.At G.imm x g (o+j*1))->∀ i,i<l.length->w.cell? ((⟨g,o,none⟩:Addr).add i)=some (.int .u8 ((l.map fun x=>(x.toNat:Int)).getD i 0)):=fun l g o h i hi=>by
   have h1:G.imm g (o+i*1)=some (.int .u8 l[i].toNat):=h i _ (List.getElem?_eq_getElem hi);have h1:=hm.agree _ _ _ h1;rw[Nat.mul_one]at h1;rw[Lib.add_plain',h1];simp[List.getD_eq_getElem?_getD,hi]
  have rg:∀ l:Bs,∀ x∈l.map (fun x=>(x.toNat:Int)),0<=x/\x<256:=fun l x hx=>by
   obtain⟨c,_,rfl⟩:=List.mem_map.1 hx;have:=c.toNat_lt;omega
  have h:=Any.bytes_Index_at Tryz.lays185 ⟨g,o,none⟩ ⟨g',o',none⟩ a.length c b.length d (a.map fun x=>(x.toNat:Int)) (b.map fun x=>(x.toNat:Int)) k w (by simp) (by simp) (rg a) (rg b) (cl a g o hcells) (cl b g' o' hcells') hc ha (by unfold maxLen at hb;omega) hk
  rw[bb,bb]at h;exact h.mono fun e w' ⟨he,n,hw⟩=>⟨he,by subst hw;exact⟨rfl,rfl,rfl,wF _,fun _ _ _=>rfl⟩⟩
def q96:IF:=⟨.fn 131,[.h (.list .byte),.h (.list .byte)],[],_,RS.mk (.h (.int .i64)) []⟩
theorem q70 (hi:0∈LC.ints):(q96.e qer).Sound Tryz.prog:=fun d d' r h=>by
 obtain⟨a,b,_⟩:=d;have h:qer a b=some r:=h;unfold qer at h;cases hd:decide (2<=List.length (α:=UInt8) b/\List.length (α:=UInt8) a<4294967281/\List.length (α:=UInt8) b<=maxLen)<;>rw[hd]at h<;>simp only[qT,qF,reduceCtorEq]at h
 have h:=qJ h;subst h;have hd:=of_decide_eq_true hd;refine⟨Tryz.call131,qbm.data fun w G vs hm hr => ?_⟩
 match vs,hr with
 | [u,v],⟨h1,h2,_⟩=>
  exact (zbi hm hi h1 h2 hd.1 hd.2.2 hd.2.1).mono fun e w' ⟨he,hw⟩=>⟨_,he,rfl,hw⟩
end Go.Sym
namespace Go.Sym
open Go.Proofs Go.RowKit Go.Sort
variable [LC]
omit [LC] in
theorem qev.trans {w w1 w2:World} (h:qev w w1) (k:qev w1 w2):qev w w2:=
 ⟨k.os.trans h.os,k.tape.trans h.tape,k.output.trans h.output,Nat.le_trans h.size k.size,fun j hj _=>(k.block j (Nat.lt_of_lt_of_le hj h.size) (fun h=>h)).trans (h.block j hj (fun h=>h))⟩
omit [LC] in
theorem zea {l:Bs} {v:Int} (h:Lib.atoiAll l = .ok v) : -9223372036854775808<=v/\v<=9223372036854775807:=by
 unfold Lib.atoiAll at h;split at h
 ·cases h
 ·simp only at h;split at h
  ·cases h
  ·cases h
  ·split at h
   ·cases h
   ·split at h
    ·cases h
    ·rename_i h1 h2;injection h with h
     split at h<;>rename_i h3
     ·simp only[h3,not_true_eq_false,false_and,true_and]at h1 h2;omega
     ·simp only[h3,not_false_eq_true,true_and,false_and]at h1 h2;omega
theorem q8x {G:Gh} {w:World} (hm:Mem G [] w) (hg:LC.glob 3=some ⟨.int .u64,Lib.pow10Tab⟩) (hs:(3,20)∈LC.sizes) (h1:6∈LC.ifs) (h2:7∈LC.ifs) (s:Bs) (most:Int) (hl:s.length<=281474976710656) :
  Calls Tryz.prog 195 #[.string ⟨s.toArray⟩,.int .i64 most] w fun e w'=>e = .returned (.tuple #[.int .i64 (numS s most).1,.bool (numS s most).2])/\qev w w':=by
 have hsz:(⟨s.toArray⟩:ByteArray).size=s.length:=qtm s;have hd:(⟨s.toArray⟩:ByteArray).data.toList=s:=by simp
 have bw:∀ t:ByteArray,qev w (Lib.bytesWorld w 5 t):=fun t=>by
  refine⟨rfl,rfl,rfl,?_,fun j hj _ => ?_⟩
  ·simp[Lib.bytesWorld,World.freeze]
  ·show ((w.heap.push _).modify w.heap.size _)[j]? = _;rw[Array.getElem?_modify,qW (by omega),Array.getElem?_push_lt (by omega)]
   exact (Array.getElem?_eq_getElem hj).symm
 have bad:(Calls Tryz.prog 219 #[.string ⟨s.toArray⟩] w fun e w'=>(∃ n t v,e = .returned (.tuple #[.int .i64 n,.iface t v]))/\qev w w') ->
   Calls Tryz.prog 195 #[.string ⟨s.toArray⟩,.int .i64 most] w fun e w'=>e = .returned (.tuple #[.int .i64 0,.bool false])/\qev w w':=fun cA=>by
  clear hg hs hm
  go_enter Tryz.func195,Tryz.ntmps195
  go_wp2_with (go_at_call 219;refine cA.mono ?_;rintro e wa ⟨⟨n,t,v,rfl⟩,sa⟩)
  all_goals (clear cA;go_ret2;exact⟨rfl,sa⟩)
 unfold numS
 cases hA:Lib.atoiAll s with
 | ok v=>
  obtain⟨b1,b2⟩:=zea hA;have cA:Calls Tryz.prog 219 #[.string ⟨s.toArray⟩] w fun e w'=>e = .returned (.tuple #[.int .i64 v,.nilIface])/\qev w w':=
   (Any.strconv_Atoi_ok Tryz.laysC172 ⟨s.toArray⟩ (by omega) v (by rw[hd];exact hA) w).mono fun e w' ⟨he,hw⟩=>⟨he,by
    rcases hw with rfl|⟨t,rfl⟩
    ·exact qev.refl _
    ·exact bw t⟩
  have cI:∀ w',qev w w'->Calls Tryz.prog 94 #[.int .i64 v] w' fun e w''=>e = .returned (.string ⟨(Lib.itoa v).toArray⟩)/\qev w' w'':=fun w' h=>q5o (hm.still h) hg hs v b1 b2
  have hse:(⟨(Lib.itoa v).toArray⟩:ByteArray)=⟨s.toArray⟩↔Lib.itoa v=s:=by
   constructor
   ·intro h;have:=congrArg (fun x:ByteArray=>x.data.toList) h;simpa using this
   ·intro h;rw[h]
  show Calls Tryz.prog 195 _ w fun e w'=>e = .returned (.tuple #[.int .i64 (if Lib.itoa v=s/\0<=v/\v<=most then (v,true) else (0,false)).1,.bool (if Lib.itoa v=s/\0<=v/\v<=most then (v,true) else (0,false)).2])/\qev w w'
  generalize Lib.itoa v=t at cI hse ⊢;obtain⟨r,hr⟩:∃ r,r=(if t=s/\0<=v/\v<=most then (v,true) else (0,false)):=⟨_,rfl⟩
  rw[← hr];clear hA hg hs hm
  go_enter Tryz.func195,Tryz.ntmps195
  go_wp2_with (first|(go_at_call 219;refine cA.mono ?_;rintro e wa ⟨rfl,sa⟩)|(go_at_call 94;refine (cI _ (by assumption)).mono ?_;rintro e wb ⟨rfl,sb⟩))
  all_goals (clear cA cI;go_ret2)
  all_goals (by_cases q:t=s/\0<=v/\v<=most)
  all_goals first
   | (rw[qX q]at hr;subst hr;first|exact⟨rfl,sa.trans sb⟩|(exfalso;omega)|(exfalso;exact absurd q.1 (by assumption)))
   | (rw[qW q]at hr;subst hr;first|exact⟨rfl,sa.trans sb⟩|(exfalso;exact q ⟨by assumption,by omega,by omega⟩))
 | range=>
  obtain⟨te,pe,hv⟩:=hm.tab.2.2.1 _ h2;have cA:Calls Tryz.prog 219 #[.string ⟨s.toArray⟩] w fun e w'=>(∃ n t v,e = .returned (.tuple #[.int .i64 n,.iface t v]))/\qev w w':=
   (Any.strconv_Atoi_range Tryz.laysC172 ⟨s.toArray⟩ (by omega) (by rw[hd];exact hA) _ w (hm.agree _ _ _ hv) (.inr ⟨_,_,rfl⟩)).mono fun e w' ⟨N,he,_,_,hw⟩=>⟨⟨_,_,_,he⟩,qev.of_below hw⟩
  exact bad cA
 | _=>
  obtain⟨te,pe,hv⟩:=hm.tab.2.2.1 _ h1;have cA:Calls Tryz.prog 219 #[.string ⟨s.toArray⟩] w fun e w'=>(∃ n t v,e = .returned (.tuple #[.int .i64 n,.iface t v]))/\qev w w':=
   (Any.strconv_Atoi_syntax Tryz.laysC172 ⟨s.toArray⟩ (by omega) (by rw[hd];exact hA) _ w (hm.agree _ _ _ hv) (.inr ⟨_,_,rfl⟩)).mono fun e w' ⟨N,he,_,_,hw⟩=>⟨⟨_,_,_,he⟩,qev.of_below hw⟩
  exact bad cA
def zhm:IF:=⟨.fn 195,[.h .str,.h (.int .i64)],[],_,RS.mk (.tup [.h (.int .i64),.h .bool]) []⟩
theorem zfq (hg:LC.glob 3=some ⟨.int .u64,Lib.pow10Tab⟩) (hs:(3,20)∈LC.sizes) (h1:6∈LC.ifs) (h2:7∈LC.ifs):(zhm.e qgw).Sound Tryz.prog:=fun d d' r h=>by
 obtain⟨s,most,_⟩:=d;have h:qgw s most=some r:=h;unfold qgw at h;cases hd:decide (List.length (α:=UInt8) s<=281474976710656)<;>rw[hd]at h<;>simp only[qT,qF,reduceCtorEq]at h
 have h:=qJ h;subst h;refine⟨Tryz.call195,qbm.data fun w G vs hm hr => ?_⟩
 match vs,hr with
 | [u,v],⟨e1,e2,_⟩=>
  have e1:u = .string ⟨List.toArray s⟩:=e1;have e2:v = .int .i64 most:=e2;subst e1 e2;exact (q8x hm hg hs h1 h2 s most (of_decide_eq_true hd)).mono fun e w' ⟨he,hw⟩=>⟨_,he,⟨_,rfl,rfl,rfl,trivial⟩,hw⟩
end Go.Sym
namespace Go.Sym
open Go.Proofs Go.RowKit
variable [LC]
omit [LC] in
theorem qk3 (w:World) (o:Obj) {k:Nat} (hk:k<w.heap.size):(w.alloc o).heap[k]? = w.heap[k]? := by
 show (w.heap.push _)[k]? = _;rw[Array.getElem?_push_lt hk];exact (Array.getElem?_eq_getElem hk).symm
omit [LC] in
theorem qxx (w:World) (E:TypeId) (sz:Nat):qre (w.alloc (.cells #[] E)) E sz (some ⟨w.heap.size,0,none⟩) 0 0 []:=
 ⟨by simp,.inr ⟨w.heap.size,#[],(0,0),rfl,by show (w.heap.push _)[w.heap.size]? = _;simp,.inl rfl,wF _,by unfold maxLen;omega,by simp,by simp,by simp⟩⟩
set_option maxRecDepth 100000 in
theorem zem (l:List (.prod .str .str:Ty).den) (hd:l.length<=qaq):qbm Tryz.prog 38 [.sl (.prod .str .str) l] [] (.own 0) [(0,.row (.prod .str .str) l 50)]:=by
 refine qbm.fresh fun w G vs hm hr => ?_
 match vs,hr with
 | [v],⟨h1,_⟩=>
  obtain⟨news,k1,k2,k3,k4⟩:=zf4 (P:=Tryz.prog) hm h1;have hnl:news.length=l.length*(.prod .str .str:Ty).sz:=by rw[← k3.length];exact qjv l
  obtain⟨p,c,rfl,hc,hp⟩:SlAt (.prod .str .str:Ty).sz ((.prod .str .str:Ty).At G.imm) l v:=h1
  cases p with
  | none=>
   have hl:l=[]:=by
    rcases hp with h|⟨_,_,h,_⟩
    ·exact h
    ·cases h
   subst hl;have e0:news=[]:=List.eq_nil_of_length_eq_zero (by rw[hnl];exact Nat.zero_mul _)
   subst e0;have hg:Calls Tryz.prog 38 #[.slice none 0 c] w fun e w'=>e = .returned (.slice none 0 0)/\w'=w:=by
    clear hp hr k1 k2 hm hnl hc hd k3 k4;have q22:∀ (w:World) (a:Option Addr) (n c n' c':Nat),(binOp .eql 22 (.slice a n c) (.slice none n' c')).run Tryz.prog w = .ok (.bool a.isNone) w:=fun w a n c n' c'=>Lib.run_eql_slice_nil w _ _ a n c n' c' Tryz.underlying22
    have u22:∀ w,Sem.run Tryz.prog (underlying 22) w = .ok (TypeDesc.slice 50) w:=run_underlying Tryz.underlying22
    go_enter Tryz.func38,Tryz.ntmps38
    go_wp2
    go_ret
    exact⟨rfl,rfl⟩
   exact hg.mono fun e w' ⟨he,hw⟩=>⟨none,0,[],he,⟨rfl,.inl ⟨rfl,rfl,rfl⟩⟩,k3,fun b hb=>(by cases hb),by subst hw;exact qev.refl _⟩
  | some ad=>
   generalize hn:l.length=n at *;have hg:Calls Tryz.prog 38 #[.slice (some ad) n c] w fun e w'=>∃ ad' c',e = .returned (.slice ad' n c')/\qre w' 50 (.prod .str .str:Ty).sz ad' n c' news/\(∀ b,qhz ad'=some b->w.heap.size<=b)/\qev w w':=by
    clear hm k3 hr hp hn;have q22:∀ (w:World) (a:Option Addr) (n c n' c':Nat),(binOp .eql 22 (.slice a n c) (.slice none n' c')).run Tryz.prog w = .ok (.bool a.isNone) w:=fun w a n c n' c'=>Lib.run_eql_slice_nil w _ _ a n c n' c' Tryz.underlying22
    have u22:∀ w,Sem.run Tryz.prog (underlying 22) w = .ok (TypeDesc.slice 50) w:=run_underlying Tryz.underlying22
    go_enter Tryz.func38,Tryz.ntmps38
    go_wp2_with (at_builtin;refine qor rfl _ _ 22 rfl (E:=50) (sz:=(.prod .str .str:Ty).sz) (by kernel_rfl) (by kernel_rfl) (by kernel_rfl) (by kernel_rfl) rfl (qxx w 50 _) rfl k1 ?qc hnl k4 (by omega) ?_)
    case qc=>exact fun w' hw'=>k2 w' fun k hk=>by rw[hw'];exact qk3 w _ hk
    intro ad' c' w1 hrow hblk hbel
    go_wp2
    go_ret
    refine⟨ad',c',rfl,by simpa using hrow,fun b hb => ?_,⟨hbel.os,hbel.tape,hbel.output,Nat.le_trans (by show w.heap.size<=(w.heap.push _).size;simp) hbel.size,fun k hk _ => ?_⟩⟩
    ·rcases hblk with h|⟨g,h,hg⟩
     ·rw[h]at hb;injection hb with hb;have hb:w.heap.size=b:=hb;omega
     ·rw[h]at hb;injection hb with hb
      have:w.heap.size<=(w.alloc (.cells #[] 50)).heap.size:=by show w.heap.size<=(w.heap.push _).size;simp
      omega
    ·rw[hbel.block k (by show k<(w.heap.push _).size;simp;omega) (fun e=>by injection e with e;have e:w.heap.size=k:=e;omega)]
     exact qk3 w _ hk
   exact hg.mono fun e w' ⟨ad',c',he,hrow,hb,hs⟩=>⟨ad',c',news,he,hrow,k3,hb,hs⟩
def qut:IF:=⟨.fn 38,[.h (.list (.prod .str .str))],[],_,RS.mk (.own 0) [(0,.row (.prod .str .str) 50)]⟩
theorem qrr:(qut.e (qag (α:=(.prod .str .str:Ty).den))).Sound Tryz.prog:=fun d d' r h=>by
 obtain⟨l,_⟩:=d;have h:(bif decide (List.length (α:=(.prod .str .str:Ty).den) l<=qaq) then some (show List (.prod .str .str:Ty).den from l) else none)=some r:=h
 cases hd:decide (List.length (α:=(.prod .str .str:Ty).den) l<=qaq)<;>rw[hd]at h<;>simp only[qT,qF,reduceCtorEq]at h
 have h:=qJ h;subst h;exact⟨Tryz.call38,zem l (of_decide_eq_true hd)⟩
set_option maxRecDepth 100000 in
theorem zd4 (l:List (.byte:Ty).den) (hd:l.length<=qaq):qbm Tryz.prog 39 [.sl (.byte) l] [] (.own 0) [(0,.row (.byte) l 5)]:=by
 refine qbm.fresh fun w G vs hm hr => ?_
 match vs,hr with
 | [v],⟨h1,_⟩=>
  obtain⟨news,k1,k2,k3,k4⟩:=zf4 (P:=Tryz.prog) hm h1;have hnl:news.length=l.length*(.byte:Ty).sz:=by rw[← k3.length];exact qjv l
  obtain⟨p,c,rfl,hc,hp⟩:SlAt (.byte:Ty).sz ((.byte:Ty).At G.imm) l v:=h1
  cases p with
  | none=>
   have hl:l=[]:=by
    rcases hp with h|⟨_,_,h,_⟩
    ·exact h
    ·cases h
   subst hl;have e0:news=[]:=List.eq_nil_of_length_eq_zero (by rw[hnl];exact Nat.zero_mul _)
   subst e0;have hg:Calls Tryz.prog 39 #[.slice none 0 c] w fun e w'=>e = .returned (.slice none 0 0)/\w'=w:=by
    clear hp hr k1 k2 hm hnl hc hd k3 k4;have q22:∀ (w:World) (a:Option Addr) (n c n' c':Nat),(binOp .eql 23 (.slice a n c) (.slice none n' c')).run Tryz.prog w = .ok (.bool a.isNone) w:=fun w a n c n' c'=>Lib.run_eql_slice_nil w _ _ a n c n' c' Tryz.underlying23
    have u22:∀ w,Sem.run Tryz.prog (underlying 23) w = .ok (TypeDesc.slice 5) w:=run_underlying Tryz.underlying23
    go_enter Tryz.func39,Tryz.ntmps39
    go_wp2
    go_ret
    exact⟨rfl,rfl⟩
   exact hg.mono fun e w' ⟨he,hw⟩=>⟨none,0,[],he,⟨rfl,.inl ⟨rfl,rfl,rfl⟩⟩,k3,fun b hb=>(by cases hb),by subst hw;exact qev.refl _⟩
  | some ad=>
   generalize hn:l.length=n at *;have hg:Calls Tryz.prog 39 #[.slice (some ad) n c] w fun e w'=>∃ ad' c',e = .returned (.slice ad' n c')/\qre w' 5 (.byte:Ty).sz ad' n c' news/\(∀ b,qhz ad'=some b->w.heap.size<=b)/\qev w w':=by
    clear hm k3 hr hp hn;have q22:∀ (w:World) (a:Option Addr) (n c n' c':Nat),(binOp .eql 23 (.slice a n c) (.slice none n' c')).run Tryz.prog w = .ok (.bool a.isNone) w:=fun w a n c n' c'=>Lib.run_eql_slice_nil w _ _ a n c n' c' Tryz.underlying23
    have u22:∀ w,Sem.run Tryz.prog (underlying 23) w = .ok (TypeDesc.slice 5) w:=run_underlying Tryz.underlying23
    go_enter Tryz.func39,Tryz.ntmps39
    go_wp2_with (at_builtin;refine qor rfl _ _ 23 rfl (E:=5) (sz:=(.byte:Ty).sz) (by kernel_rfl) (by kernel_rfl) (by kernel_rfl) (by kernel_rfl) rfl (qxx w 5 _) rfl k1 ?qc hnl k4 (by omega) ?_)
    case qc=>exact fun w' hw'=>k2 w' fun k hk=>by rw[hw'];exact qk3 w _ hk
    intro ad' c' w1 hrow hblk hbel
    go_wp2
    go_ret
    refine⟨ad',c',rfl,by simpa using hrow,fun b hb => ?_,⟨hbel.os,hbel.tape,hbel.output,Nat.le_trans (by show w.heap.size<=(w.heap.push _).size;simp) hbel.size,fun k hk _ => ?_⟩⟩
    ·rcases hblk with h|⟨g,h,hg⟩
     ·rw[h]at hb;injection hb with hb;have hb:w.heap.size=b:=hb;omega
     ·rw[h]at hb;injection hb with hb
      have:w.heap.size<=(w.alloc (.cells #[] 5)).heap.size:=by show w.heap.size<=(w.heap.push _).size;simp
      omega
    ·rw[hbel.block k (by show k<(w.heap.push _).size;simp;omega) (fun e=>by injection e with e;have e:w.heap.size=k:=e;omega)]
     exact qk3 w _ hk
   exact hg.mono fun e w' ⟨ad',c',he,hrow,hb,hs⟩=>⟨ad',c',news,he,hrow,k3,hb,hs⟩
def qyl:IF:=⟨.fn 39,[.h (.list (.byte))],[],_,RS.mk (.own 0) [(0,.row (.byte) 5)]⟩
theorem qw1:(qyl.e (qag (α:=(.byte:Ty).den))).Sound Tryz.prog:=fun d d' r h=>by
 obtain⟨l,_⟩:=d;have h:(bif decide (List.length (α:=(.byte:Ty).den) l<=qaq) then some (show List (.byte:Ty).den from l) else none)=some r:=h
 cases hd:decide (List.length (α:=(.byte:Ty).den) l<=qaq)<;>rw[hd]at h<;>simp only[qT,qF,reduceCtorEq]at h
 have h:=qJ h;subst h;exact⟨Tryz.call39,zd4 l (of_decide_eq_true hd)⟩
set_option maxRecDepth 100000 in
theorem zec (l:List (.prod .str .str:Ty).den) (hd:l.length<=qaq):qbm Tryz.prog 71 [.sl (.prod .str .str) l] [] (.own 0) [(0,.row (.prod .str .str) l 86)]:=by
 refine qbm.fresh fun w G vs hm hr => ?_
 match vs,hr with
 | [v],⟨h1,_⟩=>
  obtain⟨news,k1,k2,k3,k4⟩:=zf4 (P:=Tryz.prog) hm h1;have hnl:news.length=l.length*(.prod .str .str:Ty).sz:=by rw[← k3.length];exact qjv l
  obtain⟨p,c,rfl,hc,hp⟩:SlAt (.prod .str .str:Ty).sz ((.prod .str .str:Ty).At G.imm) l v:=h1
  cases p with
  | none=>
   have hl:l=[]:=by
    rcases hp with h|⟨_,_,h,_⟩
    ·exact h
    ·cases h
   subst hl;have e0:news=[]:=List.eq_nil_of_length_eq_zero (by rw[hnl];exact Nat.zero_mul _)
   subst e0;have hg:Calls Tryz.prog 71 #[.slice none 0 c] w fun e w'=>e = .returned (.slice none 0 0)/\w'=w:=by
    clear hp hr k1 k2 hm hnl hc hd k3 k4;have q22:∀ (w:World) (a:Option Addr) (n c n' c':Nat),(binOp .eql 81 (.slice a n c) (.slice none n' c')).run Tryz.prog w = .ok (.bool a.isNone) w:=fun w a n c n' c'=>Lib.run_eql_slice_nil w _ _ a n c n' c' Tryz.underlying81
    have u22:∀ w,Sem.run Tryz.prog (underlying 81) w = .ok (TypeDesc.slice 86) w:=run_underlying Tryz.underlying81
    go_enter Tryz.func71,Tryz.ntmps71
    go_wp2
    go_ret
    exact⟨rfl,rfl⟩
   exact hg.mono fun e w' ⟨he,hw⟩=>⟨none,0,[],he,⟨rfl,.inl ⟨rfl,rfl,rfl⟩⟩,k3,fun b hb=>(by cases hb),by subst hw;exact qev.refl _⟩
  | some ad=>
   generalize hn:l.length=n at *;have hg:Calls Tryz.prog 71 #[.slice (some ad) n c] w fun e w'=>∃ ad' c',e = .returned (.slice ad' n c')/\qre w' 86 (.prod .str .str:Ty).sz ad' n c' news/\(∀ b,qhz ad'=some b->w.heap.size<=b)/\qev w w':=by
    clear hm k3 hr hp hn;have q22:∀ (w:World) (a:Option Addr) (n c n' c':Nat),(binOp .eql 81 (.slice a n c) (.slice none n' c')).run Tryz.prog w = .ok (.bool a.isNone) w:=fun w a n c n' c'=>Lib.run_eql_slice_nil w _ _ a n c n' c' Tryz.underlying81
    have u22:∀ w,Sem.run Tryz.prog (underlying 81) w = .ok (TypeDesc.slice 86) w:=run_underlying Tryz.underlying81
    go_enter Tryz.func71,Tryz.ntmps71
    go_wp2_with (at_builtin;refine qor rfl _ _ 81 rfl (E:=86) (sz:=(.prod .str .str:Ty).sz) (by kernel_rfl) (by kernel_rfl) (by kernel_rfl) (by kernel_rfl) rfl (qxx w 86 _) rfl k1 ?qc hnl k4 (by omega) ?_)
    case qc=>exact fun w' hw'=>k2 w' fun k hk=>by rw[hw'];exact qk3 w _ hk
    intro ad' c' w1 hrow hblk hbel
    go_wp2
    go_ret
    refine⟨ad',c',rfl,by simpa using hrow,fun b hb => ?_,⟨hbel.os,hbel.tape,hbel.output,Nat.le_trans (by show w.heap.size<=(w.heap.push _).size;simp) hbel.size,fun k hk _ => ?_⟩⟩
    ·rcases hblk with h|⟨g,h,hg⟩
     ·rw[h]at hb;injection hb with hb;have hb:w.heap.size=b:=hb;omega
     ·rw[h]at hb;injection hb with hb
      have:w.heap.size<=(w.alloc (.cells #[] 86)).heap.size:=by show w.heap.size<=(w.heap.push _).size;simp
      omega
    ·rw[hbel.block k (by show k<(w.heap.push _).size;simp;omega) (fun e=>by injection e with e;have e:w.heap.size=k:=e;omega)]
     exact qk3 w _ hk
   exact hg.mono fun e w' ⟨ad',c',he,hrow,hb,hs⟩=>⟨ad',c',news,he,hrow,k3,hb,hs⟩
def zb8:IF:=⟨.fn 71,[.h (.list (.prod .str .str))],[],_,RS.mk (.own 0) [(0,.row (.prod .str .str) 86)]⟩
theorem zdu:(zb8.e (qag (α:=(.prod .str .str:Ty).den))).Sound Tryz.prog:=fun d d' r h=>by
 obtain⟨l,_⟩:=d;have h:(bif decide (List.length (α:=(.prod .str .str:Ty).den) l<=qaq) then some (show List (.prod .str .str:Ty).den from l) else none)=some r:=h
 cases hd:decide (List.length (α:=(.prod .str .str:Ty).den) l<=qaq)<;>rw[hd]at h<;>simp only[qT,qF,reduceCtorEq]at h
 have h:=qJ h;subst h;exact⟨Tryz.call71,zec l (of_decide_eq_true hd)⟩
end Go.Sym
namespace Go.Sym
open Go.Proofs Go.RowKit Go.Sort
variable [LC]
theorem qbm.inPlaceA {ys:List AV} {P:Program} {f:FuncId} {τ:Ty} {l l':List τ.den} {E:TypeId} (vbu:l'.length=l.length) (h:∀ (w:World) (G:Gh) (ad:Option Addr) (c:Nat) (us vs:List Value),qre w E τ.sz ad l.length c us->Reps (l.flatMap τ.enc) G.data us->Reps ys G vs ->
  Calls P f (Value.slice ad l.length c::vs).toArray w fun e w'=>e = .returned (.tuple #[])/\∃ us',qre w' E τ.sz ad l.length c us'/\Reps (l'.flatMap τ.enc) G.data us'/\Bel (fun b=>qhz ad=some b) w w') :
  qbm P f (.own 0::ys) [(0,.row τ l E)] (.tup []) [(0,.row τ l' E)]:=by
 intro w G vs hm hreps;have hl:look [(0,Box.row τ l E)] 0=some (.row τ l E):=rfl;obtain⟨ad,c,us,h1,h3,h4,h5⟩:=(hm.holds 0 _ hl).rowAt
 match vs,hreps with
 | v::vs,hreps=>
  obtain⟨⟨a',n',c',q1,rfl⟩,hys⟩:=hreps;rw[h1]at q1;simp only[qI,qP]at q1;obtain⟨rfl,rfl,rfl⟩:=q1;refine (h w G ad c us vs h3 h4 hys).mono ?_;rintro e w' ⟨rfl,us',r1,r2,r3⟩
  refine⟨_,G,rfl,?_,#[],rfl,trivial⟩;have hself:=qoc hm;have hbox:qj5 G w' 0 (.row τ l' E):=qj5.row (by rw[vbu];exact h1) (by rw[vbu];exact r1) r2 (fun b hb=>h5 b hb)
  cases had:qhz ad with
  | none=>
   have hst:qev w w':=⟨r3.os,r3.tape,r3.output,r3.size,fun k hk _=>r3.block k hk (fun e=>by rw[had]at e;cases e)⟩
   have hf:=hself.extend (new:=[]) (Gh.le.refl G) hst (fun _ _ _ h => .inl h) (fun b o v hv=>by
    have hc:=hm.agree b o v hv;have hlt:=World.block_lt_of_cell? _ _ hc;rw[World.cell?_of_block (w:=w) (hst.block b hlt (fun h=>h))];exact hc) hm.one (fun n bx h=>by cases h) (fun n bx h=>by cases h) (fun n m bx bx' b h=>by cases h)
   have hlk:∀ m b,look [(0,Box.row τ l' E)] m=some b->m=0/\b = .row τ l' E:=fun m b hh=>by
    simp only[look]at hh;cases hb:Nat.beq 0 m
    ·rw[hb]at hh;cases hh
    ·rw[hb]at hh;simp only[qT,qI]at hh;exact⟨(qN hb).symm,hh.symm⟩
   have hat:G.at 0 (.row τ l' E)=none:=by
    simp only[Gh.at,h1]
    cases ad with
    | none=>rfl
    | some a=>cases had
   refine⟨⟨hf.mem.agree,hf.mem.one,fun m b hh => ?_,fun m m' b b' c h1 h2 h3 _ => ?_,hf.mem.tab⟩,hf.bel,hf.imm_le,hf.imm_new,fun m b c h1 h2 => ?_,hf.keep,hf.keepOwn⟩
   ·obtain⟨rfl,rfl⟩:=hlk m b hh;exact hbox
   ·obtain⟨rfl,_⟩:=hlk m b h1;obtain⟨rfl,_⟩:=hlk m' b' h2;rfl
   ·obtain⟨rfl,rfl⟩:=hlk m b h1;rw[hat]at h2;cases h2
  | some B=>
   have hat:∀ l:List τ.den,G.at 0 (.row τ l E)=some B:=fun l=>by
    simp only[Gh.at,h1]
    cases ad with
    | none=>cases had
    | some a=>exact had
   have hf:=hself.update (bx' := .row τ l' E) hl (hat l) (hat l') ⟨r3.os,r3.tape,r3.output,r3.size,fun k hk hne=>r3.block k hk (fun e=>by rw[had]at e;injection e with e;exact hne e.symm)⟩ hbox (h5 B had)
   have hlk:∀ m b,look [(0,Box.row τ l' E)] m=some b->look (q4h [(0,Box.row τ l E)] 0 (.row τ l' E)) m=some b:=fun m b hh=>by
    simp only[look]at hh;simp only[q4h,look];cases hb:Nat.beq 0 m
    ·rw[hb]at hh;cases hh
    ·rw[hb]at hh;exact hh
   exact⟨⟨hf.mem.agree,hf.mem.one,fun m b hh=>hf.mem.holds m b (hlk m b hh),fun m m' b b' c h1 h2 h3 h4=>hf.mem.apart m m' b b' c (hlk _ _ h1) (hlk _ _ h2) h3 h4,hf.mem.tab⟩,hf.bel,hf.imm_le,hf.imm_new,fun m b c h1 h2=>hf.base m b c (hlk _ _ h1) h2,hf.keep,hf.keepOwn⟩
 | [],hreps=>exact hreps.elim
omit [LC] in
theorem ziu (w:World) (n g:Nat) (d:Array Value) (os:Array Obj) (k:Nat) (hk:k<w.heap.size) (hne:k≠g):(grow (putRow id (Sort.ahead w n) g 0 d) os).heap[k]? = w.heap[k]? := by
 show ((w.heap.modify g (onCells (putCells id 0 d)))++os)[k]? = _;rw[Array.getElem?_append_left (by simpa using hk),Array.getElem?_modify,qW (by omega)]
omit [LC] in
theorem zns (w:World) (n g:Nat) (d:Array Value) (os:Array Obj) {cur:Array Value} {e:TypeId} {fr:Nat×Nat} (hh:w.heap[g]? = some (.cells cur e fr)) :
  (grow (putRow id (Sort.ahead w n) g 0 d) os).heap[g]? = some (.cells (putCells id 0 d cur) e fr):=by
 have hg:g<w.heap.size:=(Array.getElem?_eq_some_iff.1 hh).1;show ((w.heap.modify g (onCells (putCells id 0 d)))++os)[g]? = _;rw[Array.getElem?_append_left (by simpa using hg),Array.getElem?_modify,qX rfl,hh]
 rfl
omit [LC] in
theorem zkg (zs:List Value) (cur:Array Value) (h:zs.length<=cur.size):(putCells id 0 zs.toArray cur).toList.take zs.length=zs:=by
 apply List.ext_getElem?;intro j;rw[List.getElem?_take];by_cases hj:j<zs.length
 ·rw[qX hj,Array.getElem?_toList];unfold putCells;rw[Array.getElem?_mapIdx,Array.getElem?_eq_getElem (by omega)]
  simp[hj]
 ·rw[qW hj];exact (List.getElem?_eq_none (by omega)).symm
omit [LC] in
theorem zjx (w:World) (n g:Nat) (d:Array Value) (os:Array Obj):w.heap.size<=(grow (putRow id (Sort.ahead w n) g 0 d) os).heap.size:=by
 show w.heap.size<=((w.heap.modify g (onCells (putCells id 0 d)))++os).size;simp
omit [LC] in
theorem zeq (zs:List Value) (cur:Array Value) (v:Value) (hv:v∈(putCells id 0 zs.toArray cur).toList):v∈cur.toList\/v∈zs:=by
 unfold putCells at hv;rw[Array.mem_toList_iff,Array.mem_mapIdx]at hv;obtain⟨j,hj,rfl⟩:=hv;split
 ·rename_i hj2;have hj3:j<zs.length:=by simpa using hj2
  refine .inr ?_;simp[hj3]
 ·exact .inl (by simp)
end Go.Sym
namespace Go.Sym
open Go.Proofs Go.RowKit Go.Sort
variable [LC]
omit [LC] in
theorem zb1 {α:Type} [Inhabited α] (enc:α->List Value) (k:Nat) (hk:∀ x,(enc x).length=k) (l:List α):flatK enc k l.toArray=(l.flatMap enc).toArray:=by
 have key:∀ (l:List α) (t:Nat),t<l.length*k->(l.flatMap enc)[t]? = some ((enc l[t/k]!)[t%k]!):=by
  intro l
  induction l with
  | nil=>intro t ht;simp at ht
  | cons x l ih=>
   intro t ht;have k0:0<k:=by
    rcases Nat.eq_zero_or_pos k with h|h;· subst h;simp at ht
    ·exact h
   rw[List.flatMap_cons];by_cases h:t<k
   ·rw[List.getElem?_append_left (by rw[hk];exact h),Nat.div_eq_of_lt h,Nat.mod_eq_of_lt h,List.getElem?_eq_getElem (by rw[hk];exact h)]
    simp[hk,h]
   ·rw[List.getElem?_append_right (by rw[hk];omega),hk,ih (t-k) (by rw[qL,Nat.add_mul,Nat.one_mul]at ht;omega)]
    obtain⟨u,rfl⟩:∃ u,t=u+k:=⟨t-k,by omega⟩
    rw[Nat.add_sub_cancel,Nat.add_mod_right,Nat.add_div_right _ k0];simp
 have vbu:(l.flatMap enc).length=l.length*k:=by
  clear key
  induction l with
  | nil=>simp
  | cons x l ih=>rw[List.flatMap_cons,qM,hk,ih,qL,Nat.add_mul,Nat.one_mul,Nat.add_comm]
 refine ext_get! (by simp[vbu]) fun t ht => ?_
 have ht':t<l.length*k:=by simpa using ht
 rw[get_flatK enc k l.toArray t (by simpa using ht')]
 have:=key l t ht';simp only[List.getElem!_toArray];rw[List.getElem!_eq_getElem?_getD (l:=l.flatMap enc),this];rfl
def encQ (x:Pq):List Value:=[.string ⟨x.1.1.toArray⟩,.int .i64 x.1.2.1,.bool x.1.2.2.1,.string ⟨x.1.2.2.2.toArray⟩]
omit [LC] in
theorem swoQ:SWO (ltOf cfQ):=by
 have e:∀ x y:Pq,ltOf cfQ x y=decide (x.1.2.1<y.1.2.1):=fun x y=>by
  have:=x.2;have:=y.2;unfold ltOf cfQ;have h:w64 (x.1.2.1-y.1.2.1)=x.1.2.1-y.1.2.1:=by unfold w64;simp[IntKind.wrap,IntKind.bits,IntKind.signed];omega
  rw[h];by_cases q:x.1.2.1<y.1.2.1<;>simp[q]<;>omega
 exact⟨fun x=>by rw[e];simp,fun x y z h1 h2=>by rw[e]at *;simp at *;omega,fun x y z h1 h2=>by rw[e]at *;simp at *;omega⟩
set_option maxHeartbeats 1000000 in
omit [LC] in
theorem cmpQ (x y:Pq) (W:World):Calls Tryz.prog 222 #[.agg (encQ x).toArray,.agg (encQ y).toArray] W fun e w'=>e = .returned (.int .i64 (cfQ x y))/\∃ q os',w'=grow (W.drewN q) os':=by
 unfold encQ cfQ;obtain⟨⟨a,n,s,v⟩,hx⟩:=x;obtain⟨⟨a',n',s',v'⟩,hy⟩:=y;simp only;have hw:w64 (n-n')=wrap64 (n-n'):=by show IntKind.i64.wrap (n-n')=_;rw[IntKind.wrap_i64];unfold Go.RowKit.wrap64;rfl
 rw[hw];clear hx hy hw
 go_enter Tryz.func222,Tryz.ntmps222
 go_wp2
 go_ret
 exact⟨rfl,0,_,by rw[alloc_eq_grow,alloc_eq_grow,grow_grow];rfl⟩
abbrev τQ:Ty := .prod .str (.prod (.int .i64) (.prod .bool .str))
omit [LC] in
theorem zf1 {G:Gh}:∀ {l:List Pq} {us:List Value},Reps (List.flatMap (β:=AV) τQ.enc (l.map (·.1))) G us->us=l.flatMap encQ
 | [],[],_=>rfl
 | [],_::_,h=>h.elim
 | x::l,us,h=>by
  match us,h with
  | a::b::c::d::us,h=>
   have h1:a = .string ⟨x.1.1.toArray⟩:=h.1;have h2:b = .int .i64 x.1.2.1:=h.2.1;have h3:c = .bool x.1.2.2.1:=h.2.2.1;have h4:d = .string ⟨x.1.2.2.2.toArray⟩:=h.2.2.2.1;have h5:=zf1 (l:=l) h.2.2.2.2;rw[h1,h2,h3,h4,h5];rfl
  | [],h=>exact h.elim
  | [_],h=>exact h.2.elim
  | [_,_],h=>exact h.2.2.elim
  | [_,_,_],h=>exact h.2.2.2.elim
omit [LC] in
theorem zbu {G:Gh}:∀ (l:List Pq),Reps (List.flatMap (β:=AV) τQ.enc (l.map (·.1))) G (l.flatMap encQ)
 | []=>trivial
 | _::l=>⟨rfl,rfl,rfl,rfl,zbu l⟩
omit [LC] in
theorem zig:∀ (l:List Pc) (q:List Pq),toQ l=some q->l=q.map (·.1)
 | [],_,h=>by cases h;rfl
 | x::l,q,h=>by
  unfold toQ at h;split at h
  ·split at h
   ·rename_i r hr;cases h;rw[zig l r hr];rfl
   ·cases h
  ·cases h
omit [LC] in
theorem qv5 (l:List Pq):(qud l).length=l.length:=by
 have h:=(pdq_sorts (ltOf cfQ) swoQ l.toArray 0 l.length (Lib.bitLen l.length) true true (Nat.zero_le _) (by simp) (Or.inl rfl)).1.1
 unfold qud;rw[Array.length_toList,h];simp
omit [LC] in
theorem q1v (x:Pq):(encQ x).length=4:=rfl
omit [LC] in
theorem qzl (l:List Pq):(l.flatMap encQ).length=l.length*4:=by
 induction l with
 | nil=>rfl
 | cons x l ih=>rw[List.flatMap_cons,qM,q1v,ih,qL];omega
omit [LC] in
theorem ze6 {w:World} {g:Nat} {vs:Array Value} {fz:Nat×Nat} {E:TypeId} {l:List Pq} (h2:w.heap[g]? = some (.cells vs E fz)) (h3:fz=(0,0)\/vs.size<=fz.1) (h4:l.length*4<=vs.size) (h7:vs.toList.take (l.length*4)=l.flatMap encQ):HoldsK encQ 4 w g 0 l.toArray:=by
 unfold HoldsK;rw[zb1 encQ 4 q1v];intro j hj;have hl:=qzl l;have hj':j<(l.flatMap encQ).length:=by simpa using hj
 have hjv:j<vs.size:=by omega
 refine⟨?_,?_⟩
 ·have hc:(vs.toList.take (l.length*4))[j]? = some ((l.flatMap encQ)[j]):=by
   rw[h7,List.getElem?_eq_getElem hj']
  rw[List.getElem?_take,qX (by omega)]at hc
  simp only[World.cell?,h2,wO];have hg:(l.flatMap encQ).toArray[j]! = (l.flatMap encQ)[j]:=by rw[getElem!_pos _ j hj];rfl
  rw[hg];simpa using hc
 ·simp only[World.frozen?,h2];rcases h3 with rfl|h3
  ·simp
  ·simp;omega
set_option maxRecDepth 100000 in
set_option maxHeartbeats 1000000 in
theorem znd (q:List Pq) (vbu:q.length<=qaq):qbm Tryz.prog 221 [.own 0,.fn (.func 222) [] []] [(0,.row τQ (q.map (·.1)) 209)] (.tup []) [(0,.row τQ ((qud q).map (·.1)) 209)]:=by
 unfold qaq at vbu
 refine qbm.inPlaceA (by show ((qud q).map (·.1)).length=(q.map (·.1)).length;rw[wC,wC,qv5]) (fun w G ad c us fvs hrow hreps hfv => ?_)
 have hus:=zf1 hreps;have hfv:fvs=[.func (.func 222) #[] #[]]:=by
  match fvs,hfv with
  | [v],⟨h,_⟩=>
   obtain⟨us1,us2,k1,k2,k3⟩:=h;have e1:us1=#[]:=Array.eq_empty_of_size_eq_zero k2.length.symm;have e2:us2=#[]:=Array.eq_empty_of_size_eq_zero k3.length.symm;subst e1;subst e2;rw[k1]
 subst hfv;have hml:(q.map (fun x=>x.1)).length=q.length:=wC ..
 obtain⟨hul,hrow⟩:=hrow
 have hnone:q=[]->Calls Tryz.prog 221 (Value.slice ad (q.map (fun x=>x.1)).length c::[.func (.func 222) #[] #[]]).toArray w fun e w'=>e = .returned (.tuple #[])/\∃ us',qre w' 209 τQ.sz ad (q.map (fun x=>x.1)).length c us'/\Reps (List.flatMap (β:=AV) τQ.enc ((qud q).map (·.1))) G.data us'/\Bel (fun b=>qhz ad=some b) w w':=fun hq=>by
  subst hq;refine (AnyF.slices_SortFunc_none Tryz.sortP ad c (.func (.func 222) #[] #[]) w).mono ?_;rintro e w' ⟨rfl,rfl⟩
  refine⟨rfl,us,⟨hul,hrow⟩,?_,⟨rfl,rfl,rfl,wF _,fun _ _ _=>rfl⟩⟩
  rw[hus];have e:qud []=[]:=List.eq_nil_of_length_eq_zero (qv5 []);rw[e];exact trivial
 by_cases hq:q=[]
 ·exact hnone hq
 rcases hrow with ⟨rfl,h2,rfl⟩|⟨g,vs,fz,rfl,h2,h3,h4,h5,h6,h7,h8⟩
 ·exact absurd (List.eq_nil_of_length_eq_zero (by rw[← hml];exact h2)) hq
 ·have hlt:g<w.heap.size:=(Array.getElem?_eq_some_iff.1 h2).1;have hs4:τQ.sz=4:=rfl;rw[hs4]at h6 h7 hul;have h4':q.length<=c:=by rw[← hml];exact h4
  have hH:=ze6 (l:=q) h2 h3 (by omega) (by rw[← hus];have h7':=h7;rw[show (List.length (α:=τQ.den) (q.map fun x=>x.1))=q.length from hml]at h7';exact h7')
  have hcmp:CmpLays Tryz.prog 222 #[] encQ 4 cfQ g 0 q.toArray.size w:=fun m os dk _ x y=>cmpQ x y _
  have key:=AnyQ.slices_SortFunc_eq (P:=Tryz.prog) Tryz.sortP 4 Tryz.isAgg209 Tryz.sizeOf209 encQ q1v (by intro x v hv;simp only[encQ,wE,List.not_mem_nil,or_false]at hv;rcases hv with rfl|rfl|rfl|rfl<;>rfl) cfQ swoQ 222 #[] g 0 c q.toArray w Tryz.call222 hcmp hH hlt (by simp;omega)
  have hargs:#[Value.slice (some ⟨g,0,none⟩) (List.length (α:=τQ.den) (List.map (β:=τQ.den) (fun x:Pq=>x.1) q)) c,Value.func (.func 222) #[] #[]]=#[.slice (some ⟨g,0,none⟩) q.toArray.size c,.func (.func 222) #[] #[]]:=by
   rw[show List.length (α:=τQ.den) (List.map (β:=τQ.den) (fun x:Pq=>x.1) q)=q.toArray.size from hml.trans (by simp)]
  refine Eq.mpr (congrArg (fun a=>Calls _ _ a _ _) hargs) (key.mono ?_)
  rintro e w' ⟨rfl,n,os,rfl⟩
  have hsl:=qv5 q;have hw:sortWorldK encQ 4 w g 0 n (pdq (ltOf cfQ) q.toArray 0 q.toArray.size (Lib.bitLen q.toArray.size) true true) os=grow (putRow id (Sort.ahead w n) g 0 ((qud q).flatMap encQ).toArray) os:=by
   unfold sortWorldK putRowK;rw[show pdq (ltOf cfQ) q.toArray 0 q.toArray.size (Lib.bitLen q.toArray.size) true true=(qud q).toArray from by unfold qud;simp,zb1 encQ 4 q1v]
  rw[hw];have hzl:((qud q).flatMap encQ).length=q.length*4:=by rw[qzl,hsl]
  refine⟨rfl,(qud q).flatMap encQ,⟨?_,.inr ⟨g,putCells id 0 ((qud q).flatMap encQ).toArray vs,fz,rfl,zns w n g _ os h2,?_,h4,h5,?_,?_,?_⟩⟩,zbu _,⟨rfl,rfl,rfl,zjx w n g _ os,fun k hk hne=>ziu w n g _ os k hk (fun e=>hne (by subst e;rfl))⟩⟩
  ·rw[hzl];show q.length*4=(q.map (fun x=>x.1)).length*4;rw[hml]
  ·have:(putCells id 0 ((qud q).flatMap encQ).toArray vs).size=vs.size:=by unfold putCells;rw[Array.size_mapIdx]
   rw[this];exact h3
  ·unfold putCells;rw[Array.size_mapIdx];exact h6
  ·rw[show List.length (α:=τQ.den) (q.map (fun x=>x.1))*τQ.sz=((qud q).flatMap encQ).length from by rw[hzl];show (q.map (fun x=>x.1)).length*4=_;rw[hml]]
   exact zkg _ vs (by rw[hzl];omega)
  ·intro v hv;rcases zeq _ _ _ hv with h|h
   ·exact h8 v h
   ·obtain⟨x,_,hx⟩:=List.mem_flatMap.1 h;simp only[encQ,wE,List.not_mem_nil,or_false]at hx;rcases hx with rfl|rfl|rfl|rfl<;>rfl
def z3j:IF:=⟨.fn 221,[.own 0,.fn 222 []],[(0,.row τQ 209)],_,RS.mk (.tup []) [(0,.row τQ 209)]⟩
theorem zrp:(z3j.e qx2).Sound Tryz.prog:=fun d d' r h=>by
 obtain⟨l,_⟩:=d';have h:qx2 l=some r:=h;unfold qx2 at h;cases hd:decide (List.length (α:=Pc) l<=qaq)<;>rw[hd]at h<;>simp only[qT,qF,reduceCtorEq]at h
 cases hq:toQ l with
 | none=>rw[hq]at h;cases h
 | some q=>
  rw[hq]at h;have h:=qJ h;subst h;have hl:=zig l q hq;subst hl;refine⟨Tryz.call221,znd q ?_⟩;have:=of_decide_eq_true hd
  rwa [wC]at this
end Go.Sym
set_option linter.unusedVariables false
namespace Go.Proofs.ToValid
open Go.Shelf Go.RowKit Go.Lib Go.Sym
theorem bx:Builder.Extra Tryz.prog Tryz.uniR:={
 sizeBuilder:=by kernel_rfl
 liesBuilder:=by kernel_rfl
 t5:=Tryz.laysM171.t5
 a5:=Tryz.laysM171.a5
 z5:=Tryz.laysM171.z5
 v5:=Tryz.laysM171.v5
 infoByte:=by kernel_rfl
 cellsByte:=by kernel_rfl
 sizeByte:=by kernel_rfl
 neB5:=by decide }
theorem l166:Lays.n166 Tryz.prog Tryz.uniR:={ Tryz.lays165,Tryz.lays169,Tryz.laysC172 with f166:=Tryz.func244.trans (congrArg some (by kernel_rfl)) }
theorem l167:Lays.n167 Tryz.prog Tryz.uniR:={ Tryz.lays165,Tryz.lays169,Tryz.laysC172 with f167:=Tryz.func246.trans (congrArg some (by kernel_rfl)) }
theorem capC (b:Nat) (p:Option Addr) (n cap:Nat) (w:World) (c1:w.cell? ⟨b,1,none⟩=some (.slice p n cap)) :
  Calls Tryz.prog 245 #[.pointer (some ⟨b,0,none⟩)] w fun e w'=>e = .returned (.int .i64 cap)/\w'=w:=by
 go_enter Tryz.func245,Tryz.ntmps245
 go_wp2
 go_ret
 exact⟨rfl,rfl⟩
theorem vah (b n:Nat) (w:World) (hbk:w.heap[b]? = some (.cells #[.pointer none,.slice none 0 0] 291 (0,0))) (hBw:b<=w.heap.size) (hn:n<=281474976710656) :
  Calls Tryz.prog 243 #[.pointer (some ⟨b,0,none⟩),.int .i64 n] w fun e w'=>e = .returned (.tuple #[])/\(Lib.BuilderAt 291 5 b b (.pointer (some ⟨b,0,none⟩)) [] w'/\Below b w w')/\∃ p cap,w'.cell? ⟨b,1,none⟩=some (.slice p 0 cap)/\n<=cap:=
 Any.Builder_Grow_fresh_cap Tryz.lays165 bx b b n w (wF _) hbk hBw hn
theorem zqc (b:Nat) (bs:List Value) (s:ByteArray) (w:World) (h:Lib.IsBuilderF 291 5 b b bs w) (vbu:bs.length+s.size<=140737488355328) (hBw:b<=w.heap.size) :
  Calls Tryz.prog 244 #[.pointer (some ⟨b,0,none⟩),.string s] w fun e w'=>e = .returned (.tuple #[.int .i64 s.size,.nilIface])/\(Lib.BuilderAtF 291 5 b b (.pointer (some ⟨b,0,none⟩)) (bs++Lib.strCells s) w'/\Below b w w'/\Lib.OthersKept 5 (some b) w w')/\∀ v0,w.cell? ⟨b,1,none⟩=some v0->∃ v1,w'.cell? ⟨b,1,none⟩=some v1/\v0.capOf<=v1.capOf:=
 Any.Builder_WriteString_kc l166 bx b b bs s w h vbu hBw
theorem zw8 (b:Nat) (bs:List Value) (c:Int) (w:World) (h:Lib.IsBuilderF 291 5 b b bs w) (vbu:bs.length+1<=140737488355328) (hBw:b<=w.heap.size) :
  Calls Tryz.prog 246 #[.pointer (some ⟨b,0,none⟩),.int .u8 c] w fun e w'=>e = .returned .nilIface/\(Lib.BuilderAtF 291 5 b b (.pointer (some ⟨b,0,none⟩)) (bs++[.int .u8 c]) w'/\Below b w w'/\Lib.OthersKept 5 (some b) w w'):=
 Any.Builder_WriteByte_k l167 bx b b bs c w h vbu hBw
theorem strC (b:Nat) (l:List UInt8) (w:World) (h:Lib.IsBuilderF 291 5 b b (Lib.byteCells l) w) (hBw:b<=w.heap.size) :
  Calls Tryz.prog 247 #[.pointer (some ⟨b,0,none⟩)] w fun e w'=>e = .returned (.string ⟨l.toArray⟩)/\(Lib.IsBuilderF 291 5 b b (Lib.byteCells l) w'/\Below b w w'):=
 Any.Builder_String_any_f Tryz.lays169 bx b b l w h hBw
theorem decC (s:ByteArray) (w:World) (hT:Lib.Utf8Tabs 1 2 w) :
  Calls Tryz.prog 180 #[.string s] w fun e w'=>e = .returned (.tuple #[.int .i32 (Lib.decodeGo s).1,.int .i64 (Lib.decodeGo s).2])/\Below w.heap.size w w':=
 Any.utf8_DecodeRuneInString Tryz.lays197 s w hT
theorem q0s (s:ByteArray) (pos:Nat) (h:pos<s.size):decodeGo (s.extract pos s.size)=Utf8.decode s pos:=by
 have hx:(s.extract pos s.size).data.toList=s.data.toList.drop pos:=by
  rw[extract_data,List.take_of_length_le (by rw[List.length_drop,← size_eq];omega)]
 have hsz:(s.extract pos s.size).size≠0:=by rw[size_eq,hx,List.length_drop,← size_eq];omega
 unfold decodeGo;rw[qW hsz,← decodeL_drop s pos,← hx];rfl
theorem z0g (n:Int) (h0:0<=n) (h1:n<=4000000):wrap64 n=n:=by unfold wrap64;omega
theorem z6b (p n:Nat) (h:p+n<=4000000):wrap64 ((p:Int)+(n:Int))=(p:Int)+(n:Int):=z0g _ (by omega) (by omega)
theorem zy9 (p:Nat) (h:p+1<=4000000):wrap64 ((p:Int)+1)=(p:Int)+1:=z0g _ (by omega) (by omega)
theorem vI (p k:Nat):Value.int .i64 ((p:Int)+(k:Int)) = .int .i64 ((p+k:Nat):Int):=by rw[Int.natCast_add]
theorem vI1 (p:Nat):Value.int .i64 ((p:Int)+1) = .int .i64 ((p+1:Nat):Int):=by rw[Int.natCast_add];rfl
theorem zkk (rep:Bs) (n:Nat) (inv:Bool) (l:Bs) (hne:l≠[]) (h:(Lib.decodeL l).1=65533/\(Lib.decodeL l).2=1):vu rep (n+1) inv l=(if inv then [] else rep)++vu rep n true (l.drop 1):=by
 cases l with
 | nil=>exact absurd rfl hne
 | cons c l=>rw[vu,qX h];rfl
theorem q66 (rep:Bs) (n:Nat) (inv:Bool) (l:Bs) (hne:l≠[]) (h:¬ ((Lib.decodeL l).1=65533/\(Lib.decodeL l).2=1)):vu rep (n+1) inv l=l.take (Lib.decodeL l).2++vu rep n false (l.drop (Lib.decodeL l).2):=by
 cases l with
 | nil=>exact absurd rfl hne
 | cons c l=>rw[vu,qW h]
theorem q0w (rep:Bs) (n:Nat) (inv:Bool):vu rep n inv []=[]:=by cases n<;>rfl
theorem qz0 (rep:Bs):∀ (n m:Nat) (inv:Bool) (l:Bs),l.length<=n->l.length<=m->vu rep n inv l=vu rep m inv l
 | 0,m,inv,l,h1,_=>by
  have:l=[]:=by cases l with
   | nil=>rfl
   | cons c l=>simp at h1
  subst this;rw[q0w,q0w]
 | n+1,0,inv,l,_,h2=>by
  have:l=[]:=by cases l with
   | nil=>rfl
   | cons c l=>simp at h2
  subst this;rw[q0w,q0w]
 | n+1,m+1,inv,l,h1,h2=>by
  cases l with
  | nil=>rw[q0w,q0w]
  | cons c l=>
   have hw:=Lib.decodeL_width (c::l);simp only[qL]at h1 h2;by_cases h:(Lib.decodeL (c::l)).1=65533/\(Lib.decodeL (c::l)).2=1
   ·rw[zkk rep n inv _ (by simp) h,zkk rep m inv _ (by simp) h,qz0 rep n m true _ (by simp;omega) (by simp;omega)]
   ·rw[q66 rep n inv _ (by simp) h,q66 rep m inv _ (by simp) h,qz0 rep n m false _ (by simp only[List.length_drop,qL];omega) (by simp only[List.length_drop,qL];omega)]
theorem zq2 (s:ByteArray) (pos:Nat) (h:pos<s.size) (hc:(s.get! pos).toNat<128):Utf8.decode s pos=((s.get! pos).toNat,1):=by
 unfold Utf8.decode;simp only[Nat.add_zero,hc,if_true]
theorem zm9 (s:ByteArray) (pos:Nat) (h:pos<s.size) (hc:¬ (s.get! pos).toNat<128) (h1:(Utf8.decode s pos).2=1):(Utf8.decode s pos).1=65533:=by
 revert h1;unfold Utf8.decode;simp only[Nat.add_zero,hc,if_false]
 repeat' split
 all_goals first|(intro _;rfl)|(intro h1;exact absurd h1 (by simp))
theorem q63 {T e:TypeId} {B b:Nat} {bs:List Value} {W W':World} (h:Lib.IsBuilderF T e B b bs W) (hb:Below W.heap.size W W'):Lib.IsBuilderF T e B b bs W':=by
 have k:∀ p,Lib.BuilderAtF T e B b p bs W->Lib.BuilderAtF T e B b p bs W':=fun p h=>by
  have hlt:=h.lt;obtain⟨hB,v,hv,hown,hne⟩:=h;exact⟨hB,v,(hb.block b hlt).trans hv,hown.kept (row:=none) ⟨hb.os,hb.tape,hb.output,hb.size,fun k hk _=>hb.block k hk⟩ (Classical.em _),hne⟩
 exact h.elim (fun x => .inl (k _ x)) (fun x => .inr (k _ x))
set_option maxHeartbeats 4000000 in
set_option maxRecDepth 1000000 in
theorem tovalid (s rep:ByteArray) (w:World) (hs:s.size<=1000000) (hr:rep.size<=1000) (hT:Lib.Utf8Tabs 1 2 w) :
  Calls Tryz.prog 224 #[.string s,.string rep] w fun e w'=>e = .returned (.string ⟨(vu rep.data.toList s.size false s.data.toList).toArray⟩)/\Below w.heap.size w w':=by
 obtain⟨ANS,hANS⟩:∃ ANS,vu rep.data.toList s.size false s.data.toList=ANS:=⟨_,rfl⟩;rw[hANS];have vbu:s.data.toList.length=s.size:=(Lib.size_eq s).symm
 go_enter Tryz.func224,Tryz.ntmps224
 go_wp2
 go_loopg [0] s.size (fun gk s0 wx=>s0 = .string s/\∃ pos:Nat,wx.heap[w.heap.size]? = some (.cells #[.pointer none,.slice none 0 0] 291 (0,0))/\wx.heap[w.heap.size+1]? = some (.stringIter s pos)/\Below w.heap.size w wx /\
  s.data.toList.take pos++vu rep.data.toList (s.size-pos) false (s.data.toList.drop pos)=ANS/\s.size<=pos+gk/\pos<=s.size)
 case atStart=>
  refine⟨rfl,0,?_,?_,((Below.refl _ w).alloc (wF _) _).alloc (by simp) _,by simpa using hANS,by omega,by omega⟩
  ·have h1:=heap_alloc_new w (.cells #[.pointer none,.slice none 0 0] 291);exact (Below.heap_alloc _ _ _ (by simp)).trans h1
  ·have:=World.iter_heap (w.alloc (.cells #[.pointer none,.slice none 0 0] 291)) s 0;simpa using this
 case round=>
  obtain⟨rfl,pos,hfr,hit,hbw,hsp,hfu,hps⟩:=hrel;by_cases hlt:pos<s.size
  ·obtain⟨g',rfl⟩:∃ g',gk=g'+1:=⟨gk-1,by omega⟩
   have hnx:∀ ty,(Instr.next (.pointer (some ⟨w.heap.size+1,0,none⟩)) true ty).run Tryz.prog wr=_:=fun ty=>Lib.run_next_any_at wr (w.heap.size+1) s pos ty hit hlt
   have hne:s.data.toList.drop pos≠[]:=by
    intro h0;have:=congrArg List.length h0;rw[List.length_drop,vbu]at this;simp at this;omega
   have hwd:=Lib.width_pos s pos;have hwn:pos+(Utf8.decode s pos).2<=s.size:=by
    have:=Lib.decodeL_le _ hne;rw[Lib.decodeL_drop,List.length_drop,vbu]at this;omega
   have hgood:=q66 rep.data.toList (s.size-pos-1) false _ hne;have hdg:=q0s s pos hlt;rw[Lib.decodeL_drop]at hgood;obtain⟨R,hR⟩:∃ R,(Utf8.decode s pos).1=R:=⟨_,rfl⟩;obtain⟨K,hK⟩:∃ K,(Utf8.decode s pos).2=K:=⟨_,rfl⟩;rw[hR,hK]at hnx hgood;rw[hK]at hwd hwn;rw[List.drop_drop,show s.size-pos-1+1=s.size-pos by omega]at hgood
   have hit2:=Lib.iterAt_heap wr (w.heap.size+1) s pos (pos+K) hit;have hbw2:=Lib.below_iterAt hbw (k:=w.heap.size+1) (by omega) s (pos+K)
   have hfr2:(wr.iterAt (w.heap.size+1) s (pos+K)).heap[w.heap.size]? = _:=(Lib.iterAt_other wr (w.heap.size+1) w.heap.size s (pos+K) (by omega)).trans hfr
   obtain⟨W,hWd⟩:∃ W,wr.iterAt (w.heap.size+1) s (pos+K)=W:=⟨_,rfl⟩;rw[hWd]at hnx hit2 hbw2 hfr2;clear hit hbw hfr hWd;have HS:Aside (¬ (R=65533/\K=1)->s.data.toList.take (pos+K)++vu rep.data.toList (s.size-(pos+K)) false (s.data.toList.drop (pos+K))=ANS):=by
    intro h;rw[← hsp,hgood h,← qS,← List.take_add];congr 1;exact qz0 _ _ _ _ _ (by rw[List.length_drop,vbu];omega) (by rw[List.length_drop,vbu];omega)
   have HP:Aside (s.data.toList.take pos++vu rep.data.toList (s.size-pos) false (s.data.toList.drop pos)=ANS):=hsp;clear hgood hsp;have hszW:w.heap.size+1<W.heap.size:=(Array.getElem?_eq_some_iff.1 hit2).1;by_cases h5:R=65533
   ·have h5z:(R:Int)=65533:=by omega
    have cD:=decC (s.extract pos s.size) W (Utf8Tabs_below hT hbw2);rw[hdg,hR,hK]at cD;by_cases hk:K=1
    ·
     have hkz:(K:Int)=1:=by omega
     have hkb:((K:Int)==1)=true:=by simp[hkz]
     go_wp2_with (go_at_call 180;go_must (refine cD.mono ?_;rintro e W3 ⟨rfl,b3⟩))
     have hfr3:=(b3.block _ (show w.heap.size<W.heap.size by omega)).trans hfr2
     have hbw3:=hbw2.trans (b3.mono (show w.heap.size<=W.heap.size by omega))
     have hs0:=HP.out;clear cD hnx hit2 hfr2 hbw2 hdg HS hszW HP;have cG:=vah w.heap.size (s.size+rep.size) W3 hfr3 hbw3.size (by omega)
     go_fit cG
     rintro e W4 ⟨rfl,⟨h4,b4⟩,p4,cap4,hc4,hcap4⟩
     have hxs:(s.extract 0 pos).size=pos:=by rw[Lib.size_eq,Lib.extract_data,List.length_take,List.length_drop,vbu];omega
     have hxd:(s.extract 0 pos).data.toList=s.data.toList.take pos:=by rw[Lib.extract_data];simp
     have cW:=zqc w.heap.size [] (s.extract 0 pos) W4 (Lib.IsBuilderF.of (Or.inr h4)) (by rw[hxs];simp;omega) (Nat.le_trans hbw3.size b4.size)
     go_wp2_with (go_at_call 244;go_must (refine cW.mono ?_;rintro e W5 ⟨rfl,⟨h5w,b5,-⟩,hcp⟩))
     have hb5:Below w.heap.size w W5:=(hbw3.trans b4).trans b5;have hcells:[]++Lib.strCells (s.extract 0 pos)=Lib.byteCells (s.data.toList.take pos):=by
      rw[List.nil_append,Lib.strCells_eq,hxd]
     rw[hcells]at h5w;obtain⟨p5,n5,cap5,hc5,hcap5⟩:∃ p5 n5 cap5,W5.cell? ⟨w.heap.size,1,none⟩=some (.slice p5 n5 cap5)/\1<=cap5:=by
      obtain⟨v1,hv1,hle⟩:=hcp _ hc4;obtain⟨_,v6,hv6,hown6,_⟩:=h5w;have hv:W5.cell? ⟨w.heap.size,1,none⟩=some v6:=by rw[Lib.cell_of_heap hv6];rfl
      rw[hv1]at hv;have:=qJ hv;subst this;have hle:cap4<=v1.capOf:=hle;rcases hown6.2 with ⟨rfl,h0⟩|⟨g6,cap6,_,_,rfl,_⟩
      ·have:cap4<=0:=hle;omega
      ·have:cap4<=cap6:=hle;exact⟨_,_,cap6,hv1,by omega⟩
     clear hcp hc4;have hcapz:¬ ((cap5:Int)=0):=by omega
     have hcapb:((cap5:Int)==0)=false:=by simp;omega
     have cC:=capC w.heap.size p5 n5 cap5 W5 hc5;obtain⟨s2,hs2⟩:∃ s2,s.extract pos s.size=s2:=⟨_,rfl⟩;have hl2:s2.data.toList=s.data.toList.drop pos:=by
      rw[← hs2,Lib.extract_data,List.take_of_length_le (by rw[List.length_drop,vbu];omega)]
     have hz2:s2.size=s.size-pos:=by rw[Lib.size_eq,hl2,List.length_drop,vbu]
     go_wp2_with (go_at_call 245;go_must (refine cC.mono ?_;rintro e W6 ⟨rfl,rfl⟩))
     have hrl:rep.data.toList.length=rep.size:=(Lib.size_eq rep).symm
     go_loopg [10,11] s2.size (fun gk s10 s11 wx=>∃ (p2:Nat) (acc:List UInt8) (inv:Bool),s10 = .bool inv/\s11 = .int .i64 p2/\Lib.IsBuilderF 291 5 w.heap.size w.heap.size (Lib.byteCells acc) wx/\Below w.heap.size w wx /\
      acc++vu rep.data.toList (s2.size-p2) inv (s2.data.toList.drop p2)=ANS/\s2.size<=p2+gk/\p2<=s2.size/\acc.length<=pos+1001*p2)
     case atStart=>
      refine⟨0,s.data.toList.take pos,false,rfl,rfl,Or.inr h5w,hb5,?_,by omega,by omega,?_⟩
      ·rw[List.drop_zero,hl2,hz2];exact hs0
      ·rw[List.length_take,vbu];omega
     case round=>
      obtain⟨p2,acc,inv,rfl,rfl,hI,hbw,hacc,hfu2,hp2,hal⟩:=hrel;have hbs:w.heap.size<=wr.heap.size:=hbw.size;by_cases hlt2:p2<s2.size
      ·obtain⟨g2,rfl⟩:∃ g2,gk=g2+1:=⟨gk-1,by omega⟩
       have hne2:s2.data.toList.drop p2≠[]:=by
        intro h0;have:=congrArg List.length h0;rw[List.length_drop,← Lib.size_eq,qZ]at this;omega
       have hwd2:=Lib.width_pos s2 p2;have hwn2:p2+(Utf8.decode s2 p2).2<=s2.size:=by
        have:=Lib.decodeL_le _ hne2;rw[Lib.decodeL_drop,List.length_drop,← Lib.size_eq]at this;omega
       have hgood:=q66 rep.data.toList (s2.size-p2-1) inv _ hne2;have hbad:=zkk rep.data.toList (s2.size-p2-1) inv _ hne2;have hdg:=q0s s2 p2 hlt2;have hlow:=zq2 s2 p2 hlt2;have hhigh:=zm9 s2 p2 hlt2;rw[Lib.decodeL_drop,List.drop_drop,show s2.size-p2-1+1=s2.size-p2 by omega]at hgood hbad
       have hl3:s2.data.toList.length=s2.size:=(Lib.size_eq s2).symm;obtain⟨c,hc⟩:∃ c,s2[p2]'hlt2=c:=⟨_,rfl⟩;have hd2:p2<s2.data.size:=hlt2;have hcd:s2.data[p2]'hd2=c:=hc;have hcg:s2.get! p2=c:=by
        show s2.data[p2]! = c;rw[getElem!_pos s2.data p2 hd2];exact hcd
       rw[hcg]at hlow hhigh;obtain⟨R2,hR2⟩:∃ R2,(Utf8.decode s2 p2).1=R2:=⟨_,rfl⟩;obtain⟨K2,hK2⟩:∃ K2,(Utf8.decode s2 p2).2=K2:=⟨_,rfl⟩;rw[hK2]at hwd2 hwn2;have HG:Aside (¬ (R2=65533/\K2=1)->(acc++(s2.data.toList.drop p2).take K2)++vu rep.data.toList (s2.size-(p2+K2)) false (s2.data.toList.drop (p2+K2))=ANS):=by
        intro h;rw[← hacc,hgood (by rw[hR2,hK2];exact h),hK2,qS]
        congr 2;exact qz0 _ _ _ _ _ (by rw[List.length_drop,hl3];omega) (by rw[List.length_drop,hl3];omega)
       have HB:Aside (R2=65533/\K2=1->(acc++(if inv then [] else rep.data.toList))++vu rep.data.toList (s2.size-(p2+1)) true (s2.data.toList.drop (p2+1))=ANS):=by
        intro h;rw[← hacc,hbad (by rw[hR2,hK2];exact h),qS]
        congr 2
       have hxl:(s2.extract p2 (p2+K2)).data.toList=(s2.data.toList.drop p2).take K2:=by
        rw[Lib.extract_data,Nat.add_sub_cancel_left]
       have hxz:(s2.extract p2 (p2+K2)).size=K2:=by rw[Lib.size_eq,hxl,List.length_take,List.length_drop,hl3];omega
       have hcl:acc.length<=1001000000:=by omega
       have hbl:(Lib.byteCells acc).length=acc.length:=Lib.byteCells_length acc;clear hgood hbad hacc hs0;have H1:Aside (s2.data.toList.length=s2.size/\(s2.extract p2 (p2+K2)).data.toList=(s2.data.toList.drop p2).take K2/\(Lib.byteCells acc).length=acc.length/\rep.data.toList.length=rep.size):=⟨hl3,hxl,hbl,hrl⟩;have H2:Aside (c.toNat<128->R2=c.toNat/\K2=1):=fun h=>by
        have hd:=hlow h;rw[hd]at hR2 hK2;exact⟨hR2.symm,hK2.symm⟩
       have H3:Aside (¬ c.toNat<128->K2=1->R2=65533):=fun h hk=>by
        have:=hhigh h (by rw[hK2];exact hk)
        rw[← hR2];exact this
       have H4:Aside ((List.drop p2 s2.data.toList).take 1=[c]):=by
        show _=_;have hlt':p2<s2.data.toList.length:=by rw[hl3];exact hlt2
        rw[List.drop_eq_getElem_cons hlt',List.take_succ_cons,List.take_zero,Array.getElem_toList,hcd]
       have cD:=decC (s2.extract p2 s2.size) wr (Utf8Tabs_below hT hbw);rw[hdg,hR2,hK2]at cD;have hsz2:s2.size<=s.size:=by rw[hz2];exact Nat.sub_le _ _
       have HW1:Aside (wrap64 ((p2:Int)+1)=(p2:Int)+1):=zy9 _ (Nat.le_trans hlt2 (Nat.le_trans hsz2 (Nat.le_trans hs (by decide))))
       have HWK:Aside (wrap64 ((p2:Int)+(K2:Int))=(p2:Int)+(K2:Int)):=z6b _ _ (Nat.le_trans hwn2 (Nat.le_trans hsz2 (Nat.le_trans hs (by decide))))
       have HM:Aside (s2.size<=p2+1+g2/\s2.size<=p2+K2+g2/\acc.length+1<=pos+1001*(p2+1)/\acc.length+rep.size<=pos+1001*(p2+1)/\acc.length+K2<=pos+1001*(p2+K2)/\acc.length<=pos+1001*(p2+1)/\acc.length+1<=140737488355328/\acc.length+rep.size<=140737488355328/\acc.length+K2<=140737488355328):=by
        refine⟨?_,?_,?_,?_,?_,?_,?_,?_,?_⟩<;>omega
       clear hal hcl hfu2;clear hcd hcg hlow hhigh hdg hR2 hK2 hl3 hxl hbl hrl hs2 hl2 vbu hne2 hz2 hxs hxd hcells hne hR hK;by_cases h128:c.toNat<128
       ·
        obtain⟨_,hk1⟩:=H2.out h128;subst hk1;have H5:Aside (acc++[c]++vu rep.data.toList (s2.size-(p2+1)) false (List.drop (p2+1) s2.data.toList)=ANS):=by
         have:=HG.out (by omega)
         rw[H4.out]at this;exact this
        have cB:=zw8 w.heap.size (Lib.byteCells acc) c.toNat wr hI (by rw[H1.out.2.2.1];exact HM.out.2.2.2.2.2.2.1) hbs
        clear HG HB H2 H3 H4 cD;have h128z:(c.toNat:Int)<128:=by omega
        go_wp2_with (go_at_call 246;go_must (refine cB.mono ?_;rintro e W7 ⟨rfl,h7,b7,k7⟩))
        go_roundg g2
        case measure=>exact Nat.lt_succ_self _
        case rel=>
         refine⟨p2+1,acc++[c],false,rfl,by first|exact vI1 p2|exact (congrArg (Value.int .i64) HW1.out).trans (vI1 p2),Or.inr ?_,hbw.trans b7,H5.out,HM.out.1,hlt2,by rw[qM];exact HM.out.2.2.1⟩
         rw[Lib.byteCells_append];exact h7
       ·have h128z:¬ ((c.toNat:Int)<128):=by omega
        by_cases hk:K2=1
        ·have hr2:=H3.out h128 hk;have H5:Aside ((acc++(if inv then [] else rep.data.toList))++vu rep.data.toList (s2.size-(p2+1)) true (List.drop (p2+1) s2.data.toList)=ANS):=HB.out ⟨hr2,hk⟩
         have hkz:(K2:Int)=1:=by omega
         have hkb:((K2:Int)==1)=true:=by simp[hkz]
         clear HG HB H2 H3 H4
         cases inv with
         | true=>
          go_wp2_with (go_at_call 180;go_must (refine cD.mono ?_;rintro e W7 ⟨rfl,b7⟩))
          go_roundg g2
          case measure=>exact Nat.lt_succ_self _
          case rel=>
           refine⟨p2+1,acc,true,rfl,by first|exact vI1 p2|exact (congrArg (Value.int .i64) HW1.out).trans (vI1 p2),q63 hI b7,hbw.trans (b7.mono hbs),?_,HM.out.1,hlt2,HM.out.2.2.2.2.2.1⟩
           have h:(acc++[])++vu rep.data.toList (s2.size-(p2+1)) true (List.drop (p2+1) s2.data.toList)=ANS:=H5.out;rw[List.append_nil]at h;exact h
         | false=>
          go_wp2_with (go_at_call 180;go_must (refine cD.mono ?_;rintro e W7 ⟨rfl,b7⟩))
          have cW:=zqc w.heap.size (Lib.byteCells acc) rep W7 (q63 hI b7) (by rw[H1.out.2.2.1];exact HM.out.2.2.2.2.2.2.2.1) (Nat.le_trans hbs b7.size)
          go_wp2_with (go_at_call 244;go_must (refine cW.mono ?_;rintro e W8 ⟨rfl,⟨h8,b8,-⟩,-⟩))
          go_roundg g2
          case measure=>exact Nat.lt_succ_self _
          case rel=>
           refine⟨p2+1,acc++rep.data.toList,true,rfl,by first|exact vI1 p2|exact (congrArg (Value.int .i64) HW1.out).trans (vI1 p2),Or.inr ?_,(hbw.trans (b7.mono hbs)).trans b8,?_,HM.out.1,hlt2,by rw[qM,H1.out.2.2.2];exact HM.out.2.2.2.1⟩
           ·rw[Lib.byteCells_append,← Lib.strCells_eq];exact h8
           ·have h:(acc++rep.data.toList)++vu rep.data.toList (s2.size-(p2+1)) true (List.drop (p2+1) s2.data.toList)=ANS:=H5.out;exact h
        ·have hkz:¬ ((K2:Int)=1):=by omega
         have hkb:((K2:Int)==1)=false:=by simp;omega
         have H5:=HG.out (fun h=>hk h.2)
         go_wp2_with (go_at_call 180;go_must (refine cD.mono ?_;rintro e W7 ⟨rfl,b7⟩))
         have cW:=zqc w.heap.size (Lib.byteCells acc) (s2.extract p2 (p2+K2)) W7 (q63 hI b7) (by rw[H1.out.2.2.1,hxz];exact HM.out.2.2.2.2.2.2.2.2) (Nat.le_trans hbs b7.size)
         go_wp2_with (go_at_call 244;go_must (refine cW.mono ?_;rintro e W8 ⟨rfl,⟨h8,b8,-⟩,-⟩))
         go_roundg g2
         case measure=>exact Nat.lt_succ_self _
         case rel=>
          refine⟨p2+K2,acc++(s2.data.toList.drop p2).take K2,false,rfl,by first|exact vI p2 K2|exact (congrArg (Value.int .i64) HWK.out).trans (vI p2 K2),Or.inr ?_,(hbw.trans (b7.mono hbs)).trans b8,H5,HM.out.2.1,hwn2,?_⟩
          ·rw[Lib.byteCells_append,← H1.out.2.1,← Lib.strCells_eq];exact h8
          ·rw[qM,← H1.out.2.1,← Lib.size_eq,hxz];exact HM.out.2.2.2.2.1
      ·
       obtain rfl:p2=s2.size:=by omega
       have cS:=strC w.heap.size acc wr hI hbs
       go_wp2_with (go_at_call 247;go_must (refine cS.mono ?_;rintro e W8 ⟨rfl,_,b8⟩))
       go_ret
       refine⟨?_,hbw.trans b8⟩;rw[Lib.size_eq,List.drop_length,q0w,List.append_nil]at hacc;subst hacc;rfl
    ·have hkz:¬ ((K:Int)=1):=by omega
     have hkb:((K:Int)==1)=false:=by simp;omega
     have hs3:=HS.out (fun h=>hk h.2)
     go_wp2_with (go_at_call 180;go_must (refine cD.mono ?_;rintro e W3 ⟨rfl,b3⟩))
     go_roundg g'
     case measure=>omega
     case rel=>exact⟨rfl,pos+K,(b3.block _ (by show _<W.heap.size;omega)).trans hfr2,(b3.block _ (by show _<W.heap.size;omega)).trans hit2,hbw2.trans (b3.mono (by show _<=W.heap.size;omega)),hs3,by omega,hwn⟩
   ·have h5':¬ ((R:Int)=65533):=by omega
    have hs3:=HS.out (fun h=>h5 h.1)
    go_wp2
    go_roundg g'
    case measure=>omega
    case rel=>exact⟨rfl,pos+K,hfr2,hit2,hbw2,hs3,by omega,hwn⟩
  ·
   obtain rfl:pos=s.size:=by omega
   have hnx:∀ ty,(Instr.next (.pointer (some ⟨w.heap.size+1,0,none⟩)) true ty).run Tryz.prog wr=_:=fun ty=>Lib.run_next_end_at wr (w.heap.size+1) s s.size ty hit hlt
   have cC:=capC w.heap.size none 0 0 wr (by rw[Lib.cell_of_heap hfr];rfl)
   go_wp2_with (go_at_call 245;go_must (refine cC.mono ?_;rintro e W' ⟨rfl,rfl⟩))
   go_ret
   refine⟨?_,hbw⟩;rw[← hsp,← vbu,List.drop_length,List.take_length,q0w,List.append_nil];rfl
end Go.Proofs.ToValid
namespace Go.Sym
open Go.Proofs Go.RowKit
variable [LC]
def chk0 (t:List UInt8):Bool:=(List.range 256).all fun c=>match t[c]? with
 | some x=>Nat.beq x.toNat (Lib.firstT c)
 | none=>false
def chk1 (t:List (UInt8×UInt8)):Bool:=(List.range 16).all fun c=>match t[c]? with
 | some x=>Nat.beq x.1.toNat (Lib.accLo c)&&Nat.beq x.2.toNat (Lib.accHi c)
 | none=>false
theorem zcx {G:Gh} {w:World} (hm:Mem G [] w) {t0:List UInt8} {t1:List (UInt8×UInt8)} (h0:LC.glob 1=some ⟨.byte,t0⟩) (h1:LC.glob 2=some ⟨.prod .byte .byte,t1⟩) (e0:chk0 t0=true) (e1:chk1 t1=true):Lib.Utf8Tabs 1 2 w:=by
 refine⟨fun c hc => ?_,fun i hi => ?_⟩
 ·have h:=List.all_eq_true.1 e0 c (List.mem_range.2 hc)
  cases hx:t0[c]? with
  | none=>rw[hx]at h;cases h
  | some x=>
   rw[hx]at h;have ha:G.imm 1 (c*1)=some (.int .u8 x.toNat):=hm.tab.1 _ _ _ h0 c x hx;rw[Nat.mul_one]at ha;rw[hm.agree _ _ _ ha,qN h]
 ·have h:=List.all_eq_true.1 e1 i (List.mem_range.2 hi)
  cases hx:t1[i]? with
  | none=>rw[hx]at h;cases h
  | some x=>
   rw[hx]at h;simp only[qA]at h;have ha:G.imm 2 (i*2)=some (.int .u8 x.1.toNat)/\G.imm 2 (i*2+1)=some (.int .u8 x.2.toNat):=hm.tab.1 _ _ _ h1 i x hx;rw[Nat.mul_comm]at ha;exact⟨by rw[hm.agree _ _ _ ha.1,qN h.1],by rw[hm.agree _ _ _ ha.2,qN h.2]⟩
theorem zge {G:Gh} {w:World} (hm:Mem G [] w) {t0:List UInt8} {t1:List (UInt8×UInt8)} (h0:LC.glob 1=some ⟨.byte,t0⟩) (h1:LC.glob 2=some ⟨.prod .byte .byte,t1⟩) (e0:chk0 t0=true) (e1:chk1 t1=true) (s o:Bs) (d1:s.length<=1000000) (d2:o.length<=1000) :
  Calls Tryz.prog 224 #[.string ⟨s.toArray⟩,.string ⟨o.toArray⟩] w fun e w'=>e = .returned (.string ⟨(vu o s.length false s).toArray⟩)/\qev w w':=by
 refine (ToValid.tovalid ⟨s.toArray⟩ ⟨o.toArray⟩ w (by rw[qtm];exact d1) (by rw[qtm];exact d2) (zcx hm h0 h1 e0 e1)).mono ?_
 rintro e w' ⟨rfl,hw⟩
 exact⟨by rw[qtm],qev.of_below hw⟩
def tovI:IF:=⟨.fn 224,[.h .str,.h .str],[],_,RS.mk (.h .str) []⟩
theorem zdy {t0:List UInt8} {t1:List (UInt8×UInt8)} (h0:LC.glob 1=some ⟨.byte,t0⟩) (h1:LC.glob 2=some ⟨.prod .byte .byte,t1⟩) (e0:chk0 t0=true) (e1:chk1 t1=true):(tovI.e qby).Sound Tryz.prog:=fun d d' r h=>by
 obtain⟨s,o,_⟩:=d;have h:qby s o=some r:=h;unfold qby at h;cases hd:decide (List.length (α:=UInt8) s<=1000000/\List.length (α:=UInt8) o<=1000)<;>rw[hd]at h<;>simp only[qT,qF,reduceCtorEq]at h
 have h:=qJ h;subst h;obtain⟨d1,d2⟩:=of_decide_eq_true hd;refine⟨Tryz.call224,qbm.data fun w G vs hm hr => ?_⟩
 match vs,hr with
 | [u,v],⟨h1',h2',_⟩=>
  have h1':u = .string ⟨s.toArray⟩:=h1';have h2':v = .string ⟨o.toArray⟩:=h2';subst h1' h2';exact (zge hm h0 h1 e0 e1 s o d1 d2).mono fun e w' ⟨he,hw⟩=>⟨_,he,rfl,hw⟩
theorem zay {G:Gh} {w:World} (hm:Mem G [] w) {t0:List UInt8} {t1:List (UInt8×UInt8)} (h0:LC.glob 1=some ⟨.byte,t0⟩) (h1:LC.glob 2=some ⟨.prod .byte .byte,t1⟩) (e0:chk0 t0=true) (e1:chk1 t1=true) (s:Bs) (d1:s.length<=9223372036854775807) :
  Calls Tryz.prog 137 #[.string ⟨s.toArray⟩] w fun e w'=>e = .returned (.bool (Lib.validD s))/\qev w w':=by
 refine (Any.utf8_ValidString Tryz.lays196 ⟨s.toArray⟩ w (by rw[qtm];exact d1) (zcx hm h0 h1 e0 e1)).mono ?_
 rintro e w' ⟨rfl,hw⟩
 exact⟨rfl,qev.of_below hw⟩
def zo4:IF:=⟨.fn 137,[.h .str],[],_,RS.mk (.h .bool) []⟩
theorem zmd {t0:List UInt8} {t1:List (UInt8×UInt8)} (h0:LC.glob 1=some ⟨.byte,t0⟩) (h1:LC.glob 2=some ⟨.prod .byte .byte,t1⟩) (e0:chk0 t0=true) (e1:chk1 t1=true):(zo4.e qa2).Sound Tryz.prog:=fun d d' r h=>by
 obtain⟨s,_⟩:=d;have h:qa2 s=some r:=h;unfold qa2 at h;cases hd:decide (List.length (α:=UInt8) s<=9223372036854775807)<;>rw[hd]at h<;>simp only[qT,qF,reduceCtorEq]at h
 have h:=qJ h;subst h;have d1:=of_decide_eq_true hd;refine⟨Tryz.call137,qbm.data fun w G vs hm hr => ?_⟩
 match vs,hr with
 | [u],⟨h1',_⟩=>
  have h1':u = .string ⟨s.toArray⟩:=h1';subst h1';exact (zay hm h0 h1 e0 e1 s d1).mono fun e w' ⟨he,hw⟩=>⟨_,he,rfl,hw⟩
end Go.Sym
