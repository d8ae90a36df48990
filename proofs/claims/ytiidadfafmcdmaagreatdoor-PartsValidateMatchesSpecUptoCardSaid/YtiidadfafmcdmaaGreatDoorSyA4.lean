/- What the claim rests on, part 4: gathered texts. -/
import Derived.Shelf.LaysC
import Derived.Shelf.LaysM
import Derived.Shelf.SlGeneric
import Derived.Shelf.SlLaysF0
import Derived.Ground.NamesProg
import Derived.Test.YtiidadfafmcdmaaGreatDoorProg
import Derived.Below
import Derived.Tactics
import Derived.Tactics2
import Derived.Laws.AppendOwn
import Derived.Shelf.Strconv.Itoa4
import Derived.Shelf.Bytes.SlIndexWhole
import Derived.Shelf.Strconv.AtoiAll
import Derived.Shelf.Strconv.ErrVarAll
import Derived.Shelf.SlicesE.Clone
import Derived.Shelf.SlSortCmp.NoneTotal
import Derived.Shelf.Strings.BuilderCap
import Derived.Shelf.Unicode.DecodeAny
import Derived.Laws.DeepStrings4
import Derived.Deep.LoopGhost
import Derived.Deep.DeepCutAuto
import Derived.Deep.DeepFit
import Derived.Deep.DeepMust
import Derived.Test.YtiidadfafmcdmaaGreatDoorSyA3
namespace Go.Sym
set_option linter.unusedVariables false
abbrev wU : Type := Tree (List (Bs × Bs) × Bs)
abbrev wV : Type := List (Bs × Bs)
def tab1:List UInt8:=[240,240,240,240,240,240,240,240,240,240,240,240,240,240,240,240,240,240,240,240,240,240,240,240,240,240,240,240,240,240,240,240,240,240,240,240,240,240,240,240,240,240,240,240,240,240,240,240,240,240,240,240,240,240,240,240,240,240,240,240,240,240,240,240,240,240,240,240,240,240,240,240,240,240,240,240,240,240,240,240,240,240,240,240,240,240,240,240,240,240,240,240,240,240,240,240,240,240,240,240,240,240,240,240,240,240,240,240,240,240,240,240,240,240,240,240,240,240,240,240,240,240,240,240,240,240,240,240,241,241,241,241,241,241,241,241,241,241,241,241,241,241,241,241,241,241,241,241,241,241,241,241,241,241,241,241,241,241,241,241,241,241,241,241,241,241,241,241,241,241,241,241,241,241,241,241,241,241,241,241,241,241,241,241,241,241,241,241,241,241,241,241,241,241,2,2,2,2,2,2,2,2,2,2,2,2,2,2,2,2,2,2,2,2,2,2,2,2,2,2,2,2,2,2,19,3,3,3,3,3,3,3,3,3,3,3,3,35,3,3,52,4,4,4,68,241,241,241,241,241,241,241,241,241,241,241]
def tab2:List (UInt8×UInt8):=[(128,191),(160,191),(128,159),(144,191),(128,143),(0,0),(0,0),(0,0),(0,0),(0,0),(0,0),(0,0),(0,0),(0,0),(0,0),(0,0)]
def tab3:List Int:=[1,10,100,1000,10000,100000,1000000,10000000,100000000,1000000000,10000000000,100000000000,1000000000000,10000000000000,100000000000000,1000000000000000,10000000000000000,100000000000000000,1000000000000000000,10000000000000000000]
abbrev zjb:Type:=wU
def q2j:Option zjb:=bif decide (0<List.length ([(97:UInt8)]:Bs)) then bif decide (0<List.length ([(98:UInt8),(13:UInt8),(10:UInt8)]:Bs)) then some (Tree.node (([(([67,111,110,116,101,110,116,45,84,121,112,101]:Bs),([109,117,108,116,105,112,97,114,116,47,109,105,120,101,100]:Bs))]:List (Bs×Bs)),[]) ([(Tree.node ([],([(97:UInt8)]:Bs)) []),(Tree.node ([],([(98:UInt8),(13:UInt8),(10:UInt8)]:Bs)) [])]:List wU)) else none else none
abbrev q7r:Type:=wU
def qs6 (p0:Tree (wV×Bs)):Option q7r:=some (Tree.node p0.val p0.kids)
def qae (p0:Int) (p1:Int):Option ((Int×Int)):=some (p0,p1)
abbrev qsd:Type:=((Int×Int)×Bool) ⊕ ((Int×Int)×Bool)
def ql7 (p0:Int) (p1:List (Bs×Bs)) (p2:Bs) (p3:List wU) (p4:Int) (p5:Int×Int) (p6:Bool):Option qsd:=bif decide ((40:Int)<=p0) then (qae (2:Int) (-1:Int)).bind fun x1=>some (.inl (x1,p6)) else bif p6 then some (.inr (p5,true)) else some (.inr (p5,decide ((8:Int)<p4)))
abbrev qlw:Type:=(Int×(Int×Int)×Bool) ⊕ (Int×(Int×Int)×Bool)
abbrev x4T:Type:=wU->Int->Int->(Int×Int)->Bool->Option qlw
abbrev x4t0:Type:=Int->(List wU)->Int->Int->Int->(Int×Int)->Bool->Option qlw
def ql8 (rs8:x4T) (fu:Nat) (r0:x4t0):x4t0:=fun s1 s20 s21 s22 m1 m4 m5=>bif decide (s22<s21) then (idx s20 s22).bind fun y1=>(rs8 (Tree.node y1.val y1.kids) (w64 (s1+(1:Int))) m1 m4 m5).bind fun x2=>sumK x2 (fun a3=>some (.inl a3)) (fun b4=>r0 s1 s20 s21 (w64 (s22+(1:Int))) b4.1 b4.2.1 b4.2.2) else some (.inr (m1,(m4,m5)))
def qfc (rs8:x4T) (fu:Nat):Nat->x4t0|0=>fun _ _ _ _ _ _ _=>none|n+1=>ql8 rs8 fu (qfc rs8 fu n)
def qjt (rs8:x4T) (fu:Nat) (p0:Tree (wV×Bs)) (p1:Int) (p2:Int) (p3:Int×Int) (p4:Bool):Option qlw:=(ql7 p2 p0.val.1 p0.val.2 p0.kids p1 p3 p4).bind fun x1=>sumK x1 (fun a2=>some (.inl (p2,a2))) (fun b3=>qfc rs8 fu fu p1 p0.kids (List.length p0.kids:Int) (0:Int) (w64 (p2+(1:Int))) b3.1 b3.2)
def qeg (fu:Nat):Nat->x4T|0=>fun _ _ _ _ _=>none|n+1=>qjt (qeg fu n) fu
def qva (fu:Nat) (p0:Tree (wV×Bs)) (p1:Int) (p2:Int) (p3:Int×Int) (p4:Bool):Option qlw:=qeg fu fu p0 p1 p2 p3 p4
abbrev q4b:Type:=(wU×(Int×Int)×Bool) ⊕ (wU×(Int×Int)×Bool)
def qpp (fu:Nat) (p0:Tree (wV×Bs)) (p1:Int×Int) (p2:Bool):Option q4b:=(qva fu (Tree.node p0.val p0.kids) (0:Int) (0:Int) p1 p2).bind fun x1=>sumK x1 (fun a2=>some (.inl ((Tree.node p0.val p0.kids),a2.2))) (fun b3=>some (.inr ((Tree.node p0.val p0.kids),b3.2)))
def qq4 (p0:UInt8):Option Bool:=bif decide ((33:UInt8)<=p0) then bif decide (p0<=(126:UInt8)) then some (p0 != (58:UInt8)) else some false else some false
abbrev x7t0:Type:=Bs->Int->Int->Option Bool
def qti (fu:Nat) (r0:x7t0):x7t0:=fun s0 s7 s8=>bif decide (s8<s7) then (idx s0 s8).bind fun c1=>(qq4 c1).bind fun x2=>bif !x2 then some false else r0 s0 s7 (w64 (s8+(1:Int))) else some true
def qlk (fu:Nat):Nat->x7t0|0=>fun _ _ _=>none|n+1=>qti fu (qlk fu n)
def qx6 (fu:Nat) (p0:Bs):Option Bool:=qlk fu fu p0 (List.length p0:Int) (0:Int)
def qup (fu:Nat) (p0:Bs):Option Bool:=bif !(p0==([]:Bs)) then bif decide ((List.length p0:Int)<=(60:Int)) then (qx6 fu p0).bind fun x1=>some x1 else some false else some false
def qfh (p0:Int):Option Bool:=some (decide ((8:Int)<p0))
abbrev zs3:Type:=Bs->Int->(List Bool)->Option ((List Bool)×Bool)
def qli (fu:Nat) (r0:zs3):zs3:=fun s0 s4 m32=>bif decide (s4<(List.length s0:Int)) then (idx s0 s4).bind fun c1=>bif decide ((128:UInt8)<=c1) then bif decide (List.length m32=256) then bif decide (List.length m32=List.length m32)&&decide (List.length m32=256) then bif decide (List.length m32=256)&&(true&&true) then some (m32,false) else none else none else none else (m32[c1.toNat]?).bind fun y2=>r0 s0 (w64 (s4+(1:Int))) (List.set m32 c1.toNat true) else bif decide (List.length m32=256) then bif decide (List.length m32=List.length m32)&&decide (List.length m32=256) then bif decide (List.length m32=256)&&(true&&true) then some (m32,true) else none else none else none
def qgr (fu:Nat):Nat->zs3|0=>fun _ _ _=>none|n+1=>qli fu (qgr fu n)
def qcb (fu:Nat) (p0:Bs):Option ((List Bool)×Bool):=qgr fu fu p0 (0:Int) (List.replicate 256 false)
def qdf (p0:Bs) (p1:UInt8):Option Int:=(qb0 p0 p1).bind fun x1=>some x1
def qfb (p0:Bs) (p1:UInt8):Option Int:=(qdf p0 p1).bind fun x1=>some x1
def qed (p0:Int):Option Bool:=bif decide ((0:Int)<=p0) then bif decide (p0<(55296:Int)) then some true else bif decide ((57343:Int)<p0) then bif decide (p0<=(1114111:Int)) then some true else some false else some false else bif decide ((57343:Int)<p0) then bif decide (p0<=(1114111:Int)) then some true else some false else some false
abbrev zqd:Type:=Bs->Nat->Option Int
abbrev ztg:Type:=Bs->Bs->Int->Int->Int->Option Int
abbrev vaz:Type:=Bs->Bs->Int->Int->Option Int
abbrev zdo:Type:=Bs->Bs->Int->Int->Option Int
abbrev z9m:Type:=Bs->Int->Bool->Option Int
def qjp (fu:Nat) (r1:zqd):zqd:=fun m32_0 m32_1=>bif Nat.blt m32_1 (List.length m32_0) then bif (((rdec m32_0 m32_1).1:Nat):Int)==(65533:Int) then some ((m32_1:Nat):Int) else r1 m32_0 (m32_1+(rdec m32_0 m32_1).2) else some (-1:Int)
def qdl (fu:Nat):Nat->zqd|0=>fun _ _=>none|n+1=>qjp fu (qdl fu n)
def qnr (fu:Nat) (r2:zdo) (r4:ztg):ztg:=fun s0 s7 s8 s9 s12=>bif decide (s12<(List.length s7:Int)) then (idx s0 (w64 (s9-s12))).bind fun c1=>(idx s7 (w64 (s8-s12))).bind fun c2=>bif c1 != c2 then none else r4 s0 s7 s8 s9 (w64 (s12+(1:Int))) else some (w64 (s9-s8))
def qjj (fu:Nat) (r2:zdo):Nat->ztg|0=>fun _ _ _ _ _=>none|n+1=>qnr fu r2 (qjj fu r2 n)
def qjm (fu:Nat) (r2:zdo):vaz:=fun s0 s7 s8 s9=>qjj fu r2 fu s0 s7 s8 s9 (1:Int)
def qji (fu:Nat) (r2:zdo):zdo:=fun s0 s7 s8 s9=>bif decide (s9<(List.length s0:Int)) then (idx s0 s9).bind fun c1=>(idx s7 s8).bind fun c2=>bif c1 != c2 then bif decide (0<=w64 (s9+(1:Int))/\w64 (s9+(1:Int))<=(List.length s0:Int)) then (idx s7 s8).bind fun c3=>(qfb (List.drop (w64 (s9+(1:Int))).toNat s0) c3).bind fun x4=>bif decide (x4<(0:Int)) then some (-1:Int) else qjm fu r2 s0 s7 s8 (w64 (s9+(w64 (x4+(1:Int))))) else none else qjm fu r2 s0 s7 s8 s9 else some (-1:Int)
def qfp (fu:Nat):Nat->zdo|0=>fun _ _ _ _=>none|n+1=>qji fu (qfp fu n)
def qdm (fu:Nat):z9m:=fun s0 s1 s160=>bif s160 then (qfb s0 (toU8 s1)).bind fun x1=>some x1 else bif s1==(65533:Int) then qdl fu fu s0 0 else (qed s1).bind fun x2=>bif !x2 then some (-1:Int) else qfp fu fu s0 (renc s1) (w64 ((List.length (renc s1):Int)-(1:Int))) (w64 ((List.length (renc s1):Int)-(1:Int)))
def qbz (fu:Nat) (p0:Bs) (p1:Int):Option Int:=bif decide ((0:Int)<=p1) then qdm fu p0 p1 (decide (p1<(128:Int))) else qdm fu p0 p1 false
def qbb (p0:UInt8) (p1:List Bool):Option (Bool×(List Bool)):=(p1[p0.toNat]?).bind fun y1=>some (y1,p1)
abbrev z5c:Type:=Bs->Int->Option Int
abbrev zrp:Type:=Bs->Int->(List Bool)->Option Int
abbrev zse:Type:=Bs->Bs->Nat->Option Int
abbrev z4r:Type:=Bs->Bs->Option Int
def qkd (fu:Nat):z5c:=fun s0 s5=>(qbz fu s0 s5).bind fun x1=>some x1
def qj8 (fu:Nat) (r1:zrp):zrp:=fun s0 s8 m32=>bif decide (s8<(List.length s0:Int)) then (idx s0 s8).bind fun c1=>(qbb c1 m32).bind fun x2=>bif x2.1 then some s8 else r1 s0 (w64 (s8+(1:Int))) x2.2 else some (-1:Int)
def qd4 (fu:Nat):Nat->zrp|0=>fun _ _ _=>none|n+1=>qj8 fu (qd4 fu n)
def qki (fu:Nat) (r3:zse):zse:=fun s1 m32_0 m32_1=>bif Nat.blt m32_1 (List.length m32_0) then (qbz fu s1 (((rdec m32_0 m32_1).1:Nat):Int)).bind fun x1=>bif decide ((0:Int)<=x1) then some ((m32_1:Nat):Int) else r3 s1 m32_0 (m32_1+(rdec m32_0 m32_1).2) else some (-1:Int)
def qd2 (fu:Nat):Nat->zse|0=>fun _ _ _=>none|n+1=>qki fu (qd2 fu n)
def qgh (fu:Nat):z4r:=fun s0 s1=>qd2 fu fu s1 s0 0
def qjy (fu:Nat) (p0:Bs) (p1:Bs):Option Int:=bif p1==([]:Bs) then some (-1:Int) else bif (List.length p1:Int)==(1:Int) then (idx p1 (0:Int)).bind fun c1=>bif decide ((128:Int)<=(c1.toNat:Int)) then qkd fu p0 (65533:Int) else qkd fu p0 (c1.toNat:Int) else (qfh (List.length p0:Int)).bind fun x2=>bif x2 then (qcb fu p1).bind fun x3=>bif decide (List.length x3.1=List.length (List.replicate 256 false))&&decide (List.length x3.1=256) then bif x3.2 then qd4 fu fu p0 (0:Int) x3.1 else qgh fu p0 p1 else none else qgh fu p0 p1
def qgg (fu:Nat) (p0:Bs) (p1:Bs):Option Bool:=(qjy fu p0 p1).bind fun x1=>some (decide ((0:Int)<=x1))
def qx0 (fu:Nat) (p0:Bs):Option Bool:=(qgg fu p0 ([13,10,0]:Bs)).bind fun x1=>some x1
def qf7 (p0:UInt8):Option Bool:=bif p0==(32:UInt8) then some true else some (p0==(9:UInt8))
def qst (fu:Nat) (p0:Bs):Option Bool:=(qx0 fu p0).bind fun x1=>bif !x1 then bif p0==([]:Bs) then some true else (idx p0 (0:Int)).bind fun c2=>(qf7 c2).bind fun x3=>bif !x3 then (idx p0 (w64 ((List.length p0:Int)-(1:Int)))).bind fun c4=>(qf7 c4).bind fun x5=>some (!x5) else some false else some false
abbrev z96:Type:=Bs->Int->Int->Bool->Option Int
abbrev zk0:Type:=Bs->Int->Int->Option Int
def qnh (fu:Nat) (r0:zk0):z96:=fun s0 s5 s6 s26=>bif s26 then r0 s0 s5 (w64 (s6+(1:Int))) else bif decide ((0:Int)<s5) then bif decide ((78:Int)<s6) then some s5 else r0 s0 s6 (w64 (s6+(1:Int))) else r0 s0 s6 (w64 (s6+(1:Int)))
def qse (fu:Nat) (r0:zk0):zk0:=fun s0 s5 s6=>bif decide (s6<(List.length s0:Int)) then (idx s0 s6).bind fun c1=>(qf7 c1).bind fun x2=>bif !x2 then qnh fu r0 s0 s5 s6 true else (idx s0 (w64 (s6-(1:Int)))).bind fun c3=>(qf7 c3).bind fun x4=>qnh fu r0 s0 s5 s6 x4 else some s5
def qkt (fu:Nat):Nat->zk0|0=>fun _ _ _=>none|n+1=>qse fu (qkt fu n)
def qso (fu:Nat) (p0:Bs) (p1:Int):Option Int:=qkt fu fu p0 (0:Int) (if (1:Int)>p1 then (1:Int) else p1)
def qa1:Option ((Int×Int)):=some ((0:Int),(0:Int))
abbrev zs5:Type:=Int->Int->(Int×Int)->(List Bs)->Option ((Int×Int)×(List Bs))
abbrev z4s:Type:=Bs->(Int×Int)->(List Bs)->Option ((Int×Int)×(List Bs))
abbrev zqn:Type:=Bs->Int->(Int×Int)->(List Bs)->Option ((Int×Int)×(List Bs))
def qth (fu:Nat) (r2:zs5):zs5:=fun s56 s57 m32 m33=>bif decide (s57<s56) then bif decide (0<=s57/\s57.toNat<List.length m33) then (m33[s57.toNat]?).bind fun y1=>bif decide ((998:Int)<(List.length y1:Int)) then (qae (1:Int) s57).bind fun x2=>some (x2,[]) else r2 s56 (w64 (s57+(1:Int))) m32 m33 else none else (qa1).bind fun x3=>some (x3,m33)
def qlo (fu:Nat):Nat->zs5|0=>fun _ _ _ _=>none|n+1=>qth fu (qlo fu n)
def qld (fu:Nat):z4s:=fun s6 m32 m33=>bif decide (List.length (m33++([s6]:List Bs))<=qaq) then qlo fu fu (List.length (m33++([s6]:List Bs)):Int) (0:Int) m32 (m33++([s6]:List Bs)) else none
def qtg (fu:Nat) (r0:zqn):zqn:=fun s6 s7 m32 m33=>bif decide ((78:Int)<(List.length s6:Int)) then (qso fu s6 s7).bind fun x1=>bif x1==(0:Int) then qld fu s6 m32 m33 else bif decide (0<=x1/\x1<=(List.length s6:Int)) then bif decide (List.length (m33++([List.take x1.toNat s6]:List Bs))<=qaq) then bif decide (0<=x1/\x1<=(List.length s6:Int)) then r0 (List.drop x1.toNat s6) (0:Int) m32 (m33++([List.take x1.toNat s6]:List Bs)) else none else none else none else qld fu s6 m32 m33
def qle (fu:Nat):Nat->zqn|0=>fun _ _ _ _=>none|n+1=>qtg fu (qle fu n)
def ql6 (fu:Nat) (p0:Bs) (p1:Bs):Option ((Int×Int)×(List Bs)):=(qup fu p0).bind fun x1=>bif !x1 then (qae (10:Int) (-1:Int)).bind fun x2=>some (x2,[]) else bif decide ((4000:Int)<(List.length p1:Int)) then (qae (1:Int) (-1:Int)).bind fun x3=>some (x3,[]) else (qst fu p1).bind fun x4=>bif !x4 then (qae (11:Int) (-1:Int)).bind fun x5=>some (x5,[]) else bif decide (List.length p0+List.length ([58,32]:Bs)<=qad) then bif decide (List.length (p0++([58,32]:Bs))+List.length p1<=qad) then qle fu fu ((p0++([58,32]:Bs))++p1) (w64 ((List.length p0:Int)+(2:Int))) ((0:Int),(0:Int)) [] else none else none
def qak (p0:Int×Int):Option Bool:=some (p0.1 != (0:Int))
abbrev zs4:Type:=wV->Int->Int->(Int×Int)->Option ((Int×Int))
def qlc (fu:Nat) (r0:zs4):zs4:=fun s11 s12 s13 m32=>bif decide (s13<s12) then (idx s11 s13).bind fun y1=>(ql6 fu y1.1 y1.2).bind fun x2=>(qak x2.1).bind fun x3=>bif x3 then (qae x2.1.1 s13).bind fun x4=>some x4 else r0 s11 s12 (w64 (s13+(1:Int))) m32 else (qa1).bind fun x5=>some x5
def qej (fu:Nat):Nat->zs4|0=>fun _ _ _ _=>none|n+1=>qlc fu (qej fu n)
def qg2 (fu:Nat) (p0:List (Bs×Bs)):Option ((Int×Int)):=bif decide ((60:Int)<(List.length p0:Int)) then (qae (2:Int) (-1:Int)).bind fun x1=>some x1 else qej fu fu p0 (List.length p0:Int) (0:Int) ((0:Int),(0:Int))
abbrev zs6:Type:=Int->Int->Bs->Option (Bs)
def qlx (fu:Nat) (r0:zs6):zs6:=fun s9 s10 m32=>bif decide (s10<s9) then bif decide (0<=s10/\s10.toNat<List.length m32) then (m32[s10.toNat]?).bind fun y1=>bif decide ((65:UInt8)<=y1) then bif decide (y1<=(90:UInt8)) then bif decide (0<=s10/\s10.toNat<List.length m32) then (m32[s10.toNat]?).bind fun y2=>r0 s9 (w64 (s10+(1:Int))) (List.set m32 s10.toNat ((y1+(97:UInt8))-(65:UInt8))) else none else r0 s9 (w64 (s10+(1:Int))) m32 else r0 s9 (w64 (s10+(1:Int))) m32 else none else some m32
def qfu (fu:Nat):Nat->zs6|0=>fun _ _ _=>none|n+1=>qlx fu (qfu fu n)
def qnj (fu:Nat) (p0:Bs):Option (Bs):=bif decide (List.length p0<=maxLen) then qfu fu fu (List.length p0:Int) (0:Int) p0 else none
def qca (fu:Nat) (p0:Bs) (p1:Bs):Option Bool:=bif (List.length p0:Int)==(List.length p1:Int) then (qnj fu p0).bind fun x1=>(qnj fu p1).bind fun x2=>some (x1==x2) else some false
abbrev zqs:Type:=Bs->UInt8->Option (Bs)
def qlg (fu:Nat) (r0:zqs):zqs:=fun s0 s1=>bif decide ((0:Int)<(List.length s0:Int)) then (idx s0 (0:Int)).bind fun c1=>bif c1==s1 then bif decide (0<=(1:Int)/\(1:Int)<=(List.length s0:Int)) then r0 (List.drop (1:Int).toNat s0) s1 else none else some s0 else some s0
def qgu (fu:Nat):Nat->zqs|0=>fun _ _=>none|n+1=>qlg fu (qgu fu n)
def qjl (fu:Nat) (p0:Bs) (p1:UInt8):Option (Bs):=qgu fu fu p0 p1
abbrev zsi:Type:=Bs->(List Bool)->Option (Bs×(List Bool))
def qfq (fu:Nat) (r0:zsi):zsi:=fun s0 m0=>bif decide ((0:Int)<(List.length s0:Int)) then (idx s0 (0:Int)).bind fun c1=>(qbb c1 m0).bind fun x2=>bif !x2.1 then some (s0,x2.2) else bif decide (0<=(1:Int)/\(1:Int)<=(List.length s0:Int)) then r0 (List.drop (1:Int).toNat s0) x2.2 else none else some (s0,m0)
def qb6 (fu:Nat):Nat->zsi|0=>fun _ _=>none|n+1=>qfq fu (qb6 fu n)
def qer (fu:Nat) (p0:Bs) (p1:List Bool):Option (Bs×(List Bool)):=qb6 fu fu p0 p1
abbrev va2:Type:=UInt8->UInt8->UInt8->UInt8->Option (Int×Int)
abbrev z4o:Type:=UInt8->UInt8->UInt8->UInt8->Bool->Option (Int×Int)
abbrev z5z:Type:=Bs->UInt8->Int->UInt8->UInt8->Option (Int×Int)
abbrev z6r:Type:=Bs->UInt8->Int->UInt8->UInt8->Bool->Option (Int×Int)
abbrev z49:Type:=Bs->UInt8->Int->UInt8->Option (Int×Int)
abbrev z5y:Type:=Bs->UInt8->Int->UInt8->Bool->Option (Int×Int)
def qdx:va2:=fun s5 s10 s11 s12=>some (IntKind.i32.wrap (((BitVec.ofInt 32 (IntKind.i32.wrap (((BitVec.ofInt 32 (IntKind.i32.wrap (((BitVec.ofInt 32 (IntKind.i32.wrap (((s5&&&(7:UInt8)).toNat:Int)*2 ^ min (18:Int).toNat 32))|||BitVec.ofInt 32 (IntKind.i32.wrap (((s10&&&(63:UInt8)).toNat:Int)*2 ^ min (12:Int).toNat 32))).toNat:Int)))|||BitVec.ofInt 32 (IntKind.i32.wrap (((s11&&&(63:UInt8)).toNat:Int)*2 ^ min (6:Int).toNat 32))).toNat:Int)))|||BitVec.ofInt 32 ((s12&&&(63:UInt8)).toNat:Int)).toNat:Int)),(4:Int))
def qbq:z4o:=fun s5 s10 s11 s12 s98=>bif s98 then some ((65533:Int),(1:Int)) else qdx s5 s10 s11 s12
def qdw:z5z:=fun s0 s5 s8 s10 s11=>bif decide (s8<=(3:Int)) then some (IntKind.i32.wrap (((BitVec.ofInt 32 (IntKind.i32.wrap (((BitVec.ofInt 32 (IntKind.i32.wrap (((s5&&&(15:UInt8)).toNat:Int)*2 ^ min (12:Int).toNat 32))|||BitVec.ofInt 32 (IntKind.i32.wrap (((s10&&&(63:UInt8)).toNat:Int)*2 ^ min (6:Int).toNat 32))).toNat:Int)))|||BitVec.ofInt 32 ((s11&&&(63:UInt8)).toNat:Int)).toNat:Int)),(3:Int)) else (idx s0 (3:Int)).bind fun c1=>bif decide (c1<(128:UInt8)) then qbq s5 s10 s11 c1 true else qbq s5 s10 s11 c1 (decide ((191:UInt8)<c1))
def qbr:z6r:=fun s0 s5 s8 s10 s11 s75=>bif s75 then some ((65533:Int),(1:Int)) else qdw s0 s5 s8 s10 s11
def qdv:z49:=fun s0 s5 s8 s10=>bif decide (s8<=(2:Int)) then some (IntKind.i32.wrap (((BitVec.ofInt 32 (IntKind.i32.wrap (((s5&&&(31:UInt8)).toNat:Int)*2 ^ min (6:Int).toNat 32))|||BitVec.ofInt 32 ((s10&&&(63:UInt8)).toNat:Int)).toNat:Int)),(2:Int)) else (idx s0 (2:Int)).bind fun c1=>bif decide (c1<(128:UInt8)) then qbr s0 s5 s8 s10 c1 true else qbr s0 s5 s8 s10 c1 (decide ((191:UInt8)<c1))
def qbt:z5y:=fun s0 s5 s8 s10 s57=>bif s57 then some ((65533:Int),(1:Int)) else qdv s0 s5 s8 s10
def qb7 (p0:Bs):Option (Int×Int):=bif decide ((List.length p0:Int)<(1:Int)) then some ((65533:Int),(0:Int)) else (idx p0 (0:Int)).bind fun c1=>(tab1[c1.toNat]?).bind fun y2=>bif decide ((240:UInt8)<=y2) then (idx p0 (0:Int)).bind fun c3=>some (IntKind.i32.wrap (((BitVec.ofInt 32 (IntKind.i32.wrap (((BitVec.ofInt 32 (c3.toNat:Int) &&& ~~~ BitVec.ofInt 32 (Int.fdiv (IntKind.i32.wrap ((y2.toNat:Int)*2 ^ min (31:Int).toNat 32)) (2 ^ min (31:Int).toNat 32))).toNat:Int)))|||BitVec.ofInt 32 (IntKind.i32.wrap (((BitVec.ofInt 32 (65533:Int)&&&BitVec.ofInt 32 (Int.fdiv (IntKind.i32.wrap ((y2.toNat:Int)*2 ^ min (31:Int).toNat 32)) (2 ^ min (31:Int).toNat 32))).toNat:Int)))).toNat:Int)),(1:Int)) else (tab2[(q38 y2 (min (4:Int).toNat 8)).toNat]?).bind fun y4=>bif decide ((List.length p0:Int)<((y2&&&(7:UInt8)).toNat:Int)) then some ((65533:Int),(1:Int)) else (idx p0 (1:Int)).bind fun c5=>bif decide (c5<y4.1) then qbt p0 c1 ((y2&&&(7:UInt8)).toNat:Int) c5 true else qbt p0 c1 ((y2&&&(7:UInt8)).toNat:Int) c5 (decide (y4.2<c5))
def qc6 (p0:Bs):Option (Int×Int):=bif !(p0==([]:Bs)) then (idx p0 (0:Int)).bind fun c1=>bif decide (c1<(128:UInt8)) then (idx p0 (0:Int)).bind fun c2=>some ((c2.toNat:Int),(1:Int)) else (qb7 p0).bind fun x3=>some x3 else (qb7 p0).bind fun x4=>some x4
def qfn (fu:Nat) (p0:Bs) (p1:Int):Option Bool:=(qbz fu p0 p1).bind fun x1=>some (decide ((0:Int)<=x1))
abbrev zp8:Type:=Bs->Bs->Option (Bs)
def qj1 (fu:Nat) (r0:zp8):zp8:=fun s0 s1=>bif decide ((0:Int)<(List.length s0:Int)) then (qc6 s0).bind fun x1=>(qfn fu s1 x1.1).bind fun x2=>bif !x2 then some s0 else bif decide (0<=x1.2/\x1.2<=(List.length s0:Int)) then r0 (List.drop x1.2.toNat s0) s1 else none else some s0
def qen (fu:Nat):Nat->zp8|0=>fun _ _=>none|n+1=>qj1 fu (qen fu n)
def qgp (fu:Nat) (p0:Bs) (p1:Bs):Option (Bs):=qen fu fu p0 p1
abbrev z67:Type:=Bs->Bs->Option (Bs)
abbrev z47:Type:=Bs->Bs->Bool->Option (Bs)
abbrev z5w:Type:=Bs->Bs->Option (Bs)
abbrev z6m:Type:=Bs->Bs->Bool->Option (Bs)
def qkk (fu:Nat):z67:=fun s0 s1=>(qcb fu s1).bind fun x1=>bif decide (List.length x1.1=List.length (List.replicate 256 false))&&decide (List.length x1.1=256) then bif x1.2 then (qer fu s0 x1.1).bind fun x2=>some x2.1 else (qgp fu s0 s1).bind fun x3=>some x3 else none
def qgm (fu:Nat):z47:=fun s0 s1 s21=>bif s21 then (idx s1 (0:Int)).bind fun c1=>(qjl fu s0 c1).bind fun x2=>some x2 else qkk fu s0 s1
def qj9 (fu:Nat):z5w:=fun s0 s1=>bif (List.length s1:Int)==(1:Int) then (idx s1 (0:Int)).bind fun c1=>qgm fu s0 s1 (decide (c1<(128:UInt8))) else qgm fu s0 s1 false
def qgj (fu:Nat):z6m:=fun s0 s1 s12=>bif s12 then some s0 else qj9 fu s0 s1
def qj2 (fu:Nat) (p0:Bs) (p1:Bs):Option (Bs):=bif p0==([]:Bs) then qgj fu p0 p1 true else qgj fu p0 p1 (p1==([]:Bs))
def qbf (fu:Nat) (p0:Bs):Option (Bs):=(qj2 fu p0 ([32,9]:Bs)).bind fun x1=>some x1
def qa9 (p0:UInt8):Option Bool:=bif decide ((33:UInt8)<=p0) then bif decide (p0<=(126:UInt8)) then (qfb ([40,41,60,62,64,44,59,58,92,34,47,91,93,63,61,42,37,39]:Bs) p0).bind fun x1=>some (decide (x1<(0:Int))) else some false else some false
abbrev z48:Type:=Int->Bs->Option (Bs×Bs)
abbrev z6o:Type:=Int->Bool->Bs->Option (Bs×Bs)
abbrev zh8:Type:=Int->Bs->Option (Bs×Bs)
def qns (fu:Nat) (r0:zh8):z48:=fun s5 m0=>r0 (w64 (s5+(1:Int))) m0
def qjo (fu:Nat) (r0:zh8):z6o:=fun s5 s25 m0=>bif s25 then qns fu r0 s5 m0 else bif decide (0<=s5/\s5<=(List.length m0:Int)) then bif decide (0<=s5/\s5<=(List.length m0:Int)) then some (List.take s5.toNat m0,List.drop s5.toNat m0) else none else none
def qnq (fu:Nat) (r0:zh8):zh8:=fun s5 m0=>bif decide (s5<(List.length m0:Int)) then (idx m0 s5).bind fun c1=>(qa9 c1).bind fun x2=>qjo fu r0 s5 x2 m0 else qjo fu r0 s5 false m0
def qdk (fu:Nat):Nat->zh8|0=>fun _ _=>none|n+1=>qnq fu (qdk fu n)
def qfi (fu:Nat) (p0:Bs):Option (Bs×Bs):=(qbf fu p0).bind fun x1=>qdk fu fu (0:Int) x1
def qcg (fu:Nat) (p0:UInt8) (p1:Bs):Option (Bool×Bs):=(qbf fu p1).bind fun x1=>bif x1==([]:Bs) then some (false,x1) else (idx x1 (0:Int)).bind fun c2=>bif c2 != p0 then some (false,x1) else bif decide (0<=(1:Int)/\(1:Int)<=(List.length x1:Int)) then some (true,List.drop (1:Int).toNat x1) else none
def qd1 (p0:UInt8):Option Bool:=(qa9 p0).bind fun x1=>bif x1 then some true else some (p0==(42:UInt8))
abbrev z5m:Type:=Int->Bs->Option (Bs×Bs)
abbrev z9i:Type:=Int->Bool->Bs->Option (Bs×Bs)
abbrev zhp:Type:=Int->Bs->Option (Bs×Bs)
def qlh (fu:Nat) (r0:zhp):z5m:=fun s5 m0=>r0 (w64 (s5+(1:Int))) m0
def qgw (fu:Nat) (r0:zhp):z9i:=fun s5 s25 m0=>bif s25 then qlh fu r0 s5 m0 else bif decide (0<=s5/\s5<=(List.length m0:Int)) then bif decide (0<=s5/\s5<=(List.length m0:Int)) then some (List.take s5.toNat m0,List.drop s5.toNat m0) else none else none
def qlt (fu:Nat) (r0:zhp):zhp:=fun s5 m0=>bif decide (s5<(List.length m0:Int)) then (idx m0 s5).bind fun c1=>(qd1 c1).bind fun x2=>qgw fu r0 s5 x2 m0 else qgw fu r0 s5 false m0
def qce (fu:Nat):Nat->zhp|0=>fun _ _=>none|n+1=>qlt fu (qce fu n)
def qfm (fu:Nat) (p0:Bs):Option (Bs×Bs):=(qbf fu p0).bind fun x1=>qce fu fu (0:Int) x1
def qdj (p0:UInt8):Option Bool:=(qa9 p0).bind fun x1=>bif x1 then some true else bif p0==(37:UInt8) then some true else bif p0==(39:UInt8) then some true else some (p0==(42:UInt8))
abbrev vao:Type:=Int->Bs->Option (Bs×Bs)
abbrev z8e:Type:=Int->Bool->Bs->Option (Bs×Bs)
abbrev zkh:Type:=Int->Bs->Option (Bs×Bs)
def qlu (fu:Nat) (r0:zkh):vao:=fun s5 m0=>r0 (w64 (s5+(1:Int))) m0
def qgt (fu:Nat) (r0:zkh):z8e:=fun s5 s25 m0=>bif s25 then qlu fu r0 s5 m0 else bif decide (0<=s5/\s5<=(List.length m0:Int)) then bif decide (0<=s5/\s5<=(List.length m0:Int)) then some (List.take s5.toNat m0,List.drop s5.toNat m0) else none else none
def qll (fu:Nat) (r0:zkh):zkh:=fun s5 m0=>bif decide (s5<(List.length m0:Int)) then (idx m0 s5).bind fun c1=>(qdj c1).bind fun x2=>qgt fu r0 s5 x2 m0 else qgt fu r0 s5 false m0
def qcd (fu:Nat):Nat->zkh|0=>fun _ _=>none|n+1=>qll fu (qcd fu n)
def qfl (fu:Nat) (p0:Bs):Option (Bs×Bs):=(qbf fu p0).bind fun x1=>qcd fu fu (0:Int) x1
abbrev zte:Type:=Int->Bs->Bs->Option (Bs×Bool×Bs)
def qiq (fu:Nat) (r0:zte):zte:=fun s5 m0 m32=>bif decide (s5<(List.length m0:Int)) then (idx m0 s5).bind fun c1=>bif c1==(34:UInt8) then bif decide (0<=w64 (s5+(1:Int))/\w64 (s5+(1:Int))<=(List.length m0:Int)) then some (m32,(true,List.drop (w64 (s5+(1:Int))).toNat m0)) else none else bif c1==(92:UInt8) then bif (w64 (s5+(1:Int)))==(List.length m0:Int) then some (([]:Bs),(false,m0)) else (idx m0 (w64 (s5+(1:Int)))).bind fun c2=>bif decide (List.length (m32++([c2]:Bs))<=qaq) then r0 (w64 ((w64 (s5+(1:Int)))+(1:Int))) m0 (m32++([c2]:Bs)) else none else bif decide (List.length (m32++([c1]:Bs))<=qaq) then r0 (w64 (s5+(1:Int))) m0 (m32++([c1]:Bs)) else none else some (([]:Bs),(false,m0))
def qc7 (fu:Nat):Nat->zte|0=>fun _ _ _=>none|n+1=>qiq fu (qc7 fu n)
def qg0 (fu:Nat) (p0:Bs):Option (Bs×Bool×Bs):=(qcg fu (34:UInt8) p0).bind fun x1=>bif !x1.1 then (qfl fu x1.2).bind fun x2=>some (x2.1,(true,x2.2)) else qc7 fu fu (0:Int) x1.2 []
abbrev z7y:Type:=Bs->Bs->Int->Bool->Option Int
def qb5:z7y:=fun s0 s1 s5 s16=>bif s16 then some (0:Int) else bif s5==(1:Int) then (idx s1 (0:Int)).bind fun c1=>(qdf s0 c1).bind fun x2=>some x2 else bif decide ((List.length s0:Int)<=s5) then some (-1:Int) else none
def qcu (p0:Bs) (p1:Bs):Option Int:=bif (List.length p1:Int)==(0:Int) then qb5 p0 p1 (List.length p1:Int) true else qb5 p0 p1 (List.length p1:Int) (p1==p0)
def qfs (p0:Bs) (p1:Bs):Option (Bs×Bs×Bool):=(qcu p0 p1).bind fun x1=>bif decide ((0:Int)<=x1) then bif decide (0<=x1/\x1<=(List.length p0:Int)) then bif decide (0<=w64 (x1+(List.length p1:Int))/\w64 (x1+(List.length p1:Int))<=(List.length p0:Int)) then some (List.take x1.toNat p0,(List.drop (w64 (x1+(List.length p1:Int))).toNat p0,true)) else none else none else some (p0,(([]:Bs),false))
def qm0 (p0:Bs) (p1:Bs):Option (Bs×Bs×Bool):=(qfs p0 p1).bind fun x1=>some x1
def qa7 (p0:Bs) (p1:Bs):Option Bool:=bif decide ((List.length p1:Int)<=(List.length p0:Int)) then bif decide (0<=w64 ((List.length p0:Int)-(List.length p1:Int))/\w64 ((List.length p0:Int)-(List.length p1:Int))<=(List.length p0:Int)) then some ((List.drop (w64 ((List.length p0:Int)-(List.length p1:Int))).toNat p0)==p1) else none else some false
def qdg (p0:Bs) (p1:Bs):Option (Bs×Bool):=(qa7 p0 p1).bind fun x1=>bif !x1 then some (p0,false) else bif decide (0<=w64 ((List.length p0:Int)-(List.length p1:Int))/\w64 ((List.length p0:Int)-(List.length p1:Int))<=(List.length p0:Int)) then some (List.take (w64 ((List.length p0:Int)-(List.length p1:Int))).toNat p0,true) else none
def qig (p0:Bs) (p1:Bs):Option (Bs×Bool):=(qdg p0 p1).bind fun x1=>some x1
abbrev qya:Type:=(Bs×Int×Bool×Bs)×Bool×Bs
def qir (fu:Nat) (p0:Bs):Option qya:=(qfm fu p0).bind fun x1=>(qcg fu (61:UInt8) x1.2).bind fun x2=>bif !x2.1 then some ((([]:Bs),((0:Int),(false,([]:Bs)))),(false,x2.2)) else (qg0 fu x2.2).bind fun x3=>(qm0 x1.1 ([42]:Bs)).bind fun x4=>bif x4.2.2 then (qig x4.2.1 ([42]:Bs)).bind fun x5=>(qgo x5.1 (1099511627776:Int)).bind fun x6=>bif x3.2.1 then bif x6.2 then some ((x4.1,(x6.1,(x5.2,x3.1))),(!(x4.1==([]:Bs)),x3.2.2)) else some ((x4.1,(x6.1,(x5.2,x3.1))),(false,x3.2.2)) else some ((x4.1,(x6.1,(x5.2,x3.1))),(false,x3.2.2)) else bif x3.2.1 then some ((x4.1,((-1:Int),(false,x3.1))),(!(x4.1==([]:Bs)),x3.2.2)) else some ((x4.1,((-1:Int),(false,x3.1))),(false,x3.2.2))
abbrev q1i:Type:=Bool×(Bs×Int×Bool×Bs)
def qi7 (fu:Nat) (p0:Bs×Int×Bool×Bs) (p1:Bs×Int×Bool×Bs):Option q1i:=(qca fu p0.1 p1.1).bind fun x1=>some (x1,p1)
abbrev qc9:Type:=Int×(Bs×Int×Bool×Bs)
abbrev zs1:Type:=(List (Bs×Int×Bool×Bs))->Int->Int->(Bs×Int×Bool×Bs)->Option qc9
def qa8 (fu:Nat) (r0:zs1):zs1:=fun s0 s7 s8 m0=>bif decide (s8<s7) then (idx s0 s8).bind fun y1=>(qi7 fu y1 m0).bind fun x2=>bif x2.1 then some (s8,x2.2) else r0 s0 s7 (w64 (s8+(1:Int))) x2.2 else some ((-1:Int),m0)
def qan (fu:Nat):Nat->zs1|0=>fun _ _ _ _=>none|n+1=>qa8 fu (qan fu n)
def qbh (fu:Nat) (p0:List (Bs×Int×Bool×Bs)) (p1:Bs×Int×Bool×Bs):Option qc9:=qan fu fu p0 (List.length p0:Int) (0:Int) p1
abbrev qhi:Type:=Bool×(Bs×Int×Bool×Bs)
def qaw (fu:Nat) (p0:List (Bs×Int×Bool×Bs)) (p1:Bs×Int×Bool×Bs):Option qhi:=(qbh fu p0 p1).bind fun x1=>some (decide ((0:Int)<=x1.1),x1.2)
abbrev z9t:Type:=UInt8->Bool->Option (UInt8×Bool)
abbrev z68:Type:=UInt8->Bool->Option (UInt8×Bool)
def qtp:z9t:=fun s0 s13=>bif s13 then some ((s0-(65:UInt8))+(10:UInt8),true) else bif decide ((97:UInt8)<=s0) then bif decide (s0<=(102:UInt8)) then some ((s0-(97:UInt8))+(10:UInt8),true) else some ((0:UInt8),false) else some ((0:UInt8),false)
def qtb:z68:=fun s0 s4=>bif s4 then some (s0-(48:UInt8),true) else bif decide ((65:UInt8)<=s0) then qtp s0 (decide (s0<=(70:UInt8))) else qtp s0 false
def qoq (p0:UInt8):Option (UInt8×Bool):=bif decide ((48:UInt8)<=p0) then qtb p0 (decide (p0<=(57:UInt8))) else qtb p0 false
def qp1 (p0:Bs):Option (UInt8×Bool):=bif decide ((List.length p0:Int)<(2:Int)) then some ((0:UInt8),false) else (idx p0 (0:Int)).bind fun c1=>(qoq c1).bind fun x2=>(idx p0 (1:Int)).bind fun c3=>(qoq c3).bind fun x4=>bif x2.2 then some ((q3w x2.1 (min (4:Int).toNat 8))|||x4.1,x4.2) else some ((q3w x2.1 (min (4:Int).toNat 8))|||x4.1,false)
abbrev zq6:Type:=Bs->Int->Bs->Option (Bs)
abbrev z4z:Type:=Bs->Option (Bs)
abbrev z6f:Type:=Bs->Bool->Option (Bs)
def qkr (fu:Nat) (r2:zq6):zq6:=fun s3 s5 m32=>bif decide (s5<(List.length s3:Int)) then (idx s3 s5).bind fun c1=>bif c1==(37:UInt8) then bif decide (0<=w64 (s5+(1:Int))/\w64 (s5+(1:Int))<=(List.length s3:Int)) then (qp1 (List.drop (w64 (s5+(1:Int))).toNat s3)).bind fun x2=>bif x2.2 then bif decide (List.length (m32++([x2.1]:Bs))<=qaq) then r2 s3 (w64 ((w64 (s5+(2:Int)))+(1:Int))) (m32++([x2.1]:Bs)) else none else (idx s3 s5).bind fun c3=>bif decide (List.length (m32++([c3]:Bs))<=qaq) then r2 s3 (w64 (s5+(1:Int))) (m32++([c3]:Bs)) else none else none else (idx s3 s5).bind fun c4=>bif decide (List.length (m32++([c4]:Bs))<=qaq) then r2 s3 (w64 (s5+(1:Int))) (m32++([c4]:Bs)) else none else some m32
def qd3 (fu:Nat):Nat->zq6|0=>fun _ _ _=>none|n+1=>qkr fu (qd3 fu n)
def qcs (fu:Nat):z4z:=fun s3=>qd3 fu fu s3 (0:Int) []
def qbe (fu:Nat):z6f:=fun s3 s26=>bif s26 then bif decide (0<=(6:Int)/\(6:Int)<=(List.length s3:Int)) then qcs fu (List.drop (6:Int).toNat s3) else none else qcs fu s3
def qjz (fu:Nat) (p0:Bs×Int×Bool×Bs):Option (Bs):=bif !p0.2.2.1 then some p0.2.2.2 else bif p0.2.1==(0:Int) then bif decide ((6:Int)<=(List.length p0.2.2.2:Int)) then bif decide (0<=(6:Int)/\(6:Int)<=(List.length p0.2.2.2:Int)) then (qca fu (List.take (6:Int).toNat p0.2.2.2) ([117,116,102,56,39,39]:Bs)).bind fun x1=>qbe fu p0.2.2.2 x1 else none else qbe fu p0.2.2.2 false else qbe fu p0.2.2.2 false
abbrev zsc:Type:=Int->Int->(Bs×Bs)->(Bs×Bs)->(List (Bs×Int×Bool×Bs))->Option ((Bs×Bs)×Bool)
def qla (fu:Nat) (r0:zsc):zsc:=fun s29 s30 m32 m33 m34=>bif decide (s30<s29) then bif decide (0<=s30/\s30.toNat<List.length m34) then (m34[s30.toNat]?).bind fun y1=>bif y1.2.1 != s30 then some (m33,false) else (qjz fu y1).bind fun x2=>bif decide (List.length m33.2+List.length x2<=qad) then r0 s29 (w64 (s30+(1:Int))) m32 (m33.1,m33.2++x2) m34 else none else none else (qby m33.2 ([239,191,189]:Bs)).bind fun x3=>some ((m33.1,x3),true)
def qem (fu:Nat):Nat->zsc|0=>fun _ _ _ _ _=>none|n+1=>qla fu (qem fu n)
def qhf (fu:Nat) (p0:List (Bs×Int×Bool×Bs)):Option ((Bs×Bs)×Bool):=bif decide (0<=(0:Int)/\(0:Int).toNat<List.length p0) then (p0[(0:Int).toNat]?).bind fun y1=>bif decide (0<=(0:Int)/\(0:Int).toNat<List.length p0) then (p0[(0:Int).toNat]?).bind fun y2=>bif decide (0<=(0:Int)/\(0:Int).toNat<List.length p0) then (p0[(0:Int).toNat]?).bind fun y3=>bif decide (y3.2.1<(0:Int)) then some ((y1.1,y2.2.2.2),(List.length p0:Int)==(1:Int)) else (qxr p0).bind fun x4=>qem fu fu (List.length x4:Int) (0:Int) (([]:Bs),([]:Bs)) (y1.1,([]:Bs)) x4 else none else none else none
abbrev qlj:Type:=Bool×wV
abbrev z9g:Type:=(List (Bs×Int×Bool×Bs))->(List (Bs×Int×Bool×Bs))->Int->Int->(List (Bs×Int×Bool×Bs))->Int->Int->(Bs×Int×Bool×Bs)->(List (Bs×Int×Bool×Bs))->wV->Option qlj
abbrev zl3:Type:=(List (Bs×Int×Bool×Bs))->(List (Bs×Int×Bool×Bs))->Int->Int->(List (Bs×Int×Bool×Bs))->Int->Int->(Bs×Int×Bool×Bs)->wV->(List (Bs×Int×Bool×Bs))->Option qlj
abbrev q79:Type:=(List (Bs×Int×Bool×Bs))->(List (Bs×Int×Bool×Bs))->Int->Int->wV->Option qlj
def qhw (fu:Nat) (r0:q79) (r1:zl3):z9g:=fun s0 s13 s14 s15 s26 s27 s28 m32 m33 m34=>r1 s0 s13 s14 s15 s26 s27 (w64 (s28+(1:Int))) m32 m34 m33
def qob (fu:Nat) (r0:q79) (r1:zl3):zl3:=fun s0 s13 s14 s15 s26 s27 s28 m32 m33 m34=>bif decide (s28<s27) then (idx s26 s28).bind fun y1=>(qi7 fu y1 m32).bind fun x2=>bif x2.1 then bif decide (List.length (m34++([y1]:List (Bs×Int×Bool×Bs)))<=qaq) then qhw fu r0 r1 s0 s13 s14 s15 s26 s27 s28 x2.2 (m34++([y1]:List (Bs×Int×Bool×Bs))) m33 else none else qhw fu r0 r1 s0 s13 s14 s15 s26 s27 s28 x2.2 m34 m33 else (qhf fu m34).bind fun x3=>bif !x3.2 then some (false,[]) else bif decide (List.length (m33++([(m32.1,x3.1.2)]:List (Bs×Bs)))<=qaq) then r0 s0 s13 s14 (w64 (s15+(1:Int))) (m33++([(m32.1,x3.1.2)]:List (Bs×Bs))) else none
def qg4 (fu:Nat) (r0:q79):Nat->zl3|0=>fun _ _ _ _ _ _ _ _ _ _=>none|n+1=>qob fu r0 (qg4 fu r0 n)
def qov (fu:Nat) (r0:q79):q79:=fun s0 s13 s14 s15 m32=>bif decide (s15<s14) then (idx s13 s15).bind fun y1=>bif decide (0<=s15/\s15<=(List.length s0:Int)) then (qaw fu (List.take s15.toNat s0) y1).bind fun x2=>bif x2.1 then r0 s0 s13 s14 (w64 (s15+(1:Int))) m32 else qg4 fu r0 fu s0 s13 s14 s15 s0 (List.length s0:Int) (0:Int) x2.2 m32 [] else none else some (true,m32)
def qex (fu:Nat):Nat->q79|0=>fun _ _ _ _ _=>none|n+1=>qov fu (qex fu n)
def qjd (fu:Nat) (p0:List (Bs×Int×Bool×Bs)):Option qlj:=qex fu fu p0 p0 (List.length p0:Int) (0:Int) []
abbrev qms:Type:=(Bs×Bs×Bool) ⊕ (Bs×Bs×Bool×wV)
abbrev zq5:Type:=Bs->Bs->Bs->Bs->Bs->(List (Bs×Int×Bool×Bs))->Option qms
abbrev z9x:Type:=Bs->Bs->Bs->Bs->Bs->Option qms
abbrev z8i:Type:=Bool->Bs->Bs->Bs->Bs->Bs->Option qms
def qqg (fu:Nat) (r2:zq5):zq5:=fun m32_0 m32_1 m33 m34_0 m34_1 m35=>(qcg fu (59:UInt8) m33).bind fun x1=>bif x1.1 then (qir fu x1.2).bind fun x2=>bif !x2.2.1 then some (.inl (m34_0,(m34_1,false))) else bif decide (List.length (m35++([x2.1]:List (Bs×Int×Bool×Bs)))<=qaq) then r2 m32_0 m32_1 x2.2.2 m34_0 m34_1 (m35++([x2.1]:List (Bs×Int×Bool×Bs))) else none else (qbf fu x1.2).bind fun x3=>(qjd fu m35).bind fun x4=>bif x4.1 then some (.inr (m34_0,(m34_1,(x3==([]:Bs),x4.2)))) else some (.inr (m34_0,(m34_1,(false,x4.2))))
def qi2 (fu:Nat):Nat->zq5|0=>fun _ _ _ _ _ _=>none|n+1=>qqg fu (qi2 fu n)
def qqs (fu:Nat):z9x:=fun m32_0 m32_1 m33 m34_0 m34_1=>qi2 fu fu m32_0 m32_1 m33 m34_0 m34_1 []
def qdc (fu:Nat):z8i:=fun s33 m32_0 m32_1 m33 m34_0 m34_1=>bif s33 then some (.inl (m34_0,(m34_1,false))) else qqs fu m32_0 m32_1 m33 m34_0 m34_1
def qrg (fu:Nat) (p0:Bs):Option qms:=(qfi fu p0).bind fun x1=>(qcg fu (47:UInt8) x1.2).bind fun x2=>(qfi fu x2.2).bind fun x3=>bif x1.1==([]:Bs) then qdc fu true ([]:Bs) ([]:Bs) x3.2 x1.1 x3.1 else bif !x2.1 then qdc fu true ([]:Bs) ([]:Bs) x3.2 x1.1 x3.1 else qdc fu (x3.1==([]:Bs)) ([]:Bs) ([]:Bs) x3.2 x1.1 x3.1
abbrev zrv:Type:=Bs->Int->Int->Option Bool
def qtz (fu:Nat) (r0:zrv):zrv:=fun s0 s7 s8=>bif decide (s8<s7) then (idx s0 s8).bind fun c1=>(qa9 c1).bind fun x2=>bif !x2 then some false else r0 s0 s7 (w64 (s8+(1:Int))) else some true
def qhe (fu:Nat):Nat->zrv|0=>fun _ _ _=>none|n+1=>qtz fu (qhe fu n)
def qpu (fu:Nat) (p0:Bs):Option Bool:=qhe fu fu p0 (List.length p0:Int) (0:Int)
def qis (fu:Nat) (p0:Bs):Option Bool:=bif !(p0==([]:Bs)) then bif decide ((List.length p0:Int)<=(60:Int)) then (qpu fu p0).bind fun x1=>some x1 else some false else some false
def qm7 (fu:Nat) (p0:Bs×Bs) (p1:Bs×Bs):Option (Bool×(Bs×Bs)):=(qca fu p0.1 p1.1).bind fun x1=>some (x1,p1)
abbrev zp7:Type:=wV->Int->Int->(Bs×Bs)->Option (Int×(Bs×Bs))
def qbn (fu:Nat) (r0:zp7):zp7:=fun s0 s7 s8 m0=>bif decide (s8<s7) then (idx s0 s8).bind fun y1=>(qm7 fu y1 m0).bind fun x2=>bif x2.1 then some (s8,x2.2) else r0 s0 s7 (w64 (s8+(1:Int))) x2.2 else some ((-1:Int),m0)
def qar (fu:Nat):Nat->zp7|0=>fun _ _ _ _=>none|n+1=>qbn fu (qar fu n)
def qb4 (fu:Nat) (p0:List (Bs×Bs)) (p1:Bs×Bs):Option (Int×(Bs×Bs)):=qar fu fu p0 (List.length p0:Int) (0:Int) p1
def qaz (fu:Nat) (p0:List (Bs×Bs)) (p1:Bs×Bs):Option (Bool×(Bs×Bs)):=(qb4 fu p0 p1).bind fun x1=>some (decide ((0:Int)<=x1.1),x1.2)
abbrev z8w:Type:=Int->wV->Int->Int->Bool->(Bs×Bs×wV)->(Int×Int)->(Bs×Bs)->Option ((Int×Int))
abbrev zk8:Type:=wV->Int->Int->(Bs×Bs×wV)->(Int×Int)->Option ((Int×Int))
abbrev z9l:Type:=(Bs×Bs×wV)->(Int×Int)->Option ((Int×Int))
abbrev z6n:Type:=Bool->(Bs×Bs×wV)->(Int×Int)->Option ((Int×Int))
def qch (fu:Nat) (r2:zk8):z8w:=fun s3 s22 s23 s24 s29 m32 m33 m34=>bif s29 then (qae (10:Int) s3).bind fun x1=>some x1 else bif decide (0<=s3/\s3<=(List.length m32.2.2:Int)) then (qaz fu (List.take s3.toNat m32.2.2) m34).bind fun x2=>bif x2.1 then (qae (7:Int) s3).bind fun x3=>some x3 else bif decide ((500:Int)<(List.length x2.2.2:Int)) then (qae (1:Int) s3).bind fun x4=>some x4 else (qa2 x2.2.2).bind fun x5=>bif !x5 then (qae (5:Int) s3).bind fun x6=>some x6 else r2 s22 s23 (w64 (s24+(1:Int))) m32 m33 else none
def ql2 (fu:Nat) (r2:zk8):zk8:=fun s22 s23 s24 m32 m33=>bif decide (s24<s23) then (idx s22 s24).bind fun y1=>(qis fu y1.1).bind fun x2=>bif !x2 then qch fu r2 s24 s22 s23 s24 true m32 m33 y1 else qch fu r2 s24 s22 s23 s24 (decide ((20:Int)<(List.length y1.1:Int))) m32 m33 y1 else (qa1).bind fun x3=>some x3
def qdt (fu:Nat):Nat->zk8|0=>fun _ _ _ _ _=>none|n+1=>ql2 fu (qdt fu n)
def ql4 (fu:Nat):z9l:=fun m32 m33=>bif decide ((60:Int)<(List.length m32.2.2:Int)) then (qae (2:Int) (-3:Int)).bind fun x1=>some x1 else qdt fu fu m32.2.2 (List.length m32.2.2:Int) (0:Int) m32 m33
def qdr (fu:Nat):z6n:=fun s14 m32 m33=>bif s14 then (qae (10:Int) (-2:Int)).bind fun x1=>some x1 else ql4 fu m32 m33
def qcf (fu:Nat) (p0:Bs×Bs×wV):Option ((Int×Int)):=(qis fu p0.1).bind fun x1=>bif !x1 then qdr fu true p0 ((0:Int),(0:Int)) else (qis fu p0.2.1).bind fun x2=>qdr fu (!x2) p0 ((0:Int),(0:Int))
abbrev qzv:Type:=(Bs×Bs×Int×Int) ⊕ (Bs×Bs×Int×Int×wV)
def qmn (fu:Nat) (p0:Bs):Option qzv:=bif decide ((4000:Int)<(List.length p0:Int)) then (qae (1:Int) (-1:Int)).bind fun x1=>some (.inl (([]:Bs),(([]:Bs),x1))) else (qrg fu p0).bind fun x2=>sumK x2 (fun a3=>bif !a3.2.2 then (qae (11:Int) (-5:Int)).bind fun x5=>some (.inl (([]:Bs),(([]:Bs),x5))) else (qcf fu (a3.1,(a3.2.1,[]))).bind fun x6=>(qak x6).bind fun x7=>bif x7 then (qae x6.1 (-6:Int)).bind fun x8=>some (.inl (([]:Bs),(([]:Bs),x8))) else (qa1).bind fun x9=>some (.inl (a3.1,(a3.2.1,x9)))) (fun b4=>bif !b4.2.2.1 then (qae (11:Int) (-5:Int)).bind fun x10=>some (.inl (([]:Bs),(([]:Bs),x10))) else (qcf fu (b4.1,(b4.2.1,b4.2.2.2))).bind fun x11=>(qak x11).bind fun x12=>bif x12 then (qae x11.1 (-6:Int)).bind fun x13=>some (.inl (([]:Bs),(([]:Bs),x13))) else (qa1).bind fun x14=>some (.inr (b4.1,(b4.2.1,(x14.1,(x14.2,b4.2.2.2))))))
abbrev qs5:Type:=(Bs×Bs×Int×Bool) ⊕ (Bs×Bs×Int×Bool×wV)
abbrev z4m:Type:=wV->Int->wV->Int->Int->Bs->Bs->Option qs5
abbrev znp:Type:=wV->Int->wV->Int->Int->Bs->Bs->Option qs5
def qh2 (fu:Nat) (r0:znp):z4m:=fun s0 s5 s10 s11 s12 m32_0 m32_1=>r0 s0 s5 s10 s11 (w64 (s12+(1:Int))) m32_0 m32_1
def qmy (fu:Nat) (r0:znp):znp:=fun s0 s5 s10 s11 s12 m32_0 m32_1=>bif decide (s12<s11) then (idx s10 s12).bind fun y1=>(qca fu y1.1 ([67,111,110,116,101,110,116,45,84,121,112,101]:Bs)).bind fun x2=>bif x2 then bif decide ((0:Int)<=s5) then some (.inl (([]:Bs),(([]:Bs),((0:Int),false)))) else qh2 fu r0 s0 s12 s10 s11 s12 m32_0 m32_1 else qh2 fu r0 s0 s5 s10 s11 s12 m32_0 m32_1 else bif decide (s5<(0:Int)) then some (.inl (([]:Bs),(([]:Bs),((0:Int),false)))) else (idx s0 s5).bind fun y3=>(qmn fu y3.2).bind fun x4=>sumK x4 (fun a5=>(qak a5.2.2).bind fun x7=>some (.inl (a5.1,(a5.2.1,(s5,!x7))))) (fun b6=>(qak (b6.2.2.1,b6.2.2.2.1)).bind fun x8=>some (.inr (b6.1,(b6.2.1,(s5,(!x8,b6.2.2.2.2))))))
def qd7 (fu:Nat):Nat->znp|0=>fun _ _ _ _ _ _ _=>none|n+1=>qmy fu (qd7 fu n)
def qj6 (fu:Nat) (p0:List (Bs×Bs)):Option qs5:=qd7 fu fu p0 (-1:Int) p0 (List.length p0:Int) (0:Int) ([]:Bs) ([]:Bs)
abbrev zs0:Type:=Bs->wV->Int->Int->(Int×Int)->Option (Bs×Bool×(Int×Int))
def qqt (fu:Nat) (r0:zs0):zs0:=fun s1 s16 s17 s18 m32=>bif decide (s18<s17) then (idx s16 s18).bind fun y1=>(qca fu y1.1 s1).bind fun x2=>bif x2 then (qa1).bind fun x3=>some (y1.2,(true,x3)) else r0 s1 s16 s17 (w64 (s18+(1:Int))) m32 else (qa1).bind fun x4=>some (([]:Bs),(false,x4))
def qi3 (fu:Nat):Nat->zs0|0=>fun _ _ _ _ _=>none|n+1=>qqt fu (qi3 fu n)
def qno (fu:Nat) (p0:Bs×Bs×wV) (p1:Bs):Option (Bs×Bool×(Int×Int)):=(qcf fu p0).bind fun x1=>(qak x1).bind fun x2=>bif x2 then some (([]:Bs),(false,x1)) else qi3 fu fu p1 p0.2.2 (List.length p0.2.2:Int) (0:Int) ((0:Int),(0:Int))
def qkc (p0:UInt8):Option Bool:=bif decide ((32:UInt8)<=p0) then some (decide (p0<=(126:UInt8))) else some false
abbrev zq8:Type:=Bs->Int->Int->Option Bool
def qt3 (fu:Nat) (r0:zq8):zq8:=fun s0 s7 s8=>bif decide (s8<s7) then (idx s0 s8).bind fun c1=>(qkc c1).bind fun x2=>bif !x2 then some false else r0 s0 s7 (w64 (s8+(1:Int))) else some true
def qg9 (fu:Nat):Nat->zq8|0=>fun _ _ _=>none|n+1=>qt3 fu (qg9 fu n)
def qo5 (fu:Nat) (p0:Bs):Option Bool:=qg9 fu fu p0 (List.length p0:Int) (0:Int)
def qf9 (p0:List Bs):Option (Int×Int×Int×(List Bs)):=bif (Int.tmod (List.length p0:Int) (2:Int))==(1:Int) then none else bif decide (List.length p0<=qaq) then some ((0:Int),((0:Int),((0:Int),p0))) else none
abbrev qa0:Type:=Int×Int×Int×Bs×(List Bs)
abbrev var:Type:=Bool->Int->Int->Int->Int->(List Bs)->Option qa0
abbrev zto:Type:=Int->Int->Int->Int->(List Bs)->Bs->Option qa0
abbrev zsu:Type:=Int->Int->Int->Int->(List Bs)->Bs->Option qa0
abbrev zq4:Type:=Int->Int->Int->Int->(List Bs)->(List Bs)->Option qa0
abbrev zk9:Type:=Bool->Int->Int->Int->Int->(List Bs)->Option qa0
abbrev z5g:Type:=Int->Int->Int->(List Bs)->Option qa0
abbrev z6z:Type:=Bool->Int->Int->Int->(List Bs)->Option qa0
def qfg (fu:Nat) (r2:zk9):var:=fun s4 s5 m0_0 m0_1 m0_2 m32=>r2 s4 (w64 (s5+(2:Int))) m0_0 m0_1 m0_2 m32
def qkn (fu:Nat) (r6:zto):zto:=fun s8 m0_0 m0_1 m0_2 m32 m33=>bif decide ((0:Int)<=s8) then bif decide (0<=s8/\s8.toNat<List.length m32) then (m32[s8.toNat]?).bind fun y1=>(idx y1 (0:Int)).bind fun c2=>bif decide (0<=w64 (s8+(1:Int))/\(w64 (s8+(1:Int))).toNat<List.length m32) then (m32[(w64 (s8+(1:Int))).toNat]?).bind fun y3=>(idx y3 (0:Int)).bind fun c4=>(m33[c2.toNat]?).bind fun y5=>r6 (w64 (s8-(2:Int))) m0_0 m0_1 m0_2 m32 (List.set m33 c2.toNat c4) else none else none else some (m0_0,(m0_1,(m0_2,(m33,m32))))
def qfe (fu:Nat):Nat->zto|0=>fun _ _ _ _ _ _=>none|n+1=>qkn fu (qfe fu n)
def qkb (fu:Nat) (r4:zsu):zsu:=fun s61 m0_0 m0_1 m0_2 m32 m33=>bif decide (s61<(256:Int)) then bif decide (0<=s61)&&decide (s61<(256:Int)) then (m33[s61.toNat]?).bind fun y1=>r4 (w64 (s61+(1:Int))) m0_0 m0_1 m0_2 m32 (List.set m33 s61.toNat (toU8 s61)) else none else qfe fu fu (w64 ((List.length m32:Int)-(2:Int))) m0_0 m0_1 m0_2 m32 m33
def qe4 (fu:Nat):Nat->zsu|0=>fun _ _ _ _ _ _=>none|n+1=>qkb fu (qe4 fu n)
def qkp (fu:Nat) (r5:zq4):zq4:=fun s12 m0_0 m0_1 m0_2 m32 m34=>bif decide ((0:Int)<=s12) then bif decide (0<=s12/\s12.toNat<List.length m32) then (m32[s12.toNat]?).bind fun y1=>(idx y1 (0:Int)).bind fun c2=>bif decide (0<=w64 (s12+(1:Int))/\(w64 (s12+(1:Int))).toNat<List.length m32) then (m32[(w64 (s12+(1:Int))).toNat]?).bind fun y3=>none else none else none else none
def qfd (fu:Nat):Nat->zq4|0=>fun _ _ _ _ _ _=>none|n+1=>qkp fu (qfd fu n)
def qkm (fu:Nat) (r2:zk9):zk9:=fun s4 s5 m0_0 m0_1 m0_2 m32=>bif decide (s5<(List.length m32:Int)) then bif decide (0<=s5/\s5.toNat<List.length m32) then (m32[s5.toNat]?).bind fun y1=>bif (List.length y1:Int) != (1:Int) then none else bif decide (0<=w64 (s5+(1:Int))/\(w64 (s5+(1:Int))).toNat<List.length m32) then (m32[(w64 (s5+(1:Int))).toNat]?).bind fun y2=>bif (List.length y2:Int) != (1:Int) then qfg fu r2 false s5 m0_0 m0_1 m0_2 m32 else qfg fu r2 s4 s5 m0_0 m0_1 m0_2 m32 else none else none else bif s4 then bif decide (List.length (List.replicate 256 (0:UInt8))=List.length (List.replicate 256 (0:UInt8)))&&decide (List.length (List.replicate 256 (0:UInt8))=256) then qe4 fu fu (0:Int) m0_0 m0_1 m0_2 m32 (List.replicate 256 (0:UInt8)) else none else bif decide (0<=(0:Int)/\(0:Int)=w64 (Int.tdiv (List.length m32:Int) (2:Int))/\(0:Int)<=4294967296) then qfd fu fu (w64 ((List.length m32:Int)-(2:Int))) m0_0 m0_1 m0_2 m32 (List.replicate (0:Int).toNat ([]:Bs)) else none
def qff (fu:Nat):Nat->zk9|0=>fun _ _ _ _ _ _=>none|n+1=>qkm fu (qff fu n)
def qkj (fu:Nat):z5g:=fun m0_0 m0_1 m0_2 m32=>qff fu fu true (0:Int) m0_0 m0_1 m0_2 m32
def qe8 (fu:Nat):z6z:=fun s28 m0_0 m0_1 m0_2 m32=>bif s28 then bif decide (0<=(0:Int)/\(0:Int).toNat<List.length m32) then (m32[(0:Int).toNat]?).bind fun y1=>bif decide (0<=(1:Int)/\(1:Int).toNat<List.length m32) then (m32[(1:Int).toNat]?).bind fun y2=>none else none else none else qkj fu m0_0 m0_1 m0_2 m32
def qmi (fu:Nat) (p0:Int) (p1:Int) (p2:Int) (p3:List Bs):Option qa0:=bif (List.length p3:Int)==(2:Int) then bif decide (0<=(0:Int)/\(0:Int).toNat<List.length p3) then (p3[(0:Int).toNat]?).bind fun y1=>qe8 fu (decide ((1:Int)<(List.length y1:Int))) p0 p1 p2 p3 else none else qe8 fu false p0 p1 p2 p3
abbrev qq7:Type:=Int×Int×Int×Bs×(List Bs)
def qeq (fu:Nat) (p0:Int) (p1:Int) (p2:Int) (p3:List Bs):Option qq7:=(qmi fu p0 p1 p2 p3).bind fun x1=>some (x1.1,(x1.2.1,(x1.2.2.1,(x1.2.2.2.1,[]))))
abbrev z6c:Type:=Bs->Int->UInt8->Bs->Bs->Option (Bs×Bs)
abbrev znh:Type:=Bs->Int->Bs->Bs->Option (Bs×Bs)
abbrev zps:Type:=Bs->Int->Bs->Option (Bs×Bs)
def qcw (fu:Nat) (r2:znh):z6c:=fun s1 s6 s7 m0 m32=>(m0[s7.toNat]?).bind fun y1=>bif decide (0<=s6/\s6.toNat<List.length m32) then (m32[s6.toNat]?).bind fun y2=>r2 s1 (w64 (s6+(1:Int))) m0 (List.set m32 s6.toNat y1) else none
def qgc (fu:Nat) (r2:znh):znh:=fun s1 s6 m0 m32=>bif decide (s6<(List.length s1:Int)) then (idx s1 s6).bind fun c1=>(m0[c1.toNat]?).bind fun y2=>bif y2 != c1 then bif decide (0<List.length m32) then qcw fu r2 s1 s6 c1 m0 m32 else none else r2 s1 (w64 (s6+(1:Int))) m0 m32 else bif decide (0<List.length m32) then some (m32,m0) else none
def qc0 (fu:Nat):Nat->znh|0=>fun _ _ _ _=>none|n+1=>qgc fu (qc0 fu n)
def qf3 (fu:Nat) (r0:zps):zps:=fun s1 s6 m0=>bif decide (s6<(List.length s1:Int)) then (idx s1 s6).bind fun c1=>(m0[c1.toNat]?).bind fun y2=>bif y2 != c1 then bif decide (List.length s1<=maxLen) then qcw fu (qc0 fu fu) s1 s6 c1 m0 s1 else none else r0 s1 (w64 (s6+(1:Int))) m0 else some (s1,m0)
def qc3 (fu:Nat):Nat->zps|0=>fun _ _ _=>none|n+1=>qf3 fu (qc3 fu n)
def qb8 (fu:Nat) (p0:Bs) (p1:Bs):Option (Bs×Bs):=qc3 fu fu p0 (0:Int) p1
def qp4 (fu:Nat) (s:Bs) (p0 p1 p2:Int) (on:List Bs):Option (Bs×Int×Int×Int×Bs):=
 bif decide (p0=0)&&decide (p1=0) then
 (qeq fu 0 1 p2 on).bind fun x=>
 bif decide (x.1=0)&&decide (x.2.1=1) then
 (qb8 fu s x.2.2.2.1).bind fun y=>
 some (y.1,1,0,x.2.2.1,y.2)
 else none else none
def qqa (fu:Nat) (s:Bs) (p0 p1 p2:Int) (tab:Bs):Option (Bs×Int×Int×Int×Bs):=
 bif !decide (p0=0) then
 (qb8 fu s tab).bind fun y=>
 some (y.1,p0,p1,p2,y.2)
 else none
def qc4 (p0:UInt8):Option UInt8:=(([48,49,50,51,52,53,54,55,56,57,65,66,67,68,69,70]:Bs)[(p0&&&(15:UInt8)).toNat]?).bind fun c1=>some c1
abbrev z5h:Type:=Bs->Bs->Int->Int->(List Bs)->Option ((List Bs))
abbrev zkl:Type:=Bs->Int->Int->(List Bs)->Option ((List Bs))
def qhg (fu:Nat) (r0:zkl):z5h:=fun s0 s5 s9 s10 m32=>bif decide (0<=w64 ((List.length m32:Int)-(1:Int))/\(w64 ((List.length m32:Int)-(1:Int))).toNat<List.length m32) then (m32[(w64 ((List.length m32:Int)-(1:Int))).toNat]?).bind fun y1=>bif decide ((w64 ((List.length y1:Int)+(List.length s5:Int)))<=(60:Int)) then bif decide (0<=w64 ((List.length m32:Int)-(1:Int))/\(w64 ((List.length m32:Int)-(1:Int))).toNat<List.length m32) then (m32[(w64 ((List.length m32:Int)-(1:Int))).toNat]?).bind fun y2=>bif decide (List.length y2+List.length s5<=qad) then bif decide (0<=w64 ((List.length m32:Int)-(1:Int))/\(w64 ((List.length m32:Int)-(1:Int))).toNat<List.length m32) then (m32[(w64 ((List.length m32:Int)-(1:Int))).toNat]?).bind fun y3=>r0 s0 s9 (w64 (s10+(1:Int))) (List.set m32 ((w64 ((List.length m32:Int)-(1:Int))).toNat) (y2++s5)) else none else none else none else bif decide (List.length (m32++([s5]:List Bs))<=qaq) then r0 s0 s9 (w64 (s10+(1:Int))) (m32++([s5]:List Bs)) else none else none
def qnv (fu:Nat) (r0:zkl):zkl:=fun s0 s9 s10 m32=>bif decide (s10<s9) then bif decide (0<=s10/\s10<=w64 (s10+(1:Int))/\w64 (s10+(1:Int))<=(List.length s0:Int)) then (idx s0 s10).bind fun c1=>(qa9 c1).bind fun x2=>bif !x2 then (idx s0 s10).bind fun c3=>(qc4 (q38 c3 (min (4:Int).toNat 8))).bind fun x4=>(idx s0 s10).bind fun c5=>(qc4 c5).bind fun x6=>qhg fu r0 s0 ([(37:UInt8),x4,x6]:Bs) s9 s10 m32 else qhg fu r0 s0 (List.take ((w64 (s10+(1:Int))).toNat-s10.toNat) (List.drop s10.toNat s0)) s9 s10 m32 else none else some m32
def qe0 (fu:Nat):Nat->zkl|0=>fun _ _ _ _=>none|n+1=>qnv fu (qe0 fu n)
def qo8 (fu:Nat) (p0:Bs):Option ((List Bs)):=qe0 fu fu p0 (List.length p0:Int) (0:Int) ([([117,116,102,56,39,39]:Bs)]:List Bs)
abbrev zqw:Type:=Bs->Int->Int->(Bs×Bs)->(List Bs)->Option (Bs)
abbrev z4w:Type:=(Bs×Bs)->Option (Bs)
abbrev z4v:Type:=Bool->(Bs×Bs)->Option (Bs)
def qqr (fu:Nat) (r2:zqw):zqw:=fun s3 s39 s40 m32 m33=>bif decide (s40<s39) then bif decide (0<=s40/\s40.toNat<List.length m33) then (m33[s40.toNat]?).bind fun y1=>bif decide (List.length ([59,32]:Bs)+List.length m32.1<=qad) then bif decide (List.length (([59,32]:Bs)++m32.1)+List.length ([42]:Bs)<=qad) then (qdz s40).bind fun x2=>bif decide (List.length ((([59,32]:Bs)++m32.1)++([42]:Bs))+List.length x2<=qad) then bif decide (List.length (((([59,32]:Bs)++m32.1)++([42]:Bs))++x2)+List.length ([42,61]:Bs)<=qad) then bif decide (List.length ((((([59,32]:Bs)++m32.1)++([42]:Bs))++x2)++([42,61]:Bs))+List.length y1<=qad) then bif decide (List.length s3+List.length (((((([59,32]:Bs)++m32.1)++([42]:Bs))++x2)++([42,61]:Bs))++y1)<=qad) then r2 (s3++(((((([59,32]:Bs)++m32.1)++([42]:Bs))++x2)++([42,61]:Bs))++y1)) s39 (w64 (s40+(1:Int))) m32 m33 else none else none else none else none else none else none else none else some s3
def qi0 (fu:Nat):Nat->zqw|0=>fun _ _ _ _ _=>none|n+1=>qqr fu (qi0 fu n)
def qqf (fu:Nat):z4w:=fun m32=>(qo8 fu m32.2).bind fun x1=>qi0 fu fu ([]:Bs) (List.length x1:Int) (0:Int) m32 x1
def qfx (fu:Nat):z4v:=fun s24 m32=>bif s24 then bif decide (List.length ([59,32]:Bs)+List.length m32.1<=qad) then bif decide (List.length (([59,32]:Bs)++m32.1)+List.length ([61,34]:Bs)<=qad) then (qf9 ([([92]:Bs),([92,92]:Bs),([34]:Bs),([92,34]:Bs)]:List Bs)).bind fun x1=>(qif m32.2 x1.1 x1.2.1 x1.2.2.1 x1.2.2.2).bind fun x2=>bif decide (List.length ((([59,32]:Bs)++m32.1)++([61,34]:Bs))+List.length x2<=qad) then bif decide (List.length (((([59,32]:Bs)++m32.1)++([61,34]:Bs))++x2)+List.length ([34]:Bs)<=qad) then some ((((([59,32]:Bs)++m32.1)++([61,34]:Bs))++x2)++([34]:Bs)) else none else none else none else none else qqf fu m32
def qq8 (fu:Nat) (p0:Bs×Bs):Option (Bs):=(qis fu p0.2).bind fun x1=>bif x1 then bif decide (List.length ([59,32]:Bs)+List.length p0.1<=qad) then bif decide (List.length (([59,32]:Bs)++p0.1)+List.length ([61]:Bs)<=qad) then bif decide (List.length ((([59,32]:Bs)++p0.1)++([61]:Bs))+List.length p0.2<=qad) then some (((([59,32]:Bs)++p0.1)++([61]:Bs))++p0.2) else none else none else none else bif decide ((List.length p0.2:Int)<=(60:Int)) then (qo5 fu p0.2).bind fun x2=>qfx fu x2 p0 else qfx fu false p0
abbrev zre:Type:=Bs->wV->Int->Int->(Int×Int)->Option (Bs×(Int×Int))
def qqp (fu:Nat) (r0:zre):zre:=fun s5 s20 s21 s22 m32=>bif decide (s22<s21) then (idx s20 s22).bind fun y1=>(qq8 fu y1).bind fun x2=>bif decide (List.length s5+List.length x2<=qad) then r0 (s5++x2) s20 s21 (w64 (s22+(1:Int))) m32 else none else bif decide ((4000:Int)<(List.length s5:Int)) then (qae (1:Int) (-4:Int)).bind fun x3=>some (([]:Bs),x3) else (qa1).bind fun x4=>some (s5,x4)
def qix (fu:Nat):Nat->zre|0=>fun _ _ _ _ _=>none|n+1=>qqp fu (qix fu n)
def qgn (fu:Nat) (p0:Bs×Bs×wV):Option (Bs×(Int×Int)):=(qcf fu p0).bind fun x1=>(qak x1).bind fun x2=>bif x2 then some (([]:Bs),x1) else bif decide (List.length p0.1+List.length ([47]:Bs)<=qad) then bif decide (List.length (p0.1++([47]:Bs))+List.length p0.2.1<=qad) then qix fu fu ((p0.1++([47]:Bs))++p0.2.1) p0.2.2 (List.length p0.2.2:Int) (0:Int) ((0:Int),(0:Int)) else none else none
abbrev z41:Type:=Int->wU->Bs->Bs->wV->Option Int
abbrev z63:Type:=Int->Bool->wU->Bs->Bs->wV->Option Int
def qq0 (fu:Nat):z41:=fun s4 m32 m33_0 m33_1 m34=>(qno fu (m33_0,(m33_1,m34)) ([98,111,117,110,100,97,114,121]:Bs)).bind fun x1=>(qgn fu (m33_0,(m33_1,m34))).bind fun x2=>bif x1.2.1 then some (5:Int) else bif decide ((60:Int)<=(List.length m34:Int)) then some (5:Int) else (qak x2.2).bind fun x3=>bif x3 then some (5:Int) else (idx m32.val.1 s4).bind fun y4=>bif !(x2.1==y4.2) then some (5:Int) else bif decide ((2000:Int)<(List.length x2.1:Int)) then some (5:Int) else some (0:Int)
def qbj (fu:Nat):z63:=fun s4 s31 m32 m33_0 m33_1 m34=>bif s31 then some (5:Int) else qq0 fu s4 (Tree.node m32.val m32.kids) m33_0 m33_1 m34
def qrd (fu:Nat) (p0:Tree (wV×Bs)):Option Int:=(qj6 fu p0.val.1).bind fun x1=>sumK x1 (fun a2=>bif decide ((0:Int)<(List.length p0.val.2:Int)) then qbj fu a2.2.2.1 true (Tree.node p0.val p0.kids) a2.1 a2.2.1 [] else bif !a2.2.2.2 then qbj fu a2.2.2.1 true (Tree.node p0.val p0.kids) a2.1 a2.2.1 [] else (qca fu a2.1 ([109,117,108,116,105,112,97,114,116]:Bs)).bind fun x4=>qbj fu a2.2.2.1 (!x4) (Tree.node p0.val p0.kids) a2.1 a2.2.1 []) (fun b3=>bif decide ((0:Int)<(List.length p0.val.2:Int)) then qbj fu b3.2.2.1 true (Tree.node p0.val p0.kids) b3.1 b3.2.1 b3.2.2.2.2 else bif !b3.2.2.2.1 then qbj fu b3.2.2.1 true (Tree.node p0.val p0.kids) b3.1 b3.2.1 b3.2.2.2.2 else (qca fu b3.1 ([109,117,108,116,105,112,97,114,116]:Bs)).bind fun x5=>qbj fu b3.2.2.1 (!x5) (Tree.node p0.val p0.kids) b3.1 b3.2.1 b3.2.2.2.2)
abbrev z6u:Type:=Bs->Int->Int->UInt8->Option Int
abbrev vbd:Type:=Bs->Int->Int->UInt8->Bool->Option Int
abbrev zii:Type:=Bs->Int->Int->Option Int
def qr8 (fu:Nat) (r0:zii):z6u:=fun s0 s3 s4 s5=>bif s5==(13:UInt8) then some (11:Int) else bif s5==(10:UInt8) then some (11:Int) else bif decide ((998:Int)<(w64 (s3+(1:Int)))) then some (1:Int) else r0 s0 (w64 (s3+(1:Int))) (w64 (s4+(1:Int)))
def qhj (fu:Nat) (r0:zii):vbd:=fun s0 s3 s4 s5 s32=>bif s32 then r0 s0 (0:Int) (w64 ((w64 (s4+(1:Int)))+(1:Int))) else qr8 fu r0 s0 s3 s4 s5
def qsf (fu:Nat) (r0:zii):zii:=fun s0 s3 s4=>bif decide (s4<(List.length s0:Int)) then (idx s0 s4).bind fun y1=>bif y1==(13:UInt8) then bif decide ((w64 (s4+(1:Int)))<(List.length s0:Int)) then (idx s0 (w64 (s4+(1:Int)))).bind fun y2=>qhj fu r0 s0 s3 s4 y1 (y2==(10:UInt8)) else qhj fu r0 s0 s3 s4 y1 false else qhj fu r0 s0 s3 s4 y1 false else some (0:Int)
def qg7 (fu:Nat):Nat->zii|0=>fun _ _ _=>none|n+1=>qsf fu (qg7 fu n)
def qp3 (fu:Nat) (p0:Bs):Option Int:=qg7 fu fu p0 (0:Int) (0:Int)
def qgb (p0:UInt8):Option Bool:=bif decide ((32:UInt8)<=p0) then some (decide (p0<=(126:UInt8))) else some false
abbrev zo9:Type:=Bs->Int->Int->Option Bool
def qtr (fu:Nat) (r0:zo9):zo9:=fun s0 s7 s8=>bif decide (s8<s7) then (idx s0 s8).bind fun c1=>(qgb c1).bind fun x2=>bif !x2 then some false else r0 s0 s7 (w64 (s8+(1:Int))) else some true
def qhv (fu:Nat):Nat->zo9|0=>fun _ _ _=>none|n+1=>qtr fu (qhv fu n)
def qo9 (fu:Nat) (p0:Bs):Option Bool:=qhv fu fu p0 (List.length p0:Int) (0:Int)
def qij (p0:Bs) (p1:Bs):Option Bool:=(qa7 p0 p1).bind fun x1=>some x1
abbrev z8m:Type:=Bs->Bs->wV->Option (Bs×Bool)
abbrev vai:Type:=Bool->Bs->Bs->wV->Option (Bs×Bool)
def ql5 (fu:Nat):z8m:=fun m32_0 m32_1 m33=>(qno fu (m32_0,(m32_1,m33)) ([98,111,117,110,100,97,114,121]:Bs)).bind fun x1=>bif !(x1.1==([]:Bs)) then bif decide ((List.length x1.1:Int)<=(60:Int)) then (qo9 fu x1.1).bind fun x2=>bif x2 then (qij x1.1 ([32]:Bs)).bind fun x3=>bif x1.2.1 then some (x1.1,!x3) else some (x1.1,false) else bif x1.2.1 then some (x1.1,false) else some (x1.1,false) else bif x1.2.1 then some (x1.1,false) else some (x1.1,false) else bif x1.2.1 then some (x1.1,false) else some (x1.1,false)
def qcj (fu:Nat):vai:=fun s24 m32_0 m32_1 m33=>bif s24 then some (([]:Bs),false) else ql5 fu m32_0 m32_1 m33
def qlz (fu:Nat) (p0:List (Bs×Bs)):Option (Bs×Bool):=(qj6 fu p0).bind fun x1=>sumK x1 (fun a2=>bif !a2.2.2.2 then qcj fu true a2.1 a2.2.1 [] else (qca fu a2.1 ([109,117,108,116,105,112,97,114,116]:Bs)).bind fun x4=>qcj fu (!x4) a2.1 a2.2.1 []) (fun b3=>bif !b3.2.2.2.1 then qcj fu true b3.1 b3.2.1 b3.2.2.2.2 else (qca fu b3.1 ([109,117,108,116,105,112,97,114,116]:Bs)).bind fun x5=>qcj fu (!x5) b3.1 b3.2.1 b3.2.2.2.2)
def qrh (p0:Bs):Option (Bs):=some p0
abbrev ztx:Type:=Bs->UInt8->Option (Bs)
def qk9 (fu:Nat) (r0:ztx):ztx:=fun s0 s1=>bif decide ((0:Int)<(List.length s0:Int)) then (idx s0 (w64 ((List.length s0:Int)-(1:Int)))).bind fun c1=>bif c1==s1 then bif decide (0<=w64 ((List.length s0:Int)-(1:Int))/\w64 ((List.length s0:Int)-(1:Int))<=(List.length s0:Int)) then r0 (List.take (w64 ((List.length s0:Int)-(1:Int))).toNat s0) s1 else none else some s0 else some s0
def qfr (fu:Nat):Nat->ztx|0=>fun _ _=>none|n+1=>qk9 fu (qfr fu n)
def qii (fu:Nat) (p0:Bs) (p1:UInt8):Option (Bs):=qfr fu fu p0 p1
abbrev zo4:Type:=Bs->(List Bool)->Option (Bs×(List Bool))
def qfj (fu:Nat) (r0:zo4):zo4:=fun s0 m0=>bif decide ((0:Int)<(List.length s0:Int)) then (idx s0 (w64 ((List.length s0:Int)-(1:Int)))).bind fun c1=>(qbb c1 m0).bind fun x2=>bif !x2.1 then some (s0,x2.2) else bif decide (0<=w64 ((List.length s0:Int)-(1:Int))/\w64 ((List.length s0:Int)-(1:Int))<=(List.length s0:Int)) then r0 (List.take (w64 ((List.length s0:Int)-(1:Int))).toNat s0) x2.2 else none else some (s0,m0)
def qb1 (fu:Nat):Nat->zo4|0=>fun _ _=>none|n+1=>qfj fu (qb1 fu n)
def qd9 (fu:Nat) (p0:Bs) (p1:List Bool):Option (Bs×(List Bool)):=qb1 fu fu p0 p1
def qmk (p0:UInt8):Option Bool:=some ((p0&&&(192:UInt8)) != (128:UInt8))
abbrev z6e:Type:=Bs->Int->Int->Option (Int×Int)
abbrev z40:Type:=Bs->Int->Int->Option (Int×Int)
abbrev ztu:Type:=Bs->Int->Int->Int->Option (Int×Int)
def qbu (fu:Nat):z6e:=fun s0 s4 s5=>bif decide (0<=s5/\s5<=s4/\s4<=(List.length s0:Int)) then (qc6 (List.take (s4.toNat-s5.toNat) (List.drop s5.toNat s0))).bind fun x1=>bif (w64 (s5+x1.2)) != s4 then some ((65533:Int),(1:Int)) else some x1 else none
def qbs (fu:Nat):z40:=fun s0 s4 s5=>bif decide (s5<(0:Int)) then qbu fu s0 s4 (0:Int) else qbu fu s0 s4 s5
def qdy (fu:Nat) (r0:ztu):ztu:=fun s0 s4 s5 s6=>bif decide (s6<=s5) then (idx s0 s5).bind fun c1=>(qmk c1).bind fun x2=>bif x2 then qbs fu s0 s4 s5 else r0 s0 s4 (w64 (s5-(1:Int))) s6 else qbs fu s0 s4 s5
def qbv (fu:Nat):Nat->ztu|0=>fun _ _ _ _=>none|n+1=>qdy fu (qbv fu n)
def qel (fu:Nat) (p0:Bs):Option (Int×Int):=bif (List.length p0:Int)==(0:Int) then some ((65533:Int),(0:Int)) else (idx p0 (w64 ((List.length p0:Int)-(1:Int)))).bind fun c1=>bif decide ((c1.toNat:Int)<(128:Int)) then some ((c1.toNat:Int),(1:Int)) else qbv fu fu p0 (List.length p0:Int) (w64 ((w64 ((List.length p0:Int)-(1:Int)))-(1:Int))) (if (0:Int)>w64 ((List.length p0:Int)-(4:Int)) then (0:Int) else w64 ((List.length p0:Int)-(4:Int)))
abbrev ztd:Type:=Bs->Bs->Option (Bs)
def qiz (fu:Nat) (r0:ztd):ztd:=fun s0 s1=>bif decide ((0:Int)<(List.length s0:Int)) then (idx s0 (w64 ((List.length s0:Int)-(1:Int)))).bind fun c1=>bif decide ((128:Int)<=(c1.toNat:Int)) then (qel fu s0).bind fun x2=>(qfn fu s1 x2.1).bind fun x3=>bif !x3 then some s0 else bif decide (0<=w64 ((List.length s0:Int)-x2.2)/\w64 ((List.length s0:Int)-x2.2)<=(List.length s0:Int)) then r0 (List.take (w64 ((List.length s0:Int)-x2.2)).toNat s0) s1 else none else (qfn fu s1 (c1.toNat:Int)).bind fun x4=>bif !x4 then some s0 else bif decide (0<=w64 ((List.length s0:Int)-(1:Int))/\w64 ((List.length s0:Int)-(1:Int))<=(List.length s0:Int)) then r0 (List.take (w64 ((List.length s0:Int)-(1:Int))).toNat s0) s1 else none else some s0
def qeh (fu:Nat):Nat->ztd|0=>fun _ _=>none|n+1=>qiz fu (qeh fu n)
def qft (fu:Nat) (p0:Bs) (p1:Bs):Option (Bs):=qeh fu fu p0 p1
abbrev z9r:Type:=Bs->Bs->Option (Bs)
abbrev z4e:Type:=Bs->Bs->Bool->Option (Bs)
abbrev z5i:Type:=Bs->Bs->Option (Bs)
abbrev z4y:Type:=Bs->Bs->Bool->Option (Bs)
def qjn (fu:Nat):z9r:=fun s0 s1=>(qcb fu s1).bind fun x1=>bif decide (List.length x1.1=List.length (List.replicate 256 false))&&decide (List.length x1.1=256) then bif x1.2 then (qd9 fu s0 x1.1).bind fun x2=>some x2.1 else (qft fu s0 s1).bind fun x3=>some x3 else none
def qfk (fu:Nat):z4e:=fun s0 s1 s21=>bif s21 then (idx s1 (0:Int)).bind fun c1=>(qii fu s0 c1).bind fun x2=>some x2 else qjn fu s0 s1
def qjs (fu:Nat):z5i:=fun s0 s1=>bif (List.length s1:Int)==(1:Int) then (idx s1 (0:Int)).bind fun c1=>qfk fu s0 s1 (decide (c1<(128:UInt8))) else qfk fu s0 s1 false
def qfo (fu:Nat):z4y:=fun s0 s1 s12=>bif s12 then some s0 else qjs fu s0 s1
def qe5 (fu:Nat) (p0:Bs) (p1:Bs):Option (Bs):=bif p0==([]:Bs) then qfo fu p0 p1 true else qfo fu p0 p1 (p1==([]:Bs))
def qs2 (fu:Nat) (p0:Bs) (p1:Bs):Option Int:=(qe5 fu p0 ([32,9]:Bs)).bind fun x1=>bif decide (List.length ([45,45]:Bs)+List.length p1<=qad) then bif x1==(([45,45]:Bs)++p1) then some (1:Int) else bif decide (List.length ([45,45]:Bs)+List.length p1<=qad) then bif decide (List.length (([45,45]:Bs)++p1)+List.length ([45,45]:Bs)<=qad) then bif x1==((([45,45]:Bs)++p1)++([45,45]:Bs)) then some (2:Int) else some (0:Int) else none else none else none
abbrev qxg:Type:=(Bs×Bs×Int×(List Bs)×(List Bs)) ⊕ (Bs×Bs×Int×(List Bs))
def qc8 (fu:Nat) (p0:Int) (p1:Bs) (p2:Bs) (p3:Bs) (p4:Int) (p5:List Bs) (p6:List Bs):Option qxg:=(qs2 fu p1 p3).bind fun x1=>bif x1==(0:Int) then some (.inl (p2,(p3,(p4,(p5,p6))))) else bif decide ((0:Int)<=p4) then bif decide (0<=p4/\p4<=(if w64 (p0-(2:Int))>p4 then w64 (p0-(2:Int)) else p4)/\(if w64 (p0-(2:Int))>p4 then w64 (p0-(2:Int)) else p4)<=(List.length p2:Int)) then bif decide (List.length (p6++([List.take ((if w64 (p0-(2:Int))>p4 then w64 (p0-(2:Int)) else p4).toNat-p4.toNat) (List.drop p4.toNat p2)]:List Bs))<=qaq) then bif x1==(2:Int) then some (.inr (p2,(p3,(p4,p6++([List.take ((if w64 (p0-(2:Int))>p4 then w64 (p0-(2:Int)) else p4).toNat-p4.toNat) (List.drop p4.toNat p2)]:List Bs))))) else some (.inl (p2,(p3,(if (List.length p2:Int)<w64 ((w64 (p0+(List.length p1:Int)))+(2:Int)) then (List.length p2:Int) else w64 ((w64 (p0+(List.length p1:Int)))+(2:Int)),(p5,p6++([List.take ((if w64 (p0-(2:Int))>p4 then w64 (p0-(2:Int)) else p4).toNat-p4.toNat) (List.drop p4.toNat p2)]:List Bs)))))) else none else none else bif x1==(2:Int) then some (.inr (p2,(p3,(p4,p6)))) else some (.inl (p2,(p3,(if (List.length p2:Int)<w64 ((w64 (p0+(List.length p1:Int)))+(2:Int)) then (List.length p2:Int) else w64 ((w64 (p0+(List.length p1:Int)))+(2:Int)),(p5,p6)))))
abbrev qsh:Type:=(Bs×Bs×Bs×Int×(List Bs)) ⊕ (Bs×Bs×Bs×Int×(List Bs)×(List Bs))
abbrev zqq:Type:=Int->Bs->Bs->Bs->Int->(List Bs)->(List Bs)->Option qsh
def qnk (fu:Nat) (r0:zqq):zqq:=fun s3 m1 m2 m3 m6 m32 m33=>bif decide (s3<(List.length m1:Int)) then bif decide (0<=s3/\s3<=(List.length m1:Int)) then bif decide (0<List.length ([(13:UInt8),(10:UInt8)]:Bs)) then (qeo (List.drop s3.toNat m1) ([(13:UInt8),(10:UInt8)]:Bs)).bind fun x1=>bif decide ((0:Int)<=x1) then bif decide (0<=s3/\s3<=w64 (s3+x1)/\w64 (s3+x1)<=(List.length m1:Int)) then (qc8 fu s3 (List.take ((w64 (s3+x1)).toNat-s3.toNat) (List.drop s3.toNat m1)) m2 m3 m6 m32 m33).bind fun x2=>sumK x2 (fun a3=>r0 (w64 ((w64 (s3+x1))+(2:Int))) m1 a3.1 a3.2.1 a3.2.2.1 a3.2.2.2.1 a3.2.2.2.2) (fun b4=>some (.inl (m1,b4))) else none else bif decide (0<=s3/\s3<=(List.length m1:Int)/\(List.length m1:Int)<=(List.length m1:Int)) then (qc8 fu s3 (List.take ((List.length m1:Int).toNat-s3.toNat) (List.drop s3.toNat m1)) m2 m3 m6 m32 m33).bind fun x5=>sumK x5 (fun a6=>r0 (List.length m1:Int) m1 a6.1 a6.2.1 a6.2.2.1 a6.2.2.2.1 a6.2.2.2.2) (fun b7=>some (.inl (m1,b7))) else none else none else none else some (.inr (m1,(m2,(m3,(m6,(m32,m33))))))
def qc1 (fu:Nat):Nat->zqq|0=>fun _ _ _ _ _ _ _=>none|n+1=>qnk fu (qc1 fu n)
def qr0 (fu:Nat) (p0:Bs) (p1:Bs) (p2:Bs) (p3:Int) (p4:List Bs) (p5:List Bs):Option qsh:=qc1 fu fu (0:Int) p0 p1 p2 p3 p4 p5
def qk5 (fu:Nat) (p0:Bs) (p1:Bs):Option ((List Bs)):=(qrh p0).bind fun x1=>(qr0 fu x1 p0 p1 (-1:Int) [] []).bind fun x2=>sumK x2 (fun a3=>some a3.2.2.2.2) (fun b4=>bif decide ((0:Int)<=b4.2.2.2.1) then bif decide (0<=b4.2.2.2.1/\b4.2.2.2.1<=(List.length b4.2.1:Int)) then bif decide (List.length (b4.2.2.2.2.2++([List.drop b4.2.2.2.1.toNat b4.2.1]:List Bs))<=qaq) then some (b4.2.2.2.2.2++([List.drop b4.2.2.2.1.toNat b4.2.1]:List Bs)) else none else none else some b4.2.2.2.2.2)
def qk3 (fu:Nat) (p0:List (Bs×Bs)) (p1:Bs) (p2:Int):Option ((List Bs)):=(qlz fu p0).bind fun x1=>bif !x1.2 then some [] else bif decide ((8:Int)<=p2) then some [] else (qk5 fu p1 x1.1).bind fun x2=>some x2
def qre (fu:Nat) (p0:wU×Int):Option Int:=(qg2 fu p0.1.val.1).bind fun x1=>(qak x1).bind fun x2=>bif x2 then some x1.1 else bif decide ((0:Int)<(List.length p0.1.kids:Int)) then (qrd fu (Tree.node p0.1.val p0.1.kids)).bind fun x3=>some x3 else bif decide ((12000:Int)<(List.length p0.1.val.2:Int)) then some (1:Int) else (qp3 fu p0.1.val.2).bind fun x4=>bif x4 != (0:Int) then some x4 else (qk3 fu p0.1.val.1 p0.1.val.2 p0.2).bind fun x5=>bif decide ((0:Int)<(List.length x5:Int)) then some (5:Int) else some (0:Int)
def ql9 (fu:Nat) (p0:Int) (p1:List (Bs×Bs)) (p2:Bs) (p3:List wU) (p4:Int) (p5:Int×Int):Option (((Int×Int)) ⊕ ((Int×Int))):=(qre fu ((Tree.node (p1,p2) p3),p4)).bind fun x1=>bif x1 != (0:Int) then (qae x1 p0).bind fun x2=>some (.inl x2) else some (.inr p5)
abbrev qit:Type:=(Int×(Int×Int)) ⊕ (Int×(Int×Int))
abbrev zlh:Type:=wU->Int->Int->(Int×Int)->Option qit
abbrev zi0:Type:=Int->(List wU)->Int->Int->Int->(Int×Int)->Option qit
def qjq (rs12:zlh) (fu:Nat) (r0:zi0):zi0:=fun s1 s20 s21 s22 m1 m4=>bif decide (s22<s21) then (idx s20 s22).bind fun y1=>(rs12 (Tree.node y1.val y1.kids) (w64 (s1+(1:Int))) m1 m4).bind fun x2=>sumK x2 (fun a3=>some (.inl a3)) (fun b4=>r0 s1 s20 s21 (w64 (s22+(1:Int))) b4.1 b4.2) else some (.inr (m1,m4))
def qdi (rs12:zlh) (fu:Nat):Nat->zi0|0=>fun _ _ _ _ _ _=>none|n+1=>qjq rs12 fu (qdi rs12 fu n)
def qf6 (rs12:zlh) (fu:Nat) (p0:Tree (wV×Bs)) (p1:Int) (p2:Int) (p3:Int×Int):Option qit:=(ql9 fu p2 p0.val.1 p0.val.2 p0.kids p1 p3).bind fun x1=>sumK x1 (fun a2=>some (.inl (p2,a2))) (fun b3=>qdi rs12 fu fu p1 p0.kids (List.length p0.kids:Int) (0:Int) (w64 (p2+(1:Int))) b3)
def qco (fu:Nat):Nat->zlh|0=>fun _ _ _ _=>none|n+1=>qf6 (qco fu n) fu
def qr5 (fu:Nat) (p0:Tree (wV×Bs)) (p1:Int) (p2:Int) (p3:Int×Int):Option qit:=qco fu fu p0 p1 p2 p3
abbrev qz4:Type:=(wU×(Int×Int)) ⊕ (wU×(Int×Int))
def qkv (fu:Nat) (p0:Tree (wV×Bs)) (p1:Int×Int):Option qz4:=(qr5 fu (Tree.node p0.val p0.kids) (0:Int) (0:Int) p1).bind fun x1=>sumK x1 (fun a2=>some (.inl ((Tree.node p0.val p0.kids),a2.2))) (fun b3=>some (.inr ((Tree.node p0.val p0.kids),b3.2)))
def qdd (fu:Nat) (p0:Tree (wV×Bs)):Option ((Int×Int)):=(qs6 (Tree.node p0.val p0.kids)).bind fun x1=>(qpp fu (Tree.node x1.val x1.kids) ((0:Int),(0:Int)) false).bind fun x2=>sumK x2 (fun a3=>some a3.2.1) (fun b4=>bif b4.2.2 then (qae (2:Int) (-2:Int)).bind fun x5=>some x5 else (qs6 (Tree.node p0.val p0.kids)).bind fun x6=>(qkv fu (Tree.node x6.val x6.kids) b4.2.1).bind fun x7=>sumK x7 (fun a8=>some a8.2) (fun b9=>(qa1).bind fun x10=>some x10))
abbrev zjz:Type:=Bs->wV->Int->Int->Int->Int->(List Bs)->Bs->Option (Bs)
abbrev q8w:Type:=Bs->wV->Int->Int->Bs->Option (Bs)
def qvb (fu:Nat) (r0:q8w) (r1:zjz):zjz:=fun s1 s12 s13 s14 s27 s28 m32 m33=>bif decide (s28<s27) then bif decide (0<=s28/\s28.toNat<List.length m32) then (m32[s28.toNat]?).bind fun y1=>bif decide (List.length (m33++y1)<=qaq) then bif decide (List.length ((m33++y1)++([(13:UInt8),(10:UInt8)]:Bs))<=qaq) then r1 s1 s12 s13 s14 s27 (w64 (s28+(1:Int))) m32 ((m33++y1)++([(13:UInt8),(10:UInt8)]:Bs)) else none else none else none else r0 s1 s12 s13 (w64 (s14+(1:Int))) m33
def qq2 (fu:Nat) (r0:q8w):Nat->zjz|0=>fun _ _ _ _ _ _ _ _=>none|n+1=>qvb fu r0 (qq2 fu r0 n)
def qve (fu:Nat) (r0:q8w):q8w:=fun s1 s12 s13 s14 m32=>bif decide (s14<s13) then (idx s12 s14).bind fun y1=>(ql6 fu y1.1 y1.2).bind fun x2=>qq2 fu r0 fu s1 s12 s13 s14 (List.length x2.2:Int) (0:Int) x2.2 m32 else bif decide (List.length (m32++([(13:UInt8),(10:UInt8)]:Bs))<=qaq) then bif decide (List.length ((m32++([(13:UInt8),(10:UInt8)]:Bs))++s1)<=qaq) then some ((m32++([(13:UInt8),(10:UInt8)]:Bs))++s1) else none else none
def qqo (fu:Nat):Nat->q8w|0=>fun _ _ _ _ _=>none|n+1=>qve fu (qqo fu n)
def qyl (fu:Nat) (p0:List (Bs×Bs)) (p1:Bs):Option (Bs):=qqo fu fu p1 p0 (List.length p0:Int) (0:Int) []
abbrev qo6:Type:=wV×Bs
abbrev q7p:Type:=wU->Option qo6
def qvc (rs107:q7p) (fu:Nat) (p0:Tree (wV×Bs)):Option (Bs):=(rs107 (Tree.node p0.val p0.kids)).bind fun x1=>(qyl fu x1.1 x1.2).bind fun x2=>some x2
abbrev zgb:Type:=(List wU)->Int->Int->(List Bs)->Option ((List Bs))
def qh9 (rs107:q7p) (fu:Nat) (r0:zgb):zgb:=fun s8 s9 s10 m32=>bif decide (s10<s9) then (idx s8 s10).bind fun y1=>(qvc rs107 fu (Tree.node y1.val y1.kids)).bind fun x2=>bif decide (List.length (m32++([x2]:List Bs))<=qaq) then r0 s8 s9 (w64 (s10+(1:Int))) (m32++([x2]:List Bs)) else none else some m32
def qds (rs107:q7p) (fu:Nat):Nat->zgb|0=>fun _ _ _ _=>none|n+1=>qh9 rs107 fu (qds rs107 fu n)
def qju (rs107:q7p) (fu:Nat) (p0:List wU):Option ((List Bs)):=qds rs107 fu fu p0 (List.length p0:Int) (0:Int) []
def qgz (p0:Bs) (p1:Bs):Option Bool:=bif decide ((List.length p1:Int)<=(List.length p0:Int)) then bif decide (0<=(List.length p1:Int)/\(List.length p1:Int)<=(List.length p0:Int)) then some ((List.take (List.length p1:Int).toNat p0)==p1) else none else some false
def qrt (p0:Bs) (p1:Bs):Option Bool:=(qgz p0 p1).bind fun x1=>some x1
abbrev q0l:Type:=(Bs×Bool) ⊕ (Bs×Bool)
def qn9 (p0:Int) (p1:Bs) (p2:Bs) (p3:Bool):Option q0l:=bif decide (List.length ([45,45]:Bs)+List.length p2<=qad) then (qrt p1 (([45,45]:Bs)++p2)).bind fun x1=>bif x1 then some (.inl (p2,true)) else some (.inr (p2,p3)) else none
abbrev qsv:Type:=(Bs×Bs×Bool) ⊕ (Bs×Bs×Bool)
abbrev zhn:Type:=Int->Bs->Bs->Bool->Option qsv
def qp5 (fu:Nat) (r0:zhn):zhn:=fun s3 m1 m2 m3=>bif decide (s3<(List.length m1:Int)) then bif decide (0<=s3/\s3<=(List.length m1:Int)) then bif decide (0<List.length ([(13:UInt8),(10:UInt8)]:Bs)) then (qeo (List.drop s3.toNat m1) ([(13:UInt8),(10:UInt8)]:Bs)).bind fun x1=>bif decide ((0:Int)<=x1) then bif decide (0<=s3/\s3<=w64 (s3+x1)/\w64 (s3+x1)<=(List.length m1:Int)) then (qn9 s3 (List.take ((w64 (s3+x1)).toNat-s3.toNat) (List.drop s3.toNat m1)) m2 m3).bind fun x2=>sumK x2 (fun a3=>some (.inl (m1,a3))) (fun b4=>r0 (w64 ((w64 (s3+x1))+(2:Int))) m1 b4.1 b4.2) else none else bif decide (0<=s3/\s3<=(List.length m1:Int)/\(List.length m1:Int)<=(List.length m1:Int)) then (qn9 s3 (List.take ((List.length m1:Int).toNat-s3.toNat) (List.drop s3.toNat m1)) m2 m3).bind fun x5=>sumK x5 (fun a6=>some (.inl (m1,a6))) (fun b7=>r0 (List.length m1:Int) m1 b7.1 b7.2) else none else none else none else some (.inr (m1,(m2,m3)))
def qku (fu:Nat):Nat->zhn|0=>fun _ _ _ _=>none|n+1=>qp5 fu (qku fu n)
def qsu (fu:Nat) (p0:Bs) (p1:Bs) (p2:Bool):Option qsv:=qku fu fu (0:Int) p0 p1 p2
def qxi (fu:Nat) (p0:Bs) (p1:Bs):Option (Bool×Bs):=(qrh p0).bind fun x1=>(qsu fu x1 p1 false).bind fun x2=>sumK x2 (fun a3=>some (a3.2.2,a3.2.1)) (fun b4=>some (false,b4.2.1))
abbrev zjn:Type:=(List Bs)->Int->Int->Bs->Option (Int×Bs)
def qg3 (fu:Nat) (r0:zjn):zjn:=fun s0 s7 s8 m0=>bif decide (s8<s7) then (idx s0 s8).bind fun y1=>(qxi fu y1 m0).bind fun x2=>bif x2.1 then some (s8,x2.2) else r0 s0 s7 (w64 (s8+(1:Int))) x2.2 else some ((-1:Int),m0)
def qdu (fu:Nat):Nat->zjn|0=>fun _ _ _ _=>none|n+1=>qg3 fu (qdu fu n)
def qj4 (fu:Nat) (p0:List Bs) (p1:Bs):Option (Int×Bs):=qdu fu fu p0 (List.length p0:Int) (0:Int) p1
def qh6 (fu:Nat) (p0:List Bs) (p1:Bs):Option (Bool×Bs):=(qj4 fu p0 p1).bind fun x1=>some (decide ((0:Int)<=x1.1),x1.2)
abbrev zgv:Type:=(List Bs)->Int->Option (Bs)
def qwg (fu:Nat) (r0:zgv):zgv:=fun s0 s3=>(qdz s3).bind fun x1=>bif decide (List.length ([98]:Bs)+List.length x1<=qad) then (qh6 fu s0 (([98]:Bs)++x1)).bind fun x2=>bif !x2.1 then some x2.2 else r0 s0 (w64 (s3+(1:Int))) else none
def qr4 (fu:Nat):Nat->zgv|0=>fun _ _=>none|n+1=>qwg fu (qr4 fu n)
def q0v (fu:Nat) (p0:List Bs):Option (Bs):=qr4 fu fu p0 (0:Int)
abbrev zg9:Type:=Bs->Int->Int->wV->(List Bs)->Bs->Option qo6
def qt6 (rs107:q7p) (fu:Nat) (r0:zg9):zg9:=fun s5 s54 s55 m32 m33 m34=>bif decide (s55<s54) then bif decide (0<=s55/\s55.toNat<List.length m33) then (m33[s55.toNat]?).bind fun y1=>bif decide (List.length ([45,45]:Bs)+List.length s5<=qad) then bif decide (List.length (([45,45]:Bs)++s5)+List.length ([13,10]:Bs)<=qad) then bif decide (List.length (m34++((([45,45]:Bs)++s5)++([13,10]:Bs)))<=qaq) then bif decide (List.length ((m34++((([45,45]:Bs)++s5)++([13,10]:Bs)))++y1)<=qaq) then bif decide (List.length (((m34++((([45,45]:Bs)++s5)++([13,10]:Bs)))++y1)++([(13:UInt8),(10:UInt8)]:Bs))<=qaq) then r0 s5 s54 (w64 (s55+(1:Int))) m32 m33 (((m34++((([45,45]:Bs)++s5)++([13,10]:Bs)))++y1)++([(13:UInt8),(10:UInt8)]:Bs)) else none else none else none else none else none else none else bif decide (List.length ([45,45]:Bs)+List.length s5<=qad) then bif decide (List.length (([45,45]:Bs)++s5)+List.length ([45,45,13,10]:Bs)<=qad) then bif decide (List.length (m34++((([45,45]:Bs)++s5)++([45,45,13,10]:Bs)))<=qaq) then some (m32,m34++((([45,45]:Bs)++s5)++([45,45,13,10]:Bs))) else none else none else none
def qk0 (rs107:q7p) (fu:Nat):Nat->zg9|0=>fun _ _ _ _ _ _=>none|n+1=>qt6 rs107 fu (qk0 rs107 fu n)
def qqe (rs107:q7p) (fu:Nat) (p0:Tree (wV×Bs)):Option qo6:=bif (List.length p0.kids:Int)==(0:Int) then some p0.val else (qju rs107 fu p0.kids).bind fun x1=>(q0v fu x1).bind fun x2=>(qj6 fu p0.val.1).bind fun x3=>sumK x3 (fun a4=>(qag []).bind fun x6=>bif decide (List.length (x6++([(([98,111,117,110,100,97,114,121]:Bs),x2)]:List (Bs×Bs)))<=qaq) then (qag p0.val.1).bind fun x7=>(qgn fu (a4.1,(a4.2.1,x6++([(([98,111,117,110,100,97,114,121]:Bs),x2)]:List (Bs×Bs))))).bind fun x8=>bif decide (0<=a4.2.2.1/\a4.2.2.1.toNat<List.length x7) then (x7[a4.2.2.1.toNat]?).bind fun y9=>qk0 rs107 fu fu x2 (List.length x1:Int) (0:Int) (List.set x7 a4.2.2.1.toNat (y9.1,x8.1)) x1 [] else none else none) (fun b5=>(qag b5.2.2.2.2).bind fun x10=>bif decide (List.length (x10++([(([98,111,117,110,100,97,114,121]:Bs),x2)]:List (Bs×Bs)))<=qaq) then (qag p0.val.1).bind fun x11=>(qgn fu (b5.1,(b5.2.1,x10++([(([98,111,117,110,100,97,114,121]:Bs),x2)]:List (Bs×Bs))))).bind fun x12=>bif decide (0<=b5.2.2.1/\b5.2.2.1.toNat<List.length x11) then (x11[b5.2.2.1.toNat]?).bind fun y13=>qk0 rs107 fu fu x2 (List.length x1:Int) (0:Int) (List.set x11 b5.2.2.1.toNat (y13.1,x12.1)) x1 [] else none else none)
def qqy (fu:Nat):Nat->q7p|0=>fun _=>none|n+1=>qqe (qqy fu n) fu
def q4a (fu:Nat) (p0:Tree (wV×Bs)):Option qo6:=qqy fu fu p0
abbrev zie:Type:=wV->Int->Int->Int->Int->(wV×Bs)->(List Bs)->Bs->Option (Bs)
abbrev q8j:Type:=wV->Int->Int->(wV×Bs)->Bs->Option (Bs)
def qs1 (fu:Nat) (r0:q8j) (r1:zie):zie:=fun s11 s12 s13 s26 s27 m32 m33 m34=>bif decide (s27<s26) then bif decide (0<=s27/\s27.toNat<List.length m33) then (m33[s27.toNat]?).bind fun y1=>bif decide (List.length (m34++y1)<=qaq) then bif decide (List.length ((m34++y1)++([(13:UInt8),(10:UInt8)]:Bs))<=qaq) then r1 s11 s12 s13 s26 (w64 (s27+(1:Int))) m32 m33 ((m34++y1)++([(13:UInt8),(10:UInt8)]:Bs)) else none else none else none else r0 s11 s12 (w64 (s13+(1:Int))) m32 m34
def qna (fu:Nat) (r0:q8j):Nat->zie|0=>fun _ _ _ _ _ _ _ _=>none|n+1=>qs1 fu r0 (qna fu r0 n)
def qsq (fu:Nat) (r0:q8j):q8j:=fun s11 s12 s13 m32 m33=>bif decide (s13<s12) then (idx s11 s13).bind fun y1=>(ql6 fu y1.1 y1.2).bind fun x2=>qna fu r0 fu s11 s12 s13 (List.length x2.2:Int) (0:Int) m32 x2.2 m33 else bif decide (List.length (m33++([(13:UInt8),(10:UInt8)]:Bs))<=qaq) then bif decide (List.length ((m33++([(13:UInt8),(10:UInt8)]:Bs))++m32.2)<=qaq) then some ((m33++([(13:UInt8),(10:UInt8)]:Bs))++m32.2) else none else none
def qm2 (fu:Nat):Nat->q8j|0=>fun _ _ _ _ _=>none|n+1=>qsq fu (qm2 fu n)
def qvv (fu:Nat) (p0:wV×Bs):Option (Bs):=qm2 fu fu p0.1 (List.length p0.1:Int) (0:Int) p0 []
def qxk (fu:Nat) (p0:Bs):Option ((Int×Int)):=(qp3 fu p0).bind fun x1=>bif x1==(11:Int) then (qae (11:Int) (-5:Int)).bind fun x2=>some x2 else bif x1==(1:Int) then (qae (1:Int) (-6:Int)).bind fun x3=>some x3 else (qa1).bind fun x4=>some x4
def qm6 (fu:Nat) (p0:wV×Bs):Option ((Int×Int)):=(qg2 fu p0.1).bind fun x1=>(qak x1).bind fun x2=>bif x2 then some x1 else (qvv fu p0).bind fun x3=>bif decide ((12000:Int)<(List.length x3:Int)) then (qae (1:Int) (-4:Int)).bind fun x4=>some x4 else (qxk fu p0.2).bind fun x5=>some x5
abbrev q9g:Type:=(wV×Bs)×(Int×Int)
def q0s (fu:Nat) (p0:Tree (wV×Bs)):Option q9g:=(qdd fu (Tree.node p0.val p0.kids)).bind fun x1=>(qak x1).bind fun x2=>bif x2 then some (([],[]),x1) else (q4a fu (Tree.node p0.val p0.kids)).bind fun x3=>(qag x3.1).bind fun x4=>(qag x3.2).bind fun x5=>(qm6 fu (x4,x5)).bind fun x6=>(qak x6).bind fun x7=>bif x7 then (qae x6.1 (-3:Int)).bind fun x8=>some (([],[]),x8) else (qa1).bind fun x9=>some ((x4,x5),x9)
def qpk (fu:Nat) (p0:Bs×Bs):Option Bool:=(qca fu p0.1 ([98,111,117,110,100,97,114,121]:Bs)).bind fun x1=>some x1
abbrev zhg:Type:=wV->Int->Int->Option Int
def qcv (fu:Nat) (r0:zhg):zhg:=fun s0 s7 s8=>bif decide (s8<s7) then (idx s0 s8).bind fun y1=>(qpk fu y1).bind fun x2=>bif x2 then some s8 else r0 s0 s7 (w64 (s8+(1:Int))) else some (-1:Int)
def qbd (fu:Nat):Nat->zhg|0=>fun _ _ _=>none|n+1=>qcv fu (qbd fu n)
def qbo (fu:Nat) (p0:List (Bs×Bs)):Option Int:=qbd fu fu p0 (List.length p0:Int) (0:Int)
abbrev zjg:Type:=wV->Int->Int->Option (wV)
def qdb (fu:Nat) (r0:zjg):zjg:=fun s0 s5 s6=>bif decide (s6<(List.length s0:Int)) then (idx s0 s6).bind fun y1=>(qpk fu y1).bind fun x2=>bif !x2 then (idx s0 s5).bind fun y3=>none else r0 s0 s5 (w64 (s6+(1:Int))) else bif decide (0<=s5/\s5<=(List.length s0:Int)) then none else none
def qbk (fu:Nat):Nat->zjg|0=>fun _ _ _=>none|n+1=>qdb fu (qbk fu n)
def qd5 (fu:Nat) (p0:List (Bs×Bs)):Option (wV):=(qbo fu p0).bind fun x1=>bif x1==(-1:Int) then some p0 else qbk fu fu p0 x1 (w64 (x1+(1:Int)))
abbrev zgn:Type:=Int->Int->wV->Option (wV)
def qcq (fu:Nat) (r0:zgn):zgn:=fun s5 s6 m32=>bif decide (s6<(List.length m32:Int)) then bif decide (0<=s6/\s6.toNat<List.length m32) then (m32[s6.toNat]?).bind fun y1=>(qpk fu y1).bind fun x2=>bif !x2 then bif decide (0<=s5/\s5.toNat<List.length m32) then (m32[s5.toNat]?).bind fun y3=>r0 (w64 (s5+(1:Int))) (w64 (s6+(1:Int))) (List.set m32 s5.toNat y1) else none else r0 s5 (w64 (s6+(1:Int))) m32 else none else bif decide (0<=s5/\s5.toNat<List.length m32) then bif decide (0<=s5/\s5<=(List.length (List.take s5.toNat m32++List.replicate (List.length m32-s5.toNat) (([]:Bs),([]:Bs))):Int)) then some (List.take s5.toNat (List.take s5.toNat m32++List.replicate (List.length m32-s5.toNat) (([]:Bs),([]:Bs)))) else none else none
def qba (fu:Nat):Nat->zgn|0=>fun _ _ _=>none|n+1=>qcq fu (qba fu n)
def qda (fu:Nat) (p0:List (Bs×Bs)):Option (wV):=(qbo fu p0).bind fun x1=>bif x1==(-1:Int) then some p0 else qba fu fu x1 (w64 (x1+(1:Int))) p0
abbrev q8d:Type:=Bool×wV
def qvp (fu:Nat) (p0:List (Bs×Bs)):Option q8d:=(qj6 fu p0).bind fun x1=>sumK x1 (fun a2=>(qd5 fu []).bind fun x4=>(qgn fu (a2.1,(a2.2.1,x4))).bind fun x5=>(qak x5.2).bind fun x6=>bif x6 then some (false,[]) else (qag p0).bind fun x7=>bif decide (0<=a2.2.2.1/\a2.2.2.1.toNat<List.length x7) then (x7[a2.2.2.1.toNat]?).bind fun y8=>some (true,List.set x7 a2.2.2.1.toNat (y8.1,x5.1)) else none) (fun b3=>(qda fu b3.2.2.2.2).bind fun x9=>(qgn fu (b3.1,(b3.2.1,x9))).bind fun x10=>(qak x10.2).bind fun x11=>bif x11 then some (false,[]) else (qag p0).bind fun x12=>bif decide (0<=b3.2.2.1/\b3.2.2.1.toNat<List.length x12) then (x12[b3.2.2.1.toNat]?).bind fun y13=>some (true,List.set x12 b3.2.2.1.toNat (y13.1,x10.1)) else none)
def qt1 (p0:Bs) (p1:UInt8):Option Int:=(qb0 p0 p1).bind fun x1=>some x1
def qy6 (p0:Bs) (p1:Bs):Option Bool:=some (p0==p1)
def qts (p0:Bs) (p1:Bs):Option Bool:=bif decide ((List.length p1:Int)<=(List.length p0:Int)) then bif decide (0<=w64 ((List.length p0:Int)-(List.length p1:Int))/\w64 ((List.length p0:Int)-(List.length p1:Int))<=(List.length p0:Int)) then (qy6 (List.drop (w64 ((List.length p0:Int)-(List.length p1:Int))).toNat p0) p1).bind fun x1=>some x1 else none else some false
def qss (p0:Bs) (p1:Bs):Option (Bs):=(qts p0 p1).bind fun x1=>bif x1 then bif decide (0<=w64 ((List.length p0:Int)-(List.length p1:Int))/\w64 ((List.length p0:Int)-(List.length p1:Int))<=(List.length p0:Int)) then some (List.take (w64 ((List.length p0:Int)-(List.length p1:Int))).toNat p0) else none else some p0
def qyp (p0:Bs):Option (Bs×Int):=(qt1 p0 (10:UInt8)).bind fun x1=>bif decide (x1<(0:Int)) then some (p0,(List.length p0:Int)) else bif decide (0<=x1/\x1<=(List.length p0:Int)) then bif decide (0<List.length ([(13:UInt8)]:Bs)) then (qss (List.take x1.toNat p0) ([(13:UInt8)]:Bs)).bind fun x2=>some (x2,w64 (x1+(1:Int))) else none else none
def qyw (fu:Nat) (p0:Bs):Option Bool:=(ql6 fu p0 ([]:Bs)).bind fun x1=>(qak x1.1).bind fun x2=>some (!x2)
def qws (fu:Nat) (p0:Bs):Option ((Bs×Bs)×Bool):=(qm0 p0 ([58]:Bs)).bind fun x1=>(qe5 fu x1.1 ([32,9]:Bs)).bind fun x2=>bif x1.2.2 then (qyw fu x2).bind fun x3=>some ((x2,x1.2.1),x3) else some ((x2,x1.2.1),false)
abbrev z0p:Type:=Bs->Bs->Option (Bs)
abbrev zxa:Type:=Bs->Bs->Bool->Option (Bs)
abbrev zwt:Type:=Bs->Bs->Option (Bs)
abbrev zyg:Type:=Bs->Bs->Bool->Option (Bs)
def qtv (fu:Nat):z0p:=fun s0 s1=>(qcb fu s1).bind fun x1=>bif decide (List.length x1.1=List.length (List.replicate 256 false))&&decide (List.length x1.1=256) then bif x1.2 then (qd9 fu s0 x1.1).bind fun x2=>(qer fu x2.1 x2.2).bind fun x3=>some x3.1 else (qft fu s0 s1).bind fun x4=>(qgp fu x4 s1).bind fun x5=>some x5 else none
def qn8 (fu:Nat):zxa:=fun s0 s1 s21=>bif s21 then (idx s1 (0:Int)).bind fun c1=>(qii fu s0 c1).bind fun x2=>(idx s1 (0:Int)).bind fun c3=>(qjl fu x2 c3).bind fun x4=>some x4 else qtv fu s0 s1
def qt9 (fu:Nat):zwt:=fun s0 s1=>bif (List.length s1:Int)==(1:Int) then (idx s1 (0:Int)).bind fun c1=>qn8 fu s0 s1 (decide (c1<(128:UInt8))) else qn8 fu s0 s1 false
def qn4 (fu:Nat):zyg:=fun s0 s1 s12=>bif s12 then some s0 else qt9 fu s0 s1
def qto (fu:Nat) (p0:Bs) (p1:Bs):Option (Bs):=bif p0==([]:Bs) then qn4 fu p0 p1 true else qn4 fu p0 p1 (p1==([]:Bs))
abbrev qip:Type:=Int×(Int×Int)×wV
abbrev ze8:Type:=Int->Int->Int->(Int×Int)->wV->Int->Int->Int->Bs->Option qip
abbrev zhv:Type:=Int->Int->(Int×Int)->Int->Int->Int->(List Bs)->wV->Option qip
abbrev zzi:Type:=Int->(Int×Int)->wV->Option qip
abbrev zwc:Type:=Bs->Int->Bs->Int->(Int×Int)->wV->Option qip
abbrev z14:Type:=Bs->Int->Bs->Int->Bool->(Int×Int)->wV->Option qip
abbrev q8o:Type:=Bs->Int->(Int×Int)->wV->Option qip
def qvh (fu:Nat) (r5:ze8):ze8:=fun s6 s77 s78 m32 m33 m34_0 m34_1 m34_2 m35=>bif decide (s78<s77) then bif decide (0<=s78/\s78.toNat<List.length m33) then (m33[s78.toNat]?).bind fun y1=>(qqa fu y1.2 m34_0 m34_1 m34_2 m35).bind fun x2=>(qto fu x2.1 ([32,9]:Bs)).bind fun x3=>bif decide ((4000:Int)<(List.length x3:Int)) then (qae (1:Int) s78).bind fun x4=>some ((0:Int),(x4,[])) else bif decide (0<=s78/\s78.toNat<List.length m33) then (m33[s78.toNat]?).bind fun y5=>r5 s6 s77 (w64 (s78+(1:Int))) m32 (List.set m33 s78.toNat (y5.1,x3)) x2.2.1 x2.2.2.1 x2.2.2.2.1 x2.2.2.2.2 else none else none else (qa1).bind fun x6=>some (s6,(x6,m33))
def qqv (fu:Nat):Nat->ze8|0=>fun _ _ _ _ _ _ _ _ _=>none|n+1=>qvh fu (qqv fu n)
def qu8 (fu:Nat) (r3:zhv):zhv:=fun s6 s77 m32 m33_0 m33_1 m33_2 m34 m35=>bif decide ((0:Int)<s77) then bif decide (0<=(0:Int)/\(0:Int).toNat<List.length m35) then (m35[(0:Int).toNat]?).bind fun y1=>(qp4 fu y1.2 m33_0 m33_1 m33_2 m34).bind fun x2=>(qto fu x2.1 ([32,9]:Bs)).bind fun x3=>bif decide ((4000:Int)<(List.length x3:Int)) then (qae (1:Int) (0:Int)).bind fun x4=>some ((0:Int),(x4,[])) else bif decide (0<=(0:Int)/\(0:Int).toNat<List.length m35) then (m35[(0:Int).toNat]?).bind fun y5=>qqv fu fu s6 s77 (1:Int) m32 (List.set m35 ((0:Int).toNat) (y5.1,x3)) x2.2.1 x2.2.2.1 x2.2.2.2.1 x2.2.2.2.2 else none else none else (qa1).bind fun x6=>some (s6,(x6,m35))
def qqu (fu:Nat):Nat->zhv|0=>fun _ _ _ _ _ _ _ _=>none|n+1=>qu8 fu (qqu fu n)
def qly (fu:Nat):zzi:=fun s6 m32 m33=>bif decide ((60:Int)<(List.length m33:Int)) then (qae (2:Int) (-2:Int)).bind fun x1=>some ((0:Int),(x1,[])) else (qf9 ([([0]:Bs),([32]:Bs),([13]:Bs),([32]:Bs)]:List Bs)).bind fun x2=>qqu fu fu s6 (List.length m33:Int) m32 x2.1 x2.2.1 x2.2.2.1 x2.2.2.2 m33
def qu9 (fu:Nat) (r0:q8o):zwc:=fun s0 s6 s7 s8 m32 m33=>(qws fu s7).bind fun x1=>bif !x1.2 then qly fu s6 m32 m33 else bif decide (List.length (m33++([x1.1]:List (Bs×Bs)))<=qaq) then r0 s0 (w64 (s6+s8)) m32 (m33++([x1.1]:List (Bs×Bs))) else none
def qqi (fu:Nat) (r0:q8o):z14:=fun s0 s6 s7 s8 s41 m32 m33=>bif s41 then bif decide (0<=w64 ((List.length m33:Int)-(1:Int))/\(w64 ((List.length m33:Int)-(1:Int))).toNat<List.length m33) then (m33[(w64 ((List.length m33:Int)-(1:Int))).toNat]?).bind fun y1=>bif decide (List.length y1.2+List.length s7<=qad) then bif decide (0<=w64 ((List.length m33:Int)-(1:Int))/\(w64 ((List.length m33:Int)-(1:Int))).toNat<List.length m33) then (m33[(w64 ((List.length m33:Int)-(1:Int))).toNat]?).bind fun y2=>r0 s0 (w64 (s6+s8)) m32 (List.set m33 ((w64 ((List.length m33:Int)-(1:Int))).toNat) (y2.1,y1.2++s7)) else none else none else none else qu9 fu r0 s0 s6 s7 s8 m32 m33
def qvf (fu:Nat) (r0:q8o):q8o:=fun s0 s6 m32 m33=>bif decide (s6<(List.length s0:Int)) then bif decide (0<=s6/\s6<=(List.length s0:Int)) then (qyp (List.drop s6.toNat s0)).bind fun x1=>bif x1.1==([]:Bs) then qly fu (w64 (s6+x1.2)) m32 m33 else (idx x1.1 (0:Int)).bind fun c2=>(qf7 c2).bind fun x3=>bif x3 then qqi fu r0 s0 s6 x1.1 x1.2 (decide ((0:Int)<(List.length m33:Int))) m32 m33 else qqi fu r0 s0 s6 x1.1 x1.2 false m32 m33 else none else qly fu s6 m32 m33
def qqh (fu:Nat):Nat->q8o|0=>fun _ _ _ _=>none|n+1=>qvf fu (qqh fu n)
def qy7 (fu:Nat) (p0:Bs):Option qip:=bif decide ((12000:Int)<(List.length p0:Int)) then (qae (1:Int) (-1:Int)).bind fun x1=>some ((0:Int),(x1,[])) else qqh fu fu p0 (0:Int) ((0:Int),(0:Int)) []
abbrev qkl:Type:=wU×Bool×(Int×Int×Int)
abbrev zix:Type:=Bs->Int->(Int×Int×Int)->Option qkl
abbrev qmh:Type:=wU×Bool×(Int×Int×Int)
abbrev zji:Type:=Int->Int->Int->(Int×Int×Int)->(List Bs)->wV->(List wU)->Option qmh
def qkh (rs129:zix) (fu:Nat) (r0:zji):zji:=fun s3 s49 s50 m0 m34 m35 m36=>bif decide (s50<s49) then bif decide (0<=s50/\s50.toNat<List.length m34) then (m34[s50.toNat]?).bind fun y1=>(rs129 y1 (w64 (s3+(1:Int))) m0).bind fun x2=>bif !x2.2.1 then some ((Tree.node ([],[]) []),(false,x2.2.2)) else bif decide (List.length (m36++([(Tree.node x2.1.val x2.1.kids)]:List wU))<=qaq) then r0 s3 s49 (w64 (s50+(1:Int))) x2.2.2 m34 m35 (m36++([(Tree.node x2.1.val x2.1.kids)]:List wU)) else none else none else some ((Tree.node (m35,[]) m36),(true,m0))
def qe6 (rs129:zix) (fu:Nat):Nat->zji|0=>fun _ _ _ _ _ _ _=>none|n+1=>qkh rs129 fu (qe6 rs129 fu n)
def qmd (rs129:zix) (fu:Nat) (p0:Bs) (p1:Int) (p2:Int×Int×Int) (p3:List (Bs×Bs)):Option qmh:=(qag p3).bind fun x1=>(qag p0).bind fun x2=>(qk3 fu p3 p0 p1).bind fun x3=>bif (List.length x3:Int)==(0:Int) then some ((Tree.node (x1,x2) []),(true,(w64 (p2.1+(1:Int)),p2.2))) else (qvp fu p3).bind fun x4=>bif !x4.1 then some ((Tree.node (x1,x2) []),(true,(w64 (p2.1+(1:Int)),p2.2))) else qe6 rs129 fu fu p1 (List.length x3:Int) (0:Int) (w64 (p2.1+(1:Int)),p2.2) x3 x4.2 []
def qik (rs129:zix) (fu:Nat) (p0:Bs) (p1:Int) (p2:Int×Int×Int):Option qkl:=(qy7 fu p0).bind fun x1=>(qak x1.2.1).bind fun x2=>bif x2 then (qae x1.2.1.1 (-8:Int)).bind fun x3=>some ((Tree.node ([],[]) []),(false,(p2.1,x3))) else bif p2.1==(40:Int) then (qae (2:Int) (-7:Int)).bind fun x4=>some ((Tree.node ([],[]) []),(false,(p2.1,x4))) else bif decide (0<=x1.1/\x1.1<=(List.length p0:Int)) then (qmd rs129 fu (List.drop x1.1.toNat p0) p1 p2 x1.2.2).bind fun x5=>some ((Tree.node x5.1.val x5.1.kids),x5.2) else none
def qih (fu:Nat):Nat->zix|0=>fun _ _ _=>none|n+1=>qik (qih fu n) fu
def qv8 (fu:Nat) (p0:Bs) (p1:Int) (p2:Int×Int×Int):Option qkl:=qih fu fu p0 p1 p2
abbrev qpz:Type:=wU×Bool×(Int×Int×Int)
abbrev zh2:Type:=Int->Int->Int->(Int×Int×Int)->(List Bs)->wV->(List wU)->Option qpz
def qmg (fu:Nat) (r0:zh2):zh2:=fun s3 s49 s50 m0 m34 m35 m36=>bif decide (s50<s49) then bif decide (0<=s50/\s50.toNat<List.length m34) then (m34[s50.toNat]?).bind fun y1=>(qv8 fu y1 (w64 (s3+(1:Int))) m0).bind fun x2=>bif !x2.2.1 then some ((Tree.node ([],[]) []),(false,x2.2.2)) else bif decide (List.length (m36++([(Tree.node x2.1.val x2.1.kids)]:List wU))<=qaq) then r0 s3 s49 (w64 (s50+(1:Int))) x2.2.2 m34 m35 (m36++([(Tree.node x2.1.val x2.1.kids)]:List wU)) else none else none else some ((Tree.node (m35,[]) m36),(true,m0))
def qhp (fu:Nat):Nat->zh2|0=>fun _ _ _ _ _ _ _=>none|n+1=>qmg fu (qhp fu n)
def qp0 (fu:Nat) (p0:List (Bs×Bs)) (p1:Bs) (p2:Int) (p3:Int×Int×Int):Option qpz:=(qag p0).bind fun x1=>(qag p1).bind fun x2=>(qk3 fu p0 p1 p2).bind fun x3=>bif (List.length x3:Int)==(0:Int) then some ((Tree.node (x1,x2) []),(true,(w64 (p3.1+(1:Int)),p3.2))) else (qvp fu p0).bind fun x4=>bif !x4.1 then some ((Tree.node (x1,x2) []),(true,(w64 (p3.1+(1:Int)),p3.2))) else qhp fu fu p2 (List.length x3:Int) (0:Int) (w64 (p3.1+(1:Int)),p3.2) x3 x4.2 []
abbrev q6x:Type:=wU×(Int×Int)
def qzi (fu:Nat) (p0:wV×Bs):Option q6x:=(qm6 fu p0).bind fun x1=>(qak x1).bind fun x2=>bif x2 then some ((Tree.node ([],[]) []),x1) else (qp0 fu p0.1 p0.2 (0:Int) ((0:Int),((0:Int),(0:Int)))).bind fun x3=>bif !x3.2.1 then some ((Tree.node ([],[]) []),x3.2.2.2) else (qdd fu (Tree.node x3.1.val x3.1.kids)).bind fun x4=>(qak x4).bind fun x5=>bif x5 then (qae x4.1 (-9:Int)).bind fun x6=>some ((Tree.node ([],[]) []),x6) else (qa1).bind fun x7=>some ((Tree.node x3.1.val x3.1.kids),x7)
abbrev qv6:Type:=wU
abbrev zh6:Type:=wU->Option qv6
abbrev qgx:Type:=(List wU)
abbrev zfz:Type:=(List wU)->Int->Int->(List wU)->Option qgx
def qci (rs141:zh6) (fu:Nat) (r0:zfz):zfz:=fun s8 s9 s10 m32=>bif decide (s10<s9) then (idx s8 s10).bind fun y1=>(rs141 (Tree.node y1.val y1.kids)).bind fun x2=>bif decide (List.length (m32++([(Tree.node x2.val x2.kids)]:List wU))<=qaq) then r0 s8 s9 (w64 (s10+(1:Int))) (m32++([(Tree.node x2.val x2.kids)]:List wU)) else none else some m32
def qay (rs141:zh6) (fu:Nat):Nat->zfz|0=>fun _ _ _ _=>none|n+1=>qci rs141 fu (qay rs141 fu n)
def qdh (rs141:zh6) (fu:Nat) (p0:List wU):Option qgx:=qay rs141 fu fu p0 (List.length p0:Int) (0:Int) []
def qpj (rs141:zh6) (fu:Nat) (p0:Tree (wV×Bs)):Option qv6:=(qag p0.val.1).bind fun x1=>(qag p0.val.2).bind fun x2=>(qdh rs141 fu p0.kids).bind fun x3=>some (Tree.node (x1,x2) x3)
def qjf (fu:Nat):Nat->zh6|0=>fun _=>none|n+1=>qpj (qjf fu n) fu
def qwo (fu:Nat) (p0:Tree (wV×Bs)):Option qv6:=qjf fu fu p0
abbrev qr3:Type:=wU×(Int×Int)
abbrev zz2:Type:=Int->Int->Int->Int->Bool->wU->(Int×Int)->(List Int)->Option qr3
abbrev zbm:Type:=Int->Int->wU->(Int×Int)->(List Int)->Option qr3
def qm1 (fu:Nat) (r0:zbm):zz2:=fun s7 s8 s16 s17 s30 m32 m34 m35=>bif s30 then (qae (3:Int) s7).bind fun x1=>some ((Tree.node ([],[]) []),x1) else (idx m32.kids s8).bind fun y2=>r0 s16 (w64 (s17+(1:Int))) (Tree.node y2.val y2.kids) m34 m35
def qsn (fu:Nat) (r0:zbm):zbm:=fun s16 s17 m32 m34 m35=>bif decide (s17<s16) then bif decide (0<=s17/\s17.toNat<List.length m35) then (m35[s17.toNat]?).bind fun y1=>bif decide (y1<(0:Int)) then qm1 fu r0 s17 y1 s16 s17 true (Tree.node m32.val m32.kids) m34 m35 else qm1 fu r0 s17 y1 s16 s17 (decide ((List.length m32.kids:Int)<=y1)) (Tree.node m32.val m32.kids) m34 m35 else none else (qwo fu (Tree.node m32.val m32.kids)).bind fun x2=>(qa1).bind fun x3=>some ((Tree.node x2.val x2.kids),x3)
def qmv (fu:Nat):Nat->zbm|0=>fun _ _ _ _ _=>none|n+1=>qsn fu (qmv fu n)
def qwi (fu:Nat) (p0:Tree (wV×Bs)) (p1:List Int):Option qr3:=(qdd fu (Tree.node p0.val p0.kids)).bind fun x1=>(qak x1).bind fun x2=>bif x2 then some ((Tree.node ([],[]) []),x1) else qmv fu fu (List.length p1:Int) (0:Int) (Tree.node p0.val p0.kids) ((0:Int),(0:Int)) p1
abbrev zfw:Type:=wV->wV->Int->Option Bool
def qmo (fu:Nat) (r0:zfw):zfw:=fun s0 s1 s5=>bif decide (s5<(List.length s0:Int)) then (idx s0 s5).bind fun y1=>(idx s1 s5).bind fun y2=>bif !((y1.1==y2.1)&&((y1.2==y2.2)&&true)) then some false else r0 s0 s1 (w64 (s5+(1:Int))) else some true
def qga (fu:Nat):Nat->zfw|0=>fun _ _ _=>none|n+1=>qmo fu (qga fu n)
def qmw (fu:Nat) (p0:List (Bs×Bs)) (p1:List (Bs×Bs)):Option Bool:=bif (List.length p0:Int) != (List.length p1:Int) then some false else qga fu fu p0 p1 (0:Int)
def qxd (p0:Bs) (p1:Bs):Option Bool:=some (p0==p1)
abbrev zee:Type:=wU->wU->Option Bool
abbrev ziw:Type:=Int->wU->wU->Option Bool
abbrev zt0:Type:=wU->wU->Option Bool
abbrev zv6:Type:=Bool->wU->wU->Option Bool
def qqz (rs143:zee) (fu:Nat) (r2:ziw):ziw:=fun s5 m32 m33=>bif decide (s5<(List.length m32.kids:Int)) then (idx m32.kids s5).bind fun y1=>(idx m33.kids s5).bind fun y2=>(rs143 (Tree.node y1.val y1.kids) (Tree.node y2.val y2.kids)).bind fun x3=>bif !x3 then some false else r2 (w64 (s5+(1:Int))) (Tree.node m32.val m32.kids) (Tree.node m33.val m33.kids) else some true
def qiu (rs143:zee) (fu:Nat):Nat->ziw|0=>fun _ _ _=>none|n+1=>qqz rs143 fu (qiu rs143 fu n)
def qqn (rs143:zee) (fu:Nat):zt0:=fun m32 m33=>qiu rs143 fu fu (0:Int) (Tree.node m32.val m32.kids) (Tree.node m33.val m33.kids)
def qiv (rs143:zee) (fu:Nat):zv6:=fun s28 m32 m33=>bif s28 then some false else qqn rs143 fu (Tree.node m32.val m32.kids) (Tree.node m33.val m33.kids)
def qnm (rs143:zee) (fu:Nat) (p0:Tree (wV×Bs)) (p1:Tree (wV×Bs)):Option Bool:=(qmw fu p0.val.1 p1.val.1).bind fun x1=>bif !x1 then qiv rs143 fu true (Tree.node p0.val p0.kids) (Tree.node p1.val p1.kids) else (qxd p0.val.2 p1.val.2).bind fun x2=>bif !x2 then qiv rs143 fu true (Tree.node p0.val p0.kids) (Tree.node p1.val p1.kids) else qiv rs143 fu ((List.length p0.kids:Int) != (List.length p1.kids:Int)) (Tree.node p0.val p0.kids) (Tree.node p1.val p1.kids)
def qhl (fu:Nat):Nat->zee|0=>fun _ _=>none|n+1=>qnm (qhl fu n) fu
def qum (fu:Nat) (p0:Tree (wV×Bs)) (p1:Tree (wV×Bs)):Option Bool:=qhl fu fu p0 p1
def qoj (fu:Nat):Option Bool:=(q2j).bind fun x1=>(q0s fu (Tree.node x1.val x1.kids)).bind fun x2=>(qzi fu x2.1).bind fun x3=>(qwi fu (Tree.node x3.1.val x3.1.kids) ([(1:Int)]:List Int)).bind fun x4=>bif x2.2.1==(0:Int) then bif x3.2.1==(0:Int) then bif x4.2.1==(0:Int) then bif (List.length x2.1.1:Int)==(1:Int) then (idx x2.1.1 (0:Int)).bind fun y5=>bif y5.2==([109,117,108,116,105,112,97,114,116,47,109,105,120,101,100,59,32,98,111,117,110,100,97,114,121,61,98,48]:Bs) then bif x2.1.2==([45,45,98,48,13,10,13,10,97,13,10,45,45,98,48,13,10,13,10,98,13,10,13,10,45,45,98,48,45,45,13,10]:Bs) then (q2j).bind fun x6=>(qum fu (Tree.node x3.1.val x3.1.kids) (Tree.node x6.val x6.kids)).bind fun x7=>bif x7 then some (x4.1.val.2==([98,13,10]:Bs)) else some false else some false else some false else some false else some false else some false else some false
abbrev qyq:Type:=(List wU)×(List Int)
abbrev znc:Type:=wU->Int->Option qyq
abbrev zfj:Type:=Int->Int->wU->(List wU)->(List Int)->Option qyq
def qv4 (rs147:znc) (fu:Nat) (r0:zfj):zfj:=fun s1 s8 m32 m33 m34=>bif decide (s8<(List.length m32.kids:Int)) then (idx m32.kids s8).bind fun y1=>(rs147 (Tree.node y1.val y1.kids) (w64 (s1+(1:Int)))).bind fun x2=>bif decide (List.length (m33++x2.1)<=qaq) then bif decide (List.length (m34++x2.2)<=qaq) then r0 s1 (w64 (s8+(1:Int))) (Tree.node m32.val m32.kids) (m33++x2.1) (m34++x2.2) else none else none else some (m33,m34)
def qpy (rs147:znc) (fu:Nat):Nat->zfj|0=>fun _ _ _ _ _=>none|n+1=>qv4 rs147 fu (qpy rs147 fu n)
def qua (rs147:znc) (fu:Nat) (p0:Tree (wV×Bs)) (p1:Int):Option qyq:=qpy rs147 fu fu p1 (0:Int) (Tree.node p0.val p0.kids) ([(Tree.node p0.val p0.kids)]:List wU) ([p1]:List Int)
def qos (fu:Nat):Nat->znc|0=>fun _ _=>none|n+1=>qua (qos fu n) fu
def q7u (fu:Nat) (p0:Tree (wV×Bs)) (p1:Int):Option qyq:=qos fu fu p0 p1
def qg6 (p0:Int) (p1:Int):Option ((Int×Int)):=some (p0,p1)
def qfa (p0:Int) (p1:Int) (p2:Int):Option Bool:=bif decide (p1<=p0) then some (decide (p0<=p2)) else some false
abbrev ziu:Type:=Bs->Int->Option Bool
def qo1 (fu:Nat) (r0:ziu):ziu:=fun s0 s3=>bif decide (s3<(List.length s0:Int)) then (idx s0 s3).bind fun c1=>(qfa (c1.toNat:Int) (33:Int) (126:Int)).bind fun x2=>bif !x2 then some false else (idx s0 s3).bind fun c3=>bif c3==(58:UInt8) then some false else r0 s0 (w64 (s3+(1:Int))) else (qfa (List.length s0:Int) (1:Int) (60:Int)).bind fun x4=>some x4
def qhx (fu:Nat):Nat->ziu|0=>fun _ _=>none|n+1=>qo1 fu (qhx fu n)
def qpf (fu:Nat) (p0:Bs):Option Bool:=qhx fu fu p0 (0:Int)
abbrev zho:Type:=UInt8->Bs->Int->Option Bool
def qrl (fu:Nat) (r0:zho):zho:=fun s0 s1 s5=>bif decide (s5<(List.length s1:Int)) then (idx s1 s5).bind fun c1=>bif c1==s0 then some true else r0 s0 s1 (w64 (s5+(1:Int))) else some false
def qkx (fu:Nat):Nat->zho|0=>fun _ _ _=>none|n+1=>qrl fu (qkx fu n)
def qmj (fu:Nat) (p0:UInt8) (p1:Bs):Option Bool:=qkx fu fu p0 p1 (0:Int)
def qky (p0:UInt8):Option Bool:=bif p0==(32:UInt8) then some true else some (p0==(9:UInt8))
abbrev zv3:Type:=Bs->Option (Bs)
abbrev zib:Type:=Bs->Option (Bs)
abbrev zxz:Type:=Bs->Bool->Option (Bs)
abbrev q9q:Type:=Bs->Option (Bs)
def qwp (fu:Nat) (r0:q9q):zv3:=fun s0=>bif decide (0<=(1:Int)/\(1:Int)<=(List.length s0:Int)) then r0 (List.drop (1:Int).toNat s0) else none
def qwe (fu:Nat) (r3:zib):zib:=fun s0=>bif decide ((0:Int)<(List.length s0:Int)) then (idx s0 (w64 ((List.length s0:Int)-(1:Int)))).bind fun c1=>(qky c1).bind fun x2=>bif x2 then bif decide (0<=w64 ((List.length s0:Int)-(1:Int))/\w64 ((List.length s0:Int)-(1:Int))<=(List.length s0:Int)) then r3 (List.take (w64 ((List.length s0:Int)-(1:Int))).toNat s0) else none else some s0 else some s0
def qpx (fu:Nat):Nat->zib|0=>fun _=>none|n+1=>qwe fu (qpx fu n)
def qp9 (fu:Nat) (r0:q9q):zxz:=fun s0 s10=>bif s10 then qwp fu r0 s0 else qpx fu fu s0
def qv3 (fu:Nat) (r0:q9q):q9q:=fun s0=>bif decide ((0:Int)<(List.length s0:Int)) then (idx s0 (0:Int)).bind fun c1=>(qky c1).bind fun x2=>qp9 fu r0 s0 x2 else qp9 fu r0 s0 false
def qp7 (fu:Nat):Nat->q9q|0=>fun _=>none|n+1=>qv3 fu (qp7 fu n)
def q2e (fu:Nat) (p0:Bs):Option (Bs):=qp7 fu fu p0
abbrev zjd:Type:=Bs->Int->Option Int
def qop (fu:Nat) (r0:zjd):zjd:=fun s1 s5=>bif decide (s5<(List.length s1:Int)) then (idx s1 s5).bind fun c1=>(qmj fu c1 ([13,10,0]:Bs)).bind fun x2=>bif x2 then some (11:Int) else r0 s1 (w64 (s5+(1:Int))) else (q2e fu s1).bind fun x3=>bif !(x3==s1) then some (11:Int) else some (0:Int)
def qe1 (fu:Nat):Nat->zjd|0=>fun _ _=>none|n+1=>qop fu (qe1 fu n)
def qlq (fu:Nat) (p0:Bs) (p1:Bs):Option Int:=(qpf fu p0).bind fun x1=>bif !x1 then some (10:Int) else bif decide ((4000:Int)<(List.length p1:Int)) then some (1:Int) else qe1 fu fu p1 (0:Int)
abbrev z17:Type:=Bs->Int->(List Int)->Option ((List Bs))
abbrev z13:Type:=Bs->Int->Bool->(List Int)->Option ((List Bs))
abbrev zt3:Type:=Bs->Int->Int->Int->(List Int)->(List Bs)->Option ((List Bs))
abbrev z0g:Type:=Bs->Int->Int->Int->Int->Bool->(List Int)->(List Bs)->Option ((List Bs))
abbrev q9o:Type:=Bs->Int->Int->Int->(List Int)->(List Bs)->Option ((List Bs))
abbrev q3h:Type:=Bs->Int->(List Int)->(List Bs)->Option ((List Bs))
abbrev q8b:Type:=Bs->Int->(List Int)->Option ((List Bs))
def qpb (fu:Nat) (r0:q8b):z17:=fun s5 s7 m32=>r0 s5 (w64 (s7+(1:Int))) m32
def qph (fu:Nat) (r0:q8b):z13:=fun s5 s7 s37 m32=>bif s37 then bif decide (List.length (m32++([s7]:List Int))<=qaq) then qpb fu r0 s5 s7 (m32++([s7]:List Int)) else none else qpb fu r0 s5 s7 m32
def qps (fu:Nat) (r2:q3h) (r4:q9o):zt3:=fun s5 s9 s10 s11 m32 m33=>r4 s5 s9 s10 (w64 (s11+(1:Int))) m32 m33
def qlv (fu:Nat) (r2:q3h) (r4:q9o):z0g:=fun s5 s9 s10 s11 s12 s69 m32 m33=>bif s69 then qps fu r2 r4 s5 s9 s12 s11 m32 m33 else qps fu r2 r4 s5 s9 s10 s11 m32 m33
def qtn (fu:Nat) (r2:q3h) (r4:q9o):q9o:=fun s5 s9 s10 s11 m32 m33=>bif decide (s11<(List.length m32:Int)) then bif decide (0<=s11/\s11.toNat<List.length m32) then (m32[s11.toNat]?).bind fun y1=>bif decide (s9<y1) then bif decide ((w64 (y1-s9))<=(78:Int)) then qlv fu r2 r4 s5 s9 s10 s11 y1 true m32 m33 else qlv fu r2 r4 s5 s9 s10 s11 y1 (decide (s10<(0:Int))) m32 m33 else qlv fu r2 r4 s5 s9 s10 s11 y1 false m32 m33 else none else bif decide (s10<(0:Int)) then bif decide (0<=s9/\s9<=(List.length s5:Int)) then bif decide (List.length (m33++([List.drop s9.toNat s5]:List Bs))<=qaq) then some (m33++([List.drop s9.toNat s5]:List Bs)) else none else none else bif decide (0<=s9/\s9<=s10/\s10<=(List.length s5:Int)) then bif decide (List.length (m33++([List.take (s10.toNat-s9.toNat) (List.drop s9.toNat s5)]:List Bs))<=qaq) then r2 s5 s10 m32 (m33++([List.take (s10.toNat-s9.toNat) (List.drop s9.toNat s5)]:List Bs)) else none else none
def qgv (fu:Nat) (r2:q3h):Nat->q9o|0=>fun _ _ _ _ _ _=>none|n+1=>qtn fu r2 (qgv fu r2 n)
def qpa (fu:Nat) (r2:q3h):q3h:=fun s5 s9 m32 m33=>bif decide ((78:Int)<(w64 ((List.length s5:Int)-s9))) then qgv fu r2 fu s5 s9 (-1:Int) (0:Int) m32 m33 else bif decide (0<=s9/\s9<=(List.length s5:Int)) then bif decide (List.length (m33++([List.drop s9.toNat s5]:List Bs))<=qaq) then some (m33++([List.drop s9.toNat s5]:List Bs)) else none else none
def qd0 (fu:Nat):Nat->q3h|0=>fun _ _ _ _=>none|n+1=>qpa fu (qd0 fu n)
def qo7 (fu:Nat) (r0:q8b):q8b:=fun s5 s7 m32=>bif decide (s7<(List.length s5:Int)) then (idx s5 s7).bind fun c1=>(qky c1).bind fun x2=>bif x2 then (idx s5 (w64 (s7-(1:Int)))).bind fun c3=>(qky c3).bind fun x4=>qph fu r0 s5 s7 (!x4) m32 else qph fu r0 s5 s7 false m32 else qd0 fu fu s5 (0:Int) m32 []
def qjb (fu:Nat):Nat->q8b|0=>fun _ _ _=>none|n+1=>qo7 fu (qjb fu n)
def qub (fu:Nat) (p0:Bs) (p1:Bs):Option ((List Bs)):=bif decide (List.length p0+List.length ([58,32]:Bs)<=qad) then bif decide (List.length (p0++([58,32]:Bs))+List.length p1<=qad) then qjb fu fu ((p0++([58,32]:Bs))++p1) (w64 ((List.length p0:Int)+(3:Int))) [] else none else none
abbrev ziz:Type:=Int->(Int×Int)->(List Bs)->Option ((Int×Int))
def qo3 (fu:Nat) (r0:ziz):ziz:=fun s6 m32 m33=>bif decide (s6<(List.length m33:Int)) then bif decide (0<=s6/\s6.toNat<List.length m33) then (m33[s6.toNat]?).bind fun y1=>bif decide ((998:Int)<(List.length y1:Int)) then (qg6 (1:Int) s6).bind fun x2=>some x2 else r0 (w64 (s6+(1:Int))) m32 m33 else none else some ((0:Int),(0:Int))
def qhh (fu:Nat):Nat->ziz|0=>fun _ _ _=>none|n+1=>qo3 fu (qhh fu n)
def qpd (fu:Nat) (p0:Bs) (p1:Bs):Option ((Int×Int)):=(qlq fu p0 p1).bind fun x1=>bif x1 != (0:Int) then (qlq fu p0 p1).bind fun x2=>(qg6 x2 (-1:Int)).bind fun x3=>some x3 else (qub fu p0 p1).bind fun x4=>qhh fu fu (0:Int) ((0:Int),(0:Int)) x4
abbrev zjp:Type:=wV->Int->(Int×Int)->Option ((Int×Int))
def ql1 (fu:Nat) (r0:zjp):zjp:=fun s0 s3 m32=>bif decide (s3<(List.length s0:Int)) then (idx s0 s3).bind fun y1=>(idx s0 s3).bind fun y2=>(qpd fu y1.1 y2.2).bind fun x3=>bif x3.1 != (0:Int) then (qg6 x3.1 s3).bind fun x4=>some x4 else r0 s0 (w64 (s3+(1:Int))) m32 else some ((0:Int),(0:Int))
def qe7 (fu:Nat):Nat->zjp|0=>fun _ _ _=>none|n+1=>ql1 fu (qe7 fu n)
def ql0 (fu:Nat) (p0:List (Bs×Bs)):Option ((Int×Int)):=bif decide ((60:Int)<(List.length p0:Int)) then (qg6 (2:Int) (-1:Int)).bind fun x1=>some x1 else qe7 fu fu p0 (0:Int) ((0:Int),(0:Int))
abbrev zf0:Type:=Int->Bs->Option (Bs)
def qrj (fu:Nat) (r0:zf0):zf0:=fun s4 m32=>bif decide (s4<(List.length m32:Int)) then bif decide (0<=s4/\s4.toNat<List.length m32) then (m32[s4.toNat]?).bind fun y1=>(qfa (y1.toNat:Int) (65:Int) (90:Int)).bind fun x2=>bif x2 then bif decide (0<=s4/\s4.toNat<List.length m32) then (m32[s4.toNat]?).bind fun y3=>bif decide (0<=s4/\s4.toNat<List.length m32) then (m32[s4.toNat]?).bind fun y4=>r0 (w64 (s4+(1:Int))) (List.set m32 s4.toNat (y3+(32:UInt8))) else none else none else r0 (w64 (s4+(1:Int))) m32 else none else some m32
def qk7 (fu:Nat):Nat->zf0|0=>fun _ _=>none|n+1=>qrj fu (qk7 fu n)
def qme (fu:Nat) (p0:Bs):Option (Bs):=bif decide (List.length p0<=maxLen) then qk7 fu fu (0:Int) p0 else none
def qdn (fu:Nat) (p0:Bs) (p1:Bs):Option Bool:=(qme fu p0).bind fun x1=>(qme fu p1).bind fun x2=>some (x1==x2)
abbrev zf1:Type:=wV->Bs->Int->(List Bs)->Option ((List Bs))
def qqw (fu:Nat) (r0:zf1):zf1:=fun s0 s1 s6 m32=>bif decide (s6<(List.length s0:Int)) then (idx s0 s6).bind fun y1=>(qdn fu y1.1 s1).bind fun x2=>bif x2 then (idx s0 s6).bind fun y3=>bif decide (List.length (m32++([y3.2]:List Bs))<=qaq) then r0 s0 s1 (w64 (s6+(1:Int))) (m32++([y3.2]:List Bs)) else none else r0 s0 s1 (w64 (s6+(1:Int))) m32 else some m32
def qfv (fu:Nat):Nat->zf1|0=>fun _ _ _ _=>none|n+1=>qqw fu (qfv fu n)
def qrm (fu:Nat) (p0:List (Bs×Bs)) (p1:Bs):Option ((List Bs)):=qfv fu fu p0 p1 (0:Int) []
abbrev zga:Type:=Bs->Int->Option Int
def qwl (fu:Nat) (r0:zga):zga:=fun s0 s1=>bif decide (s1<(List.length s0:Int)) then (idx s0 s1).bind fun c1=>(qky c1).bind fun x2=>bif x2 then r0 s0 (w64 (s1+(1:Int))) else some s1 else some s1
def qp6 (fu:Nat):Nat->zga|0=>fun _ _=>none|n+1=>qwl fu (qp6 fu n)
def qlp (fu:Nat) (p0:Bs) (p1:Int):Option Int:=qp6 fu fu p0 p1
def qja (fu:Nat) (p0:UInt8):Option Bool:=(qfa (p0.toNat:Int) (33:Int) (126:Int)).bind fun x1=>bif x1 then (qmj fu p0 ([40,41,60,62,64,44,59,58,92,34,47,91,93,63,61,42,37,39]:Bs)).bind fun x2=>some (!x2) else some false
abbrev zjt:Type:=Bs->Int->Bs->Option Int
def qxw (fu:Nat) (r0:zjt):zjt:=fun s0 s1 s2=>bif decide (s1<(List.length s0:Int)) then (idx s0 s1).bind fun c1=>(qja fu c1).bind fun x2=>bif x2 then r0 s0 (w64 (s1+(1:Int))) s2 else (idx s0 s1).bind fun c3=>(qmj fu c3 s2).bind fun x4=>bif x4 then r0 s0 (w64 (s1+(1:Int))) s2 else some s1 else some s1
def qr9 (fu:Nat):Nat->zjt|0=>fun _ _ _=>none|n+1=>qxw fu (qr9 fu n)
def qxe (fu:Nat) (p0:Bs) (p1:Int) (p2:Bs):Option Int:=qr9 fu fu p0 p1 p2
abbrev zf3:Type:=Bs->Bs->Int->Option Int
def qwm (fu:Nat) (r0:zf3):zf3:=fun s0 s1 s7=>bif decide ((w64 (s7+(List.length s1:Int)))<=(List.length s0:Int)) then bif decide (0<=s7/\s7<=w64 (s7+(List.length s1:Int))/\w64 (s7+(List.length s1:Int))<=(List.length s0:Int)) then bif (List.take ((w64 (s7+(List.length s1:Int))).toNat-s7.toNat) (List.drop s7.toNat s0))==s1 then some s7 else r0 s0 s1 (w64 (s7+(1:Int))) else none else some (-1:Int)
def qqc (fu:Nat):Nat->zf3|0=>fun _ _ _=>none|n+1=>qwm fu (qqc fu n)
def qzu (fu:Nat) (p0:Bs) (p1:Bs) (p2:Int):Option Int:=qqc fu fu p0 p1 p2
abbrev zxm:Type:=Bs->Int->Int->Int->Int->Option Int
abbrev z16:Type:=Bs->Int->Int->Int->Int->Bool->Option Int
abbrev q9h:Type:=Bs->Int->Int->Int->Int->Option Int
def qqq (fu:Nat) (r0:q9h):zxm:=fun s0 s1 s2 s7 s8=>(idx s0 s8).bind fun c1=>r0 s0 s1 s2 (w64 ((w64 ((10:Int)*s7))+((c1-(48:UInt8)).toNat:Int))) (w64 (s8+(1:Int)))
def qi8 (fu:Nat) (r0:q9h):z16:=fun s0 s1 s2 s7 s8 s24=>bif s24 then some (-1:Int) else qqq fu r0 s0 s1 s2 s7 s8
def qq1 (fu:Nat) (r0:q9h):q9h:=fun s0 s1 s2 s7 s8=>bif decide (s8<(List.length s0:Int)) then (idx s0 s8).bind fun c1=>(qfa (c1.toNat:Int) (48:Int) (57:Int)).bind fun x2=>bif !x2 then qi8 fu r0 s0 s1 s2 s7 s8 true else qi8 fu r0 s0 s1 s2 s7 s8 (decide ((9:Int)<=s8)) else (qfa (List.length s0:Int) s1 s2).bind fun x3=>bif !x3 then some (-1:Int) else some s7
def qi1 (fu:Nat):Nat->q9h|0=>fun _ _ _ _ _=>none|n+1=>qq1 fu (qi1 fu n)
def qnb (fu:Nat) (p0:Bs) (p1:Int) (p2:Int):Option Int:=qi1 fu fu p0 p1 p2 (0:Int) (0:Int)
abbrev zve:Type:=Int->Option (Bs)
def qo4 (rs171:zve) (fu:Nat) (p0:Int):Option (Bs):=bif decide (p0<(10:Int)) then bif decide (0<=p0/\p0<=IntKind.u64.wrap (p0+(1:Int))/\IntKind.u64.wrap (p0+(1:Int))<=(List.length ([48,49,50,51,52,53,54,55,56,57]:Bs):Int)) then some (List.take ((IntKind.u64.wrap (p0+(1:Int))).toNat-p0.toNat) (List.drop p0.toNat ([48,49,50,51,52,53,54,55,56,57]:Bs))) else none else (rs171 (IntKind.u64.wrap (Int.tdiv p0 (10:Int)))).bind fun x1=>bif decide (0<=Int.tmod p0 (10:Int)/\Int.tmod p0 (10:Int)<=IntKind.u64.wrap ((Int.tmod p0 (10:Int))+(1:Int))/\IntKind.u64.wrap ((Int.tmod p0 (10:Int))+(1:Int))<=(List.length ([48,49,50,51,52,53,54,55,56,57]:Bs):Int)) then bif decide (List.length x1+List.length (List.take ((IntKind.u64.wrap ((Int.tmod p0 (10:Int))+(1:Int))).toNat-(Int.tmod p0 (10:Int)).toNat) (List.drop (Int.tmod p0 (10:Int)).toNat ([48,49,50,51,52,53,54,55,56,57]:Bs)))<=qad) then some (x1++(List.take ((IntKind.u64.wrap ((Int.tmod p0 (10:Int))+(1:Int))).toNat-(Int.tmod p0 (10:Int)).toNat) (List.drop (Int.tmod p0 (10:Int)).toNat ([48,49,50,51,52,53,54,55,56,57]:Bs)))) else none else none
def qlm (fu:Nat):Nat->zve|0=>fun _=>none|n+1=>qo4 (qlm fu n) fu
def qvx (fu:Nat) (p0:Int):Option (Bs):=qlm fu fu p0
def qka (fu:Nat) (p0:Int):Option (Bs):=bif decide (p0<(0:Int)) then (qvx fu (IntKind.u64.wrap ((IntKind.u64.wrap (w64 (0-(w64 (p0+(1:Int))))))+(1:Int)))).bind fun x1=>bif decide (List.length ([45]:Bs)+List.length x1<=qad) then some (([45]:Bs)++x1) else none else (qvx fu (IntKind.u64.wrap (p0))).bind fun x2=>some x2
abbrev qwu:Type:=(Bs×Bs×Int×Bool)×Bool
abbrev zvq:Type:=Bs->(Bs×Bs×Int×Bool)->(Bs×Bs×Int×Bool)->Option qwu
abbrev zv1:Type:=Bs->Bool->(Bs×Bs×Int×Bool)->(Bs×Bs×Int×Bool)->Option qwu
def qhc (fu:Nat):zvq:=fun s7 m32 m33=>(qnb fu s7 (1:Int) (9:Int)).bind fun x1=>bif !(m33.1==([]:Bs)) then bif decide ((0:Int)<=x1) then (qka fu x1).bind fun x2=>some ((m33.1,(m33.2.1,(x1,m33.2.2.2))),x2==s7) else some ((m33.1,(m33.2.1,(x1,m33.2.2.2))),false) else some ((m33.1,(m33.2.1,(x1,m33.2.2.2))),false)
def qke (fu:Nat):zv1:=fun s7 s37 m32 m33=>bif s37 then bif decide (0<=w64 ((List.length s7:Int)-(1:Int))/\w64 ((List.length s7:Int)-(1:Int))<=(List.length s7:Int)) then qhc fu (List.take (w64 ((List.length s7:Int)-(1:Int))).toNat s7) m32 (m33.1,(m33.2.1,(m33.2.2.1,true))) else none else qhc fu s7 m32 m33
def qs9 (fu:Nat) (p0:Bs) (p1:Bs):Option qwu:=(qzu fu p0 ([42]:Bs) (0:Int)).bind fun x1=>bif decide (x1<(0:Int)) then some ((p0,(p1,((-1:Int),false))),!(p0==([]:Bs))) else bif decide (0<=w64 (x1+(1:Int))/\w64 (x1+(1:Int))<=(List.length p0:Int)) then bif decide (0<=x1/\x1<=(List.length p0:Int)) then bif decide ((0:Int)<(List.length (List.drop (w64 (x1+(1:Int))).toNat p0):Int)) then (idx (List.drop (w64 (x1+(1:Int))).toNat p0) (w64 ((List.length (List.drop (w64 (x1+(1:Int))).toNat p0):Int)-(1:Int)))).bind fun c2=>qke fu (List.drop (w64 (x1+(1:Int))).toNat p0) (c2==(42:UInt8)) (([]:Bs),(([]:Bs),((0:Int),false))) (List.take x1.toNat p0,(p1,((-1:Int),false))) else qke fu (List.drop (w64 (x1+(1:Int))).toNat p0) false (([]:Bs),(([]:Bs),((0:Int),false))) (List.take x1.toNat p0,(p1,((-1:Int),false))) else none else none
abbrev zi9:Type:=Bs->Int->Int->Int->Int->Int->Option (Int×Int)
abbrev zyh:Type:=Bs->Int->Int->Int->Int->Option (Int×Int)
abbrev zvv:Type:=Bs->Int->Int->Int->Int->Bool->Option (Int×Int)
abbrev z0k:Type:=Bs->Int->Int->Int->Int->Option (Int×Int)
def qs7 (fu:Nat) (r3:zi9):zi9:=fun s0 s1 s7 s8 s9 s10=>bif decide (s10<s7) then (idx s0 (w64 (s1+s10))).bind fun c1=>(qfa (c1.toNat:Int) (128:Int) (191:Int)).bind fun x2=>bif !x2 then some ((-1:Int),(1:Int)) else r3 s0 s1 s7 (w64 ((w64 ((w64 ((64:Int)*s8))+(c1.toNat:Int)))-(128:Int))) s9 (w64 (s10+(1:Int))) else bif decide (s8<s9) then some ((-1:Int),(1:Int)) else bif decide ((1114111:Int)<s8) then some ((-1:Int),(1:Int)) else (qfa s8 (55296:Int) (57343:Int)).bind fun x3=>bif x3 then some ((-1:Int),(1:Int)) else some (s8,s7)
def qgd (fu:Nat):Nat->zi9|0=>fun _ _ _ _ _ _=>none|n+1=>qs7 fu (qgd fu n)
def q0q (fu:Nat):zyh:=fun s0 s1 s7 s8 s9=>qgd fu fu s0 s1 s7 s8 s9 (1:Int)
def qpw (fu:Nat):zvv:=fun s0 s1 s7 s8 s9 s43=>bif s43 then some ((-1:Int),(1:Int)) else q0q fu s0 s1 s7 s8 s9
def qf4 (fu:Nat):z0k:=fun s0 s1 s7 s8 s9=>bif s7==(0:Int) then qpw fu s0 s1 s7 s8 s9 true else qpw fu s0 s1 s7 s8 s9 (decide ((List.length s0:Int)<(w64 (s1+s7))))
def qwj (fu:Nat) (p0:Bs) (p1:Int):Option (Int×Int):=(idx p0 p1).bind fun c1=>bif decide ((c1.toNat:Int)<(128:Int)) then some ((c1.toNat:Int),(1:Int)) else (qfa (c1.toNat:Int) (192:Int) (223:Int)).bind fun x2=>bif x2 then qf4 fu p0 p1 (2:Int) (w64 ((c1.toNat:Int)-(192:Int))) (128:Int) else (qfa (c1.toNat:Int) (224:Int) (239:Int)).bind fun x3=>bif x3 then qf4 fu p0 p1 (3:Int) (w64 ((c1.toNat:Int)-(224:Int))) (2048:Int) else (qfa (c1.toNat:Int) (240:Int) (247:Int)).bind fun x4=>bif x4 then qf4 fu p0 p1 (4:Int) (w64 ((c1.toNat:Int)-(240:Int))) (65536:Int) else qf4 fu p0 p1 (0:Int) (0:Int) (0:Int)
abbrev zy4:Type:=Int->Option (Bs)
abbrev z1e:Type:=Int->Bool->Option (Bs)
def qwa:zy4:=fun s0=>bif decide (s0<(128:Int)) then some ([toU8 s0]:Bs) else bif decide (s0<(2048:Int)) then some ([toU8 (w64 ((192:Int)+(w64 (Int.tdiv s0 (64:Int))))),toU8 (w64 ((128:Int)+(Int.tmod s0 (64:Int))))]:Bs) else bif decide (s0<(65536:Int)) then some ([toU8 (w64 ((224:Int)+(w64 (Int.tdiv s0 (4096:Int))))),toU8 (w64 ((128:Int)+(Int.tmod (w64 (Int.tdiv s0 (64:Int))) (64:Int)))),toU8 (w64 ((128:Int)+(Int.tmod s0 (64:Int))))]:Bs) else some ([toU8 (w64 ((240:Int)+(w64 (Int.tdiv s0 (262144:Int))))),toU8 (w64 ((128:Int)+(Int.tmod (w64 (Int.tdiv s0 (4096:Int))) (64:Int)))),toU8 (w64 ((128:Int)+(Int.tmod (w64 (Int.tdiv s0 (64:Int))) (64:Int)))),toU8 (w64 ((128:Int)+(Int.tmod s0 (64:Int))))]:Bs)
def qv2:z1e:=fun s0 s9=>bif s9 then qwa (65533:Int) else qwa s0
def q2b (p0:Int):Option (Bs):=(qfa p0 (0:Int) (1114111:Int)).bind fun x1=>bif !x1 then qv2 p0 true else (qfa p0 (55296:Int) (57343:Int)).bind fun x2=>qv2 p0 x2
abbrev zgo:Type:=Bs->Bs->Bool->Int->Option (Bs)
def qqd (fu:Nat) (r0:zgo):zgo:=fun s0 s3 s4 s5=>bif decide (s5<(List.length s0:Int)) then (qwj fu s0 s5).bind fun x1=>bif decide ((0:Int)<=x1.1) then bif decide (0<=s5/\s5<=w64 (s5+x1.2)/\w64 (s5+x1.2)<=(List.length s0:Int)) then bif decide (List.length s3+List.length (List.take ((w64 (s5+x1.2)).toNat-s5.toNat) (List.drop s5.toNat s0))<=qad) then r0 s0 (s3++(List.take ((w64 (s5+x1.2)).toNat-s5.toNat) (List.drop s5.toNat s0))) (decide (x1.1<(0:Int))) (w64 (s5+x1.2)) else none else none else bif !s4 then (q2b (-1:Int)).bind fun x2=>bif decide (List.length s3+List.length x2<=qad) then r0 s0 (s3++x2) (decide (x1.1<(0:Int))) (w64 (s5+x1.2)) else none else r0 s0 s3 (decide (x1.1<(0:Int))) (w64 (s5+x1.2)) else some s3
def qiw (fu:Nat):Nat->zgo|0=>fun _ _ _ _=>none|n+1=>qqd fu (qiw fu n)
def qq6 (fu:Nat) (p0:Bs):Option (Bs):=qiw fu fu p0 ([]:Bs) false (0:Int)
abbrev zh4:Type:=UInt8->Int->Option Int
def qui (fu:Nat) (r0:zh4):zh4:=fun s0 s3=>bif decide (s3<(16:Int)) then (idx ([48,49,50,51,52,53,54,55,56,57,65,66,67,68,69,70]:Bs) s3).bind fun c1=>bif c1==s0 then some s3 else (qme fu ([48,49,50,51,52,53,54,55,56,57,65,66,67,68,69,70]:Bs)).bind fun x2=>(idx x2 s3).bind fun c3=>bif c3==s0 then some s3 else r0 s0 (w64 (s3+(1:Int))) else some (-1:Int)
def qog (fu:Nat):Nat->zh4|0=>fun _ _=>none|n+1=>qui fu (qog fu n)
def quu (fu:Nat) (p0:UInt8):Option Int:=qog fu fu p0 (0:Int)
abbrev z1m:Type:=Bs->Bs->Int->Bool->Option (Bs)
abbrev zb6:Type:=Bs->Bs->Int->Option (Bs)
def qcm (fu:Nat) (r0:zb6):z1m:=fun s0 s3 s4 s37=>bif s37 then (idx s0 (w64 (s4+(1:Int)))).bind fun c1=>(quu fu c1).bind fun x2=>(idx s0 (w64 (s4+(2:Int)))).bind fun c3=>(quu fu c3).bind fun x4=>bif decide (List.length s3+List.length ([toU8 (w64 ((w64 ((16:Int)*x2))+x4))]:Bs)<=qad) then r0 s0 (s3++([toU8 (w64 ((w64 ((16:Int)*x2))+x4))]:Bs)) (w64 ((w64 (s4+(2:Int)))+(1:Int))) else none else bif decide (0<=s4/\s4<=w64 (s4+(1:Int))/\w64 (s4+(1:Int))<=(List.length s0:Int)) then bif decide (List.length s3+List.length (List.take ((w64 (s4+(1:Int))).toNat-s4.toNat) (List.drop s4.toNat s0))<=qad) then r0 s0 (s3++(List.take ((w64 (s4+(1:Int))).toNat-s4.toNat) (List.drop s4.toNat s0))) (w64 (s4+(1:Int))) else none else none
def qo2 (fu:Nat) (r0:zb6):zb6:=fun s0 s3 s4=>bif decide (s4<(List.length s0:Int)) then (idx s0 s4).bind fun c1=>bif c1==(37:UInt8) then bif decide ((w64 (s4+(2:Int)))<(List.length s0:Int)) then (idx s0 (w64 (s4+(1:Int)))).bind fun c2=>(quu fu c2).bind fun x3=>bif decide ((0:Int)<=x3) then (idx s0 (w64 (s4+(2:Int)))).bind fun c4=>(quu fu c4).bind fun x5=>qcm fu r0 s0 s3 s4 (decide ((0:Int)<=x5)) else qcm fu r0 s0 s3 s4 false else qcm fu r0 s0 s3 s4 false else qcm fu r0 s0 s3 s4 false else some s3
def qe2 (fu:Nat):Nat->zb6|0=>fun _ _ _=>none|n+1=>qo2 fu (qe2 fu n)
def qpe (fu:Nat) (p0:Bs):Option (Bs):=qe2 fu fu p0 ([]:Bs) (0:Int)
abbrev qaj:Type:=(Bs×Bs×wV)×Bool
abbrev zpg:Type:=Bs->Int->Bs->Bs->Bs->Bs->Bs->Bs->(List (Bs×Bs×Int×Bool))->Option qaj
abbrev zr5:Type:=Bs->Int->Bs->Bs->Bool->Bs->Bs->Bs->Bs->(List (Bs×Bs×Int×Bool))->Option qaj
abbrev zrc:Type:=Bs->Int->Bs->Bs->Bs->Bs->Bs->Bs->(List (Bs×Bs×Int×Bool))->Option qaj
abbrev zsq:Type:=Bs->Int->Bs->Bs->Bs->Bs->Bs->Bs->(List (Bs×Bs×Int×Bool))->Option qaj
abbrev zp2:Type:=Bs->Int->Bs->Bs->Bool->Bs->Bs->Bs->Bs->(List (Bs×Bs×Int×Bool))->Option qaj
abbrev q3e:Type:=Bs->Int->Bs->Bs->Bs->Bs->Bs->Bs->(List (Bs×Bs×Int×Bool))->Option qaj
abbrev zua:Type:=Bs->Int->Bs->Bs->Bool->Bs->Bs->Bs->Bs->(List (Bs×Bs×Int×Bool))->Option qaj
abbrev zyl:Type:=Bs->Int->Bs->Bs->Bs->Bs->Bs->(List (Bs×Bs×Int×Bool))->Option qaj
abbrev z15:Type:=Bs->Int->Bs->Bool->Bs->Bs->Bs->Bs->(List (Bs×Bs×Int×Bool))->Option qaj
abbrev zro:Type:=Int->Bool->Int->Bs->Bs->Bs->Bs->(List (Bs×Bs×Int×Bool))->wV->Option qaj
abbrev ztj:Type:=Int->Bool->Int->Int->Bs->Bs->Bs->Bs->(List (Bs×Bs×Int×Bool))->wV->Option qaj
abbrev ztf:Type:=Int->Int->Bs->Int->Int->Int->Bs->Bs->Bs->Bs->(List (Bs×Bs×Int×Bool))->wV->Option qaj
abbrev zqx:Type:=Int->Int->Bs->Int->Int->Int->Bool->Bs->Bs->Bs->Bs->(List (Bs×Bs×Int×Bool))->wV->Option qaj
abbrev zqz:Type:=Int->Int->Bs->Int->Bs->Bs->Bs->Bs->(List (Bs×Bs×Int×Bool))->wV->Option qaj
abbrev zpz:Type:=Int->Int->Bs->Int->Bs->Bs->Bs->Bs->Bs->(List (Bs×Bs×Int×Bool))->wV->Option qaj
abbrev zqt:Type:=Int->Int->Bs->Int->Bs->Bs->Bs->Bs->Bs->(List (Bs×Bs×Int×Bool))->wV->Option qaj
abbrev zqj:Type:=Int->Int->Bs->Int->Bs->Bool->Bs->Bs->Bs->Bs->(List (Bs×Bs×Int×Bool))->wV->Option qaj
abbrev q2s:Type:=Int->Int->Bs->Int->Int->Int->Bs->Bs->Bs->Bs->(List (Bs×Bs×Int×Bool))->wV->Option qaj
abbrev qm5:Type:=Int->Int->Bs->Int->Bs->Bs->Bs->Bs->(List (Bs×Bs×Int×Bool))->wV->Option qaj
abbrev zci:Type:=Int->Bool->Int->Int->Bs->Bs->Bs->Bs->(List (Bs×Bs×Int×Bool))->wV->Option qaj
abbrev zcs:Type:=Int->Bool->Int->Bs->Bs->Bs->Bs->(List (Bs×Bs×Int×Bool))->wV->Option qaj
abbrev qmc:Type:=Int->Bs->Bs->Bs->Bs->(List (Bs×Bs×Int×Bool))->wV->Option qaj
abbrev qsg:Type:=Bs->Int->Bs->Bs->Bs->Bs->(List (Bs×Bs×Int×Bool))->Option qaj
abbrev z29:Type:=Bs->Int->Bs->Bs->Bs->Bs->Option qaj
abbrev z2u:Type:=Bs->Int->Bool->Bs->Bs->Bs->Bs->Option qaj
def qf8 (fu:Nat) (r2:qsg) (r9:q3e):zpg:=fun s0 s4 s8 s9 m32_0 m32_1 m33_0 m33_1 m34=>bif decide (0<=s4/\s4<=w64 (s4+(1:Int))/\w64 (s4+(1:Int))<=(List.length s0:Int)) then bif decide (List.length s9+List.length (List.take ((w64 (s4+(1:Int))).toNat-s4.toNat) (List.drop s4.toNat s0))<=qad) then r9 s0 (w64 (s4+(1:Int))) s8 (s9++(List.take ((w64 (s4+(1:Int))).toNat-s4.toNat) (List.drop s4.toNat s0))) m32_0 m32_1 m33_0 m33_1 m34 else none else none
def qee (fu:Nat) (r2:qsg) (r9:q3e):zr5:=fun s0 s4 s8 s9 s140 m32_0 m32_1 m33_0 m33_1 m34=>bif s140 then qf8 fu r2 r9 s0 (w64 (s4+(1:Int))) s8 s9 m32_0 m32_1 m33_0 m33_1 m34 else qf8 fu r2 r9 s0 s4 s8 s9 m32_0 m32_1 m33_0 m33_1 m34
def qm9 (fu:Nat) (r2:qsg) (r9:q3e):zrc:=fun s0 s4 s8 s9 m32_0 m32_1 m33_0 m33_1 m34=>(idx s0 s4).bind fun c1=>bif c1==(92:UInt8) then qee fu r2 r9 s0 s4 s8 s9 (decide ((w64 (s4+(1:Int)))<(List.length s0:Int))) m32_0 m32_1 m33_0 m33_1 m34 else qee fu r2 r9 s0 s4 s8 s9 false m32_0 m32_1 m33_0 m33_1 m34
def qc2 (fu:Nat) (r2:qsg):zsq:=fun s0 s4 s8 s9 m32_0 m32_1 m33_0 m33_1 m34=>(qs9 fu s8 s9).bind fun x1=>bif !x1.2 then some ((([]:Bs),(([]:Bs),[])),false) else bif decide (List.length (m34++([x1.1]:List (Bs×Bs×Int×Bool)))<=qaq) then (qlp fu s0 s4).bind fun x2=>r2 s0 x2 m32_0 m32_1 m33_0 m33_1 (m34++([x1.1]:List (Bs×Bs×Int×Bool))) else none
def qef (fu:Nat) (r2:qsg) (r9:q3e):zp2:=fun s0 s4 s8 s9 s129 m32_0 m32_1 m33_0 m33_1 m34=>bif s129 then qm9 fu r2 r9 s0 s4 s8 s9 m32_0 m32_1 m33_0 m33_1 m34 else bif s4==(List.length s0:Int) then some ((([]:Bs),(([]:Bs),[])),false) else qc2 fu r2 s0 (w64 (s4+(1:Int))) s8 s9 m32_0 m32_1 m33_0 m33_1 m34
def qkz (fu:Nat) (r2:qsg) (r9:q3e):q3e:=fun s0 s4 s8 s9 m32_0 m32_1 m33_0 m33_1 m34=>bif decide (s4<(List.length s0:Int)) then (idx s0 s4).bind fun c1=>qef fu r2 r9 s0 s4 s8 s9 (c1 != (34:UInt8)) m32_0 m32_1 m33_0 m33_1 m34 else qef fu r2 r9 s0 s4 s8 s9 false m32_0 m32_1 m33_0 m33_1 m34
def qcn (fu:Nat) (r2:qsg):Nat->q3e|0=>fun _ _ _ _ _ _ _ _ _=>none|n+1=>qkz fu r2 (qcn fu r2 n)
def qhz (fu:Nat) (r2:qsg):zua:=fun s0 s4 s8 s9 s117 m32_0 m32_1 m33_0 m33_1 m34=>bif s117 then qcn fu r2 fu s0 (w64 (s4+(1:Int))) s8 s9 m32_0 m32_1 m33_0 m33_1 m34 else (qxe fu s0 s4 ([37,39,42]:Bs)).bind fun x1=>bif decide (0<=s4/\s4<=x1/\x1<=(List.length s0:Int)) then qc2 fu r2 s0 x1 s8 (List.take (x1.toNat-s4.toNat) (List.drop s4.toNat s0)) m32_0 m32_1 m33_0 m33_1 m34 else none
def qom (fu:Nat) (r2:qsg):zyl:=fun s0 s4 s8 m32_0 m32_1 m33_0 m33_1 m34=>(qlp fu s0 (w64 (s4+(1:Int)))).bind fun x1=>bif decide (x1<(List.length s0:Int)) then (idx s0 x1).bind fun c2=>qhz fu r2 s0 x1 s8 ([]:Bs) (c2==(34:UInt8)) m32_0 m32_1 m33_0 m33_1 m34 else qhz fu r2 s0 x1 s8 ([]:Bs) false m32_0 m32_1 m33_0 m33_1 m34
def qh4 (fu:Nat) (r2:qsg):z15:=fun s0 s4 s8 s102 m32_0 m32_1 m33_0 m33_1 m34=>bif s102 then some ((([]:Bs),(([]:Bs),[])),false) else qom fu r2 s0 s4 s8 m32_0 m32_1 m33_0 m33_1 m34
def qgk (fu:Nat) (r4:qmc) (r6:zcs):zro:=fun s12 s13 s14 m32_0 m32_1 m33_0 m33_1 m34 m35=>r6 s12 s13 (w64 (s14+(1:Int))) m32_0 m32_1 m33_0 m33_1 m34 m35
def qf5 (fu:Nat) (r4:qmc) (r8:zci):ztj:=fun s12 s13 s15 s16 m32_0 m32_1 m33_0 m33_1 m34 m35=>r8 s12 s13 s15 (w64 (s16+(1:Int))) m32_0 m32_1 m33_0 m33_1 m34 m35
def qeb (fu:Nat) (r4:qmc) (r13:qm5) (r17:q2s):ztf:=fun s12 s15 s17 s18 s19 s20 m32_0 m32_1 m33_0 m33_1 m34 m35=>r17 s12 s15 s17 s18 s19 (w64 (s20+(1:Int))) m32_0 m32_1 m33_0 m33_1 m34 m35
def qge (fu:Nat) (r4:qmc) (r13:qm5) (r17:q2s):zqx:=fun s12 s15 s17 s18 s19 s20 s283 m32_0 m32_1 m33_0 m33_1 m34 m35=>bif s283 then qeb fu r4 r13 r17 s12 s15 s17 s18 s20 s20 m32_0 m32_1 m33_0 m33_1 m34 m35 else qeb fu r4 r13 r17 s12 s15 s17 s18 s19 s20 m32_0 m32_1 m33_0 m33_1 m34 m35
def qmt (fu:Nat) (r4:qmc) (r13:qm5):zqz:=fun s12 s15 s17 s18 m32_0 m32_1 m33_0 m33_1 m34 m35=>r13 s12 s15 s17 (w64 (s18+(1:Int))) m32_0 m32_1 m33_0 m33_1 m34 m35
def qec (fu:Nat) (r4:qmc) (r13:qm5):zpz:=fun s12 s15 s17 s18 s21 m32_0 m32_1 m33_0 m33_1 m34 m35=>bif decide (List.length s17+List.length s21<=qad) then qmt fu r4 r13 s12 s15 (s17++s21) s18 m32_0 m32_1 m33_0 m33_1 m34 m35 else none
def qgi (fu:Nat) (r4:qmc) (r13:qm5):zqt:=fun s12 s15 s17 s18 s21 m32_0 m32_1 m33_0 m33_1 m34 m35=>(qpe fu s21).bind fun x1=>qec fu r4 r13 s12 s15 s17 s18 x1 m32_0 m32_1 m33_0 m33_1 m34 m35
def qbc (fu:Nat) (r4:qmc) (r13:qm5):zqj:=fun s12 s15 s17 s18 s21 s310 m32_0 m32_1 m33_0 m33_1 m34 m35=>bif s310 then bif decide (0<=(6:Int)/\(6:Int)<=(List.length s21:Int)) then qgi fu r4 r13 s12 s15 s17 s18 (List.drop (6:Int).toNat s21) m32_0 m32_1 m33_0 m33_1 m34 m35 else none else qgi fu r4 r13 s12 s15 s17 s18 s21 m32_0 m32_1 m33_0 m33_1 m34 m35
def qcy (fu:Nat) (r4:qmc) (r13:qm5) (r17:q2s):q2s:=fun s12 s15 s17 s18 s19 s20 m32_0 m32_1 m33_0 m33_1 m34 m35=>bif decide (s20<(List.length m34:Int)) then bif decide (0<=s12/\s12.toNat<List.length m34) then (m34[s12.toNat]?).bind fun y1=>bif decide (0<=s20/\s20.toNat<List.length m34) then (m34[s20.toNat]?).bind fun y2=>(qdn fu y1.1 y2.1).bind fun x3=>bif x3 then bif decide (0<=s20/\s20.toNat<List.length m34) then (m34[s20.toNat]?).bind fun y4=>qge fu r4 r13 r17 s12 s15 s17 s18 s19 s20 (y4.2.2.1==s18) m32_0 m32_1 m33_0 m33_1 m34 m35 else none else qge fu r4 r13 r17 s12 s15 s17 s18 s19 s20 false m32_0 m32_1 m33_0 m33_1 m34 m35 else none else none else bif decide (s19<(0:Int)) then some ((([]:Bs),(([]:Bs),[])),false) else bif decide (0<=s19/\s19.toNat<List.length m34) then (m34[s19.toNat]?).bind fun y5=>bif decide (0<=s19/\s19.toNat<List.length m34) then (m34[s19.toNat]?).bind fun y6=>bif y6.2.2.2 then bif s18==(0:Int) then bif decide ((6:Int)<=(List.length y5.2.1:Int)) then bif decide (0<=(6:Int)/\(6:Int)<=(List.length y5.2.1:Int)) then (qme fu (List.take (6:Int).toNat y5.2.1)).bind fun x7=>qbc fu r4 r13 s12 s15 s17 s18 y5.2.1 (x7==([117,116,102,56,39,39]:Bs)) m32_0 m32_1 m33_0 m33_1 m34 m35 else none else qbc fu r4 r13 s12 s15 s17 s18 y5.2.1 false m32_0 m32_1 m33_0 m33_1 m34 m35 else qbc fu r4 r13 s12 s15 s17 s18 y5.2.1 false m32_0 m32_1 m33_0 m33_1 m34 m35 else qec fu r4 r13 s12 s15 s17 s18 y5.2.1 m32_0 m32_1 m33_0 m33_1 m34 m35 else none else none
def qas (fu:Nat) (r4:qmc) (r13:qm5):Nat->q2s|0=>fun _ _ _ _ _ _ _ _ _ _ _ _=>none|n+1=>qcy fu r4 r13 (qas fu r4 r13 n)
def qcx (fu:Nat) (r4:qmc) (r13:qm5):qm5:=fun s12 s15 s17 s18 m32_0 m32_1 m33_0 m33_1 m34 m35=>bif decide (s18<s15) then qas fu r4 r13 fu s12 s15 s17 s18 (-1:Int) (0:Int) m32_0 m32_1 m33_0 m33_1 m34 m35 else bif decide (0<=s12/\s12.toNat<List.length m34) then (m34[s12.toNat]?).bind fun y1=>(qq6 fu s17).bind fun x2=>bif decide (List.length (m35++([(y1.1,x2)]:List (Bs×Bs)))<=qaq) then r4 (w64 (s12+(1:Int))) m32_0 m32_1 m33_0 m33_1 m34 (m35++([(y1.1,x2)]:List (Bs×Bs))) else none else none
def qav (fu:Nat) (r4:qmc):Nat->qm5|0=>fun _ _ _ _ _ _ _ _ _ _=>none|n+1=>qcx fu r4 (qav fu r4 n)
def qey (fu:Nat) (r4:qmc) (r8:zci):zci:=fun s12 s13 s15 s16 m32_0 m32_1 m33_0 m33_1 m34 m35=>bif decide (s16<(List.length m34:Int)) then bif decide (0<=s12/\s12.toNat<List.length m34) then (m34[s12.toNat]?).bind fun y1=>bif decide (0<=s16/\s16.toNat<List.length m34) then (m34[s16.toNat]?).bind fun y2=>(qdn fu y1.1 y2.1).bind fun x3=>bif x3 then qf5 fu r4 r8 s12 s13 (w64 (s15+(1:Int))) s16 m32_0 m32_1 m33_0 m33_1 m34 m35 else qf5 fu r4 r8 s12 s13 s15 s16 m32_0 m32_1 m33_0 m33_1 m34 m35 else none else none else bif s13 then r4 (w64 (s12+(1:Int))) m32_0 m32_1 m33_0 m33_1 m34 m35 else bif decide (0<=s12/\s12.toNat<List.length m34) then (m34[s12.toNat]?).bind fun y4=>bif decide (y4.2.2.1<(0:Int)) then bif s15 != (1:Int) then some ((([]:Bs),(([]:Bs),[])),false) else bif decide (0<=s12/\s12.toNat<List.length m34) then (m34[s12.toNat]?).bind fun y5=>bif decide (0<=s12/\s12.toNat<List.length m34) then (m34[s12.toNat]?).bind fun y6=>bif decide (List.length (m35++([(y5.1,y6.2.1)]:List (Bs×Bs)))<=qaq) then r4 (w64 (s12+(1:Int))) m32_0 m32_1 m33_0 m33_1 m34 (m35++([(y5.1,y6.2.1)]:List (Bs×Bs))) else none else none else none else qav fu r4 fu s12 s15 ([]:Bs) (0:Int) m32_0 m32_1 m33_0 m33_1 m34 m35 else none
def qbl (fu:Nat) (r4:qmc):Nat->zci|0=>fun _ _ _ _ _ _ _ _ _ _=>none|n+1=>qey fu r4 (qbl fu r4 n)
def qn2 (fu:Nat) (r4:qmc) (r6:zcs):zcs:=fun s12 s13 s14 m32_0 m32_1 m33_0 m33_1 m34 m35=>bif decide (s14<s12) then bif s13 then qgk fu r4 r6 s12 true s14 m32_0 m32_1 m33_0 m33_1 m34 m35 else bif decide (0<=s12/\s12.toNat<List.length m34) then (m34[s12.toNat]?).bind fun y1=>bif decide (0<=s14/\s14.toNat<List.length m34) then (m34[s14.toNat]?).bind fun y2=>(qdn fu y1.1 y2.1).bind fun x3=>qgk fu r4 r6 s12 x3 s14 m32_0 m32_1 m33_0 m33_1 m34 m35 else none else none else qbl fu r4 fu s12 s13 (0:Int) (0:Int) m32_0 m32_1 m33_0 m33_1 m34 m35
def qhq (fu:Nat) (r4:qmc):Nat->zcs|0=>fun _ _ _ _ _ _ _ _ _=>none|n+1=>qn2 fu r4 (qhq fu r4 n)
def qoh (fu:Nat) (r4:qmc):qmc:=fun s12 m32_0 m32_1 m33_0 m33_1 m34 m35=>bif decide (s12<(List.length m34:Int)) then qhq fu r4 fu s12 false (0:Int) m32_0 m32_1 m33_0 m33_1 m34 m35 else some ((m33_0,(m33_1,m35)),true)
def qa4 (fu:Nat):Nat->qmc|0=>fun _ _ _ _ _ _ _=>none|n+1=>qoh fu (qa4 fu n)
def qof (fu:Nat) (r2:qsg):qsg:=fun s0 s4 m32_0 m32_1 m33_0 m33_1 m34=>bif decide (s4<(List.length s0:Int)) then (idx s0 s4).bind fun c1=>bif c1 != (59:UInt8) then some ((([]:Bs),(([]:Bs),[])),false) else (qlp fu s0 (w64 (s4+(1:Int)))).bind fun x2=>(qxe fu s0 x2 ([42]:Bs)).bind fun x3=>bif decide (0<=x2/\x2<=x3/\x3<=(List.length s0:Int)) then (qlp fu s0 x3).bind fun x4=>bif x4==(List.length s0:Int) then qh4 fu r2 s0 x4 (List.take (x3.toNat-x2.toNat) (List.drop x2.toNat s0)) true m32_0 m32_1 m33_0 m33_1 m34 else (idx s0 x4).bind fun c5=>qh4 fu r2 s0 x4 (List.take (x3.toNat-x2.toNat) (List.drop x2.toNat s0)) (c5 != (61:UInt8)) m32_0 m32_1 m33_0 m33_1 m34 else none else qa4 fu fu (0:Int) m32_0 m32_1 m33_0 m33_1 m34 []
def qew (fu:Nat):Nat->qsg|0=>fun _ _ _ _ _ _ _=>none|n+1=>qof fu (qew fu n)
def qoy (fu:Nat):z29:=fun s0 s4 m32_0 m32_1 m33_0 m33_1=>(qlp fu s0 (w64 (s4+(1:Int)))).bind fun x1=>(qxe fu s0 x1 ([]:Bs)).bind fun x2=>bif decide (0<=x1/\x1<=x2/\x2<=(List.length s0:Int)) then bif (List.take (x2.toNat-x1.toNat) (List.drop x1.toNat s0))==([]:Bs) then some ((([]:Bs),(([]:Bs),[])),false) else (qlp fu s0 x2).bind fun x3=>qew fu fu s0 x3 m32_0 m32_1 m33_0 (List.take (x2.toNat-x1.toNat) (List.drop x1.toNat s0)) [] else none
def qdo (fu:Nat):z2u:=fun s0 s4 s49 m32_0 m32_1 m33_0 m33_1=>bif s49 then some ((([]:Bs),(([]:Bs),[])),false) else qoy fu s0 s4 m32_0 m32_1 m33_0 m33_1
def qls (fu:Nat) (p0:Bs):Option qaj:=(qlp fu p0 (0:Int)).bind fun x1=>(qxe fu p0 x1 ([]:Bs)).bind fun x2=>bif decide (0<=x1/\x1<=x2/\x2<=(List.length p0:Int)) then (qlp fu p0 x2).bind fun x3=>bif (List.take (x2.toNat-x1.toNat) (List.drop x1.toNat p0))==([]:Bs) then qdo fu p0 x3 true ([]:Bs) ([]:Bs) (List.take (x2.toNat-x1.toNat) (List.drop x1.toNat p0)) ([]:Bs) else bif x3==(List.length p0:Int) then qdo fu p0 x3 true ([]:Bs) ([]:Bs) (List.take (x2.toNat-x1.toNat) (List.drop x1.toNat p0)) ([]:Bs) else (idx p0 x3).bind fun c4=>qdo fu p0 x3 (c4 != (47:UInt8)) ([]:Bs) ([]:Bs) (List.take (x2.toNat-x1.toNat) (List.drop x1.toNat p0)) ([]:Bs) else none
abbrev zfs:Type:=Bs->Int->Option Bool
def qoe (fu:Nat) (r0:zfs):zfs:=fun s0 s3=>bif decide (s3<(List.length s0:Int)) then (idx s0 s3).bind fun c1=>(qja fu c1).bind fun x2=>bif !x2 then some false else r0 s0 (w64 (s3+(1:Int))) else (qfa (List.length s0:Int) (1:Int) (60:Int)).bind fun x3=>some x3
def qg5 (fu:Nat):Nat->zfs|0=>fun _ _=>none|n+1=>qoe fu (qg5 fu n)
def qgs (fu:Nat) (p0:Bs):Option Bool:=qg5 fu fu p0 (0:Int)
abbrev zf5:Type:=Bs->Int->Option Bool
def qu4 (fu:Nat) (r0:zf5):zf5:=fun s0 s3=>bif decide (s3<(List.length s0:Int)) then (qwj fu s0 s3).bind fun x1=>bif decide (x1.1<(0:Int)) then some false else r0 s0 (w64 (s3+x1.2)) else some true
def qmu (fu:Nat):Nat->zf5|0=>fun _ _=>none|n+1=>qu4 fu (qmu fu n)
def qt2 (fu:Nat) (p0:Bs):Option Bool:=qmu fu fu p0 (0:Int)
abbrev zgq:Type:=Int->Int->(Bs×Bs×wV)->(Int×Int)->(Bs×Bs)->Option ((Int×Int))
abbrev z1o:Type:=Int->(Bs×Bs×wV)->(Int×Int)->(Bs×Bs)->Option ((Int×Int))
abbrev zyu:Type:=Int->Bool->(Bs×Bs×wV)->(Int×Int)->(Bs×Bs)->Option ((Int×Int))
abbrev q07:Type:=Int->(Bs×Bs×wV)->(Int×Int)->Option ((Int×Int))
abbrev z0b:Type:=(Bs×Bs×wV)->(Int×Int)->Option ((Int×Int))
abbrev zzm:Type:=Bool->(Bs×Bs×wV)->(Int×Int)->Option ((Int×Int))
def qmr (fu:Nat) (r2:q07) (r5:zgq):zgq:=fun s3 s5 m32 m33 m34=>bif decide (s5<s3) then (idx m32.2.2 s5).bind fun y1=>(qdn fu y1.1 m34.1).bind fun x2=>bif x2 then (qg6 (7:Int) s3).bind fun x3=>some x3 else r5 s3 (w64 (s5+(1:Int))) m32 m33 m34 else bif decide ((500:Int)<(List.length m34.2:Int)) then (qg6 (1:Int) s3).bind fun x4=>some x4 else (qt2 fu m34.2).bind fun x5=>bif !x5 then (qg6 (5:Int) s3).bind fun x6=>some x6 else r2 (w64 (s3+(1:Int))) m32 m33
def qgl (fu:Nat) (r2:q07):Nat->zgq|0=>fun _ _ _ _ _=>none|n+1=>qmr fu r2 (qgl fu r2 n)
def qmp (fu:Nat) (r2:q07):z1o:=fun s3 m32 m33 m34=>qgl fu r2 fu s3 (0:Int) m32 m33 m34
def qc5 (fu:Nat) (r2:q07):zyu:=fun s3 s43 m32 m33 m34=>bif s43 then (qg6 (10:Int) s3).bind fun x1=>some x1 else qmp fu r2 s3 m32 m33 m34
def qnf (fu:Nat) (r2:q07):q07:=fun s3 m32 m33=>bif decide (s3<(List.length m32.2.2:Int)) then (idx m32.2.2 s3).bind fun y1=>(qgs fu y1.1).bind fun x2=>bif !x2 then qc5 fu r2 s3 true m32 m33 y1 else qc5 fu r2 s3 (decide ((20:Int)<(List.length y1.1:Int))) m32 m33 y1 else some ((0:Int),(0:Int))
def qcz (fu:Nat):Nat->q07|0=>fun _ _ _=>none|n+1=>qnf fu (qcz fu n)
def qne (fu:Nat):z0b:=fun m32 m33=>bif decide ((60:Int)<(List.length m32.2.2:Int)) then (qg6 (2:Int) (-3:Int)).bind fun x1=>some x1 else qcz fu fu (0:Int) m32 m33
def qea (fu:Nat):zzm:=fun s15 m32 m33=>bif s15 then (qg6 (10:Int) (-2:Int)).bind fun x1=>some x1 else qne fu m32 m33
def qmq (fu:Nat) (p0:Bs×Bs×wV):Option ((Int×Int)):=(qgs fu p0.1).bind fun x1=>bif !x1 then qea fu true p0 ((0:Int),(0:Int)) else (qgs fu p0.2.1).bind fun x2=>qea fu (!x2) p0 ((0:Int),(0:Int))
abbrev qxx:Type:=(Bs×Bs×wV)×Bool
abbrev z3c:Type:=Bs->Bs->(List Bs)->Option qxx
abbrev zvd:Type:=Bool->Bs->Bs->(List Bs)->Option qxx
def qtj (fu:Nat):z3c:=fun m32_0 m32_1 m33=>bif decide (0<=(0:Int)/\(0:Int).toNat<List.length m33) then (m33[(0:Int).toNat]?).bind fun y1=>(qls fu y1).bind fun x2=>bif !x2.2 then some ((([]:Bs),(([]:Bs),[])),false) else (qmq fu x2.1).bind fun x3=>bif x3.1 != (0:Int) then some ((([]:Bs),(([]:Bs),[])),false) else some (x2.1,true) else none
def qpr (fu:Nat):zvd:=fun s18 m32_0 m32_1 m33=>bif s18 then some ((([]:Bs),(([]:Bs),[])),false) else qtj fu m32_0 m32_1 m33
def qsj (fu:Nat) (p0:List (Bs×Bs)):Option qxx:=(qrm fu p0 ([99,111,110,116,101,110,116,45,116,121,112,101]:Bs)).bind fun x1=>bif (List.length x1:Int) != (1:Int) then qpr fu true ([]:Bs) ([]:Bs) x1 else bif decide (0<=(0:Int)/\(0:Int).toNat<List.length x1) then (x1[(0:Int).toNat]?).bind fun y2=>qpr fu (decide ((4000:Int)<(List.length y2:Int))) ([]:Bs) ([]:Bs) x1 else none
abbrev zhf:Type:=Bs->Int->(Bs×Bs×wV)->Option (Bs×Bool)
def qrx (fu:Nat) (r0:zhf):zhf:=fun s1 s6 m32=>bif decide (s6<(List.length m32.2.2:Int)) then (idx m32.2.2 s6).bind fun y1=>(qdn fu y1.1 s1).bind fun x2=>bif x2 then (idx m32.2.2 s6).bind fun y3=>some (y3.2,true) else r0 s1 (w64 (s6+(1:Int))) m32 else some (([]:Bs),false)
def qko (fu:Nat):Nat->zhf|0=>fun _ _ _=>none|n+1=>qrx fu (qko fu n)
def qs4 (fu:Nat) (p0:Bs×Bs×wV) (p1:Bs):Option (Bs×Bool):=qko fu fu p1 (0:Int) p0
def qt0 (p0:Bs) (p1:Int):Option Bool:=bif decide ((w64 (p1+(1:Int)))<(List.length p0:Int)) then (idx p0 p1).bind fun y1=>bif y1==(13:UInt8) then (idx p0 (w64 (p1+(1:Int)))).bind fun y2=>some (y2==(10:UInt8)) else some false else some false
abbrev zur:Type:=Bs->Int->Int->Bool->(Int×Int)->Option ((Int×Int))
abbrev zb5:Type:=Bs->Int->Int->(Int×Int)->Option ((Int×Int))
def qkw (fu:Nat) (r0:zb5):zur:=fun s0 s3 s4 s29 m32=>bif s29 then (qg6 (11:Int) (-5:Int)).bind fun x1=>some x1 else bif decide ((998:Int)<=(w64 (s4-s3))) then (qg6 (1:Int) (-6:Int)).bind fun x2=>some x2 else r0 s0 s3 (w64 (s4+(1:Int))) m32
def qo0 (fu:Nat) (r0:zb5):zb5:=fun s0 s3 s4 m32=>bif decide (s4<(List.length s0:Int)) then (qt0 s0 s4).bind fun x1=>bif x1 then r0 s0 (w64 ((w64 (s4+(1:Int)))+(1:Int))) (w64 ((w64 (s4+(1:Int)))+(1:Int))) m32 else (idx s0 s4).bind fun y2=>bif y2==(13:UInt8) then qkw fu r0 s0 s3 s4 true m32 else (idx s0 s4).bind fun y3=>qkw fu r0 s0 s3 s4 (y3==(10:UInt8)) m32 else some ((0:Int),(0:Int))
def qhn (fu:Nat):Nat->zb5|0=>fun _ _ _ _=>none|n+1=>qo0 fu (qhn fu n)
def qtm (fu:Nat) (p0:Bs):Option ((Int×Int)):=qhn fu fu p0 (0:Int) (0:Int) ((0:Int),(0:Int))
abbrev zka:Type:=Bs->Bool->Int->Option (Bs×Bool)
abbrev z3o:Type:=(Bs×Bs×wV)->Option (Bs×Bool)
abbrev zui:Type:=Bool->(Bs×Bs×wV)->Option (Bs×Bool)
def qn0 (fu:Nat) (r2:zka):zka:=fun s6 s7 s8=>bif decide (s8<(List.length s6:Int)) then (idx s6 s8).bind fun c1=>(qfa (c1.toNat:Int) (32:Int) (126:Int)).bind fun x2=>bif !x2 then some (([]:Bs),false) else r2 s6 s7 (w64 (s8+(1:Int))) else bif s7 then (qfa (List.length s6:Int) (1:Int) (60:Int)).bind fun x3=>bif x3 then (idx s6 (w64 ((List.length s6:Int)-(1:Int)))).bind fun c4=>some (s6,c4 != (32:UInt8)) else some (s6,false) else some (s6,false)
def qib (fu:Nat):Nat->zka|0=>fun _ _ _=>none|n+1=>qn0 fu (qib fu n)
def qok (fu:Nat):z3o:=fun m32=>(qs4 fu m32 ([98,111,117,110,100,97,114,121]:Bs)).bind fun x1=>qib fu fu x1.1 x1.2 (0:Int)
def qh8 (fu:Nat):zui:=fun s21 m32=>bif s21 then some (([]:Bs),false) else qok fu m32
def qpc (fu:Nat) (p0:List (Bs×Bs)):Option (Bs×Bool):=(qsj fu p0).bind fun x1=>bif !x1.2 then qh8 fu true x1.1 else (qdn fu x1.1.1 ([109,117,108,116,105,112,97,114,116]:Bs)).bind fun x2=>qh8 fu (!x2) x1.1
abbrev zwj:Type:=Bs->Bs->Int->Option Int
abbrev zuh:Type:=Bs->Bs->Int->Bool->Option Int
abbrev q9j:Type:=Bs->Bs->Int->Option Int
def qqj (fu:Nat) (r0:q9j):zwj:=fun s0 s1 s5=>r0 s0 s1 (w64 (s5-(1:Int)))
def qfw (fu:Nat) (r0:q9j):zuh:=fun s0 s1 s5 s16=>bif s16 then qqj fu r0 s0 s1 s5 else bif decide (0<=s5/\s5<=(List.length s0:Int)) then bif decide (List.length ([45,45]:Bs)+List.length s1<=qad) then bif (List.take s5.toNat s0)==(([45,45]:Bs)++s1) then some (1:Int) else bif decide (0<=s5/\s5<=(List.length s0:Int)) then bif decide (List.length ([45,45]:Bs)+List.length s1<=qad) then bif decide (List.length (([45,45]:Bs)++s1)+List.length ([45,45]:Bs)<=qad) then bif (List.take s5.toNat s0)==((([45,45]:Bs)++s1)++([45,45]:Bs)) then some (2:Int) else some (0:Int) else none else none else none else none else none
def qqk (fu:Nat) (r0:q9j):q9j:=fun s0 s1 s5=>bif decide ((0:Int)<s5) then (idx s0 (w64 (s5-(1:Int)))).bind fun c1=>(qky c1).bind fun x2=>qfw fu r0 s0 s1 s5 x2 else qfw fu r0 s0 s1 s5 false
def qfz (fu:Nat):Nat->q9j|0=>fun _ _ _=>none|n+1=>qqk fu (qfz fu n)
def qu2 (fu:Nat) (p0:Bs) (p1:Bs):Option Int:=qfz fu fu p0 p1 (List.length p0:Int)
abbrev zug:Type:=Bs->Bs->Int->Int->Int->(List Bs)->Option ((List Bs))
abbrev zvh:Type:=Bs->Bs->Int->Int->Int->(List Bs)->Option ((List Bs))
abbrev z0c:Type:=Bs->Bs->Int->Int->(List Bs)->Option ((List Bs))
abbrev z0m:Type:=Bs->Bs->Int->Int->Int->Int->(List Bs)->Option ((List Bs))
abbrev zt7:Type:=Bs->Bs->Int->Int->Int->Int->(List Bs)->Option ((List Bs))
abbrev z2b:Type:=Bs->Bs->Int->Int->Int->Bool->(List Bs)->Option ((List Bs))
abbrev q7x:Type:=Bs->Bs->Int->Int->Int->(List Bs)->Option ((List Bs))
abbrev qvg:Type:=Bs->Bs->Int->Int->(List Bs)->Option ((List Bs))
def qnw (fu:Nat) (r0:qvg) (r1:q7x):zug:=fun s0 s1 s6 s7 s8 m32=>r1 s0 s1 s6 s7 (w64 (s8+(1:Int))) m32
def qez (fu:Nat) (r0:qvg):zvh:=fun s0 s1 s6 s9 s10 m32=>bif s10==(2:Int) then some m32 else r0 s0 s1 s6 s9 m32
def qdq (fu:Nat) (r0:qvg):z0c:=fun s0 s1 s9 s10 m32=>qez fu r0 s0 s1 s9 s9 s10 m32
def qdp (fu:Nat) (r0:qvg):z0m:=fun s0 s1 s6 s9 s10 s11 m32=>bif decide (0<=s6/\s6<=s11/\s11<=(List.length s0:Int)) then bif decide (List.length (m32++([List.take (s11.toNat-s6.toNat) (List.drop s6.toNat s0)]:List Bs))<=qaq) then qdq fu r0 s0 s1 s9 s10 (m32++([List.take (s11.toNat-s6.toNat) (List.drop s6.toNat s0)]:List Bs)) else none else none
def qhm (fu:Nat) (r0:qvg):zt7:=fun s0 s1 s6 s7 s8 s9 m32=>bif decide (0<=s7/\s7<=s8/\s8<=(List.length s0:Int)) then (qu2 fu (List.take (s8.toNat-s7.toNat) (List.drop s7.toNat s0)) s1).bind fun x1=>bif decide ((0:Int)<x1) then bif decide ((0:Int)<=s6) then bif decide ((w64 (s7-(2:Int)))<s6) then qdp fu r0 s0 s1 s6 s9 x1 s6 m32 else qdp fu r0 s0 s1 s6 s9 x1 (w64 (s7-(2:Int))) m32 else qdq fu r0 s0 s1 s9 x1 m32 else qez fu r0 s0 s1 s6 s9 x1 m32 else none
def qhs (fu:Nat) (r0:qvg) (r1:q7x):z2b:=fun s0 s1 s6 s7 s8 s26 m32=>bif s26 then qnw fu r0 r1 s0 s1 s6 s7 s8 m32 else bif s8==(List.length s0:Int) then qhm fu r0 s0 s1 s6 s7 s8 s8 m32 else qhm fu r0 s0 s1 s6 s7 s8 (w64 (s8+(2:Int))) m32
def qn3 (fu:Nat) (r0:qvg) (r1:q7x):q7x:=fun s0 s1 s6 s7 s8 m32=>bif decide (s8<(List.length s0:Int)) then (qt0 s0 s8).bind fun x1=>qhs fu r0 r1 s0 s1 s6 s7 s8 (!x1) m32 else qhs fu r0 r1 s0 s1 s6 s7 s8 false m32
def qha (fu:Nat) (r0:qvg):Nat->q7x|0=>fun _ _ _ _ _ _=>none|n+1=>qn3 fu r0 (qha fu r0 n)
def qol (fu:Nat) (r0:qvg):qvg:=fun s0 s1 s6 s7 m32=>bif decide (s7<(List.length s0:Int)) then qha fu r0 fu s0 s1 s6 s7 s7 m32 else bif decide ((0:Int)<=s6) then bif decide (0<=s6/\s6<=(List.length s0:Int)) then bif decide (List.length (m32++([List.drop s6.toNat s0]:List Bs))<=qaq) then some (m32++([List.drop s6.toNat s0]:List Bs)) else none else none else some m32
def qcr (fu:Nat):Nat->qvg|0=>fun _ _ _ _ _=>none|n+1=>qol fu (qcr fu n)
def qte (fu:Nat) (p0:Bs) (p1:Bs):Option ((List Bs)):=qcr fu fu p0 p1 (-1:Int) (0:Int) []
abbrev zwf:Type:=Bs->Bs->Int->Bool->Option (Bs)
abbrev zbu:Type:=Bs->Bs->Int->Option (Bs)
def qil (fu:Nat) (r0:zbu):zwf:=fun s0 s3 s4 s20=>bif s20 then bif decide (List.length s3+List.length ([92]:Bs)<=qad) then bif decide (0<=s4/\s4<=w64 (s4+(1:Int))/\w64 (s4+(1:Int))<=(List.length s0:Int)) then bif decide (List.length (s3++([92]:Bs))+List.length (List.take ((w64 (s4+(1:Int))).toNat-s4.toNat) (List.drop s4.toNat s0))<=qad) then r0 s0 ((s3++([92]:Bs))++(List.take ((w64 (s4+(1:Int))).toNat-s4.toNat) (List.drop s4.toNat s0))) (w64 (s4+(1:Int))) else none else none else none else bif decide (0<=s4/\s4<=w64 (s4+(1:Int))/\w64 (s4+(1:Int))<=(List.length s0:Int)) then bif decide (List.length s3+List.length (List.take ((w64 (s4+(1:Int))).toNat-s4.toNat) (List.drop s4.toNat s0))<=qad) then r0 s0 (s3++(List.take ((w64 (s4+(1:Int))).toNat-s4.toNat) (List.drop s4.toNat s0))) (w64 (s4+(1:Int))) else none else none
def quz (fu:Nat) (r0:zbu):zbu:=fun s0 s3 s4=>bif decide (s4<(List.length s0:Int)) then (idx s0 s4).bind fun c1=>bif c1==(34:UInt8) then qil fu r0 s0 s3 s4 true else (idx s0 s4).bind fun c2=>qil fu r0 s0 s3 s4 (c2==(92:UInt8)) else bif decide (List.length s3+List.length ([34]:Bs)<=qad) then some (s3++([34]:Bs)) else none
def qin (fu:Nat):Nat->zbu|0=>fun _ _ _=>none|n+1=>quz fu (qin fu n)
def qw9 (fu:Nat) (p0:Bs):Option (Bs):=qin fu fu p0 ([34]:Bs) (0:Int)
def quj (p0:UInt8):Option (Bs):=bif decide (0<=((p0/(16:UInt8)).toNat:Int)/\((p0/(16:UInt8)).toNat:Int)<=(((p0/(16:UInt8))+(1:UInt8)).toNat:Int)/\(((p0/(16:UInt8))+(1:UInt8)).toNat:Int)<=(List.length ([48,49,50,51,52,53,54,55,56,57,65,66,67,68,69,70]:Bs):Int)) then bif decide (0<=((p0%(16:UInt8)).toNat:Int)/\((p0%(16:UInt8)).toNat:Int)<=(((p0%(16:UInt8))+(1:UInt8)).toNat:Int)/\(((p0%(16:UInt8))+(1:UInt8)).toNat:Int)<=(List.length ([48,49,50,51,52,53,54,55,56,57,65,66,67,68,69,70]:Bs):Int)) then bif decide (List.length (List.take ((((p0/(16:UInt8))+(1:UInt8)).toNat:Int).toNat-((p0/(16:UInt8)).toNat:Int).toNat) (List.drop ((p0/(16:UInt8)).toNat:Int).toNat ([48,49,50,51,52,53,54,55,56,57,65,66,67,68,69,70]:Bs)))+List.length (List.take ((((p0%(16:UInt8))+(1:UInt8)).toNat:Int).toNat-((p0%(16:UInt8)).toNat:Int).toNat) (List.drop ((p0%(16:UInt8)).toNat:Int).toNat ([48,49,50,51,52,53,54,55,56,57,65,66,67,68,69,70]:Bs)))<=qad) then some ((List.take ((((p0/(16:UInt8))+(1:UInt8)).toNat:Int).toNat-((p0/(16:UInt8)).toNat:Int).toNat) (List.drop ((p0/(16:UInt8)).toNat:Int).toNat ([48,49,50,51,52,53,54,55,56,57,65,66,67,68,69,70]:Bs)))++(List.take ((((p0%(16:UInt8))+(1:UInt8)).toNat:Int).toNat-((p0%(16:UInt8)).toNat:Int).toNat) (List.drop ((p0%(16:UInt8)).toNat:Int).toNat ([48,49,50,51,52,53,54,55,56,57,65,66,67,68,69,70]:Bs)))) else none else none else none
abbrev zwv:Type:=Bool->Int->(Bs×Bs)->Option (Bs)
abbrev zxd:Type:=Bs->Bs->Int->Int->(Bs×Bs)->Option (Bs)
abbrev zyn:Type:=Bs->Bs->Int->Int->Bs->(Bs×Bs)->Option (Bs)
abbrev zy2:Type:=Bs->Bs->Int->Int->Bs->(Bs×Bs)->Option (Bs)
abbrev q4t:Type:=Bs->Bs->Int->Int->(Bs×Bs)->Option (Bs)
abbrev zck:Type:=Bool->Int->(Bs×Bs)->Option (Bs)
def qg1 (fu:Nat) (r0:zck):zwv:=fun s3 s4 m32=>r0 s3 (w64 (s4+(1:Int))) m32
def qk2 (fu:Nat) (r2:q4t):zxd:=fun s5 s6 s7 s8 m32=>r2 s5 s6 s7 (w64 (s8+(1:Int))) m32
def qhk (fu:Nat) (r2:q4t):zyn:=fun s5 s6 s7 s8 s9 m32=>bif decide (List.length s6+List.length s9<=qad) then qk2 fu r2 s5 (s6++s9) s7 s8 m32 else none
def qhy (fu:Nat) (r2:q4t):zy2:=fun s5 s6 s7 s8 s9 m32=>bif decide ((60:Int)<(w64 ((List.length s6:Int)+(List.length s9:Int)))) then bif decide (List.length s5+List.length ([59,32]:Bs)<=qad) then bif decide (List.length (s5++([59,32]:Bs))+List.length m32.1<=qad) then bif decide (List.length ((s5++([59,32]:Bs))++m32.1)+List.length ([42]:Bs)<=qad) then (qka fu s7).bind fun x1=>bif decide (List.length (((s5++([59,32]:Bs))++m32.1)++([42]:Bs))+List.length x1<=qad) then bif decide (List.length ((((s5++([59,32]:Bs))++m32.1)++([42]:Bs))++x1)+List.length ([42,61]:Bs)<=qad) then bif decide (List.length (((((s5++([59,32]:Bs))++m32.1)++([42]:Bs))++x1)++([42,61]:Bs))+List.length s6<=qad) then qhk fu r2 ((((((s5++([59,32]:Bs))++m32.1)++([42]:Bs))++x1)++([42,61]:Bs))++s6) ([]:Bs) (w64 (s7+(1:Int))) s8 s9 m32 else none else none else none else none else none else none else qhk fu r2 s5 s6 s7 s8 s9 m32
def qoa (fu:Nat) (r2:q4t):q4t:=fun s5 s6 s7 s8 m32=>bif decide (s8<(List.length m32.2:Int)) then (idx m32.2 s8).bind fun c1=>(quj c1).bind fun x2=>bif decide (List.length ([37]:Bs)+List.length x2<=qad) then (idx m32.2 s8).bind fun c3=>(qja fu c3).bind fun x4=>bif x4 then bif decide (0<=s8/\s8<=w64 (s8+(1:Int))/\w64 (s8+(1:Int))<=(List.length m32.2:Int)) then qhy fu r2 s5 s6 s7 s8 (List.take ((w64 (s8+(1:Int))).toNat-s8.toNat) (List.drop s8.toNat m32.2)) m32 else none else qhy fu r2 s5 s6 s7 s8 (([37]:Bs)++x2) m32 else none else bif decide (List.length s5+List.length ([59,32]:Bs)<=qad) then bif decide (List.length (s5++([59,32]:Bs))+List.length m32.1<=qad) then bif decide (List.length ((s5++([59,32]:Bs))++m32.1)+List.length ([42]:Bs)<=qad) then (qka fu s7).bind fun x5=>bif decide (List.length (((s5++([59,32]:Bs))++m32.1)++([42]:Bs))+List.length x5<=qad) then bif decide (List.length ((((s5++([59,32]:Bs))++m32.1)++([42]:Bs))++x5)+List.length ([42,61]:Bs)<=qad) then bif decide (List.length (((((s5++([59,32]:Bs))++m32.1)++([42]:Bs))++x5)++([42,61]:Bs))+List.length s6<=qad) then some ((((((s5++([59,32]:Bs))++m32.1)++([42]:Bs))++x5)++([42,61]:Bs))++s6) else none else none else none else none else none else none
def qe3 (fu:Nat):Nat->q4t|0=>fun _ _ _ _ _=>none|n+1=>qoa fu (qe3 fu n)
def qn7 (fu:Nat) (r0:zck):zck:=fun s3 s4 m32=>bif decide (s4<(List.length m32.2:Int)) then bif s3 then (idx m32.2 s4).bind fun c1=>(qfa (c1.toNat:Int) (32:Int) (126:Int)).bind fun x2=>qg1 fu r0 x2 s4 m32 else qg1 fu r0 false s4 m32 else bif s3 then bif decide (List.length ([59,32]:Bs)+List.length m32.1<=qad) then bif decide (List.length (([59,32]:Bs)++m32.1)+List.length ([61]:Bs)<=qad) then (qw9 fu m32.2).bind fun x3=>bif decide (List.length ((([59,32]:Bs)++m32.1)++([61]:Bs))+List.length x3<=qad) then some (((([59,32]:Bs)++m32.1)++([61]:Bs))++x3) else none else none else none else qe3 fu fu ([]:Bs) ([117,116,102,56,39,39]:Bs) (0:Int) (0:Int) m32
def qh7 (fu:Nat):Nat->zck|0=>fun _ _ _=>none|n+1=>qn7 fu (qh7 fu n)
def qpl (fu:Nat) (p0:Bs×Bs):Option (Bs):=(qgs fu p0.2).bind fun x1=>bif x1 then bif decide (List.length ([59,32]:Bs)+List.length p0.1<=qad) then bif decide (List.length (([59,32]:Bs)++p0.1)+List.length ([61]:Bs)<=qad) then bif decide (List.length ((([59,32]:Bs)++p0.1)++([61]:Bs))+List.length p0.2<=qad) then some (((([59,32]:Bs)++p0.1)++([61]:Bs))++p0.2) else none else none else none else qh7 fu fu (decide ((List.length p0.2:Int)<=(60:Int))) (0:Int) p0
abbrev zjy:Type:=Bs->Int->(Bs×Bs×wV)->Option (Bs)
def qoi (fu:Nat) (r0:zjy):zjy:=fun s3 s4 m32=>bif decide (s4<(List.length m32.2.2:Int)) then (idx m32.2.2 s4).bind fun y1=>(qpl fu y1).bind fun x2=>bif decide (List.length s3+List.length x2<=qad) then r0 (s3++x2) (w64 (s4+(1:Int))) m32 else none else some s3
def qht (fu:Nat):Nat->zjy|0=>fun _ _ _=>none|n+1=>qoi fu (qht fu n)
def qpm (fu:Nat) (p0:Bs×Bs×wV):Option (Bs):=bif decide (List.length p0.1+List.length ([47]:Bs)<=qad) then bif decide (List.length (p0.1++([47]:Bs))+List.length p0.2.1<=qad) then qht fu fu ((p0.1++([47]:Bs))++p0.2.1) (0:Int) p0 else none else none
abbrev zyi:Type:=Option Int
abbrev zyp:Type:=Bool->Option Int
abbrev zwn:Type:=wU->(Bs×Bs×wV)->Option Int
abbrev zzx:Type:=Bool->wU->(Bs×Bs×wV)->Option Int
def qvi (fu:Nat):zyi:=some (0:Int)
def qi5 (fu:Nat):zyp:=fun s72=>bif s72 then some (5:Int) else qvi fu
def qqx (fu:Nat):zwn:=fun m32 m33=>(qpm fu m33).bind fun x1=>bif decide ((2000:Int)<(List.length x1:Int)) then qi5 fu true else (qrm fu m32.val.1 ([99,111,110,116,101,110,116,45,116,121,112,101]:Bs)).bind fun x2=>bif decide (0<=(0:Int)/\(0:Int).toNat<List.length x2) then (x2[(0:Int).toNat]?).bind fun y3=>qi5 fu (!(y3==x1)) else none
def qbi (fu:Nat):zzx:=fun s58 m32 m33=>bif s58 then some (5:Int) else qqx fu (Tree.node m32.val m32.kids) m33
def qq5 (fu:Nat) (p0:Tree (wV×Bs)) (p1:Int):Option Int:=(ql0 fu p0.val.1).bind fun x1=>bif x1.1 != (0:Int) then some x1.1 else bif decide ((0:Int)<(List.length p0.kids:Int)) then (qsj fu p0.val.1).bind fun x2=>(qs4 fu x2.1 ([98,111,117,110,100,97,114,121]:Bs)).bind fun x3=>bif !x2.2 then qbi fu true (Tree.node p0.val p0.kids) x2.1 else bif x3.2 then qbi fu true (Tree.node p0.val p0.kids) x2.1 else (qdn fu x2.1.1 ([109,117,108,116,105,112,97,114,116]:Bs)).bind fun x4=>bif !x4 then qbi fu true (Tree.node p0.val p0.kids) x2.1 else bif decide ((0:Int)<(List.length p0.val.2:Int)) then qbi fu true (Tree.node p0.val p0.kids) x2.1 else qbi fu (decide ((60:Int)<=(List.length x2.1.2.2:Int))) (Tree.node p0.val p0.kids) x2.1 else bif decide ((12000:Int)<(List.length p0.val.2:Int)) then some (1:Int) else (qtm fu p0.val.2).bind fun x5=>bif x5.1 != (0:Int) then some x5.1 else (qpc fu p0.val.1).bind fun x6=>bif x6.2 then bif decide (p1<(8:Int)) then (qte fu p0.val.2 x6.1).bind fun x7=>bif decide ((0:Int)<(List.length x7:Int)) then some (5:Int) else some (0:Int) else some (0:Int) else some (0:Int)
abbrev zfe:Type:=(List wU)->(List Int)->Int->(Int×Int)->Option ((Int×Int))
abbrev zfp:Type:=(List wU)->(List Int)->Int->(Int×Int)->Option ((Int×Int))
def qod (fu:Nat) (r1:zfe):zfe:=fun s3 s4 s6 m32=>bif decide (s6<(List.length s3:Int)) then (idx s3 s6).bind fun y1=>(idx s4 s6).bind fun y2=>(qq5 fu (Tree.node y1.val y1.kids) y2).bind fun x3=>bif x3 != (0:Int) then (qg6 x3 s6).bind fun x4=>some x4 else r1 s3 s4 (w64 (s6+(1:Int))) m32 else some ((0:Int),(0:Int))
def qhr (fu:Nat):Nat->zfe|0=>fun _ _ _ _=>none|n+1=>qod fu (qhr fu n)
def qou (fu:Nat) (r0:zfp):zfp:=fun s3 s4 s5 m32=>bif decide (s5<(List.length s3:Int)) then (idx s4 s5).bind fun y1=>bif decide ((8:Int)<y1) then (qg6 (2:Int) (-2:Int)).bind fun x2=>some x2 else r0 s3 s4 (w64 (s5+(1:Int))) m32 else qhr fu fu s3 s4 (0:Int) m32
def qh0 (fu:Nat):Nat->zfp|0=>fun _ _ _ _=>none|n+1=>qou fu (qh0 fu n)
def qlr (fu:Nat) (p0:Tree (wV×Bs)):Option ((Int×Int)):=(q7u fu (Tree.node p0.val p0.kids) (0:Int)).bind fun x1=>bif decide ((40:Int)<(List.length x1.1:Int)) then (qg6 (2:Int) (-1:Int)).bind fun x2=>some x2 else qh0 fu fu x1.1 x1.2 (0:Int) ((0:Int),(0:Int))
abbrev qng:Type:=wU×(Int×Int)
abbrev z1s:Type:=Int->Int->(List Int)->Int->Int->Bool->wU->(Int×Int)->Option qng
abbrev zce:Type:=(List Int)->Int->Int->wU->(Int×Int)->Option qng
def qcp (fu:Nat) (r0:zce):z1s:=fun s7 s8 s15 s16 s17 s30 m32 m34=>bif s30 then (qae (3:Int) s7).bind fun x1=>some ((Tree.node ([],[]) []),x1) else (idx m32.kids s8).bind fun y2=>r0 s15 s16 (w64 (s17+(1:Int))) (Tree.node y2.val y2.kids) m34
def qks (fu:Nat) (r0:zce):zce:=fun s15 s16 s17 m32 m34=>bif decide (s17<s16) then (idx s15 s17).bind fun y1=>bif decide (y1<(0:Int)) then qcp fu r0 s17 y1 s15 s16 s17 true (Tree.node m32.val m32.kids) m34 else qcp fu r0 s17 y1 s15 s16 s17 (decide ((List.length m32.kids:Int)<=y1)) (Tree.node m32.val m32.kids) m34 else (qwo fu (Tree.node m32.val m32.kids)).bind fun x2=>(qa1).bind fun x3=>some ((Tree.node x2.val x2.kids),x3)
def qcl (fu:Nat):Nat->zce|0=>fun _ _ _ _ _=>none|n+1=>qks fu (qcl fu n)
def qjv (fu:Nat) (p0:Tree (wV×Bs)) (p1:List Int):Option qng:=(qdd fu (Tree.node p0.val p0.kids)).bind fun x1=>(qak x1).bind fun x2=>bif x2 then some ((Tree.node ([],[]) []),x1) else qcl fu fu p1 (List.length p1:Int) (0:Int) (Tree.node p0.val p0.kids) ((0:Int),(0:Int))
abbrev qpq:Type:=wU×(Int×Int)
abbrev z18:Type:=(List Int)->Int->wU->(Int×Int)->(Int×Int)->Option qpq
abbrev zxg:Type:=(List Int)->Int->Bool->wU->(Int×Int)->(Int×Int)->Option qpq
abbrev q7y:Type:=(List Int)->Int->wU->(Int×Int)->(Int×Int)->Option qpq
def qoz (fu:Nat) (r0:q7y):z18:=fun s1 s7 m32 m34 m35=>(idx s1 s7).bind fun y1=>(qfa y1 (0:Int) (w64 ((List.length m32.kids:Int)-(1:Int)))).bind fun x2=>bif !x2 then (qg6 (3:Int) s7).bind fun x3=>some ((Tree.node ([],[]) []),x3) else (idx s1 s7).bind fun y4=>(idx m32.kids y4).bind fun y5=>r0 s1 (w64 (s7+(1:Int))) (Tree.node y5.val y5.kids) m34 m35
def qev (fu:Nat) (r0:q7y):zxg:=fun s1 s7 s18 m32 m34 m35=>bif s18 then qoz fu r0 s1 s7 (Tree.node m32.val m32.kids) m34 m35 else bif m35.1 != (0:Int) then some ((Tree.node ([],[]) []),m35) else some ((Tree.node m32.val m32.kids),m35)
def qk6 (fu:Nat) (r0:q7y):q7y:=fun s1 s7 m32 m34 m35=>bif decide (s7<(List.length s1:Int)) then qev fu r0 s1 s7 (m35.1==(0:Int)) (Tree.node m32.val m32.kids) m34 m35 else qev fu r0 s1 s7 false (Tree.node m32.val m32.kids) m34 m35
def qeu (fu:Nat):Nat->q7y|0=>fun _ _ _ _ _=>none|n+1=>qk6 fu (qeu fu n)
def qpn (fu:Nat) (p0:Tree (wV×Bs)) (p1:List Int):Option qpq:=(qlr fu (Tree.node p0.val p0.kids)).bind fun x1=>qeu fu fu p1 (0:Int) (Tree.node p0.val p0.kids) ((0:Int),(0:Int)) x1
abbrev zz9:Type:=(List Int)->wU->Option Bool
abbrev zyy:Type:=(List Int)->Bool->wU->Option Bool
def qde (fu:Nat):zz9:=fun s1 m32=>(qjv fu (Tree.node m32.val m32.kids) s1).bind fun x1=>(qpn fu (Tree.node m32.val m32.kids) s1).bind fun x2=>bif ((x1.2.1==x2.2.1)&&((x1.2.2==x2.2.2)&&true)) then (qum fu (Tree.node x1.1.val x1.1.kids) (Tree.node x2.1.val x2.1.kids)).bind fun x3=>some x3 else some false
def qbw (fu:Nat):zyy:=fun s1 s17 m32=>bif s17 then some false else qde fu s1 (Tree.node m32.val m32.kids)
def qa3 (fu:Nat) (p0:Tree (wV×Bs)) (p1:List Int):Option Bool:=(qoj fu).bind fun x1=>bif !x1 then qbw fu p1 true (Tree.node p0.val p0.kids) else (qdd fu (Tree.node p0.val p0.kids)).bind fun x2=>(qlr fu (Tree.node p0.val p0.kids)).bind fun x3=>qbw fu p1 (!((x2.1==x3.1)&&((x2.2==x3.2)&&true))) (Tree.node p0.val p0.kids)
end Go.Sym
namespace Go.Proofs
open Go.Shelf
def Tryz.uniR:Go.Shelf.Ren:=⟨fun|115=>163|129=>212|138=>321|143=>324|165=>243|166=>244|167=>246|169=>247|171=>94|172=>219|185=>131|187=>149|195=>322|196=>137|197=>180|205=>284|217=>216|218=>323|219=>201|224=>165|225=>226|240=>273|241=>274|243=>128|244=>238|245=>239|246=>162|247=>258|253=>164|254=>166|255=>176|259=>173|260=>202|266=>237|267=>227|270=>245|276=>290|277=>291|279=>259|280=>260|281=>261|282=>262|283=>186|284=>187|285=>188|286=>189|287=>282|291=>190|314=>248|316=>283|317=>211|318=>213|319=>214|320=>215|321=>292|322=>293|337=>235|338=>236|n=>n,fun|0=>0|2=>2|3=>3|4=>4|5=>5|9=>9|12=>12|20=>20|21=>21|37=>23|46=>202|51=>179|53=>120|70=>289|72=>291|75=>262|76=>263|80=>268|85=>309|105=>220|119=>215|127=>322|138=>217|139=>218|143=>339|145=>341|146=>230|164=>300|167=>308|168=>311|171=>225|173=>228|175=>326|210=>329|212=>257|213=>258|232=>306|233=>307|n=>n,fun|1=>0|3=>1|4=>2|15=>6|16=>7|17=>3|18=>4|19=>5|n=>n⟩
abbrev Tryz.laysM171_ren:Go.Shelf.Ren:=Tryz.uniR
theorem Tryz.laysM171:Go.Proofs.LaysM.n171 Tryz.prog Tryz.laysM171_ren:={
 mixed:=by kernel_rfl
 f129:=Tryz.func212.trans (congrArg some (by kernel_rfl))
 f171:=Tryz.func94.trans (congrArg some (by kernel_rfl))
 f243:=Tryz.func128.trans (congrArg some (by kernel_rfl))
 f246:=Tryz.func162.trans (congrArg some (by kernel_rfl))
 f283:=Tryz.func186.trans (congrArg some (by kernel_rfl))
 f284:=Tryz.func187.trans (congrArg some (by kernel_rfl))
 f285:=Tryz.func188.trans (congrArg some (by kernel_rfl))
 f286:=Tryz.func189.trans (congrArg some (by kernel_rfl))
 f317:=Tryz.func211.trans (congrArg some (by kernel_rfl))
 f318:=Tryz.func213.trans (congrArg some (by kernel_rfl))
 f319:=Tryz.func214.trans (congrArg some (by kernel_rfl))
 f320:=Tryz.func215.trans (congrArg some (by kernel_rfl))
 f337:=Tryz.func235.trans (congrArg some (by kernel_rfl))
 f338:=Tryz.func236.trans (congrArg some (by kernel_rfl))
 t0:=Tryz.underlying0
 a0:=Tryz.isAgg0
 z0:=Tryz.sizeOf0
 v0:=Tryz.zeroValue0
 t2:=Tryz.underlying2
 a2:=Tryz.isAgg2
 z2:=Tryz.sizeOf2
 v2:=Tryz.zeroValue2
 t3:=Tryz.underlying3
 a3:=Tryz.isAgg3
 z3:=Tryz.sizeOf3
 v3:=Tryz.zeroValue3
 t4:=Tryz.underlying4
 a4:=Tryz.isAgg4
 z4:=Tryz.sizeOf4
 v4:=Tryz.zeroValue4
 t5:=Tryz.underlying5
 a5:=Tryz.isAgg5
 z5:=Tryz.sizeOf5
 v5:=Tryz.zeroValue5
 t9:=Tryz.underlying9
 a9:=Tryz.isAgg9
 z9:=Tryz.sizeOf9
 v9:=Tryz.zeroValue9
 t20:=Tryz.underlying20
 a20:=Tryz.isAgg20
 z20:=Tryz.sizeOf20
 v20:=Tryz.zeroValue20
 t37:=Tryz.underlying23
 a37:=Tryz.isAgg23
 z37:=Tryz.sizeOf23
 v37:=Tryz.zeroValue23
 t46:=Tryz.underlying202
 a46:=Tryz.isAgg202
 z46:=Tryz.sizeOf202
 v46:=Tryz.zeroValue202
 t51:=Tryz.underlying179
 a51:=Tryz.isAgg179
 z51:=Tryz.sizeOf179
 v51:=Tryz.zeroValue179
 t53:=Tryz.underlying120
 a53:=Tryz.isAgg120
 z53:=Tryz.sizeOf120
 v53:=Tryz.zeroValue120
 t171:=Tryz.underlying225
 a171:=Tryz.isAgg225
 z171:=Tryz.sizeOf225
 v171:=Tryz.zeroValue225
 t173:=Tryz.underlying228
 a173:=Tryz.isAgg228
 z173:=Tryz.sizeOf228
 v173:=Tryz.zeroValue228
 t212:=Tryz.underlying257
 a212:=Tryz.isAgg257
 z212:=Tryz.sizeOf257
 v212:=Tryz.zeroValue257
 t213:=Tryz.underlying258
 a213:=Tryz.isAgg258
 z213:=Tryz.sizeOf258
 t232:=Tryz.underlying306
 a232:=Tryz.isAgg306
 z232:=Tryz.sizeOf306
 v232:=Tryz.zeroValue306
 t233:=Tryz.underlying307
 a233:=Tryz.isAgg307
 z233:=Tryz.sizeOf307
 v233:=Tryz.zeroValue307
 g17:=by kernel_rfl
 g18:=by kernel_rfl
 g19:=by kernel_rfl
 i0:=by kernel_rfl
 i2:=by kernel_rfl
 i3:=by kernel_rfl
 i4:=by kernel_rfl
 i5:=by kernel_rfl
 i9:=by kernel_rfl
 i20:=by kernel_rfl
 i37:=by kernel_rfl
 i46:=by kernel_rfl
 i51:=by kernel_rfl
 i53:=by kernel_rfl
 i171:=by kernel_rfl
 i173:=by kernel_rfl
 i212:=by kernel_rfl
 i232:=by kernel_rfl
 i233:=by kernel_rfl
 m17:=by kernel_rfl
 m18:=by kernel_rfl
 m19:=by kernel_rfl }
abbrev Tryz.laysC172_ren:Go.Shelf.Ren:=Tryz.uniR
theorem Tryz.laysC172:Go.Proofs.LaysC.n172 Tryz.prog Tryz.laysC172_ren:={
 mixed:=by kernel_rfl
 f129:=Tryz.func212.trans (congrArg some (by kernel_rfl))
 f171:=Tryz.func94.trans (congrArg some (by kernel_rfl))
 f172:=Tryz.func219.trans (congrArg some (by kernel_rfl))
 f205:=Tryz.func284.trans (congrArg some (by kernel_rfl))
 f243:=Tryz.func128.trans (congrArg some (by kernel_rfl))
 f244:=Tryz.func238.trans (congrArg some (by kernel_rfl))
 f245:=Tryz.func239.trans (congrArg some (by kernel_rfl))
 f246:=Tryz.func162.trans (congrArg some (by kernel_rfl))
 f247:=Tryz.func258.trans (congrArg some (by kernel_rfl))
 f279:=Tryz.func259.trans (congrArg some (by kernel_rfl))
 f280:=Tryz.func260.trans (congrArg some (by kernel_rfl))
 f281:=Tryz.func261.trans (congrArg some (by kernel_rfl))
 f282:=Tryz.func262.trans (congrArg some (by kernel_rfl))
 f283:=Tryz.func186.trans (congrArg some (by kernel_rfl))
 f284:=Tryz.func187.trans (congrArg some (by kernel_rfl))
 f285:=Tryz.func188.trans (congrArg some (by kernel_rfl))
 f286:=Tryz.func189.trans (congrArg some (by kernel_rfl))
 f287:=Tryz.func282.trans (congrArg some (by kernel_rfl))
 f316:=Tryz.func283.trans (congrArg some (by kernel_rfl))
 f317:=Tryz.func211.trans (congrArg some (by kernel_rfl))
 f318:=Tryz.func213.trans (congrArg some (by kernel_rfl))
 f319:=Tryz.func214.trans (congrArg some (by kernel_rfl))
 f320:=Tryz.func215.trans (congrArg some (by kernel_rfl))
 f321:=Tryz.func292.trans (congrArg some (by kernel_rfl))
 f322:=Tryz.func293.trans (congrArg some (by kernel_rfl))
 f337:=Tryz.func235.trans (congrArg some (by kernel_rfl))
 f338:=Tryz.func236.trans (congrArg some (by kernel_rfl))
 t0:=Tryz.underlying0
 a0:=Tryz.isAgg0
 z0:=Tryz.sizeOf0
 v0:=Tryz.zeroValue0
 t2:=Tryz.underlying2
 a2:=Tryz.isAgg2
 z2:=Tryz.sizeOf2
 v2:=Tryz.zeroValue2
 t3:=Tryz.underlying3
 a3:=Tryz.isAgg3
 z3:=Tryz.sizeOf3
 v3:=Tryz.zeroValue3
 t4:=Tryz.underlying4
 a4:=Tryz.isAgg4
 z4:=Tryz.sizeOf4
 v4:=Tryz.zeroValue4
 t5:=Tryz.underlying5
 a5:=Tryz.isAgg5
 z5:=Tryz.sizeOf5
 v5:=Tryz.zeroValue5
 t9:=Tryz.underlying9
 a9:=Tryz.isAgg9
 z9:=Tryz.sizeOf9
 v9:=Tryz.zeroValue9
 t20:=Tryz.underlying20
 a20:=Tryz.isAgg20
 z20:=Tryz.sizeOf20
 v20:=Tryz.zeroValue20
 t21:=Tryz.underlying21
 a21:=Tryz.isAgg21
 z21:=Tryz.sizeOf21
 v21:=Tryz.zeroValue21
 t37:=Tryz.underlying23
 a37:=Tryz.isAgg23
 z37:=Tryz.sizeOf23
 v37:=Tryz.zeroValue23
 t46:=Tryz.underlying202
 a46:=Tryz.isAgg202
 z46:=Tryz.sizeOf202
 v46:=Tryz.zeroValue202
 t51:=Tryz.underlying179
 a51:=Tryz.isAgg179
 z51:=Tryz.sizeOf179
 v51:=Tryz.zeroValue179
 t53:=Tryz.underlying120
 a53:=Tryz.isAgg120
 z53:=Tryz.sizeOf120
 v53:=Tryz.zeroValue120
 t75:=Tryz.underlying262
 a75:=Tryz.isAgg262
 z75:=Tryz.sizeOf262
 v75:=Tryz.zeroValue262
 t76:=Tryz.underlying263
 a76:=Tryz.isAgg263
 z76:=Tryz.sizeOf263
 v76:=Tryz.zeroValue263
 t85:=Tryz.underlying309
 a85:=Tryz.isAgg309
 z85:=Tryz.sizeOf309
 v85:=Tryz.zeroValue309
 t127:=Tryz.underlying322
 a127:=Tryz.isAgg322
 z127:=Tryz.sizeOf322
 v127:=Tryz.zeroValue322
 t143:=Tryz.underlying339
 a143:=Tryz.isAgg339
 z143:=Tryz.sizeOf339
 v143:=Tryz.zeroValue339
 t145:=Tryz.underlying341
 a145:=Tryz.isAgg341
 z145:=Tryz.sizeOf341
 v145:=Tryz.zeroValue341
 t167:=Tryz.underlying308
 a167:=Tryz.isAgg308
 z167:=Tryz.sizeOf308
 v167:=Tryz.zeroValue308
 t168:=Tryz.underlying311
 a168:=Tryz.isAgg311
 z168:=Tryz.sizeOf311
 v168:=Tryz.zeroValue311
 t171:=Tryz.underlying225
 a171:=Tryz.isAgg225
 z171:=Tryz.sizeOf225
 v171:=Tryz.zeroValue225
 t173:=Tryz.underlying228
 a173:=Tryz.isAgg228
 z173:=Tryz.sizeOf228
 v173:=Tryz.zeroValue228
 t175:=Tryz.underlying326
 a175:=Tryz.isAgg326
 z175:=Tryz.sizeOf326
 v175:=Tryz.zeroValue326
 t210:=Tryz.underlying329
 a210:=Tryz.isAgg329
 z210:=Tryz.sizeOf329
 v210:=Tryz.zeroValue329
 t212:=Tryz.underlying257
 a212:=Tryz.isAgg257
 z212:=Tryz.sizeOf257
 v212:=Tryz.zeroValue257
 t213:=Tryz.underlying258
 a213:=Tryz.isAgg258
 z213:=Tryz.sizeOf258
 t232:=Tryz.underlying306
 a232:=Tryz.isAgg306
 z232:=Tryz.sizeOf306
 v232:=Tryz.zeroValue306
 t233:=Tryz.underlying307
 a233:=Tryz.isAgg307
 z233:=Tryz.sizeOf307
 v233:=Tryz.zeroValue307
 g15:=by kernel_rfl
 g16:=by kernel_rfl
 g17:=by kernel_rfl
 g18:=by kernel_rfl
 g19:=by kernel_rfl
 t80:=Tryz.underlying268
 a80:=Tryz.isAgg268
 z80:=Tryz.sizeOf268
 v80:=Tryz.zeroValue268
 i0:=by kernel_rfl
 i2:=by kernel_rfl
 i3:=by kernel_rfl
 i4:=by kernel_rfl
 i5:=by kernel_rfl
 i9:=by kernel_rfl
 i20:=by kernel_rfl
 i21:=by kernel_rfl
 i37:=by kernel_rfl
 i46:=by kernel_rfl
 i51:=by kernel_rfl
 i53:=by kernel_rfl
 i75:=by kernel_rfl
 i76:=by kernel_rfl
 i80:=by kernel_rfl
 i85:=by kernel_rfl
 i127:=by kernel_rfl
 i143:=by kernel_rfl
 i145:=by kernel_rfl
 i167:=by kernel_rfl
 i168:=by kernel_rfl
 i171:=by kernel_rfl
 i173:=by kernel_rfl
 i175:=by kernel_rfl
 i210:=by kernel_rfl
 i212:=by kernel_rfl
 i232:=by kernel_rfl
 i233:=by kernel_rfl
 m15:=by kernel_rfl
 m16:=by kernel_rfl
 m17:=by kernel_rfl
 m18:=by kernel_rfl
 m19:=by kernel_rfl
 c0:=by kernel_rfl
 c2:=by kernel_rfl
 c3:=by kernel_rfl
 c4:=by kernel_rfl
 c5:=by kernel_rfl
 c9:=by kernel_rfl
 c20:=by kernel_rfl
 c21:=by kernel_rfl
 c37:=by kernel_rfl
 c46:=by kernel_rfl
 c51:=by kernel_rfl
 c53:=by kernel_rfl
 c75:=by kernel_rfl
 c76:=by kernel_rfl
 c80:=by kernel_rfl
 c85:=by kernel_rfl
 c127:=by kernel_rfl
 c143:=by kernel_rfl
 c145:=by kernel_rfl
 c167:=by kernel_rfl
 c168:=by kernel_rfl
 c171:=by kernel_rfl
 c173:=by kernel_rfl
 c175:=by kernel_rfl
 c210:=by kernel_rfl
 c212:=by kernel_rfl
 c213:=by kernel_rfl
 c232:=by kernel_rfl
 c233:=by kernel_rfl }
abbrev Tryz.lays185_ren:Go.Shelf.Ren:=Tryz.uniR
theorem Tryz.lays185:Go.Proofs.Lays.n185 Tryz.prog Tryz.lays185_ren:={
 mixed:=by kernel_rfl
 f115:=Tryz.func163.trans (congrArg some (by kernel_rfl))
 f185:=Tryz.func131.trans (congrArg some (by kernel_rfl))
 f187:=Tryz.func149.trans (congrArg some (by kernel_rfl))
 f224:=Tryz.func165.trans (congrArg some (by kernel_rfl))
 f253:=Tryz.func164.trans (congrArg some (by kernel_rfl))
 f254:=Tryz.func166.trans (congrArg some (by kernel_rfl))
 f255:=Tryz.func176.trans (congrArg some (by kernel_rfl))
 f291:=Tryz.func190.trans (congrArg some (by kernel_rfl))
 t0:=Tryz.underlying0
 a0:=Tryz.isAgg0
 z0:=Tryz.sizeOf0
 v0:=Tryz.zeroValue0
 t3:=Tryz.underlying3
 a3:=Tryz.isAgg3
 z3:=Tryz.sizeOf3
 v3:=Tryz.zeroValue3
 t4:=Tryz.underlying4
 a4:=Tryz.isAgg4
 z4:=Tryz.sizeOf4
 v4:=Tryz.zeroValue4
 t5:=Tryz.underlying5
 a5:=Tryz.isAgg5
 z5:=Tryz.sizeOf5
 v5:=Tryz.zeroValue5
 t9:=Tryz.underlying9
 a9:=Tryz.isAgg9
 z9:=Tryz.sizeOf9
 v9:=Tryz.zeroValue9
 t37:=Tryz.underlying23
 a37:=Tryz.isAgg23
 z37:=Tryz.sizeOf23
 v37:=Tryz.zeroValue23
 t46:=Tryz.underlying202
 a46:=Tryz.isAgg202
 z46:=Tryz.sizeOf202
 v46:=Tryz.zeroValue202
 t51:=Tryz.underlying179
 a51:=Tryz.isAgg179
 z51:=Tryz.sizeOf179
 v51:=Tryz.zeroValue179
 t146:=Tryz.underlying230
 a146:=Tryz.isAgg230
 z146:=Tryz.sizeOf230
 v146:=Tryz.zeroValue230
 g1:=by kernel_rfl }
abbrev Tryz.lays138_ren:Go.Shelf.Ren:=Tryz.uniR
theorem Tryz.lays138:Go.Proofs.Lays.n138 Tryz.prog Tryz.lays138_ren:={
 mixed:=by kernel_rfl
 f138:=Tryz.func321.trans (congrArg some (by kernel_rfl))
 f143:=Tryz.func324.trans (congrArg some (by kernel_rfl))
 f195:=Tryz.func322.trans (congrArg some (by kernel_rfl))
 f217:=Tryz.func216.trans (congrArg some (by kernel_rfl))
 f218:=Tryz.func323.trans (congrArg some (by kernel_rfl))
 f219:=Tryz.func201.trans (congrArg some (by kernel_rfl))
 f224:=Tryz.func165.trans (congrArg some (by kernel_rfl))
 f225:=Tryz.func226.trans (congrArg some (by kernel_rfl))
 f266:=Tryz.func237.trans (congrArg some (by kernel_rfl))
 f267:=Tryz.func227.trans (congrArg some (by kernel_rfl))
 f314:=Tryz.func248.trans (congrArg some (by kernel_rfl))
 t0:=Tryz.underlying0
 a0:=Tryz.isAgg0
 z0:=Tryz.sizeOf0
 v0:=Tryz.zeroValue0
 t3:=Tryz.underlying3
 a3:=Tryz.isAgg3
 z3:=Tryz.sizeOf3
 v3:=Tryz.zeroValue3
 t4:=Tryz.underlying4
 a4:=Tryz.isAgg4
 z4:=Tryz.sizeOf4
 v4:=Tryz.zeroValue4
 t5:=Tryz.underlying5
 a5:=Tryz.isAgg5
 z5:=Tryz.sizeOf5
 v5:=Tryz.zeroValue5
 t9:=Tryz.underlying9
 a9:=Tryz.isAgg9
 z9:=Tryz.sizeOf9
 v9:=Tryz.zeroValue9
 t46:=Tryz.underlying202
 a46:=Tryz.isAgg202
 z46:=Tryz.sizeOf202
 v46:=Tryz.zeroValue202
 t51:=Tryz.underlying179
 a51:=Tryz.isAgg179
 z51:=Tryz.sizeOf179
 v51:=Tryz.zeroValue179
 t146:=Tryz.underlying230
 a146:=Tryz.isAgg230
 z146:=Tryz.sizeOf230
 v146:=Tryz.zeroValue230
 g1:=by kernel_rfl }
abbrev Tryz.lays165_ren:Go.Shelf.Ren:=Tryz.uniR
theorem Tryz.lays165:Go.Proofs.Lays.n165 Tryz.prog Tryz.lays165_ren:={
 mixed:=by kernel_rfl
 f165:=Tryz.func243.trans (congrArg some (by kernel_rfl))
 f240:=Tryz.func273.trans (congrArg some (by kernel_rfl))
 f241:=Tryz.func274.trans (congrArg some (by kernel_rfl))
 f276:=Tryz.func290.trans (congrArg some (by kernel_rfl))
 f277:=Tryz.func291.trans (congrArg some (by kernel_rfl))
 t0:=Tryz.underlying0
 a0:=Tryz.isAgg0
 z0:=Tryz.sizeOf0
 v0:=Tryz.zeroValue0
 t3:=Tryz.underlying3
 a3:=Tryz.isAgg3
 z3:=Tryz.sizeOf3
 v3:=Tryz.zeroValue3
 t4:=Tryz.underlying4
 a4:=Tryz.isAgg4
 z4:=Tryz.sizeOf4
 v4:=Tryz.zeroValue4
 t9:=Tryz.underlying9
 a9:=Tryz.isAgg9
 z9:=Tryz.sizeOf9
 v9:=Tryz.zeroValue9
 t20:=Tryz.underlying20
 a20:=Tryz.isAgg20
 z20:=Tryz.sizeOf20
 v20:=Tryz.zeroValue20
 t37:=Tryz.underlying23
 a37:=Tryz.isAgg23
 z37:=Tryz.sizeOf23
 v37:=Tryz.zeroValue23
 t70:=Tryz.underlying289
 a70:=Tryz.isAgg289
 z70:=Tryz.sizeOf289
 v70:=Tryz.zeroValue289
 t72:=Tryz.underlying291
 a72:=Tryz.isAgg291
 z72:=Tryz.sizeOf291
 v72:=Tryz.zeroValue291
 t164:=Tryz.underlying300
 a164:=Tryz.isAgg300
 z164:=Tryz.sizeOf300
 v164:=Tryz.zeroValue300 }
abbrev Tryz.lays169_ren:Go.Shelf.Ren:=Tryz.uniR
theorem Tryz.lays169:Go.Proofs.Lays.n169 Tryz.prog Tryz.lays169_ren:={
 mixed:=by kernel_rfl
 f169:=Tryz.func247.trans (congrArg some (by kernel_rfl))
 t0:=Tryz.underlying0
 a0:=Tryz.isAgg0
 z0:=Tryz.sizeOf0
 v0:=Tryz.zeroValue0
 t3:=Tryz.underlying3
 a3:=Tryz.isAgg3
 z3:=Tryz.sizeOf3
 v3:=Tryz.zeroValue3
 t9:=Tryz.underlying9
 a9:=Tryz.isAgg9
 z9:=Tryz.sizeOf9
 v9:=Tryz.zeroValue9
 t37:=Tryz.underlying23
 a37:=Tryz.isAgg23
 z37:=Tryz.sizeOf23
 v37:=Tryz.zeroValue23
 t70:=Tryz.underlying289
 a70:=Tryz.isAgg289
 z70:=Tryz.sizeOf289
 v70:=Tryz.zeroValue289
 t72:=Tryz.underlying291
 a72:=Tryz.isAgg291
 z72:=Tryz.sizeOf291
 v72:=Tryz.zeroValue291
 t127:=Tryz.underlying322
 a127:=Tryz.isAgg322
 z127:=Tryz.sizeOf322
 v127:=Tryz.zeroValue322 }
abbrev Tryz.lays196_ren:Go.Shelf.Ren:=Tryz.uniR
theorem Tryz.lays196:Go.Proofs.Lays.n196 Tryz.prog Tryz.lays196_ren:={
 mixed:=by kernel_rfl
 f196:=Tryz.func137.trans (congrArg some (by kernel_rfl))
 f259:=Tryz.func173.trans (congrArg some (by kernel_rfl))
 t0:=Tryz.underlying0
 a0:=Tryz.isAgg0
 z0:=Tryz.sizeOf0
 v0:=Tryz.zeroValue0
 t3:=Tryz.underlying3
 a3:=Tryz.isAgg3
 z3:=Tryz.sizeOf3
 v3:=Tryz.zeroValue3
 t4:=Tryz.underlying4
 a4:=Tryz.isAgg4
 z4:=Tryz.sizeOf4
 v4:=Tryz.zeroValue4
 t5:=Tryz.underlying5
 a5:=Tryz.isAgg5
 z5:=Tryz.sizeOf5
 v5:=Tryz.zeroValue5
 t9:=Tryz.underlying9
 a9:=Tryz.isAgg9
 z9:=Tryz.sizeOf9
 v9:=Tryz.zeroValue9
 t12:=Tryz.underlying12
 a12:=Tryz.isAgg12
 z12:=Tryz.sizeOf12
 v12:=Tryz.zeroValue12
 t46:=Tryz.underlying202
 a46:=Tryz.isAgg202
 z46:=Tryz.sizeOf202
 v46:=Tryz.zeroValue202
 t53:=Tryz.underlying120
 a53:=Tryz.isAgg120
 z53:=Tryz.sizeOf120
 v53:=Tryz.zeroValue120
 t119:=Tryz.underlying215
 a119:=Tryz.isAgg215
 z119:=Tryz.sizeOf215
 t138:=Tryz.underlying217
 a138:=Tryz.isAgg217
 z138:=Tryz.sizeOf217
 v138:=Tryz.zeroValue217
 t139:=Tryz.underlying218
 a139:=Tryz.isAgg218
 z139:=Tryz.sizeOf218
 v139:=Tryz.zeroValue218
 g3:=by kernel_rfl
 g4:=by kernel_rfl }
abbrev Tryz.lays197_ren:Go.Shelf.Ren:=Tryz.uniR
theorem Tryz.lays197:Go.Proofs.Lays.n197 Tryz.prog Tryz.lays197_ren:={
 mixed:=by kernel_rfl
 f197:=Tryz.func180.trans (congrArg some (by kernel_rfl))
 f260:=Tryz.func202.trans (congrArg some (by kernel_rfl))
 t0:=Tryz.underlying0
 a0:=Tryz.isAgg0
 z0:=Tryz.sizeOf0
 v0:=Tryz.zeroValue0
 t3:=Tryz.underlying3
 a3:=Tryz.isAgg3
 z3:=Tryz.sizeOf3
 v3:=Tryz.zeroValue3
 t4:=Tryz.underlying4
 a4:=Tryz.isAgg4
 z4:=Tryz.sizeOf4
 v4:=Tryz.zeroValue4
 t5:=Tryz.underlying5
 a5:=Tryz.isAgg5
 z5:=Tryz.sizeOf5
 v5:=Tryz.zeroValue5
 t9:=Tryz.underlying9
 a9:=Tryz.isAgg9
 z9:=Tryz.sizeOf9
 v9:=Tryz.zeroValue9
 t21:=Tryz.underlying21
 a21:=Tryz.isAgg21
 z21:=Tryz.sizeOf21
 v21:=Tryz.zeroValue21
 t46:=Tryz.underlying202
 a46:=Tryz.isAgg202
 z46:=Tryz.sizeOf202
 v46:=Tryz.zeroValue202
 t105:=Tryz.underlying220
 a105:=Tryz.isAgg220
 z105:=Tryz.sizeOf220
 v105:=Tryz.zeroValue220
 t119:=Tryz.underlying215
 a119:=Tryz.isAgg215
 z119:=Tryz.sizeOf215
 t138:=Tryz.underlying217
 a138:=Tryz.isAgg217
 z138:=Tryz.sizeOf217
 v138:=Tryz.zeroValue217
 t139:=Tryz.underlying218
 a139:=Tryz.isAgg218
 z139:=Tryz.sizeOf218
 v139:=Tryz.zeroValue218
 g3:=by kernel_rfl
 g4:=by kernel_rfl }
def Tryz.sortP_ren:Go.Shelf.Ren:=⟨fun|6=>221|15=>241|14=>240|28=>271|29=>212|20=>263|21=>264|22=>265|23=>266|24=>267|25=>268|26=>269|27=>270|46=>285|47=>286|48=>287|49=>288|50=>289|57=>294|n=>n,fun|22=>207|24=>209|25=>267|3=>3|39=>202|0=>0|53=>179|55=>120|4=>4|46=>316|45=>315|50=>235|5=>5|9=>9|66=>331|70=>335|76=>342|77=>170|n=>n,fun|n=>n⟩
theorem Tryz.sortP:Go.Proofs.SlLaysF0.n6 Tryz.prog Tryz.sortP_ren:={
 mixed:=by kernel_rfl
 f6:=⟨Tryz.f221.name,by decide,Tryz.func221.trans (congrArg some (by kernel_rfl))⟩
 f14:=⟨Tryz.f240.name,by decide,Tryz.func240.trans (congrArg some (by kernel_rfl))⟩
 f15:=Tryz.func241.trans (congrArg some (by kernel_rfl))
 f20:=⟨Tryz.f263.name,by decide,Tryz.func263.trans (congrArg some (by kernel_rfl))⟩
 f21:=⟨Tryz.f264.name,by decide,Tryz.func264.trans (congrArg some (by kernel_rfl))⟩
 f22:=⟨Tryz.f265.name,by decide,Tryz.func265.trans (congrArg some (by kernel_rfl))⟩
 f23:=⟨Tryz.f266.name,by decide,Tryz.func266.trans (congrArg some (by kernel_rfl))⟩
 f24:=⟨Tryz.f267.name,by decide,Tryz.func267.trans (congrArg some (by kernel_rfl))⟩
 f25:=⟨Tryz.f268.name,by decide,Tryz.func268.trans (congrArg some (by kernel_rfl))⟩
 f26:=⟨Tryz.f269.name,by decide,Tryz.func269.trans (congrArg some (by kernel_rfl))⟩
 f27:=⟨Tryz.f270.name,by decide,Tryz.func270.trans (congrArg some (by kernel_rfl))⟩
 f28:=Tryz.func271.trans (congrArg some (by kernel_rfl))
 f29:=Tryz.func212.trans (congrArg some (by kernel_rfl))
 f46:=⟨Tryz.f285.name,by decide,Tryz.func285.trans (congrArg some (by kernel_rfl))⟩
 f47:=Tryz.func286.trans (congrArg some (by kernel_rfl))
 f48:=Tryz.func287.trans (congrArg some (by kernel_rfl))
 f49:=⟨Tryz.f288.name,by decide,Tryz.func288.trans (congrArg some (by kernel_rfl))⟩
 f50:=⟨Tryz.f289.name,by decide,Tryz.func289.trans (congrArg some (by kernel_rfl))⟩
 f57:=⟨Tryz.f294.name,by decide,Tryz.func294.trans (congrArg some (by kernel_rfl))⟩
 t0:=Tryz.underlying0
 a0:=Tryz.isAgg0
 z0:=Tryz.sizeOf0
 v0:=Tryz.zeroValue0
 t3:=Tryz.underlying3
 a3:=Tryz.isAgg3
 z3:=Tryz.sizeOf3
 v3:=Tryz.zeroValue3
 t4:=Tryz.underlying4
 a4:=Tryz.isAgg4
 z4:=Tryz.sizeOf4
 v4:=Tryz.zeroValue4
 t5:=Tryz.underlying5
 a5:=Tryz.isAgg5
 z5:=Tryz.sizeOf5
 v5:=Tryz.zeroValue5
 t9:=Tryz.underlying9
 a9:=Tryz.isAgg9
 z9:=Tryz.sizeOf9
 v9:=Tryz.zeroValue9
 t22:=Tryz.underlying207
 a22:=Tryz.isAgg207
 z22:=Tryz.sizeOf207
 v22:=Tryz.zeroValue207
 t25:=Tryz.underlying267
 a25:=Tryz.isAgg267
 z25:=Tryz.sizeOf267
 v25:=Tryz.zeroValue267
 t39:=Tryz.underlying202
 a39:=Tryz.isAgg202
 z39:=Tryz.sizeOf202
 v39:=Tryz.zeroValue202
 t45:=Tryz.underlying315
 a45:=Tryz.isAgg315
 z45:=Tryz.sizeOf315
 v45:=Tryz.zeroValue315
 t46:=Tryz.underlying316
 a46:=Tryz.isAgg316
 z46:=Tryz.sizeOf316
 v46:=Tryz.zeroValue316
 t50:=Tryz.underlying235
 a50:=Tryz.isAgg235
 z50:=Tryz.sizeOf235
 v50:=Tryz.zeroValue235
 t53:=Tryz.underlying179
 a53:=Tryz.isAgg179
 z53:=Tryz.sizeOf179
 v53:=Tryz.zeroValue179
 t55:=Tryz.underlying120
 a55:=Tryz.isAgg120
 z55:=Tryz.sizeOf120
 v55:=Tryz.zeroValue120
 t66:=Tryz.underlying331
 a66:=Tryz.isAgg331
 z66:=Tryz.sizeOf331
 v66:=Tryz.zeroValue331
 t70:=Tryz.underlying335
 a70:=Tryz.isAgg335
 z70:=Tryz.sizeOf335
 v70:=Tryz.zeroValue335
 t76:=Tryz.underlying342
 a76:=Tryz.isAgg342
 z76:=Tryz.sizeOf342
 v76:=Tryz.zeroValue342
 t77:=Tryz.underlying170
 a77:=Tryz.isAgg170
 z77:=Tryz.sizeOf170
 v77:=Tryz.zeroValue170 }
end Go.Proofs
namespace Go.Sym
open Go.RowKit
variable [LC]
theorem qbp.data {P:Program} {f:FuncId} {xs:List AV} {r:AV}
  (h:∀ (w:World) (G:Gh) (vs:List Value),Mem G [] w->Reps xs G vs->Calls P f vs.toArray w fun e w'=>∃ v,e = .returned v/\Rep r G v/\qet w w'):qbp P f xs [] r []:=by
 intro w G vs hm hr;refine (h w G vs hm hr).mono ?_;rintro e w' ⟨v,rfl,hv,hs⟩
 refine⟨v,G,rfl,?_,hv⟩;exact (qny hm).extend (new:=[]) (Gh.le.refl G) hs (fun _ _ _ h => .inl h) (fun b o v hv=>by
  have hc:=hm.agree b o v hv;have hlt:=World.block_lt_of_cell? _ _ hc;rw[World.cell?_of_block (w:=w) (hs.block b hlt (fun h=>h))];exact hc) hm.one (fun n bx h=>by cases h) (fun n bx h=>by cases h) (fun n m bx bx' b h=>by cases h)
omit [LC] in
theorem qet.of_below {w w':World} (h:Below w.heap.size w w'):qet w w':=⟨h.os,h.tape,h.output,h.size,fun k hk _=>h.block k hk⟩
omit [LC] in
theorem qet.refl (w:World):qet w w:=⟨rfl,rfl,rfl,wF _,fun _ _ _=>rfl⟩
theorem qbp.fresh {P:Program} {f:FuncId} {xs:List AV} {τ:Ty} {l:List τ.den} {E:TypeId}
  (h:∀ (w:World) (G:Gh) (vs:List Value),Mem G [] w->Reps xs G vs->Calls P f vs.toArray w fun e w'=>∃ ad c us,e = .returned (.slice ad l.length c)/\qrb w' E τ.sz ad l.length c us/\Reps (l.flatMap τ.enc) G.data us/\(∀ b,qho ad=some b->w.heap.size<=b)/\qet w w') :
  qbp P f xs [] (.own 0) [(0,.row τ l E)]:=by
 intro w G vs hm hr;refine (h w G vs hm hr).mono ?_;rintro e w' ⟨ad,c,us,rfl,hrow,hus,hb,hs⟩
 let G':Gh:={ imm:=G.imm,box:=fun _=>none,own:=fun m=>bif Nat.beq m 0 then some (ad,l.length,c) else none }
 have hself:(G'.own 0)=some (ad,l.length,c):=rfl;have hag:∀ b o v,G.imm b o=some v->w'.cell? ⟨b,o,none⟩=some v:=fun b o v hv=>by
  have hc:=hm.agree b o v hv;have hlt:=World.block_lt_of_cell? _ _ hc;rw[World.cell?_of_block (w:=w) (hs.block b hlt (fun h=>h))];exact hc
 have hlt:∀ b o v,G.imm b o=some v->b<w.heap.size:=fun b o v hv=>World.block_lt_of_cell? _ _ (hm.agree b o v hv)
 have hlk:∀ m b,look [(0,Box.row τ l E)] m=some b->m=0/\b = .row τ l E:=fun m b hh=>by
  simp only[look]at hh;cases hb:Nat.beq 0 m
  ·rw[hb]at hh;cases hh
  ·rw[hb]at hh;simp only[qT,qI]at hh;exact⟨(qN hb).symm,hh.symm⟩
 have hat:G'.at 0 (.row τ l E)=qho ad:=by
  simp only[Gh.at,hself];cases ad<;>rfl
 refine⟨.slice ad l.length c,G',rfl,⟨⟨hag,hm.one,fun m b hh => ?_,fun m m' b b' c' h1 h2 _ _ => ?_,LC.mono (fun _ _ _ h=>h) (fun b o v h=>hs.block b (hlt b o v h) fun h=>h) hm.tab⟩,⟨hs.os,hs.tape,hs.output,hs.size,fun k hk _=>hs.block k hk fun h=>h⟩,fun _ _ _ h=>h,fun _ _ _ h => .inl h,fun m b c' h1 h2 => ?_,fun _ _ _ h=>(by cases h),fun _ _ _ h=>(by cases h)⟩,ad,l.length,c,hself,rfl⟩
 ·obtain⟨rfl,rfl⟩:=hlk m b hh;refine qj5.row hself hrow (Reps.data_le (fun _ _ _ h=>h) hus) fun b hb' o => ?_
  cases hq:G.imm b o with
  | none=>rfl
  | some v=>have:=hlt b o v hq;have:=hb b hb';omega
 ·obtain⟨rfl,_⟩:=hlk m b h1;obtain⟨rfl,_⟩:=hlk m' b' h2;rfl
 ·obtain⟨rfl,rfl⟩:=hlk m b h1;rw[hat]at h2;exact .inl (hb c' h2)
theorem zge {P:Program} {G:Gh} {w:World} (hm:Mem G [] w) {τ:Ty} {l:List τ.den} {v:Value} (h:Rep (.sl τ l) G v) :
  ∃ news,(∀ w,(Builtin.lenOf v).run P w = .ok l.length w)/\(∀ w',(∀ k,k<w.heap.size->w'.heap[k]? = w.heap[k]?)->(Builtin.firstCells τ.sz l.length v).run P w' = .ok news.toArray w')/\Reps (l.flatMap τ.enc) G.data news/\∀ u∈news,u.oneCell'=true:=by
 let s:St:={ n:=0,fr:=[],hp:=[],nx:=0,df:=[] }
 have hr:Rel w G.data [] G.data s { tmps:=#[],defers:=[] } w:=
  ⟨⟨[],rfl,rfl⟩,rfl,fun i x h=>(by cases h),fun _ _ _=>⟨rfl,rfl⟩,qny ⟨hm.agree,hm.one,fun _ _ h=>(by cases h),fun _ _ _ _ _ h=>(by cases h),hm.tab⟩⟩
 rcases q8m hr (x := .sl τ l) (v:=v) (flat:=l.flatMap τ.enc) (n:=l.length) h rfl with ⟨b,hb,_⟩|⟨ad,c,us,rfl,h1,h2,h3⟩
 ·cases hb
 ·refine⟨us,fun w=>by simp[Builtin.lenOf],fun w' hw' => ?_,h1,h2⟩
  have hul:us.length=l.length*τ.sz:=by rw[← h1.length,qjx]
  cases ad with
  | none=>
   have:us=[]:=by
    rcases h3 with h3|⟨_,_,h3,_⟩
    ·exact h3
    ·cases h3
   subst this;simp[Builtin.firstCells]
  | some ad=>
   have h3':us=[]\/∃ b o,some ad=some (⟨b,o,none⟩:Addr)/\∀ j u,us[j]? = some u->w'.cell? ⟨b,o+j,none⟩=some u:=by
    rcases h3 with h3|⟨b,o,h4,h5⟩
    ·exact .inl h3
    ·refine .inr ⟨b,o,h4,fun j u hu => ?_⟩
     have hc:=h5 j u hu;rw[World.cell?_of_block (w:=w) (hw' _ (World.block_lt_of_cell? _ _ hc))];exact hc
   have:=qje (P:=P) (w:=w') (ad:=ad) h3';rw[hul]at this;simp[Builtin.firstCells,this]
omit [LC] in
theorem qn5 {P:Program} {ops:Array Oper} {rest:List Oper} {o:Oper} {a:Act} {w:World} {Q:Exit->Act->World->Prop} (hgd:o.guard=none) (s x:Operand) (t:TypeId)
  (ho:o.op = .call { callee := .builtin .append,args:=#[s,x],argTypes:=#[t,t] }) {E:TypeId} {sz:Nat} (ht:P.underlying t=some (.slice E)) (hz:qj3 P E=true) (hsz:qmm P E=some sz) (ht2:q3m P t=true)
  {ad:Option Addr} {n c:Nat} {us:List Value} (hs:a.eval s = .slice ad n c) (hrow:qrb w E sz ad n c us) {v:Value} (hx:a.eval x=v) {m:Nat} {news:List Value}
  (vbt:∀ w,(Builtin.lenOf v).run P w = .ok m w) (hcells:∀ w',w'.heap=w.heap->(Builtin.firstCells sz m v).run P w' = .ok news.toArray w') (hnl:news.length=m*sz) (hn1:∀ v∈news,v.oneCell'=true) (hmax:n+m<=qaq)
  (h:∀ ad' c' w',qrb w' E sz ad' (n+m) c' (us++news)->(qho ad'=qho ad\/∃ g,qho ad'=some g/\w.heap.size<=g)->Bel (fun b=>qho ad=some b) w w'->wpList P ops Q rest (a.put o.dst (.slice ad' (n+m) c')) w'):wpList P ops Q (o::rest) a w:=by
 obtain⟨i,z,hi,hz',z1,z2,z3,z4,zs⟩:=qsi hz hsz;rw[← zs]at hrow hcells hnl h;refine wpList_plain hgd fun _ hK => ?_
 obtain⟨ad',c',w',r1,r2,r3,r4⟩:=q3g (ty:=o.type) ht hi hz' z1 z2 z3 z4 ht2 hrow vbt hcells hnl hn1 hmax;unfold Oper.wp execOp;simp only[ho,resolve,invoke,builtin,Sem.run_bind,Sem.run_pure,Result.andThen_ok,List.map_toArray,List.map_cons,List.map_nil,hs,hx,r1];exact hK _ _ (h ad' c' w' r2 r3 r4)
end Go.Sym
namespace Go.Sym
open Go.Proofs Go.RowKit Go.Sort
variable [LC]
omit [LC] in
theorem qet.below {w w':World} (h:qet w w'):Below w.heap.size w w':=⟨h.os,h.tape,h.output,h.size,fun k hk=>h.block k hk (fun h=>h)⟩
theorem Mem.still {G:Gh} {w w':World} (hm:Mem G [] w) (hs:qet w w'):Mem G [] w':=
 have hlt:∀ b o v,G.imm b o=some v->w'.heap[b]? = w.heap[b]? := fun b o v hv=>hs.block b (World.block_lt_of_cell? _ _ (hm.agree b o v hv)) (fun h=>h)
 ⟨fun b o v hv=>by rw[World.cell?_of_block (w:=w) (hlt b o v hv)];exact hm.agree b o v hv,hm.one,fun n bx h=>(by cases h),fun n m bx bx' b h=>(by cases h),LC.mono (fun _ _ _ h=>h) hlt hm.tab⟩
theorem z2k {G:Gh} {w:World} (hm:Mem G [] w) (hg:LC.glob 3=some ⟨.int .u64,Lib.pow10Tab⟩) (hs:(3,20)∈LC.sizes):∃ t fr,w.heap[3]? = some (.cells (Lib.pow10Tab.map fun z=>Value.int .u64 z).toArray t fr):=by
 obtain⟨_,cs,t,fr,hh,hz⟩:=hm.tab.2.2.2 _ hs;refine⟨t,fr,hh.trans ?_⟩;congr 2;apply Array.ext
 ·rw[hz];simp[Lib.pow10Tab]
 ·intro j h1 h2;have hj:j<Lib.pow10Tab.length:=by simpa using h2
  have h3:=hm.agree _ _ _ (hm.tab.1 _ _ _ hg j _ (List.getElem?_eq_getElem hj));rw[show j*(Ty.int .u64).sz=j from Nat.mul_one j]at h3
  simp only[World.cell?,hh]at h3;rw[Array.getElem?_eq_getElem h1]at h3;simp only[List.getElem_toArray,List.getElem_map];exact qJ h3
theorem q4s {G:Gh} {w:World} (hm:Mem G [] w) (hg:LC.glob 3=some ⟨.int .u64,Lib.pow10Tab⟩) (hs:(3,20)∈LC.sizes) (n:Int) (h0 : -9223372036854775808<=n) (h1:n<=9223372036854775807) :
  Calls Tryz.prog 94 #[.int .i64 n] w fun e w'=>e = .returned (.string ⟨(Lib.itoa n).toArray⟩)/\qet w w':=
 (Any.strconv_Itoa Tryz.laysM171 n h0 h1 w (by
  unfold Lib.TabIs World.var?;obtain⟨t,fr,hh⟩:=z2k hm hg hs;rw[show Tryz.prog.globalNamed _=some 3 by kernel_rfl,qB,hh])).mono fun e w' ⟨he,k,os,hw⟩=>⟨he,by
   subst hw;refine⟨rfl,rfl,rfl,by simp[grow],fun j hj _ => ?_⟩
   show (w.heap++os)[j]? = _;rw[Array.getElem?_append_left hj]⟩
def ztn:IF:=⟨.fn 94,[.h (.int .i64)],[],_,RS.mk (.h .str) []⟩
theorem zjs (hg:LC.glob 3=some ⟨.int .u64,Lib.pow10Tab⟩) (hs:(3,20)∈LC.sizes):(ztn.e qdz).Sound Tryz.prog:=fun d d' r h=>by
 have h:qdz d.1=some r:=h;unfold qdz at h;cases hd:decide (-9223372036854775808<=(show Int from d.1)/\(show Int from d.1)<=9223372036854775807)<;>rw[hd]at h<;>simp only[qT,qF,reduceCtorEq]at h
 have h:=qJ h;subst h;have hd:=of_decide_eq_true hd;refine⟨Tryz.call94,qbp.data fun w G vs hm hr => ?_⟩
 match vs,hr with
 | [v],⟨h1,_⟩=>
  have h1:v = .int .i64 d.1:=h1;subst h1;exact (q4s hm hg hs _ hd.1 hd.2).mono fun e w' ⟨he,hw⟩=>⟨_,he,rfl,hw⟩
theorem zbb {G:Gh} {w:World} (hm:Mem G [] w) (hi:0∈LC.ints) {a b:Bs} {u v:Value} (hu:Rep (.sl .byte a) G u) (hv:Rep (.sl .byte b) G v) (h2:2<=b.length) (hb:b.length<=maxLen) (ha:a.length<4294967281) :
  Calls Tryz.prog 131 #[u,v] w fun e w'=>e = .returned (.int .i64 (Lib.index a b))/\qet w w':=by
 obtain⟨p,c,rfl,hc,hp⟩:SlAt 1 (Ty.byte.At G.imm) a u:=hu;obtain⟨q,d,rfl,hd,hq⟩:SlAt 1 (Ty.byte.At G.imm) b v:=hv;by_cases hlt:a.length<b.length
 ·have h:=Any.bytes_Index_longer Tryz.lays185 p q a.length c b.length d w h2 hlt (by unfold maxLen at hb;omega)
  rw[Lib.index_past (i:=0) (by intro e;subst e;simp at h2) (fun j hj=>absurd hj (Nat.not_lt_zero _)) (by simpa using hlt)]
  exact h.mono fun e w' ⟨he,hw⟩=>⟨he,by subst hw;exact qet.refl _⟩
 ·rcases hp with rfl|⟨g,o,rfl,hcells⟩
  ·exact absurd (show ([]:Bs).length<b.length from by show 0<_;omega) hlt
  rcases hq with rfl|⟨g',o',rfl,hcells'⟩
  ·exact absurd h2 (by show ¬ 2<=0;omega)
  obtain⟨k,hk⟩:=hm.tab.2.1 _ hi;have hk:=hm.agree _ _ _ hk;have bb:∀ l:Bs,Lib.bytesOf (l.map fun x=>(x.toNat:Int))=l:=fun l=>by
   unfold Lib.bytesOf;rw[List.map_map];have:((fun n:Int=>UInt8.ofNat n.toNat) ∘ fun x:UInt8=>(x.toNat:Int))=id:=by funext x;simp
   rw[this,List.map_id]
  have cl:∀ (l:Bs) (g o:Nat),(∀ (j:Nat) (x:UInt8),l[j]? = some x->Ty.byte.At G.imm x g (o+j*1))->∀ i,i<l.length->w.cell? ((⟨g,o,none⟩:Addr).add i)=some (.int .u8 ((l.map fun x=>(x.toNat:Int)).getD i 0)):=fun l g o h i hi=>by
   have h1:G.imm g (o+i*1)=some (.int .u8 l[i].toNat):=h i _ (List.getElem?_eq_getElem hi);have h1:=hm.agree _ _ _ h1;rw[Nat.mul_one]at h1;rw[Lib.add_plain',h1];simp[List.getD_eq_getElem?_getD,hi]
  have rg:∀ l:Bs,∀ x∈l.map (fun x=>(x.toNat:Int)),0<=x/\x<256:=fun l x hx=>by
   obtain⟨c,_,rfl⟩:=List.mem_map.1 hx;have:=c.toNat_lt;omega
  have h:=Any.bytes_Index_at Tryz.lays185 ⟨g,o,none⟩ ⟨g',o',none⟩ a.length c b.length d (a.map fun x=>(x.toNat:Int)) (b.map fun x=>(x.toNat:Int)) k w (by simp) (by simp) (rg a) (rg b) (cl a g o hcells) (cl b g' o' hcells') hc ha (by unfold maxLen at hb;omega) hk
  rw[bb,bb]at h;exact h.mono fun e w' ⟨he,n,hw⟩=>⟨he,by subst hw;exact⟨rfl,rfl,rfl,wF _,fun _ _ _=>rfl⟩⟩
def q95:IF:=⟨.fn 131,[.h (.list .byte),.h (.list .byte)],[],_,RS.mk (.h (.int .i64)) []⟩
theorem q9n (hi:0∈LC.ints):(q95.e qeo).Sound Tryz.prog:=fun d d' r h=>by
 obtain⟨a,b,_⟩:=d;have h:qeo a b=some r:=h;unfold qeo at h;cases hd:decide (2<=List.length (α:=UInt8) b/\List.length (α:=UInt8) a<4294967281/\List.length (α:=UInt8) b<=maxLen)<;>rw[hd]at h<;>simp only[qT,qF,reduceCtorEq]at h
 have h:=qJ h;subst h;have hd:=of_decide_eq_true hd;refine⟨Tryz.call131,qbp.data fun w G vs hm hr => ?_⟩
 match vs,hr with
 | [u,v],⟨h1,h2,_⟩=>
  exact (zbb hm hi h1 h2 hd.1 hd.2.2 hd.2.1).mono fun e w' ⟨he,hw⟩=>⟨_,he,rfl,hw⟩
end Go.Sym
namespace Go.Sym
open Go.Proofs Go.RowKit Go.Sort
variable [LC]
omit [LC] in
theorem qet.trans {w w1 w2:World} (h:qet w w1) (k:qet w1 w2):qet w w2:=
 ⟨k.os.trans h.os,k.tape.trans h.tape,k.output.trans h.output,Nat.le_trans h.size k.size,fun j hj _=>(k.block j (Nat.lt_of_lt_of_le hj h.size) (fun h=>h)).trans (h.block j hj (fun h=>h))⟩
omit [LC] in
theorem zet {l:Bs} {v:Int} (h:Lib.atoiAll l = .ok v) : -9223372036854775808<=v/\v<=9223372036854775807:=by
 unfold Lib.atoiAll at h;split at h
 ·cases h
 ·simp only at h;split at h
  ·cases h
  ·cases h
  ·split at h
   ·cases h
   ·split at h
    ·cases h
    ·rename_i h1 h2;injection h with h
     split at h<;>rename_i h3
     ·simp only[h3,not_true_eq_false,false_and,true_and]at h1 h2;omega
     ·simp only[h3,not_false_eq_true,true_and,false_and]at h1 h2;omega
theorem q9f {G:Gh} {w:World} (hm:Mem G [] w) (hg:LC.glob 3=some ⟨.int .u64,Lib.pow10Tab⟩) (hs:(3,20)∈LC.sizes) (h1:6∈LC.ifs) (h2:7∈LC.ifs) (s:Bs) (most:Int) (hl:s.length<=281474976710656) :
  Calls Tryz.prog 195 #[.string ⟨s.toArray⟩,.int .i64 most] w fun e w'=>e = .returned (.tuple #[.int .i64 (numS s most).1,.bool (numS s most).2])/\qet w w':=by
 have hsz:(⟨s.toArray⟩:ByteArray).size=s.length:=qta s;have hd:(⟨s.toArray⟩:ByteArray).data.toList=s:=by simp
 have bw:∀ t:ByteArray,qet w (Lib.bytesWorld w 5 t):=fun t=>by
  refine⟨rfl,rfl,rfl,?_,fun j hj _ => ?_⟩
  ·simp[Lib.bytesWorld,World.freeze]
  ·show ((w.heap.push _).modify w.heap.size _)[j]? = _;rw[Array.getElem?_modify,qW (by omega),Array.getElem?_push_lt (by omega)]
   exact (Array.getElem?_eq_getElem hj).symm
 have bad:(Calls Tryz.prog 219 #[.string ⟨s.toArray⟩] w fun e w'=>(∃ n t v,e = .returned (.tuple #[.int .i64 n,.iface t v]))/\qet w w') ->
   Calls Tryz.prog 195 #[.string ⟨s.toArray⟩,.int .i64 most] w fun e w'=>e = .returned (.tuple #[.int .i64 0,.bool false])/\qet w w':=fun cA=>by
  clear hg hs hm
  go_enter Tryz.func195,Tryz.ntmps195
  go_wp2_with (go_at_call 219;refine cA.mono ?_;rintro e wa ⟨⟨n,t,v,rfl⟩,sa⟩)
  all_goals (clear cA;go_ret2;exact⟨rfl,sa⟩)
 unfold numS
 cases hA:Lib.atoiAll s with
 | ok v=>
  obtain⟨b1,b2⟩:=zet hA;have cA:Calls Tryz.prog 219 #[.string ⟨s.toArray⟩] w fun e w'=>e = .returned (.tuple #[.int .i64 v,.nilIface])/\qet w w':=
   (Any.strconv_Atoi_ok Tryz.laysC172 ⟨s.toArray⟩ (by omega) v (by rw[hd];exact hA) w).mono fun e w' ⟨he,hw⟩=>⟨he,by
    rcases hw with rfl|⟨t,rfl⟩
    ·exact qet.refl _
    ·exact bw t⟩
  have cI:∀ w',qet w w'->Calls Tryz.prog 94 #[.int .i64 v] w' fun e w''=>e = .returned (.string ⟨(Lib.itoa v).toArray⟩)/\qet w' w'':=fun w' h=>q4s (hm.still h) hg hs v b1 b2
  have hse:(⟨(Lib.itoa v).toArray⟩:ByteArray)=⟨s.toArray⟩↔Lib.itoa v=s:=by
   constructor
   ·intro h;have:=congrArg (fun x:ByteArray=>x.data.toList) h;simpa using this
   ·intro h;rw[h]
  show Calls Tryz.prog 195 _ w fun e w'=>e = .returned (.tuple #[.int .i64 (if Lib.itoa v=s/\0<=v/\v<=most then (v,true) else (0,false)).1,.bool (if Lib.itoa v=s/\0<=v/\v<=most then (v,true) else (0,false)).2])/\qet w w'
  generalize Lib.itoa v=t at cI hse ⊢;obtain⟨r,hr⟩:∃ r,r=(if t=s/\0<=v/\v<=most then (v,true) else (0,false)):=⟨_,rfl⟩
  rw[← hr];clear hA hg hs hm
  go_enter Tryz.func195,Tryz.ntmps195
  go_wp2_with (first|(go_at_call 219;refine cA.mono ?_;rintro e wa ⟨rfl,sa⟩)|(go_at_call 94;refine (cI _ (by assumption)).mono ?_;rintro e wb ⟨rfl,sb⟩))
  all_goals (clear cA cI;go_ret2)
  all_goals (by_cases q:t=s/\0<=v/\v<=most)
  all_goals first
   | (rw[qX q]at hr;subst hr;first|exact⟨rfl,sa.trans sb⟩|(exfalso;omega)|(exfalso;exact absurd q.1 (by assumption)))
   | (rw[qW q]at hr;subst hr;first|exact⟨rfl,sa.trans sb⟩|(exfalso;exact q ⟨by assumption,by omega,by omega⟩))
 | range=>
  obtain⟨te,pe,hv⟩:=hm.tab.2.2.1 _ h2;have cA:Calls Tryz.prog 219 #[.string ⟨s.toArray⟩] w fun e w'=>(∃ n t v,e = .returned (.tuple #[.int .i64 n,.iface t v]))/\qet w w':=
   (Any.strconv_Atoi_range Tryz.laysC172 ⟨s.toArray⟩ (by omega) (by rw[hd];exact hA) _ w (hm.agree _ _ _ hv) (.inr ⟨_,_,rfl⟩)).mono fun e w' ⟨N,he,_,_,hw⟩=>⟨⟨_,_,_,he⟩,qet.of_below hw⟩
  exact bad cA
 | _=>
  obtain⟨te,pe,hv⟩:=hm.tab.2.2.1 _ h1;have cA:Calls Tryz.prog 219 #[.string ⟨s.toArray⟩] w fun e w'=>(∃ n t v,e = .returned (.tuple #[.int .i64 n,.iface t v]))/\qet w w':=
   (Any.strconv_Atoi_syntax Tryz.laysC172 ⟨s.toArray⟩ (by omega) (by rw[hd];exact hA) _ w (hm.agree _ _ _ hv) (.inr ⟨_,_,rfl⟩)).mono fun e w' ⟨N,he,_,_,hw⟩=>⟨⟨_,_,_,he⟩,qet.of_below hw⟩
  exact bad cA
def zhw:IF:=⟨.fn 195,[.h .str,.h (.int .i64)],[],_,RS.mk (.tup [.h (.int .i64),.h .bool]) []⟩
theorem zfq (hg:LC.glob 3=some ⟨.int .u64,Lib.pow10Tab⟩) (hs:(3,20)∈LC.sizes) (h1:6∈LC.ifs) (h2:7∈LC.ifs):(zhw.e qgo).Sound Tryz.prog:=fun d d' r h=>by
 obtain⟨s,most,_⟩:=d;have h:qgo s most=some r:=h;unfold qgo at h;cases hd:decide (List.length (α:=UInt8) s<=281474976710656)<;>rw[hd]at h<;>simp only[qT,qF,reduceCtorEq]at h
 have h:=qJ h;subst h;refine⟨Tryz.call195,qbp.data fun w G vs hm hr => ?_⟩
 match vs,hr with
 | [u,v],⟨e1,e2,_⟩=>
  have e1:u = .string ⟨List.toArray s⟩:=e1;have e2:v = .int .i64 most:=e2;subst e1 e2;exact (q9f hm hg hs h1 h2 s most (of_decide_eq_true hd)).mono fun e w' ⟨he,hw⟩=>⟨_,he,⟨_,rfl,rfl,rfl,trivial⟩,hw⟩
end Go.Sym
namespace Go.Sym
open Go.Proofs Go.RowKit
variable [LC]
omit [LC] in
theorem qk4 (w:World) (o:Obj) {k:Nat} (hk:k<w.heap.size):(w.alloc o).heap[k]? = w.heap[k]? := by
 show (w.heap.push _)[k]? = _;rw[Array.getElem?_push_lt hk];exact (Array.getElem?_eq_getElem hk).symm
omit [LC] in
theorem qxs (w:World) (E:TypeId) (sz:Nat):qrb (w.alloc (.cells #[] E)) E sz (some ⟨w.heap.size,0,none⟩) 0 0 []:=
 ⟨by simp,.inr ⟨w.heap.size,#[],(0,0),rfl,by show (w.heap.push _)[w.heap.size]? = _;simp,.inl rfl,wF _,by unfold maxLen;omega,by simp,by simp,by simp⟩⟩
set_option maxRecDepth 100000 in
theorem zeh (l:List (.prod .str .str:Ty).den) (hd:l.length<=qaq):qbp Tryz.prog 38 [.sl (.prod .str .str) l] [] (.own 0) [(0,.row (.prod .str .str) l 50)]:=by
 refine qbp.fresh fun w G vs hm hr => ?_
 match vs,hr with
 | [v],⟨h1,_⟩=>
  obtain⟨news,k1,k2,k3,k4⟩:=zge (P:=Tryz.prog) hm h1;have hnl:news.length=l.length*(.prod .str .str:Ty).sz:=by rw[← k3.length];exact qjx l
  obtain⟨p,c,rfl,hc,hp⟩:SlAt (.prod .str .str:Ty).sz ((.prod .str .str:Ty).At G.imm) l v:=h1
  cases p with
  | none=>
   have hl:l=[]:=by
    rcases hp with h|⟨_,_,h,_⟩
    ·exact h
    ·cases h
   subst hl;have e0:news=[]:=List.eq_nil_of_length_eq_zero (by rw[hnl];exact Nat.zero_mul _)
   subst e0;have hg:Calls Tryz.prog 38 #[.slice none 0 c] w fun e w'=>e = .returned (.slice none 0 0)/\w'=w:=by
    clear hp hr k1 k2 hm hnl hc hd k3 k4;have q22:∀ (w:World) (a:Option Addr) (n c n' c':Nat),(binOp .eql 22 (.slice a n c) (.slice none n' c')).run Tryz.prog w = .ok (.bool a.isNone) w:=fun w a n c n' c'=>Lib.run_eql_slice_nil w _ _ a n c n' c' Tryz.underlying22
    have u22:∀ w,Sem.run Tryz.prog (underlying 22) w = .ok (TypeDesc.slice 50) w:=run_underlying Tryz.underlying22
    go_enter Tryz.func38,Tryz.ntmps38
    go_wp2
    go_ret
    exact⟨rfl,rfl⟩
   exact hg.mono fun e w' ⟨he,hw⟩=>⟨none,0,[],he,⟨rfl,.inl ⟨rfl,rfl,rfl⟩⟩,k3,fun b hb=>(by cases hb),by subst hw;exact qet.refl _⟩
  | some ad=>
   generalize hn:l.length=n at *;have hg:Calls Tryz.prog 38 #[.slice (some ad) n c] w fun e w'=>∃ ad' c',e = .returned (.slice ad' n c')/\qrb w' 50 (.prod .str .str:Ty).sz ad' n c' news/\(∀ b,qho ad'=some b->w.heap.size<=b)/\qet w w':=by
    clear hm k3 hr hp hn;have q22:∀ (w:World) (a:Option Addr) (n c n' c':Nat),(binOp .eql 22 (.slice a n c) (.slice none n' c')).run Tryz.prog w = .ok (.bool a.isNone) w:=fun w a n c n' c'=>Lib.run_eql_slice_nil w _ _ a n c n' c' Tryz.underlying22
    have u22:∀ w,Sem.run Tryz.prog (underlying 22) w = .ok (TypeDesc.slice 50) w:=run_underlying Tryz.underlying22
    go_enter Tryz.func38,Tryz.ntmps38
    go_wp2_with (at_builtin;refine qn5 rfl _ _ 22 rfl (E:=50) (sz:=(.prod .str .str:Ty).sz) (by kernel_rfl) (by kernel_rfl) (by kernel_rfl) (by kernel_rfl) rfl (qxs w 50 _) rfl k1 ?qc hnl k4 (by omega) ?_)
    case qc=>exact fun w' hw'=>k2 w' fun k hk=>by rw[hw'];exact qk4 w _ hk
    intro ad' c' w1 hrow hblk hbel
    go_wp2
    go_ret
    refine⟨ad',c',rfl,by simpa using hrow,fun b hb => ?_,⟨hbel.os,hbel.tape,hbel.output,Nat.le_trans (by show w.heap.size<=(w.heap.push _).size;simp) hbel.size,fun k hk _ => ?_⟩⟩
    ·rcases hblk with h|⟨g,h,hg⟩
     ·rw[h]at hb;injection hb with hb;have hb:w.heap.size=b:=hb;omega
     ·rw[h]at hb;injection hb with hb
      have:w.heap.size<=(w.alloc (.cells #[] 50)).heap.size:=by show w.heap.size<=(w.heap.push _).size;simp
      omega
    ·rw[hbel.block k (by show k<(w.heap.push _).size;simp;omega) (fun e=>by injection e with e;have e:w.heap.size=k:=e;omega)]
     exact qk4 w _ hk
   exact hg.mono fun e w' ⟨ad',c',he,hrow,hb,hs⟩=>⟨ad',c',news,he,hrow,k3,hb,hs⟩
def quk:IF:=⟨.fn 38,[.h (.list (.prod .str .str))],[],_,RS.mk (.own 0) [(0,.row (.prod .str .str) 50)]⟩
theorem qro:(quk.e (qag (α:=(.prod .str .str:Ty).den))).Sound Tryz.prog:=fun d d' r h=>by
 obtain⟨l,_⟩:=d;have h:(bif decide (List.length (α:=(.prod .str .str:Ty).den) l<=qaq) then some (show List (.prod .str .str:Ty).den from l) else none)=some r:=h
 cases hd:decide (List.length (α:=(.prod .str .str:Ty).den) l<=qaq)<;>rw[hd]at h<;>simp only[qT,qF,reduceCtorEq]at h
 have h:=qJ h;subst h;exact⟨Tryz.call38,zeh l (of_decide_eq_true hd)⟩
set_option maxRecDepth 100000 in
theorem zdw (l:List (.byte:Ty).den) (hd:l.length<=qaq):qbp Tryz.prog 39 [.sl (.byte) l] [] (.own 0) [(0,.row (.byte) l 5)]:=by
 refine qbp.fresh fun w G vs hm hr => ?_
 match vs,hr with
 | [v],⟨h1,_⟩=>
  obtain⟨news,k1,k2,k3,k4⟩:=zge (P:=Tryz.prog) hm h1;have hnl:news.length=l.length*(.byte:Ty).sz:=by rw[← k3.length];exact qjx l
  obtain⟨p,c,rfl,hc,hp⟩:SlAt (.byte:Ty).sz ((.byte:Ty).At G.imm) l v:=h1
  cases p with
  | none=>
   have hl:l=[]:=by
    rcases hp with h|⟨_,_,h,_⟩
    ·exact h
    ·cases h
   subst hl;have e0:news=[]:=List.eq_nil_of_length_eq_zero (by rw[hnl];exact Nat.zero_mul _)
   subst e0;have hg:Calls Tryz.prog 39 #[.slice none 0 c] w fun e w'=>e = .returned (.slice none 0 0)/\w'=w:=by
    clear hp hr k1 k2 hm hnl hc hd k3 k4;have q22:∀ (w:World) (a:Option Addr) (n c n' c':Nat),(binOp .eql 23 (.slice a n c) (.slice none n' c')).run Tryz.prog w = .ok (.bool a.isNone) w:=fun w a n c n' c'=>Lib.run_eql_slice_nil w _ _ a n c n' c' Tryz.underlying23
    have u22:∀ w,Sem.run Tryz.prog (underlying 23) w = .ok (TypeDesc.slice 5) w:=run_underlying Tryz.underlying23
    go_enter Tryz.func39,Tryz.ntmps39
    go_wp2
    go_ret
    exact⟨rfl,rfl⟩
   exact hg.mono fun e w' ⟨he,hw⟩=>⟨none,0,[],he,⟨rfl,.inl ⟨rfl,rfl,rfl⟩⟩,k3,fun b hb=>(by cases hb),by subst hw;exact qet.refl _⟩
  | some ad=>
   generalize hn:l.length=n at *;have hg:Calls Tryz.prog 39 #[.slice (some ad) n c] w fun e w'=>∃ ad' c',e = .returned (.slice ad' n c')/\qrb w' 5 (.byte:Ty).sz ad' n c' news/\(∀ b,qho ad'=some b->w.heap.size<=b)/\qet w w':=by
    clear hm k3 hr hp hn;have q22:∀ (w:World) (a:Option Addr) (n c n' c':Nat),(binOp .eql 23 (.slice a n c) (.slice none n' c')).run Tryz.prog w = .ok (.bool a.isNone) w:=fun w a n c n' c'=>Lib.run_eql_slice_nil w _ _ a n c n' c' Tryz.underlying23
    have u22:∀ w,Sem.run Tryz.prog (underlying 23) w = .ok (TypeDesc.slice 5) w:=run_underlying Tryz.underlying23
    go_enter Tryz.func39,Tryz.ntmps39
    go_wp2_with (at_builtin;refine qn5 rfl _ _ 23 rfl (E:=5) (sz:=(.byte:Ty).sz) (by kernel_rfl) (by kernel_rfl) (by kernel_rfl) (by kernel_rfl) rfl (qxs w 5 _) rfl k1 ?qc hnl k4 (by omega) ?_)
    case qc=>exact fun w' hw'=>k2 w' fun k hk=>by rw[hw'];exact qk4 w _ hk
    intro ad' c' w1 hrow hblk hbel
    go_wp2
    go_ret
    refine⟨ad',c',rfl,by simpa using hrow,fun b hb => ?_,⟨hbel.os,hbel.tape,hbel.output,Nat.le_trans (by show w.heap.size<=(w.heap.push _).size;simp) hbel.size,fun k hk _ => ?_⟩⟩
    ·rcases hblk with h|⟨g,h,hg⟩
     ·rw[h]at hb;injection hb with hb;have hb:w.heap.size=b:=hb;omega
     ·rw[h]at hb;injection hb with hb
      have:w.heap.size<=(w.alloc (.cells #[] 5)).heap.size:=by show w.heap.size<=(w.heap.push _).size;simp
      omega
    ·rw[hbel.block k (by show k<(w.heap.push _).size;simp;omega) (fun e=>by injection e with e;have e:w.heap.size=k:=e;omega)]
     exact qk4 w _ hk
   exact hg.mono fun e w' ⟨ad',c',he,hrow,hb,hs⟩=>⟨ad',c',news,he,hrow,k3,hb,hs⟩
def qyu:IF:=⟨.fn 39,[.h (.list (.byte))],[],_,RS.mk (.own 0) [(0,.row (.byte) 5)]⟩
theorem qwx:(qyu.e (qag (α:=(.byte:Ty).den))).Sound Tryz.prog:=fun d d' r h=>by
 obtain⟨l,_⟩:=d;have h:(bif decide (List.length (α:=(.byte:Ty).den) l<=qaq) then some (show List (.byte:Ty).den from l) else none)=some r:=h
 cases hd:decide (List.length (α:=(.byte:Ty).den) l<=qaq)<;>rw[hd]at h<;>simp only[qT,qF,reduceCtorEq]at h
 have h:=qJ h;subst h;exact⟨Tryz.call39,zdw l (of_decide_eq_true hd)⟩
set_option maxRecDepth 100000 in
theorem zey (l:List (.prod .str .str:Ty).den) (hd:l.length<=qaq):qbp Tryz.prog 71 [.sl (.prod .str .str) l] [] (.own 0) [(0,.row (.prod .str .str) l 86)]:=by
 refine qbp.fresh fun w G vs hm hr => ?_
 match vs,hr with
 | [v],⟨h1,_⟩=>
  obtain⟨news,k1,k2,k3,k4⟩:=zge (P:=Tryz.prog) hm h1;have hnl:news.length=l.length*(.prod .str .str:Ty).sz:=by rw[← k3.length];exact qjx l
  obtain⟨p,c,rfl,hc,hp⟩:SlAt (.prod .str .str:Ty).sz ((.prod .str .str:Ty).At G.imm) l v:=h1
  cases p with
  | none=>
   have hl:l=[]:=by
    rcases hp with h|⟨_,_,h,_⟩
    ·exact h
    ·cases h
   subst hl;have e0:news=[]:=List.eq_nil_of_length_eq_zero (by rw[hnl];exact Nat.zero_mul _)
   subst e0;have hg:Calls Tryz.prog 71 #[.slice none 0 c] w fun e w'=>e = .returned (.slice none 0 0)/\w'=w:=by
    clear hp hr k1 k2 hm hnl hc hd k3 k4;have q22:∀ (w:World) (a:Option Addr) (n c n' c':Nat),(binOp .eql 81 (.slice a n c) (.slice none n' c')).run Tryz.prog w = .ok (.bool a.isNone) w:=fun w a n c n' c'=>Lib.run_eql_slice_nil w _ _ a n c n' c' Tryz.underlying81
    have u22:∀ w,Sem.run Tryz.prog (underlying 81) w = .ok (TypeDesc.slice 86) w:=run_underlying Tryz.underlying81
    go_enter Tryz.func71,Tryz.ntmps71
    go_wp2
    go_ret
    exact⟨rfl,rfl⟩
   exact hg.mono fun e w' ⟨he,hw⟩=>⟨none,0,[],he,⟨rfl,.inl ⟨rfl,rfl,rfl⟩⟩,k3,fun b hb=>(by cases hb),by subst hw;exact qet.refl _⟩
  | some ad=>
   generalize hn:l.length=n at *;have hg:Calls Tryz.prog 71 #[.slice (some ad) n c] w fun e w'=>∃ ad' c',e = .returned (.slice ad' n c')/\qrb w' 86 (.prod .str .str:Ty).sz ad' n c' news/\(∀ b,qho ad'=some b->w.heap.size<=b)/\qet w w':=by
    clear hm k3 hr hp hn;have q22:∀ (w:World) (a:Option Addr) (n c n' c':Nat),(binOp .eql 81 (.slice a n c) (.slice none n' c')).run Tryz.prog w = .ok (.bool a.isNone) w:=fun w a n c n' c'=>Lib.run_eql_slice_nil w _ _ a n c n' c' Tryz.underlying81
    have u22:∀ w,Sem.run Tryz.prog (underlying 81) w = .ok (TypeDesc.slice 86) w:=run_underlying Tryz.underlying81
    go_enter Tryz.func71,Tryz.ntmps71
    go_wp2_with (at_builtin;refine qn5 rfl _ _ 81 rfl (E:=86) (sz:=(.prod .str .str:Ty).sz) (by kernel_rfl) (by kernel_rfl) (by kernel_rfl) (by kernel_rfl) rfl (qxs w 86 _) rfl k1 ?qc hnl k4 (by omega) ?_)
    case qc=>exact fun w' hw'=>k2 w' fun k hk=>by rw[hw'];exact qk4 w _ hk
    intro ad' c' w1 hrow hblk hbel
    go_wp2
    go_ret
    refine⟨ad',c',rfl,by simpa using hrow,fun b hb => ?_,⟨hbel.os,hbel.tape,hbel.output,Nat.le_trans (by show w.heap.size<=(w.heap.push _).size;simp) hbel.size,fun k hk _ => ?_⟩⟩
    ·rcases hblk with h|⟨g,h,hg⟩
     ·rw[h]at hb;injection hb with hb;have hb:w.heap.size=b:=hb;omega
     ·rw[h]at hb;injection hb with hb
      have:w.heap.size<=(w.alloc (.cells #[] 86)).heap.size:=by show w.heap.size<=(w.heap.push _).size;simp
      omega
    ·rw[hbel.block k (by show k<(w.heap.push _).size;simp;omega) (fun e=>by injection e with e;have e:w.heap.size=k:=e;omega)]
     exact qk4 w _ hk
   exact hg.mono fun e w' ⟨ad',c',he,hrow,hb,hs⟩=>⟨ad',c',news,he,hrow,k3,hb,hs⟩
def zb4:IF:=⟨.fn 71,[.h (.list (.prod .str .str))],[],_,RS.mk (.own 0) [(0,.row (.prod .str .str) 86)]⟩
theorem zdm:(zb4.e (qag (α:=(.prod .str .str:Ty).den))).Sound Tryz.prog:=fun d d' r h=>by
 obtain⟨l,_⟩:=d;have h:(bif decide (List.length (α:=(.prod .str .str:Ty).den) l<=qaq) then some (show List (.prod .str .str:Ty).den from l) else none)=some r:=h
 cases hd:decide (List.length (α:=(.prod .str .str:Ty).den) l<=qaq)<;>rw[hd]at h<;>simp only[qT,qF,reduceCtorEq]at h
 have h:=qJ h;subst h;exact⟨Tryz.call71,zey l (of_decide_eq_true hd)⟩
end Go.Sym
namespace Go.Sym
open Go.Proofs Go.RowKit Go.Sort
variable [LC]
theorem qbp.inPlaceA {ys:List AV} {P:Program} {f:FuncId} {τ:Ty} {l l':List τ.den} {E:TypeId} (vbt:l'.length=l.length) (h:∀ (w:World) (G:Gh) (ad:Option Addr) (c:Nat) (us vs:List Value),qrb w E τ.sz ad l.length c us->Reps (l.flatMap τ.enc) G.data us->Reps ys G vs ->
  Calls P f (Value.slice ad l.length c::vs).toArray w fun e w'=>e = .returned (.tuple #[])/\∃ us',qrb w' E τ.sz ad l.length c us'/\Reps (l'.flatMap τ.enc) G.data us'/\Bel (fun b=>qho ad=some b) w w') :
  qbp P f (.own 0::ys) [(0,.row τ l E)] (.tup []) [(0,.row τ l' E)]:=by
 intro w G vs hm hreps;have hl:look [(0,Box.row τ l E)] 0=some (.row τ l E):=rfl;obtain⟨ad,c,us,h1,h3,h4,h5⟩:=(hm.holds 0 _ hl).rowAt
 match vs,hreps with
 | v::vs,hreps=>
  obtain⟨⟨a',n',c',q1,rfl⟩,hys⟩:=hreps;rw[h1]at q1;simp only[qI,qP]at q1;obtain⟨rfl,rfl,rfl⟩:=q1;refine (h w G ad c us vs h3 h4 hys).mono ?_;rintro e w' ⟨rfl,us',r1,r2,r3⟩
  refine⟨_,G,rfl,?_,#[],rfl,trivial⟩;have hself:=qny hm;have hbox:qj5 G w' 0 (.row τ l' E):=qj5.row (by rw[vbt];exact h1) (by rw[vbt];exact r1) r2 (fun b hb=>h5 b hb)
  cases had:qho ad with
  | none=>
   have hst:qet w w':=⟨r3.os,r3.tape,r3.output,r3.size,fun k hk _=>r3.block k hk (fun e=>by rw[had]at e;cases e)⟩
   have hf:=hself.extend (new:=[]) (Gh.le.refl G) hst (fun _ _ _ h => .inl h) (fun b o v hv=>by
    have hc:=hm.agree b o v hv;have hlt:=World.block_lt_of_cell? _ _ hc;rw[World.cell?_of_block (w:=w) (hst.block b hlt (fun h=>h))];exact hc) hm.one (fun n bx h=>by cases h) (fun n bx h=>by cases h) (fun n m bx bx' b h=>by cases h)
   have hlk:∀ m b,look [(0,Box.row τ l' E)] m=some b->m=0/\b = .row τ l' E:=fun m b hh=>by
    simp only[look]at hh;cases hb:Nat.beq 0 m
    ·rw[hb]at hh;cases hh
    ·rw[hb]at hh;simp only[qT,qI]at hh;exact⟨(qN hb).symm,hh.symm⟩
   have hat:G.at 0 (.row τ l' E)=none:=by
    simp only[Gh.at,h1]
    cases ad with
    | none=>rfl
    | some a=>cases had
   refine⟨⟨hf.mem.agree,hf.mem.one,fun m b hh => ?_,fun m m' b b' c h1 h2 h3 _ => ?_,hf.mem.tab⟩,hf.bel,hf.imm_le,hf.imm_new,fun m b c h1 h2 => ?_,hf.keep,hf.keepOwn⟩
   ·obtain⟨rfl,rfl⟩:=hlk m b hh;exact hbox
   ·obtain⟨rfl,_⟩:=hlk m b h1;obtain⟨rfl,_⟩:=hlk m' b' h2;rfl
   ·obtain⟨rfl,rfl⟩:=hlk m b h1;rw[hat]at h2;cases h2
  | some B=>
   have hat:∀ l:List τ.den,G.at 0 (.row τ l E)=some B:=fun l=>by
    simp only[Gh.at,h1]
    cases ad with
    | none=>cases had
    | some a=>exact had
   have hf:=hself.update (bx' := .row τ l' E) hl (hat l) (hat l') ⟨r3.os,r3.tape,r3.output,r3.size,fun k hk hne=>r3.block k hk (fun e=>by rw[had]at e;injection e with e;exact hne e.symm)⟩ hbox (h5 B had)
   have hlk:∀ m b,look [(0,Box.row τ l' E)] m=some b->look (q32 [(0,Box.row τ l E)] 0 (.row τ l' E)) m=some b:=fun m b hh=>by
    simp only[look]at hh;simp only[q32,look];cases hb:Nat.beq 0 m
    ·rw[hb]at hh;cases hh
    ·rw[hb]at hh;exact hh
   exact⟨⟨hf.mem.agree,hf.mem.one,fun m b hh=>hf.mem.holds m b (hlk m b hh),fun m m' b b' c h1 h2 h3 h4=>hf.mem.apart m m' b b' c (hlk _ _ h1) (hlk _ _ h2) h3 h4,hf.mem.tab⟩,hf.bel,hf.imm_le,hf.imm_new,fun m b c h1 h2=>hf.base m b c (hlk _ _ h1) h2,hf.keep,hf.keepOwn⟩
 | [],hreps=>exact hreps.elim
omit [LC] in
theorem zjv (w:World) (n g:Nat) (d:Array Value) (os:Array Obj) (k:Nat) (hk:k<w.heap.size) (hne:k≠g):(grow (putRow id (Sort.ahead w n) g 0 d) os).heap[k]? = w.heap[k]? := by
 show ((w.heap.modify g (onCells (putCells id 0 d)))++os)[k]? = _;rw[Array.getElem?_append_left (by simpa using hk),Array.getElem?_modify,qW (by omega)]
omit [LC] in
theorem znl (w:World) (n g:Nat) (d:Array Value) (os:Array Obj) {cur:Array Value} {e:TypeId} {fr:Nat×Nat} (hh:w.heap[g]? = some (.cells cur e fr)) :
  (grow (putRow id (Sort.ahead w n) g 0 d) os).heap[g]? = some (.cells (putCells id 0 d cur) e fr):=by
 have hg:g<w.heap.size:=(Array.getElem?_eq_some_iff.1 hh).1;show ((w.heap.modify g (onCells (putCells id 0 d)))++os)[g]? = _;rw[Array.getElem?_append_left (by simpa using hg),Array.getElem?_modify,qX rfl,hh]
 rfl
omit [LC] in
theorem zgr (zs:List Value) (cur:Array Value) (h:zs.length<=cur.size):(putCells id 0 zs.toArray cur).toList.take zs.length=zs:=by
 apply List.ext_getElem?;intro j;rw[List.getElem?_take];by_cases hj:j<zs.length
 ·rw[qX hj,Array.getElem?_toList];unfold putCells;rw[Array.getElem?_mapIdx,Array.getElem?_eq_getElem (by omega)]
  simp[hj]
 ·rw[qW hj];exact (List.getElem?_eq_none (by omega)).symm
omit [LC] in
theorem zgs (w:World) (n g:Nat) (d:Array Value) (os:Array Obj):w.heap.size<=(grow (putRow id (Sort.ahead w n) g 0 d) os).heap.size:=by
 show w.heap.size<=((w.heap.modify g (onCells (putCells id 0 d)))++os).size;simp
omit [LC] in
theorem zdn (zs:List Value) (cur:Array Value) (v:Value) (hv:v∈(putCells id 0 zs.toArray cur).toList):v∈cur.toList\/v∈zs:=by
 unfold putCells at hv;rw[Array.mem_toList_iff,Array.mem_mapIdx]at hv;obtain⟨j,hj,rfl⟩:=hv;split
 ·rename_i hj2;have hj3:j<zs.length:=by simpa using hj2
  refine .inr ?_;simp[hj3]
 ·exact .inl (by simp)
end Go.Sym
namespace Go.Sym
open Go.Proofs Go.RowKit Go.Sort
variable [LC]
omit [LC] in
theorem zcz {α:Type} [Inhabited α] (enc:α->List Value) (k:Nat) (hk:∀ x,(enc x).length=k) (l:List α):flatK enc k l.toArray=(l.flatMap enc).toArray:=by
 have key:∀ (l:List α) (t:Nat),t<l.length*k->(l.flatMap enc)[t]? = some ((enc l[t/k]!)[t%k]!):=by
  intro l
  induction l with
  | nil=>intro t ht;simp at ht
  | cons x l ih=>
   intro t ht;have k0:0<k:=by
    rcases Nat.eq_zero_or_pos k with h|h;· subst h;simp at ht
    ·exact h
   rw[List.flatMap_cons];by_cases h:t<k
   ·rw[List.getElem?_append_left (by rw[hk];exact h),Nat.div_eq_of_lt h,Nat.mod_eq_of_lt h,List.getElem?_eq_getElem (by rw[hk];exact h)]
    simp[hk,h]
   ·rw[List.getElem?_append_right (by rw[hk];omega),hk,ih (t-k) (by rw[qL,Nat.add_mul,Nat.one_mul]at ht;omega)]
    obtain⟨u,rfl⟩:∃ u,t=u+k:=⟨t-k,by omega⟩
    rw[Nat.add_sub_cancel,Nat.add_mod_right,Nat.add_div_right _ k0];simp
 have vbt:(l.flatMap enc).length=l.length*k:=by
  clear key
  induction l with
  | nil=>simp
  | cons x l ih=>rw[List.flatMap_cons,qM,hk,ih,qL,Nat.add_mul,Nat.one_mul,Nat.add_comm]
 refine ext_get! (by simp[vbt]) fun t ht => ?_
 have ht':t<l.length*k:=by simpa using ht
 rw[get_flatK enc k l.toArray t (by simpa using ht')]
 have:=key l t ht';simp only[List.getElem!_toArray];rw[List.getElem!_eq_getElem?_getD (l:=l.flatMap enc),this];rfl
def encQ (x:Pq):List Value:=[.string ⟨x.1.1.toArray⟩,.int .i64 x.1.2.1,.bool x.1.2.2.1,.string ⟨x.1.2.2.2.toArray⟩]
omit [LC] in
theorem swoQ:SWO (ltOf cfQ):=by
 have e:∀ x y:Pq,ltOf cfQ x y=decide (x.1.2.1<y.1.2.1):=fun x y=>by
  have:=x.2;have:=y.2;unfold ltOf cfQ;have h:w64 (x.1.2.1-y.1.2.1)=x.1.2.1-y.1.2.1:=by unfold w64;simp[IntKind.wrap,IntKind.bits,IntKind.signed];omega
  rw[h];by_cases q:x.1.2.1<y.1.2.1<;>simp[q]<;>omega
 exact⟨fun x=>by rw[e];simp,fun x y z h1 h2=>by rw[e]at *;simp at *;omega,fun x y z h1 h2=>by rw[e]at *;simp at *;omega⟩
set_option maxHeartbeats 1000000 in
omit [LC] in
theorem cmpQ (x y:Pq) (W:World):Calls Tryz.prog 222 #[.agg (encQ x).toArray,.agg (encQ y).toArray] W fun e w'=>e = .returned (.int .i64 (cfQ x y))/\∃ q os',w'=grow (W.drewN q) os':=by
 unfold encQ cfQ;obtain⟨⟨a,n,s,v⟩,hx⟩:=x;obtain⟨⟨a',n',s',v'⟩,hy⟩:=y;simp only;have hw:w64 (n-n')=wrap64 (n-n'):=by show IntKind.i64.wrap (n-n')=_;rw[IntKind.wrap_i64];unfold Go.RowKit.wrap64;rfl
 rw[hw];clear hx hy hw
 go_enter Tryz.func222,Tryz.ntmps222
 go_wp2
 go_ret
 exact⟨rfl,0,_,by rw[alloc_eq_grow,alloc_eq_grow,grow_grow];rfl⟩
abbrev τQ:Ty := .prod .str (.prod (.int .i64) (.prod .bool .str))
omit [LC] in
theorem zf4 {G:Gh}:∀ {l:List Pq} {us:List Value},Reps (List.flatMap (β:=AV) τQ.enc (l.map (·.1))) G us->us=l.flatMap encQ
 | [],[],_=>rfl
 | [],_::_,h=>h.elim
 | x::l,us,h=>by
  match us,h with
  | a::b::c::d::us,h=>
   have h1:a = .string ⟨x.1.1.toArray⟩:=h.1;have h2:b = .int .i64 x.1.2.1:=h.2.1;have h3:c = .bool x.1.2.2.1:=h.2.2.1;have h4:d = .string ⟨x.1.2.2.2.toArray⟩:=h.2.2.2.1;have h5:=zf4 (l:=l) h.2.2.2.2;rw[h1,h2,h3,h4,h5];rfl
  | [],h=>exact h.elim
  | [_],h=>exact h.2.elim
  | [_,_],h=>exact h.2.2.elim
  | [_,_,_],h=>exact h.2.2.2.elim
omit [LC] in
theorem zb2 {G:Gh}:∀ (l:List Pq),Reps (List.flatMap (β:=AV) τQ.enc (l.map (·.1))) G (l.flatMap encQ)
 | []=>trivial
 | _::l=>⟨rfl,rfl,rfl,rfl,zb2 l⟩
omit [LC] in
theorem zhc:∀ (l:List Pc) (q:List Pq),toQ l=some q->l=q.map (·.1)
 | [],_,h=>by cases h;rfl
 | x::l,q,h=>by
  unfold toQ at h;split at h
  ·split at h
   ·rename_i r hr;cases h;rw[zhc l r hr];rfl
   ·cases h
  ·cases h
omit [LC] in
theorem qwr (l:List Pq):(quy l).length=l.length:=by
 have h:=(pdq_sorts (ltOf cfQ) swoQ l.toArray 0 l.length (Lib.bitLen l.length) true true (Nat.zero_le _) (by simp) (Or.inl rfl)).1.1
 unfold quy;rw[Array.length_toList,h];simp
omit [LC] in
theorem q1l (x:Pq):(encQ x).length=4:=rfl
omit [LC] in
theorem qzo (l:List Pq):(l.flatMap encQ).length=l.length*4:=by
 induction l with
 | nil=>rfl
 | cons x l ih=>rw[List.flatMap_cons,qM,q1l,ih,qL];omega
omit [LC] in
theorem zdz {w:World} {g:Nat} {vs:Array Value} {fz:Nat×Nat} {E:TypeId} {l:List Pq} (h2:w.heap[g]? = some (.cells vs E fz)) (h3:fz=(0,0)\/vs.size<=fz.1) (h4:l.length*4<=vs.size) (h7:vs.toList.take (l.length*4)=l.flatMap encQ):HoldsK encQ 4 w g 0 l.toArray:=by
 unfold HoldsK;rw[zcz encQ 4 q1l];intro j hj;have hl:=qzo l;have hj':j<(l.flatMap encQ).length:=by simpa using hj
 have hjv:j<vs.size:=by omega
 refine⟨?_,?_⟩
 ·have hc:(vs.toList.take (l.length*4))[j]? = some ((l.flatMap encQ)[j]):=by
   rw[h7,List.getElem?_eq_getElem hj']
  rw[List.getElem?_take,qX (by omega)]at hc
  simp only[World.cell?,h2,wO];have hg:(l.flatMap encQ).toArray[j]! = (l.flatMap encQ)[j]:=by rw[getElem!_pos _ j hj];rfl
  rw[hg];simpa using hc
 ·simp only[World.frozen?,h2];rcases h3 with rfl|h3
  ·simp
  ·simp;omega
set_option maxRecDepth 100000 in
set_option maxHeartbeats 1000000 in
theorem zku (q:List Pq) (vbt:q.length<=qaq):qbp Tryz.prog 221 [.own 0,.fn (.func 222) [] []] [(0,.row τQ (q.map (·.1)) 209)] (.tup []) [(0,.row τQ ((quy q).map (·.1)) 209)]:=by
 unfold qaq at vbt
 refine qbp.inPlaceA (by show ((quy q).map (·.1)).length=(q.map (·.1)).length;rw[wC,wC,qwr]) (fun w G ad c us fvs hrow hreps hfv => ?_)
 have hus:=zf4 hreps;have hfv:fvs=[.func (.func 222) #[] #[]]:=by
  match fvs,hfv with
  | [v],⟨h,_⟩=>
   obtain⟨us1,us2,k1,k2,k3⟩:=h;have e1:us1=#[]:=Array.eq_empty_of_size_eq_zero k2.length.symm;have e2:us2=#[]:=Array.eq_empty_of_size_eq_zero k3.length.symm;subst e1;subst e2;rw[k1]
 subst hfv;have hml:(q.map (fun x=>x.1)).length=q.length:=wC ..
 obtain⟨hul,hrow⟩:=hrow
 have hnone:q=[]->Calls Tryz.prog 221 (Value.slice ad (q.map (fun x=>x.1)).length c::[.func (.func 222) #[] #[]]).toArray w fun e w'=>e = .returned (.tuple #[])/\∃ us',qrb w' 209 τQ.sz ad (q.map (fun x=>x.1)).length c us'/\Reps (List.flatMap (β:=AV) τQ.enc ((quy q).map (·.1))) G.data us'/\Bel (fun b=>qho ad=some b) w w':=fun hq=>by
  subst hq;refine (AnyF.slices_SortFunc_none Tryz.sortP ad c (.func (.func 222) #[] #[]) w).mono ?_;rintro e w' ⟨rfl,rfl⟩
  refine⟨rfl,us,⟨hul,hrow⟩,?_,⟨rfl,rfl,rfl,wF _,fun _ _ _=>rfl⟩⟩
  rw[hus];have e:quy []=[]:=List.eq_nil_of_length_eq_zero (qwr []);rw[e];exact trivial
 by_cases hq:q=[]
 ·exact hnone hq
 rcases hrow with ⟨rfl,h2,rfl⟩|⟨g,vs,fz,rfl,h2,h3,h4,h5,h6,h7,h8⟩
 ·exact absurd (List.eq_nil_of_length_eq_zero (by rw[← hml];exact h2)) hq
 ·have hlt:g<w.heap.size:=(Array.getElem?_eq_some_iff.1 h2).1;have hs4:τQ.sz=4:=rfl;rw[hs4]at h6 h7 hul;have h4':q.length<=c:=by rw[← hml];exact h4
  have hH:=zdz (l:=q) h2 h3 (by omega) (by rw[← hus];have h7':=h7;rw[show (List.length (α:=τQ.den) (q.map fun x=>x.1))=q.length from hml]at h7';exact h7')
  have hcmp:CmpLays Tryz.prog 222 #[] encQ 4 cfQ g 0 q.toArray.size w:=fun m os dk _ x y=>cmpQ x y _
  have key:=AnyQ.slices_SortFunc_eq (P:=Tryz.prog) Tryz.sortP 4 Tryz.isAgg209 Tryz.sizeOf209 encQ q1l (by intro x v hv;simp only[encQ,wE,List.not_mem_nil,or_false]at hv;rcases hv with rfl|rfl|rfl|rfl<;>rfl) cfQ swoQ 222 #[] g 0 c q.toArray w Tryz.call222 hcmp hH hlt (by simp;omega)
  have hargs:#[Value.slice (some ⟨g,0,none⟩) (List.length (α:=τQ.den) (List.map (β:=τQ.den) (fun x:Pq=>x.1) q)) c,Value.func (.func 222) #[] #[]]=#[.slice (some ⟨g,0,none⟩) q.toArray.size c,.func (.func 222) #[] #[]]:=by
   rw[show List.length (α:=τQ.den) (List.map (β:=τQ.den) (fun x:Pq=>x.1) q)=q.toArray.size from hml.trans (by simp)]
  refine Eq.mpr (congrArg (fun a=>Calls _ _ a _ _) hargs) (key.mono ?_)
  rintro e w' ⟨rfl,n,os,rfl⟩
  have hsl:=qwr q;have hw:sortWorldK encQ 4 w g 0 n (pdq (ltOf cfQ) q.toArray 0 q.toArray.size (Lib.bitLen q.toArray.size) true true) os=grow (putRow id (Sort.ahead w n) g 0 ((quy q).flatMap encQ).toArray) os:=by
   unfold sortWorldK putRowK;rw[show pdq (ltOf cfQ) q.toArray 0 q.toArray.size (Lib.bitLen q.toArray.size) true true=(quy q).toArray from by unfold quy;simp,zcz encQ 4 q1l]
  rw[hw];have hzl:((quy q).flatMap encQ).length=q.length*4:=by rw[qzo,hsl]
  refine⟨rfl,(quy q).flatMap encQ,⟨?_,.inr ⟨g,putCells id 0 ((quy q).flatMap encQ).toArray vs,fz,rfl,znl w n g _ os h2,?_,h4,h5,?_,?_,?_⟩⟩,zb2 _,⟨rfl,rfl,rfl,zgs w n g _ os,fun k hk hne=>zjv w n g _ os k hk (fun e=>hne (by subst e;rfl))⟩⟩
  ·rw[hzl];show q.length*4=(q.map (fun x=>x.1)).length*4;rw[hml]
  ·have:(putCells id 0 ((quy q).flatMap encQ).toArray vs).size=vs.size:=by unfold putCells;rw[Array.size_mapIdx]
   rw[this];exact h3
  ·unfold putCells;rw[Array.size_mapIdx];exact h6
  ·rw[show List.length (α:=τQ.den) (q.map (fun x=>x.1))*τQ.sz=((quy q).flatMap encQ).length from by rw[hzl];show (q.map (fun x=>x.1)).length*4=_;rw[hml]]
   exact zgr _ vs (by rw[hzl];omega)
  ·intro v hv;rcases zdn _ _ _ hv with h|h
   ·exact h8 v h
   ·obtain⟨x,_,hx⟩:=List.mem_flatMap.1 h;simp only[encQ,wE,List.not_mem_nil,or_false]at hx;rcases hx with rfl|rfl|rfl|rfl<;>rfl
def z2c:IF:=⟨.fn 221,[.own 0,.fn 222 []],[(0,.row τQ 209)],_,RS.mk (.tup []) [(0,.row τQ 209)]⟩
theorem zr0:(z2c.e qxr).Sound Tryz.prog:=fun d d' r h=>by
 obtain⟨l,_⟩:=d';have h:qxr l=some r:=h;unfold qxr at h;cases hd:decide (List.length (α:=Pc) l<=qaq)<;>rw[hd]at h<;>simp only[qT,qF,reduceCtorEq]at h
 cases hq:toQ l with
 | none=>rw[hq]at h;cases h
 | some q=>
  rw[hq]at h;have h:=qJ h;subst h;have hl:=zhc l q hq;subst hl;refine⟨Tryz.call221,zku q ?_⟩;have:=of_decide_eq_true hd
  rwa [wC]at this
end Go.Sym
set_option linter.unusedVariables false
namespace Go.Proofs.ToValid
open Go.Shelf Go.RowKit Go.Lib Go.Sym
theorem bx:Builder.Extra Tryz.prog Tryz.uniR:={
 sizeBuilder:=by kernel_rfl
 liesBuilder:=by kernel_rfl
 t5:=Tryz.laysM171.t5
 a5:=Tryz.laysM171.a5
 z5:=Tryz.laysM171.z5
 v5:=Tryz.laysM171.v5
 infoByte:=by kernel_rfl
 cellsByte:=by kernel_rfl
 sizeByte:=by kernel_rfl
 neB5:=by decide }
theorem l166:Lays.n166 Tryz.prog Tryz.uniR:={ Tryz.lays165,Tryz.lays169,Tryz.laysC172 with f166:=Tryz.func244.trans (congrArg some (by kernel_rfl)) }
theorem l167:Lays.n167 Tryz.prog Tryz.uniR:={ Tryz.lays165,Tryz.lays169,Tryz.laysC172 with f167:=Tryz.func246.trans (congrArg some (by kernel_rfl)) }
theorem capC (b:Nat) (p:Option Addr) (n cap:Nat) (w:World) (c1:w.cell? ⟨b,1,none⟩=some (.slice p n cap)) :
  Calls Tryz.prog 245 #[.pointer (some ⟨b,0,none⟩)] w fun e w'=>e = .returned (.int .i64 cap)/\w'=w:=by
 go_enter Tryz.func245,Tryz.ntmps245
 go_wp2
 go_ret
 exact⟨rfl,rfl⟩
theorem z4q (b n:Nat) (w:World) (hbk:w.heap[b]? = some (.cells #[.pointer none,.slice none 0 0] 291 (0,0))) (hBw:b<=w.heap.size) (hn:n<=281474976710656) :
  Calls Tryz.prog 243 #[.pointer (some ⟨b,0,none⟩),.int .i64 n] w fun e w'=>e = .returned (.tuple #[])/\(Lib.BuilderAt 291 5 b b (.pointer (some ⟨b,0,none⟩)) [] w'/\Below b w w')/\∃ p cap,w'.cell? ⟨b,1,none⟩=some (.slice p 0 cap)/\n<=cap:=
 Any.Builder_Grow_fresh_cap Tryz.lays165 bx b b n w (wF _) hbk hBw hn
theorem zpw (b:Nat) (bs:List Value) (s:ByteArray) (w:World) (h:Lib.IsBuilderF 291 5 b b bs w) (vbt:bs.length+s.size<=140737488355328) (hBw:b<=w.heap.size) :
  Calls Tryz.prog 244 #[.pointer (some ⟨b,0,none⟩),.string s] w fun e w'=>e = .returned (.tuple #[.int .i64 s.size,.nilIface])/\(Lib.BuilderAtF 291 5 b b (.pointer (some ⟨b,0,none⟩)) (bs++Lib.strCells s) w'/\Below b w w'/\Lib.OthersKept 5 (some b) w w')/\∀ v0,w.cell? ⟨b,1,none⟩=some v0->∃ v1,w'.cell? ⟨b,1,none⟩=some v1/\v0.capOf<=v1.capOf:=
 Any.Builder_WriteString_kc l166 bx b b bs s w h vbt hBw
theorem zxv (b:Nat) (bs:List Value) (c:Int) (w:World) (h:Lib.IsBuilderF 291 5 b b bs w) (vbt:bs.length+1<=140737488355328) (hBw:b<=w.heap.size) :
  Calls Tryz.prog 246 #[.pointer (some ⟨b,0,none⟩),.int .u8 c] w fun e w'=>e = .returned .nilIface/\(Lib.BuilderAtF 291 5 b b (.pointer (some ⟨b,0,none⟩)) (bs++[.int .u8 c]) w'/\Below b w w'/\Lib.OthersKept 5 (some b) w w'):=
 Any.Builder_WriteByte_k l167 bx b b bs c w h vbt hBw
theorem strC (b:Nat) (l:List UInt8) (w:World) (h:Lib.IsBuilderF 291 5 b b (Lib.byteCells l) w) (hBw:b<=w.heap.size) :
  Calls Tryz.prog 247 #[.pointer (some ⟨b,0,none⟩)] w fun e w'=>e = .returned (.string ⟨l.toArray⟩)/\(Lib.IsBuilderF 291 5 b b (Lib.byteCells l) w'/\Below b w w'):=
 Any.Builder_String_any_f Tryz.lays169 bx b b l w h hBw
theorem decC (s:ByteArray) (w:World) (hT:Lib.Utf8Tabs 1 2 w) :
  Calls Tryz.prog 180 #[.string s] w fun e w'=>e = .returned (.tuple #[.int .i32 (Lib.decodeGo s).1,.int .i64 (Lib.decodeGo s).2])/\Below w.heap.size w w':=
 Any.utf8_DecodeRuneInString Tryz.lays197 s w hT
theorem q06 (s:ByteArray) (pos:Nat) (h:pos<s.size):decodeGo (s.extract pos s.size)=Utf8.decode s pos:=by
 have hx:(s.extract pos s.size).data.toList=s.data.toList.drop pos:=by
  rw[extract_data,List.take_of_length_le (by rw[List.length_drop,← size_eq];omega)]
 have hsz:(s.extract pos s.size).size≠0:=by rw[size_eq,hx,List.length_drop,← size_eq];omega
 unfold decodeGo;rw[qW hsz,← decodeL_drop s pos,← hx];rfl
theorem zuv (n:Int) (h0:0<=n) (h1:n<=4000000):wrap64 n=n:=by unfold wrap64;omega
theorem vaq (p n:Nat) (h:p+n<=4000000):wrap64 ((p:Int)+(n:Int))=(p:Int)+(n:Int):=zuv _ (by omega) (by omega)
theorem z3u (p:Nat) (h:p+1<=4000000):wrap64 ((p:Int)+1)=(p:Int)+1:=zuv _ (by omega) (by omega)
theorem vI (p k:Nat):Value.int .i64 ((p:Int)+(k:Int)) = .int .i64 ((p+k:Nat):Int):=by rw[Int.natCast_add]
theorem vI1 (p:Nat):Value.int .i64 ((p:Int)+1) = .int .i64 ((p+1:Nat):Int):=by rw[Int.natCast_add];rfl
theorem zis (rep:Bs) (n:Nat) (inv:Bool) (l:Bs) (hne:l≠[]) (h:(Lib.decodeL l).1=65533/\(Lib.decodeL l).2=1):vu rep (n+1) inv l=(if inv then [] else rep)++vu rep n true (l.drop 1):=by
 cases l with
 | nil=>exact absurd rfl hne
 | cons c l=>rw[vu,qX h];rfl
theorem q61 (rep:Bs) (n:Nat) (inv:Bool) (l:Bs) (hne:l≠[]) (h:¬ ((Lib.decodeL l).1=65533/\(Lib.decodeL l).2=1)):vu rep (n+1) inv l=l.take (Lib.decodeL l).2++vu rep n false (l.drop (Lib.decodeL l).2):=by
 cases l with
 | nil=>exact absurd rfl hne
 | cons c l=>rw[vu,qW h]
theorem q0w (rep:Bs) (n:Nat) (inv:Bool):vu rep n inv []=[]:=by cases n<;>rfl
theorem q0i (rep:Bs):∀ (n m:Nat) (inv:Bool) (l:Bs),l.length<=n->l.length<=m->vu rep n inv l=vu rep m inv l
 | 0,m,inv,l,h1,_=>by
  have:l=[]:=by cases l with
   | nil=>rfl
   | cons c l=>simp at h1
  subst this;rw[q0w,q0w]
 | n+1,0,inv,l,_,h2=>by
  have:l=[]:=by cases l with
   | nil=>rfl
   | cons c l=>simp at h2
  subst this;rw[q0w,q0w]
 | n+1,m+1,inv,l,h1,h2=>by
  cases l with
  | nil=>rw[q0w,q0w]
  | cons c l=>
   have hw:=Lib.decodeL_width (c::l);simp only[qL]at h1 h2;by_cases h:(Lib.decodeL (c::l)).1=65533/\(Lib.decodeL (c::l)).2=1
   ·rw[zis rep n inv _ (by simp) h,zis rep m inv _ (by simp) h,q0i rep n m true _ (by simp;omega) (by simp;omega)]
   ·rw[q61 rep n inv _ (by simp) h,q61 rep m inv _ (by simp) h,q0i rep n m false _ (by simp only[List.length_drop,qL];omega) (by simp only[List.length_drop,qL];omega)]
theorem zsv (s:ByteArray) (pos:Nat) (h:pos<s.size) (hc:(s.get! pos).toNat<128):Utf8.decode s pos=((s.get! pos).toNat,1):=by
 unfold Utf8.decode;simp only[Nat.add_zero,hc,if_true]
theorem zny (s:ByteArray) (pos:Nat) (h:pos<s.size) (hc:¬ (s.get! pos).toNat<128) (h1:(Utf8.decode s pos).2=1):(Utf8.decode s pos).1=65533:=by
 revert h1;unfold Utf8.decode;simp only[Nat.add_zero,hc,if_false]
 repeat' split
 all_goals first|(intro _;rfl)|(intro h1;exact absurd h1 (by simp))
theorem q6t {T e:TypeId} {B b:Nat} {bs:List Value} {W W':World} (h:Lib.IsBuilderF T e B b bs W) (hb:Below W.heap.size W W'):Lib.IsBuilderF T e B b bs W':=by
 have k:∀ p,Lib.BuilderAtF T e B b p bs W->Lib.BuilderAtF T e B b p bs W':=fun p h=>by
  have hlt:=h.lt;obtain⟨hB,v,hv,hown,hne⟩:=h;exact⟨hB,v,(hb.block b hlt).trans hv,hown.kept (row:=none) ⟨hb.os,hb.tape,hb.output,hb.size,fun k hk _=>hb.block k hk⟩ (Classical.em _),hne⟩
 exact h.elim (fun x => .inl (k _ x)) (fun x => .inr (k _ x))
set_option maxHeartbeats 4000000 in
set_option maxRecDepth 1000000 in
theorem tovalid (s rep:ByteArray) (w:World) (hs:s.size<=1000000) (hr:rep.size<=1000) (hT:Lib.Utf8Tabs 1 2 w) :
  Calls Tryz.prog 224 #[.string s,.string rep] w fun e w'=>e = .returned (.string ⟨(vu rep.data.toList s.size false s.data.toList).toArray⟩)/\Below w.heap.size w w':=by
 obtain⟨ANS,hANS⟩:∃ ANS,vu rep.data.toList s.size false s.data.toList=ANS:=⟨_,rfl⟩;rw[hANS];have vbt:s.data.toList.length=s.size:=(Lib.size_eq s).symm
 go_enter Tryz.func224,Tryz.ntmps224
 go_wp2
 go_loopg [0] s.size (fun gk s0 wx=>s0 = .string s/\∃ pos:Nat,wx.heap[w.heap.size]? = some (.cells #[.pointer none,.slice none 0 0] 291 (0,0))/\wx.heap[w.heap.size+1]? = some (.stringIter s pos)/\Below w.heap.size w wx /\
  s.data.toList.take pos++vu rep.data.toList (s.size-pos) false (s.data.toList.drop pos)=ANS/\s.size<=pos+gk/\pos<=s.size)
 case atStart=>
  refine⟨rfl,0,?_,?_,((Below.refl _ w).alloc (wF _) _).alloc (by simp) _,by simpa using hANS,by omega,by omega⟩
  ·have h1:=heap_alloc_new w (.cells #[.pointer none,.slice none 0 0] 291);exact (Below.heap_alloc _ _ _ (by simp)).trans h1
  ·have:=World.iter_heap (w.alloc (.cells #[.pointer none,.slice none 0 0] 291)) s 0;simpa using this
 case round=>
  obtain⟨rfl,pos,hfr,hit,hbw,hsp,hfu,hps⟩:=hrel;by_cases hlt:pos<s.size
  ·obtain⟨g',rfl⟩:∃ g',gk=g'+1:=⟨gk-1,by omega⟩
   have hnx:∀ ty,(Instr.next (.pointer (some ⟨w.heap.size+1,0,none⟩)) true ty).run Tryz.prog wr=_:=fun ty=>Lib.run_next_any_at wr (w.heap.size+1) s pos ty hit hlt
   have hne:s.data.toList.drop pos≠[]:=by
    intro h0;have:=congrArg List.length h0;rw[List.length_drop,vbt]at this;simp at this;omega
   have hwd:=Lib.width_pos s pos;have hwn:pos+(Utf8.decode s pos).2<=s.size:=by
    have:=Lib.decodeL_le _ hne;rw[Lib.decodeL_drop,List.length_drop,vbt]at this;omega
   have hgood:=q61 rep.data.toList (s.size-pos-1) false _ hne;have hdg:=q06 s pos hlt;rw[Lib.decodeL_drop]at hgood;obtain⟨R,hR⟩:∃ R,(Utf8.decode s pos).1=R:=⟨_,rfl⟩;obtain⟨K,hK⟩:∃ K,(Utf8.decode s pos).2=K:=⟨_,rfl⟩;rw[hR,hK]at hnx hgood;rw[hK]at hwd hwn;rw[List.drop_drop,show s.size-pos-1+1=s.size-pos by omega]at hgood
   have hit2:=Lib.iterAt_heap wr (w.heap.size+1) s pos (pos+K) hit;have hbw2:=Lib.below_iterAt hbw (k:=w.heap.size+1) (by omega) s (pos+K)
   have hfr2:(wr.iterAt (w.heap.size+1) s (pos+K)).heap[w.heap.size]? = _:=(Lib.iterAt_other wr (w.heap.size+1) w.heap.size s (pos+K) (by omega)).trans hfr
   obtain⟨W,hWd⟩:∃ W,wr.iterAt (w.heap.size+1) s (pos+K)=W:=⟨_,rfl⟩;rw[hWd]at hnx hit2 hbw2 hfr2;clear hit hbw hfr hWd;have HS:Aside (¬ (R=65533/\K=1)->s.data.toList.take (pos+K)++vu rep.data.toList (s.size-(pos+K)) false (s.data.toList.drop (pos+K))=ANS):=by
    intro h;rw[← hsp,hgood h,← qS,← List.take_add];congr 1;exact q0i _ _ _ _ _ (by rw[List.length_drop,vbt];omega) (by rw[List.length_drop,vbt];omega)
   have HP:Aside (s.data.toList.take pos++vu rep.data.toList (s.size-pos) false (s.data.toList.drop pos)=ANS):=hsp;clear hgood hsp;have hszW:w.heap.size+1<W.heap.size:=(Array.getElem?_eq_some_iff.1 hit2).1;by_cases h5:R=65533
   ·have h5z:(R:Int)=65533:=by omega
    have cD:=decC (s.extract pos s.size) W (Utf8Tabs_below hT hbw2);rw[hdg,hR,hK]at cD;by_cases hk:K=1
    ·
     have hkz:(K:Int)=1:=by omega
     have hkb:((K:Int)==1)=true:=by simp[hkz]
     go_wp2_with (go_at_call 180;go_must (refine cD.mono ?_;rintro e W3 ⟨rfl,b3⟩))
     have hfr3:=(b3.block _ (show w.heap.size<W.heap.size by omega)).trans hfr2
     have hbw3:=hbw2.trans (b3.mono (show w.heap.size<=W.heap.size by omega))
     have hs0:=HP.out;clear cD hnx hit2 hfr2 hbw2 hdg HS hszW HP;have cG:=z4q w.heap.size (s.size+rep.size) W3 hfr3 hbw3.size (by omega)
     go_fit cG
     rintro e W4 ⟨rfl,⟨h4,b4⟩,p4,cap4,hc4,hcap4⟩
     have hxs:(s.extract 0 pos).size=pos:=by rw[Lib.size_eq,Lib.extract_data,List.length_take,List.length_drop,vbt];omega
     have hxd:(s.extract 0 pos).data.toList=s.data.toList.take pos:=by rw[Lib.extract_data];simp
     have cW:=zpw w.heap.size [] (s.extract 0 pos) W4 (Lib.IsBuilderF.of (Or.inr h4)) (by rw[hxs];simp;omega) (Nat.le_trans hbw3.size b4.size)
     go_wp2_with (go_at_call 244;go_must (refine cW.mono ?_;rintro e W5 ⟨rfl,⟨h5w,b5,-⟩,hcp⟩))
     have hb5:Below w.heap.size w W5:=(hbw3.trans b4).trans b5;have hcells:[]++Lib.strCells (s.extract 0 pos)=Lib.byteCells (s.data.toList.take pos):=by
      rw[List.nil_append,Lib.strCells_eq,hxd]
     rw[hcells]at h5w;obtain⟨p5,n5,cap5,hc5,hcap5⟩:∃ p5 n5 cap5,W5.cell? ⟨w.heap.size,1,none⟩=some (.slice p5 n5 cap5)/\1<=cap5:=by
      obtain⟨v1,hv1,hle⟩:=hcp _ hc4;obtain⟨_,v6,hv6,hown6,_⟩:=h5w;have hv:W5.cell? ⟨w.heap.size,1,none⟩=some v6:=by rw[Lib.cell_of_heap hv6];rfl
      rw[hv1]at hv;have:=qJ hv;subst this;have hle:cap4<=v1.capOf:=hle;rcases hown6.2 with ⟨rfl,h0⟩|⟨g6,cap6,_,_,rfl,_⟩
      ·have:cap4<=0:=hle;omega
      ·have:cap4<=cap6:=hle;exact⟨_,_,cap6,hv1,by omega⟩
     clear hcp hc4;have hcapz:¬ ((cap5:Int)=0):=by omega
     have hcapb:((cap5:Int)==0)=false:=by simp;omega
     have cC:=capC w.heap.size p5 n5 cap5 W5 hc5;obtain⟨s2,hs2⟩:∃ s2,s.extract pos s.size=s2:=⟨_,rfl⟩;have hl2:s2.data.toList=s.data.toList.drop pos:=by
      rw[← hs2,Lib.extract_data,List.take_of_length_le (by rw[List.length_drop,vbt];omega)]
     have hz2:s2.size=s.size-pos:=by rw[Lib.size_eq,hl2,List.length_drop,vbt]
     go_wp2_with (go_at_call 245;go_must (refine cC.mono ?_;rintro e W6 ⟨rfl,rfl⟩))
     have hrl:rep.data.toList.length=rep.size:=(Lib.size_eq rep).symm
     go_loopg [10,11] s2.size (fun gk s10 s11 wx=>∃ (p2:Nat) (acc:List UInt8) (inv:Bool),s10 = .bool inv/\s11 = .int .i64 p2/\Lib.IsBuilderF 291 5 w.heap.size w.heap.size (Lib.byteCells acc) wx/\Below w.heap.size w wx /\
      acc++vu rep.data.toList (s2.size-p2) inv (s2.data.toList.drop p2)=ANS/\s2.size<=p2+gk/\p2<=s2.size/\acc.length<=pos+1001*p2)
     case atStart=>
      refine⟨0,s.data.toList.take pos,false,rfl,rfl,Or.inr h5w,hb5,?_,by omega,by omega,?_⟩
      ·rw[List.drop_zero,hl2,hz2];exact hs0
      ·rw[List.length_take,vbt];omega
     case round=>
      obtain⟨p2,acc,inv,rfl,rfl,hI,hbw,hacc,hfu2,hp2,hal⟩:=hrel;have hbs:w.heap.size<=wr.heap.size:=hbw.size;by_cases hlt2:p2<s2.size
      ·obtain⟨g2,rfl⟩:∃ g2,gk=g2+1:=⟨gk-1,by omega⟩
       have hne2:s2.data.toList.drop p2≠[]:=by
        intro h0;have:=congrArg List.length h0;rw[List.length_drop,← Lib.size_eq,qZ]at this;omega
       have hwd2:=Lib.width_pos s2 p2;have hwn2:p2+(Utf8.decode s2 p2).2<=s2.size:=by
        have:=Lib.decodeL_le _ hne2;rw[Lib.decodeL_drop,List.length_drop,← Lib.size_eq]at this;omega
       have hgood:=q61 rep.data.toList (s2.size-p2-1) inv _ hne2;have hbad:=zis rep.data.toList (s2.size-p2-1) inv _ hne2;have hdg:=q06 s2 p2 hlt2;have hlow:=zsv s2 p2 hlt2;have hhigh:=zny s2 p2 hlt2;rw[Lib.decodeL_drop,List.drop_drop,show s2.size-p2-1+1=s2.size-p2 by omega]at hgood hbad
       have hl3:s2.data.toList.length=s2.size:=(Lib.size_eq s2).symm;obtain⟨c,hc⟩:∃ c,s2[p2]'hlt2=c:=⟨_,rfl⟩;have hd2:p2<s2.data.size:=hlt2;have hcd:s2.data[p2]'hd2=c:=hc;have hcg:s2.get! p2=c:=by
        show s2.data[p2]! = c;rw[getElem!_pos s2.data p2 hd2];exact hcd
       rw[hcg]at hlow hhigh;obtain⟨R2,hR2⟩:∃ R2,(Utf8.decode s2 p2).1=R2:=⟨_,rfl⟩;obtain⟨K2,hK2⟩:∃ K2,(Utf8.decode s2 p2).2=K2:=⟨_,rfl⟩;rw[hK2]at hwd2 hwn2;have HG:Aside (¬ (R2=65533/\K2=1)->(acc++(s2.data.toList.drop p2).take K2)++vu rep.data.toList (s2.size-(p2+K2)) false (s2.data.toList.drop (p2+K2))=ANS):=by
        intro h;rw[← hacc,hgood (by rw[hR2,hK2];exact h),hK2,qS]
        congr 2;exact q0i _ _ _ _ _ (by rw[List.length_drop,hl3];omega) (by rw[List.length_drop,hl3];omega)
       have HB:Aside (R2=65533/\K2=1->(acc++(if inv then [] else rep.data.toList))++vu rep.data.toList (s2.size-(p2+1)) true (s2.data.toList.drop (p2+1))=ANS):=by
        intro h;rw[← hacc,hbad (by rw[hR2,hK2];exact h),qS]
        congr 2
       have hxl:(s2.extract p2 (p2+K2)).data.toList=(s2.data.toList.drop p2).take K2:=by
        rw[Lib.extract_data,Nat.add_sub_cancel_left]
       have hxz:(s2.extract p2 (p2+K2)).size=K2:=by rw[Lib.size_eq,hxl,List.length_take,List.length_drop,hl3];omega
       have hcl:acc.length<=1001000000:=by omega
       have hbl:(Lib.byteCells acc).length=acc.length:=Lib.byteCells_length acc;clear hgood hbad hacc hs0;have H1:Aside (s2.data.toList.length=s2.size/\(s2.extract p2 (p2+K2)).data.toList=(s2.data.toList.drop p2).take K2/\(Lib.byteCells acc).length=acc.length/\rep.data.toList.length=rep.size):=⟨hl3,hxl,hbl,hrl⟩;have H2:Aside (c.toNat<128->R2=c.toNat/\K2=1):=fun h=>by
        have hd:=hlow h;rw[hd]at hR2 hK2;exact⟨hR2.symm,hK2.symm⟩
       have H3:Aside (¬ c.toNat<128->K2=1->R2=65533):=fun h hk=>by
        have:=hhigh h (by rw[hK2];exact hk)
        rw[← hR2];exact this
       have H4:Aside ((List.drop p2 s2.data.toList).take 1=[c]):=by
        show _=_;have hlt':p2<s2.data.toList.length:=by rw[hl3];exact hlt2
        rw[List.drop_eq_getElem_cons hlt',List.take_succ_cons,List.take_zero,Array.getElem_toList,hcd]
       have cD:=decC (s2.extract p2 s2.size) wr (Utf8Tabs_below hT hbw);rw[hdg,hR2,hK2]at cD;have hsz2:s2.size<=s.size:=by rw[hz2];exact Nat.sub_le _ _
       have HW1:Aside (wrap64 ((p2:Int)+1)=(p2:Int)+1):=z3u _ (Nat.le_trans hlt2 (Nat.le_trans hsz2 (Nat.le_trans hs (by decide))))
       have HWK:Aside (wrap64 ((p2:Int)+(K2:Int))=(p2:Int)+(K2:Int)):=vaq _ _ (Nat.le_trans hwn2 (Nat.le_trans hsz2 (Nat.le_trans hs (by decide))))
       have HM:Aside (s2.size<=p2+1+g2/\s2.size<=p2+K2+g2/\acc.length+1<=pos+1001*(p2+1)/\acc.length+rep.size<=pos+1001*(p2+1)/\acc.length+K2<=pos+1001*(p2+K2)/\acc.length<=pos+1001*(p2+1)/\acc.length+1<=140737488355328/\acc.length+rep.size<=140737488355328/\acc.length+K2<=140737488355328):=by
        refine⟨?_,?_,?_,?_,?_,?_,?_,?_,?_⟩<;>omega
       clear hal hcl hfu2;clear hcd hcg hlow hhigh hdg hR2 hK2 hl3 hxl hbl hrl hs2 hl2 vbt hne2 hz2 hxs hxd hcells hne hR hK;by_cases h128:c.toNat<128
       ·
        obtain⟨_,hk1⟩:=H2.out h128;subst hk1;have H5:Aside (acc++[c]++vu rep.data.toList (s2.size-(p2+1)) false (List.drop (p2+1) s2.data.toList)=ANS):=by
         have:=HG.out (by omega)
         rw[H4.out]at this;exact this
        have cB:=zxv w.heap.size (Lib.byteCells acc) c.toNat wr hI (by rw[H1.out.2.2.1];exact HM.out.2.2.2.2.2.2.1) hbs
        clear HG HB H2 H3 H4 cD;have h128z:(c.toNat:Int)<128:=by omega
        go_wp2_with (go_at_call 246;go_must (refine cB.mono ?_;rintro e W7 ⟨rfl,h7,b7,k7⟩))
        go_roundg g2
        case measure=>exact Nat.lt_succ_self _
        case rel=>
         refine⟨p2+1,acc++[c],false,rfl,by first|exact vI1 p2|exact (congrArg (Value.int .i64) HW1.out).trans (vI1 p2),Or.inr ?_,hbw.trans b7,H5.out,HM.out.1,hlt2,by rw[qM];exact HM.out.2.2.1⟩
         rw[Lib.byteCells_append];exact h7
       ·have h128z:¬ ((c.toNat:Int)<128):=by omega
        by_cases hk:K2=1
        ·have hr2:=H3.out h128 hk;have H5:Aside ((acc++(if inv then [] else rep.data.toList))++vu rep.data.toList (s2.size-(p2+1)) true (List.drop (p2+1) s2.data.toList)=ANS):=HB.out ⟨hr2,hk⟩
         have hkz:(K2:Int)=1:=by omega
         have hkb:((K2:Int)==1)=true:=by simp[hkz]
         clear HG HB H2 H3 H4
         cases inv with
         | true=>
          go_wp2_with (go_at_call 180;go_must (refine cD.mono ?_;rintro e W7 ⟨rfl,b7⟩))
          go_roundg g2
          case measure=>exact Nat.lt_succ_self _
          case rel=>
           refine⟨p2+1,acc,true,rfl,by first|exact vI1 p2|exact (congrArg (Value.int .i64) HW1.out).trans (vI1 p2),q6t hI b7,hbw.trans (b7.mono hbs),?_,HM.out.1,hlt2,HM.out.2.2.2.2.2.1⟩
           have h:(acc++[])++vu rep.data.toList (s2.size-(p2+1)) true (List.drop (p2+1) s2.data.toList)=ANS:=H5.out;rw[List.append_nil]at h;exact h
         | false=>
          go_wp2_with (go_at_call 180;go_must (refine cD.mono ?_;rintro e W7 ⟨rfl,b7⟩))
          have cW:=zpw w.heap.size (Lib.byteCells acc) rep W7 (q6t hI b7) (by rw[H1.out.2.2.1];exact HM.out.2.2.2.2.2.2.2.1) (Nat.le_trans hbs b7.size)
          go_wp2_with (go_at_call 244;go_must (refine cW.mono ?_;rintro e W8 ⟨rfl,⟨h8,b8,-⟩,-⟩))
          go_roundg g2
          case measure=>exact Nat.lt_succ_self _
          case rel=>
           refine⟨p2+1,acc++rep.data.toList,true,rfl,by first|exact vI1 p2|exact (congrArg (Value.int .i64) HW1.out).trans (vI1 p2),Or.inr ?_,(hbw.trans (b7.mono hbs)).trans b8,?_,HM.out.1,hlt2,by rw[qM,H1.out.2.2.2];exact HM.out.2.2.2.1⟩
           ·rw[Lib.byteCells_append,← Lib.strCells_eq];exact h8
           ·have h:(acc++rep.data.toList)++vu rep.data.toList (s2.size-(p2+1)) true (List.drop (p2+1) s2.data.toList)=ANS:=H5.out;exact h
        ·have hkz:¬ ((K2:Int)=1):=by omega
         have hkb:((K2:Int)==1)=false:=by simp;omega
         have H5:=HG.out (fun h=>hk h.2)
         go_wp2_with (go_at_call 180;go_must (refine cD.mono ?_;rintro e W7 ⟨rfl,b7⟩))
         have cW:=zpw w.heap.size (Lib.byteCells acc) (s2.extract p2 (p2+K2)) W7 (q6t hI b7) (by rw[H1.out.2.2.1,hxz];exact HM.out.2.2.2.2.2.2.2.2) (Nat.le_trans hbs b7.size)
         go_wp2_with (go_at_call 244;go_must (refine cW.mono ?_;rintro e W8 ⟨rfl,⟨h8,b8,-⟩,-⟩))
         go_roundg g2
         case measure=>exact Nat.lt_succ_self _
         case rel=>
          refine⟨p2+K2,acc++(s2.data.toList.drop p2).take K2,false,rfl,by first|exact vI p2 K2|exact (congrArg (Value.int .i64) HWK.out).trans (vI p2 K2),Or.inr ?_,(hbw.trans (b7.mono hbs)).trans b8,H5,HM.out.2.1,hwn2,?_⟩
          ·rw[Lib.byteCells_append,← H1.out.2.1,← Lib.strCells_eq];exact h8
          ·rw[qM,← H1.out.2.1,← Lib.size_eq,hxz];exact HM.out.2.2.2.2.1
      ·
       obtain rfl:p2=s2.size:=by omega
       have cS:=strC w.heap.size acc wr hI hbs
       go_wp2_with (go_at_call 247;go_must (refine cS.mono ?_;rintro e W8 ⟨rfl,_,b8⟩))
       go_ret
       refine⟨?_,hbw.trans b8⟩;rw[Lib.size_eq,List.drop_length,q0w,List.append_nil]at hacc;subst hacc;rfl
    ·have hkz:¬ ((K:Int)=1):=by omega
     have hkb:((K:Int)==1)=false:=by simp;omega
     have hs3:=HS.out (fun h=>hk h.2)
     go_wp2_with (go_at_call 180;go_must (refine cD.mono ?_;rintro e W3 ⟨rfl,b3⟩))
     go_roundg g'
     case measure=>omega
     case rel=>exact⟨rfl,pos+K,(b3.block _ (by show _<W.heap.size;omega)).trans hfr2,(b3.block _ (by show _<W.heap.size;omega)).trans hit2,hbw2.trans (b3.mono (by show _<=W.heap.size;omega)),hs3,by omega,hwn⟩
   ·have h5':¬ ((R:Int)=65533):=by omega
    have hs3:=HS.out (fun h=>h5 h.1)
    go_wp2
    go_roundg g'
    case measure=>omega
    case rel=>exact⟨rfl,pos+K,hfr2,hit2,hbw2,hs3,by omega,hwn⟩
  ·
   obtain rfl:pos=s.size:=by omega
   have hnx:∀ ty,(Instr.next (.pointer (some ⟨w.heap.size+1,0,none⟩)) true ty).run Tryz.prog wr=_:=fun ty=>Lib.run_next_end_at wr (w.heap.size+1) s s.size ty hit hlt
   have cC:=capC w.heap.size none 0 0 wr (by rw[Lib.cell_of_heap hfr];rfl)
   go_wp2_with (go_at_call 245;go_must (refine cC.mono ?_;rintro e W' ⟨rfl,rfl⟩))
   go_ret
   refine⟨?_,hbw⟩;rw[← hsp,← vbt,List.drop_length,List.take_length,q0w,List.append_nil];rfl
end Go.Proofs.ToValid
