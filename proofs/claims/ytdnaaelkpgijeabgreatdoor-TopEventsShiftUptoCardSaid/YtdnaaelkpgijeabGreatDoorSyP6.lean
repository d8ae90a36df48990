/- What the claim rests on, part 6: gathered texts. -/
import Derived.Test.YtdnaaelkpgijeabGreatDoorSyP5
set_option linter.defProp false
set_option linter.unusedSimpArgs false
set_option linter.unusedVariables false
namespace Go.Sym
noncomputable section
open Go.Proofs
set_option linter.unusedVariables false
set_option maxRecDepth 100000
set_option maxHeartbeats 2000000
open Tryz
section
variable(fu:Nat)
def q4r:Fx wG ⟨.fn 280,[.yld 0,.ptr 1 0,.ptr 2 0,.ptr 3 0],[(0,.loop .ready none 274 17 [(3,.ptr 4 0),(4,.ptr 5 0)] [8] 6 6),(1,.cells [wS] 9),(2,.cells [wS] 9),(3,.cells [wH] 3),(4,.cells [.fn 183 []] 76),(5,.cells [.h .bool] 4),(6,.dfr)],_,.two (RS.mk (.tup []) [(0,.loop .done (some .ret) 274 17 [(3,.ptr 4 0),(4,.ptr 5 0)] [8] 6 6),(1,.cells [wS] 9),(2,.cells [wS] 9),(3,.cells [wH] 3),(4,.cells [.fn 183 []] 76),(5,.cells [.h .bool] 4),(6,.dfr)]) (RS.mk (.tup []) [(0,.loop .ready none 274 17 [(3,.ptr 4 0),(4,.ptr 5 0)] [8] 6 6),(1,.cells [wS] 9),(2,.cells [wS] 9),(3,.cells [wH] 3),(4,.cells [.fn 183 []] 76),(5,.cells [.h .bool] 4),(6,.dfr)])⟩:=fx [⟨vj.e iz,y6 mv ml mu mj⟩,(z6k fu).p,qdq.p] [lb 320 [(0,.yld 0),(2,.ptr 2 0)] [(0,.loop .ready none 274 17 [(3,.ptr 4 0),(4,.ptr 5 0)] [8] 6 6),(1,.cells [wS] 9),(2,.cells [wS] 9),(3,.cells [wH] 3),(4,.cells [.fn 183 []] 76),(5,.cells [.h .bool] 4),(6,.dfr)],lb 96 [(0,.yld 0),(1,.ptr 1 0),(2,.ptr 2 0),(3,.ptr 3 0)] [(0,.loop .ready none 274 17 [(3,.ptr 4 0),(4,.ptr 5 0)] [8] 6 6),(1,.cells [wS] 9),(2,.cells [wS] 9),(3,.cells [wH] 3),(4,.cells [.fn 183 []] 76),(5,.cells [.h .bool] 4),(6,.dfr)]]
def z6l:Nat->(q4r fu).L 0:=Fx.lq (qwy fu) (zcl fu) (fun r0=>[r0.s])
def z6m:Nat->(q4r fu).L 1:=Fx.lq (qlo fu) (zcm fu) (fun r1=>[r1.s])
def z6n:=(q4r fu).fi (qwx fu) [(z6l fu fu).s,(z6m fu fu).s]
def z6o:EI wG ⟨.fn 274,[wS,.fn 183 []],[],_,RS.mk (.h .bool) []⟩:=(fx [q4q.p,(z6n fu).p] [] false [([0,1,0,1],6)] (fl rfl ez)).fi (qq1 fu)
def znf:EI wG ⟨.fn 229,[wS],[],_,RS.mk (.h .bool) []⟩:=(fx [(z6o fu).p]).fi (qeq fu)
def q4s:EI wG ⟨.thr 177 [],[.ptr 0 0,.h .byte],[(0,.dat (.prod .str wI) 207)],_,.two (RS.mk (.tup [.u,.ifc 204 (.agg [wH])]) [(0,.dead)]) (RS.mk (.tup []) [(0,.dat (.prod .str wI) 207)])⟩:=(fx [(qpy fu).p,qak.p]).ft (qa1 fu)
def z6p:EI wG ⟨.fn 310,[.h .byte],[],_,RS.mk (.h .bool) []⟩:=(fx [qpw.p]).fi qav
def zng(fu:Nat):Fx wG ⟨.fn 30,[wS,.fn 310 []],[],_,RS.mk (.h .bool) []⟩:=fx [z6p.p] [lb 104 [(0,wS),(1,.fn 310 []),(7,wH),(8,wH)]]
def z6q:Nat->(zng fu).L 0:=Fx.lq (qj5 fu) (q7g fu) (fun r0=>[r0.s])
def z6r:=(zng fu).fi (qrq fu) [(z6q fu fu).s]
def z6s:EI wG ⟨.yld 0,[wS],[(0,.loop .ready none 274 17 [(3,.ptr 1 0),(4,.ptr 2 0)] [8] 6 3),(1,.cells [.fn 310 []] 76),(2,.cells [.h .bool] 4),(3,.dfr)],_,.two (RS.mk (.c (.bool false)) [(0,.loop .done (some .ret) 274 17 [(3,.ptr 1 0),(4,.ptr 2 0)] [8] 6 3),(1,.cells [.fn 310 []] 76),(2,.cells [.h .bool] 4),(3,.dfr)]) (RS.mk (.c (.bool true)) [(0,.loop .ready none 274 17 [(3,.ptr 1 0),(4,.ptr 2 0)] [8] 6 3),(1,.cells [.fn 310 []] 76),(2,.cells [.h .bool] 4),(3,.dfr)])⟩:=(fy 274 [(z6r fu).p] [] false [([0,1,0,1],6)] (fl rfl ez)).fo (qaz fu) [] 0 [0,1,0,1]
def q4t:Fx wG ⟨.fn 280,[.yld 0,.ptr 1 0,.ptr 2 0,.ptr 3 0],[(0,.loop .ready none 274 17 [(3,.ptr 4 0),(4,.ptr 5 0)] [8] 6 6),(1,.cells [wS] 9),(2,.cells [wS] 9),(3,.cells [wH] 3),(4,.cells [.fn 310 []] 76),(5,.cells [.h .bool] 4),(6,.dfr)],_,.two (RS.mk (.tup []) [(0,.loop .done (some .ret) 274 17 [(3,.ptr 4 0),(4,.ptr 5 0)] [8] 6 6),(1,.cells [wS] 9),(2,.cells [wS] 9),(3,.cells [wH] 3),(4,.cells [.fn 310 []] 76),(5,.cells [.h .bool] 4),(6,.dfr)]) (RS.mk (.tup []) [(0,.loop .ready none 274 17 [(3,.ptr 4 0),(4,.ptr 5 0)] [8] 6 6),(1,.cells [wS] 9),(2,.cells [wS] 9),(3,.cells [wH] 3),(4,.cells [.fn 310 []] 76),(5,.cells [.h .bool] 4),(6,.dfr)])⟩:=fx [⟨vj.e iz,y6 mv ml mu mj⟩,(z6s fu).p,qdq.p] [lb 320 [(0,.yld 0),(2,.ptr 2 0)] [(0,.loop .ready none 274 17 [(3,.ptr 4 0),(4,.ptr 5 0)] [8] 6 6),(1,.cells [wS] 9),(2,.cells [wS] 9),(3,.cells [wH] 3),(4,.cells [.fn 310 []] 76),(5,.cells [.h .bool] 4),(6,.dfr)],lb 96 [(0,.yld 0),(1,.ptr 1 0),(2,.ptr 2 0),(3,.ptr 3 0)] [(0,.loop .ready none 274 17 [(3,.ptr 4 0),(4,.ptr 5 0)] [8] 6 6),(1,.cells [wS] 9),(2,.cells [wS] 9),(3,.cells [wH] 3),(4,.cells [.fn 310 []] 76),(5,.cells [.h .bool] 4),(6,.dfr)]]
def z6t:Nat->(q4t fu).L 0:=Fx.lq (qw0 fu) (zcn fu) (fun r0=>[r0.s])
def z6u:Nat->(q4t fu).L 1:=Fx.lq (qlp fu) (zco fu) (fun r1=>[r1.s])
def z6v:=(q4t fu).fi (qwz fu) [(z6t fu fu).s,(z6u fu fu).s]
def z6z:EI wG ⟨.fn 274,[wS,.fn 310 []],[],_,RS.mk (.h .bool) []⟩:=(fx [q4q.p,(z6v fu).p] [] false [([0,1,0,1],6)] (fl rfl ez)).fi (qq2 fu)
def znh:EI wG ⟨.fn 271,[wS],[],_,RS.mk (.h .bool) []⟩:=(fx [(z6z fu).p]).fi (qep fu)
def q4x:Fx wG ⟨.thr 224 [],[.ptr 0 0,.own 1],[(0,.dat (.prod .str wI) 207),(1,.row (.prod .str .bool) 316)],_,.two (RS.mk (.tup [.u,.ifc 204 (.agg [wH])]) [(0,.dead),(1,.dead)]) (RS.mk (.h (.prod .str wP)) [(0,.dat (.prod .str wI) 207),(1,.row (.prod .str .bool) 316)])⟩:=fx [(znc fu).p,(znf fu).p,qak.p,(q4s fu).p,(qpx fu).p,(znh fu).p] [lb 14 [(0,.ptr 0 0),(1,.own 1),(4,.ptr 32 0)] [(0,.dat (.prod .str wI) 207),(1,.row (.prod .str .bool) 316),(32,.dat (.prod .str wP) 127)],lb 13 [(0,.ptr 0 0),(1,.own 1),(4,.ptr 32 0),(32,.h .bool)] [(0,.dat (.prod .str wI) 207),(1,.row (.prod .str .bool) 316),(32,.dat (.prod .str wP) 127)]]
def z61:(q4x fu).L 0:=Fx.jm (qrg fu)
def z60:(q4x fu).L 1:=Fx.jm (uq fu) [(z61 fu).s]
def z62:=(q4x fu).ft (qex fu) [(z60 fu).s]
def z63:EI wG ⟨.fn 209,[wS,wS],[],_,RS.mk (.h .bool) []⟩:=(fx).fi qtk
def zni:EI wG ⟨.fn 165,[wS,wS],[],_,RS.mk (.h .bool) []⟩:=(fx [z63.p]).fi qbp
def znj(fu:Nat):Fx wG ⟨.fn 377,[wS],[],_,RS.mk (wH) []⟩:=fx [] [lb 104 [(2,wH),(4,.ptr 32 0)] [(32,.it)]]
def z64:Nat->(znj fu).L 0:=Fx.lq (qxq fu) (zc7 fu) (fun r0=>[r0.s])
def znk:=(znj fu).fi (qxp fu) [(z64 fu fu).s]
def qp0:Fx wG ⟨.fn 361,[wS,wH],[],_,RS.mk (.own 0) [(0,.row .str 9)]⟩:=fx [(znk fu).p,⟨vj.e iz,y6 mv ml mu mj⟩] [lb 2000 [(0,wS),(1,wH),(6,.own 32),(7,wH)] [(32,.row .str 9)],lb 30 [(0,wS),(1,wH)],lb 29 [(0,wS),(1,wH),(5,wH),(18,.h .bool)]]
def z68:Nat->(qp0 fu).L 0:=Fx.lq (qwt fu) (zci fu) (fun r2=>[r2.s])
def z67:(qp0 fu).L 1:=Fx.jm (qws fu) [(z68 fu fu).s]
def z65:(qp0 fu).L 2:=Fx.jm (qwr fu) [(z67 fu).s]
def z69:=(qp0 fu).fi (zch fu) [(z65 fu).s]
def znl:Fx wG ⟨.fn 362,[wS,wS],[],_,RS.mk (wH) []⟩:=fx [(znk fu).p,⟨qry 378 qj8,zp2⟩,qdq.p] [lb 496 [(0,wS),(1,wS),(5,wH)]]
def z7a:Nat->(znl fu).L 0:=Fx.lq (qvw fu) (zbt fu) (fun r0=>[r0.s])
def z7b:=(znl fu).fi (zbs fu) [(z7a fu fu).s]
def q40:Fx wG ⟨.fn 338,[wS,wS,wH,wH],[],_,RS.mk (.h (.list .str)) []⟩:=fx [(z69 fu).p,(z7b fu).p,qdq.p] [lb 16352 [(0,wS),(1,wS),(2,wH),(3,wH),(9,.own 32),(10,wH)] [(32,.row .str 9)],lb 62 [(0,wS),(1,wS),(2,wH),(3,wH)]]
def z7d:Nat->(q40 fu).L 0:=Fx.lq (qf7 fu) (qwv fu) (fun r1=>[r1.s])
def z7c:(q40 fu).L 1:=Fx.jm (qlm fu) [(z7d fu fu).s]
def z7e:=(q40 fu).fi (qwu fu) [(z7c fu).s]
def z7f:EI wG ⟨.fn 311,[wS,wS,wH],[],_,RS.mk (.h (.list .str)) []⟩:=(fx [(z7e fu).p]).fi (qlj fu)
def z7h:EI wG ⟨.fn 302,[.h wB],[],_,RS.mk (.fn 332 [.ptr 0 0]) [(0,.cells [.h wB] 44)]⟩:=(fx).fi qri
def z7i:EI wG ⟨.yld 0,[.agg [.h .byte,.h .byte,.h .byte,.h .byte]],[(0,.loop .ready none 259 31 [(4,.ptr 1 0),(5,.ptr 2 0)] [13] 7 3),(1,.cells [.own 4] 44),(2,.cells [wH] 3),(3,.dfr),(4,.row .byte 5)],_,RS.mk (.c (.bool true)) [(0,.loop .ready none 259 31 [(4,.ptr 1 0),(5,.ptr 2 0)] [13] 7 3),(1,.cells [.own 5] 44),(2,.cells [wH] 3),(3,.dfr),(4,.dead),(5,.row .byte 5)]⟩:=(fy 259 [] [] false [([0,1,0,1,1,1,1],7)] (fl rfl ez)).fo g7 [] 0 [0,1,0,1,1,1,1]
def xg(fu:Nat):Fx wG ⟨.fn 332,[.yld 0,.ptr 1 0],[(0,.loop .ready none 259 31 [(4,.ptr 2 0),(5,.ptr 3 0)] [13] 7 4),(1,.cells [.h wB] 44),(2,.cells [.own 5] 44),(3,.cells [wH] 3),(4,.dfr),(5,.row .byte 5)],_,RS.mk (.tup []) [(0,.loop .ready none 259 31 [(4,.ptr 2 0),(5,.ptr 3 0)] [13] 7 4),(1,.cells [.h wB] 44),(2,.cells [.own 6] 44),(3,.cells [wH] 3),(4,.dfr),(5,.dead),(6,.row .byte 5)]⟩:=fx [z7i.p] [lb 9639 [(0,.yld 0),(1,.ptr 1 0),(3,wH),(4,wH),(14,.c (.int .i64 2))] [(0,.loop .ready none 259 31 [(4,.ptr 2 0),(5,.ptr 3 0)] [13] 7 4),(1,.cells [.h wB] 44),(2,.cells [.own 32] 44),(3,.cells [wH] 3),(4,.dfr),(5,.dead),(32,.row .byte 5)],lb 9639 [(0,.yld 0),(1,.ptr 1 0),(3,wH),(4,wH),(14,.c (.int .i64 1))] [(0,.loop .ready none 259 31 [(4,.ptr 2 0),(5,.ptr 3 0)] [13] 7 4),(1,.cells [.h wB] 44),(2,.cells [.own 32] 44),(3,.cells [wH] 3),(4,.dfr),(5,.dead),(32,.row .byte 5)],lb 9639 [(0,.yld 0),(1,.ptr 1 0),(3,wH),(4,wH),(14,.c (.int .i64 0))] [(0,.loop .ready none 259 31 [(4,.ptr 2 0),(5,.ptr 3 0)] [13] 7 4),(1,.cells [.h wB] 44),(2,.cells [.own 32] 44),(3,.cells [wH] 3),(4,.dfr),(5,.dead),(32,.row .byte 5)],lb 16 [(0,.yld 0),(1,.ptr 1 0)] [(0,.loop .ready none 259 31 [(4,.ptr 2 0),(5,.ptr 3 0)] [13] 7 4),(1,.cells [.h wB] 44),(2,.cells [.own 32] 44),(3,.cells [wH] 3),(4,.dfr),(5,.dead),(32,.row .byte 5)]]
def z7m(r0:(xg fu).L 3):(xg fu).L 0:=Fx.jm (sg fu r0.f) [r0.s]
def z7l(r0:(xg fu).L 3):(xg fu).L 1:=Fx.jm (qa7 fu r0.f) [(z7m fu r0).s]
def z7k(r0:(xg fu).L 3):(xg fu).L 2:=Fx.jm (qa6 fu r0.f) [(z7l fu r0).s]
def z7j:Nat->(xg fu).L 3:=Fx.lq (nk fu) (sf fu) (fun r0=>[(z7k fu r0).s])
def z7n:=(xg fu).fi (qrj fu) [(z7j fu fu).s]
def z7o:EI wG ⟨.fn 259,[.h wB],[],_,RS.mk (.tup [.own 0,.h (.prod wI wI)]) [(0,.row .byte 5)]⟩:=(fx [dc.p,z7h.p,(z7n fu).p,c8.p] [] false [([0,1,0,1,1,1,1],7)] (fl rfl ez)).fi (qe1 fu)
def znn:EI wG ⟨.fn 278,[.h wB],[],_,RS.mk (wS) []⟩:=(fx [(z7o fu).p,⟨zj1.e qbq,zze oE⟩]).fi (yl fu)
def qdx:Fx wG ⟨.fn 312,[wS,wS],[],_,RS.mk (.tup [.own 0,.h .bool]) [(0,.row .byte 5)]⟩:=fx [(zmr fu).p,(znn fu).p,q6o.p] [lb 7055647 [(1,wS),(8,.own 32),(9,wH),(65,.h .bool)] [(32,.row .byte 5)],lb 55120 [(1,wS),(8,.own 32),(9,wH)] [(32,.row .byte 5)],lb 215 [(1,wS),(27,.h .bool)],lb 53 [(1,wS),(12,wS),(13,.h .bool)]]
def z7s(r2:(qdx fu).L 1):(qdx fu).L 0:=Fx.jm (qgd fu r2.f) [r2.s]
def z7r:Nat->(qdx fu).L 1:=Fx.lq (qbt fu) (qx0 fu) (fun r2=>[r2.s,(z7s fu r2).s])
def z7q:(qdx fu).L 2:=Fx.jm (qgc fu) [(z7r fu fu).s]
def z7p:(qdx fu).L 3:=Fx.jm (qgb fu) [(z7q fu).s]
def z7t:=(qdx fu).fi (qls fu) [(z7p fu).s]
def z7u:EI wG ⟨.fn 342,[wS,.h (.int .i32)],[],_,RS.mk (.agg [wS,.fn 365 [.ptr 0 0],.fn 366 [.ptr 0 0]]) [(0,.cells [.h (.int .i32)] 21)]⟩:=(fx).fi qkc
def zno:EI wG ⟨.fn 315,[wS],[],_,.two (RS.mk (.tup [.agg [wS,.fn 365 [.ptr 0 0],.fn 366 [.ptr 0 0]],.h .bool]) [(0,.cells [.h (.int .i32)] 21)]) (.two (RS.mk (.tup [.agg [wS,.fn 343 [],.fn 344 []],.h .bool]) []) (.two (RS.mk (.tup [.agg [wS,.fn 346 [],.fn 347 []],.h .bool]) []) (RS.mk (.tup [.agg [wS,.c .nilFunc,.c .nilFunc],.h .bool]) [])))⟩:=(fx [z7u.p,(om fu).p]).fi (uu fu)
def znp(fu:Nat):Fx wG ⟨.fn 365,[.h wB,.ptr 0 0],[(0,.cells [.h (.int .i32)] 21)],_,RS.mk (.own 1) [(0,.cells [.h (.int .i32)] 21),(1,.row (.int .i32) 21)]⟩:=fx [] [lb 232 [(1,.ptr 0 0),(4,.own 32),(8,.h wB),(9,wH),(10,wH)] [(0,.cells [.h (.int .i32)] 21),(32,.row (.int .i32) 21)]]
def z7v:Nat->(znp fu).L 0:=Fx.lq (qe8 fu) (qsr fu) (fun r0=>[r0.s])
def z7w:=(znp fu).fi (qsq fu) [(z7v fu fu).s]
def z7x:EI wG ⟨.fn 343,[.h wB],[],_,RS.mk (.own 0) [(0,.row (.int .i32) 21)]⟩:=(fx).fi qsp
def z7z:EI wG ⟨.fn 368,[wH,.ptr 0 0],[(0,.cells [.h wB] 44)],_,RS.mk (.h (.int .i32)) [(0,.cells [.h wB] 44)]⟩:=(fx).fi qe9
def xh(fu:Nat):Fx wG ⟨.fn 346,[.h wB],[],_,RS.mk (.own 0) [(0,.row (.int .i32) 21)]⟩:=fx [z7z.p] [lb 62620 [(1,.ptr 32 0),(3,.own 33),(4,.fn 368 [.ptr 32 0]),(5,wH),(6,.h (.int .i32))] [(32,.cells [.h wB] 44),(33,.row (.int .i32) 21)],lb 250475 [(1,.ptr 32 0),(3,.own 33),(4,.fn 368 [.ptr 32 0]),(5,wH),(6,.h (.int .i32)),(7,.h (.int .i32)),(48,.h .bool)] [(32,.cells [.h wB] 44),(33,.row (.int .i32) 21)],lb 31309 [(1,.ptr 32 0),(3,.own 33),(4,.fn 368 [.ptr 32 0]),(5,wH),(6,.h (.int .i32)),(38,.h .bool)] [(32,.cells [.h wB] 44),(33,.row (.int .i32) 21)],lb 976 [(1,.ptr 32 0),(3,.own 33),(4,.fn 368 [.ptr 32 0]),(5,wH)] [(32,.cells [.h wB] 44),(33,.row (.int .i32) 21)]]
def znr(r0:(xh fu).L 3):(xh fu).L 0:=Fx.jm (ye fu r0.f) [r0.s]
def z74(r0:(xh fu).L 3):(xh fu).L 1:=Fx.jm (qfa fu r0.f) [(znr fu r0).s]
def z73(r0:(xh fu).L 3):(xh fu).L 2:=Fx.jm (qbb fu r0.f) [(z74 fu r0).s,(znr fu r0).s]
def z71:Nat->(xh fu).L 3:=Fx.lq (uv fu) (qst fu) (fun r0=>[(z73 fu r0).s])
def z78:=(xh fu).fi (qss fu) [(z71 fu fu).s]
def z79:EI wG ⟨.fn 313,[wS,.h wB],[],_,RS.mk (.tup [wS,.h (.prod wI wI)]) []⟩:=(fx [dc.p,(zno fu).p,(z7w fu).p,c8.p,z7x.p,(z78 fu).p]).fi (qkb fu)
def q45:Fx wG ⟨.fn 272,[wS],[],_,RS.mk (.tup [wS,wH,.h .bool]) []⟩:=fx [zni.p,(z7f fu).p,(z7t fu).p,(z79 fu).p,eg.p] [lb 62 [(5,.h (.list .str))],lb 61 [(5,.h (.list .str)),(28,.h .bool)]]
def z8b:(q45 fu).L 0:=Fx.jm (qx4 fu)
def z8a:(q45 fu).L 1:=Fx.jm (qge fu) [(z8b fu).s]
def z8c:=(q45 fu).fi (qlt fu) [(z8a fu).s]
def zns:EI wG ⟨.fn 273,[.ptr 0 0,.h .byte],[(0,.cells [.pn 0,.own 1] 245),(1,.row .byte 5)],_,RS.mk (.c .nilIface) [(0,.cells [.pn 0,.own 2] 245),(1,.dead),(2,.row .byte 5)]⟩:=(fx [⟨qm8.e ql,q0c⟩]).fi qbn
def z8d:EI wG ⟨.fn 167,[.ptr 0 0,wS],[(0,.cells [.pn 0,.own 1] 245),(1,.row .byte 5)],_,RS.mk (.tup [wH,.c .nilIface]) [(0,.cells [.pn 0,.own 2] 245),(1,.dead),(2,.row .byte 5)]⟩:=(fx [⟨qm8.e ql,q0c⟩]).fi qbo
def xi:Fx wG ⟨.fn 226,[wS],[],_,RS.mk (.tup [wS,.h (.prod wI wI)]) []⟩:=fx [dc.p,(z8c fu).p,zns.p,z8d.p,⟨qzw.e ya,zfg⟩,c8.p,qdn.p] [lb 256342 [(0,wS),(3,.ptr 32 0),(4,.ptr 33 0),(5,wH),(6,wH)] [(32,.dat (.prod wI wI) 36),(33,.cells [.pn 33,.own 34] 245),(34,.row .byte 5)],lb 256341 [(0,wS),(3,.ptr 32 0),(4,.ptr 33 0),(5,wH),(6,wH),(42,.h .bool)] [(32,.dat (.prod wI wI) 36),(33,.cells [.pn 33,.own 34] 245),(34,.row .byte 5)],lb 256340 [(0,wS),(3,.ptr 32 0),(4,.ptr 33 0),(5,wH),(6,wH)] [(32,.dat (.prod wI wI) 36),(33,.cells [.pn 33,.own 34] 245),(34,.row .byte 5)],lb 2000 [(0,wS),(3,.ptr 32 0),(4,.ptr 33 0),(5,wH),(6,wH)] [(32,.dat (.prod wI wI) 36),(33,.cells [.pn 33,.own 34] 245),(34,.row .byte 5)]]
def z8h(r0:(xi fu).L 3):(xi fu).L 0:=Fx.jm (qga fu r0.f) [r0.s]
def z8g(r0:(xi fu).L 3):(xi fu).L 1:=Fx.jm (qf9 fu r0.f) [(z8h fu r0).s]
def z8f(r0:(xi fu).L 3):(xi fu).L 2:=Fx.jm (qf8 fu r0.f) [(z8g fu r0).s]
def z8e:Nat->(xi fu).L 3:=Fx.lq (uw fu) (qxy fu) (fun r0=>[(z8f fu r0).s,r0.s])
def z8i:=(xi fu).fi (qlr fu) [(z8e fu fu).s]
def z8j:EI wG ⟨.fn 225,[.ptr 0 0,.ptr 1 0],[(0,.cells [.own 2] 97),(1,.cells [.own 3] 97),(2,.row .str 9),(3,.row .str 9)],_,RS.mk (.tup []) [(0,.cells [.own 4] 97),(1,.cells [.own 5] 97),(2,.dead),(3,.dead),(4,.row .str 9),(5,.row .str 9)]⟩:=(fx [⟨qh1.e jt,qoc⟩,(z8i fu).p]).fi (qet fu)
def znt:Fx wG ⟨.fn 176,[.h (.list (.prod .str .bool))],[],_,RS.mk (wS) []⟩:=fx [(z8j fu).p,⟨qh1.e jt,qoc⟩] [lb 488 [(3,.ptr 32 0),(4,.ptr 33 0),(5,.fn 225 [.ptr 33 0,.ptr 32 0]),(9,.h (.list (.prod .str .bool))),(10,wH),(11,wH)] [(32,.cells [.own 34] 97),(33,.cells [.own 35] 97),(34,.row .str 9),(35,.row .str 9)]]
def z8k:Nat->(znt fu).L 0:=Fx.lq (qeu fu) (qq0 fu) (fun r0=>[r0.s])
def znu:=(znt fu).fi (qjy fu) [(z8k fu fu).s]
def z8l:EI wG ⟨.thr 175 [],[.ptr 0 0,.own 1],[(0,.dat (.prod .str wI) 207),(1,.row (.prod .str .bool) 316)],_,.two (RS.mk (.tup [.u,.ifc 204 (.agg [wH])]) [(0,.dead),(1,.dead)]) (RS.mk (.h (.prod .str wP)) [(0,.dat (.prod .str wI) 207),(1,.row (.prod .str .bool) 316)])⟩:=(fx [(qpy fu).p,(z62 fu).p,(zna fu).p,(znu fu).p,(q4s fu).p]).ft (qev fu)
def q48:Fx wG ⟨.thr 125 [],[.ptr 0 0],[(0,.dat (.prod .str wI) 207)],_,.two (RS.mk (.tup [.u,.ifc 204 (.agg [wH])]) [(0,.dead)]) (RS.mk (.h (.prod .str (.prod .bool (.list (.prod .str wP))))) [(0,.dat (.prod .str wI) 207)])⟩:=fx [(zna fu).p,(qpy fu).p,(z8l fu).p,(znu fu).p,qak.p,(q4s fu).p] [lb 2032 [(0,.ptr 0 0),(2,.ptr 32 0),(4,.ptr 33 0)] [(0,.dat (.prod .str wI) 207),(32,.cells [wS,.h .bool,wN] 125),(33,.cells [wS,.c (.bool true),.own 34] 125),(34,.row (.prod .str wP) 127)],lb 252 [(0,.ptr 0 0),(2,.ptr 32 0),(4,.ptr 33 0)] [(0,.dat (.prod .str wI) 207),(32,.cells [wS,.h .bool,wN] 125),(33,.cells [wS,.c (.bool true),wN] 125)]]
def z8p:Nat->(q48 fu).L 0:=Fx.lq (qew fu) (qq6 fu) (fun r1=>[r1.s])
def z8o:(q48 fu).L 1:=Fx.jm (qq7 fu) [(z8p fu fu).s]
def z8q:=(q48 fu).ft (xz fu) [(z8o fu).s]
def znw:EI wG ⟨.fn 227,[wS],[],_,RS.mk (wH) []⟩:=(fx [⟨qda.e im,qiv mv ml mu mj⟩]).fi qeo
def z8r:EI wG ⟨.fn 228,[.h (.prod .str wP)],[],_,RS.mk (.h (.prod wI wI)) []⟩:=(fx [znw.p,dc.p,(znc fu).p,(znh fu).p,c8.p]).fi (qjv fu)
def qp3:Fx wG ⟨.fn 178,[.h (.prod .str (.prod .bool (.list (.prod .str wP))))],[],_,RS.mk (wH) []⟩:=fx [znw.p,(z8r fu).p,eg.p] [lb 488 [(31,.h (.list (.prod .str wP))),(32,wH),(33,wH)],lb 60 [(1,.ptr 32 0)] [(32,.dat (.prod .str (.prod .bool (.list (.prod .str wP)))) 125)],lb 29 [(1,.ptr 32 0),(29,.h .bool)] [(32,.dat (.prod .str (.prod .bool (.list (.prod .str wP)))) 125)]]
def z8u:Nat->(qp3 fu).L 0:=Fx.lq (qer fu) (qqy fu) (fun r2=>[r2.s])
def z8t:(qp3 fu).L 1:=Fx.jm (qqz fu) [(z8u fu fu).s]
def z8s:(qp3 fu).L 2:=Fx.jm (qaw fu) [(z8t fu).s]
def z8v:=(qp3 fu).fi (qjw fu) [(z8s fu).s]
def qi4:Fx wG ⟨.fn 128,[.h (.list (.prod .str (.prod .bool (.list (.prod .str wP)))))],[],_,RS.mk (.h (.prod wI wI)) []⟩:=fx [dc.p,(z8v fu).p,c8.p] [lb 1000 [(2,.ptr 32 0),(29,.h (.list (.prod .str (.prod .bool (.list (.prod .str wP)))))),(30,wH),(31,wH)] [(32,.dat (.prod wI wI) 36)],lb 124 [(0,.h (.list (.prod .str (.prod .bool (.list (.prod .str wP)))))),(2,.ptr 32 0)] [(32,.dat (.prod wI wI) 36)],lb 61 [(0,.h (.list (.prod .str (.prod .bool (.list (.prod .str wP)))))),(2,.ptr 32 0),(27,.h .bool)] [(32,.dat (.prod wI wI) 36)],lb 232 [(0,.h (.list (.prod .str (.prod .bool (.list (.prod .str wP)))))),(2,.ptr 32 0),(3,wH),(9,.h (.list (.prod .str (.prod .bool (.list (.prod .str wP)))))),(10,wH),(11,wH)] [(32,.dat (.prod wI wI) 36)]]
def z8z:Nat->(qi4 fu).L 0:=Fx.lq (qel fu) (qqu fu) (fun r3=>[r3.s])
def z8y:(qi4 fu).L 1:=Fx.jm (qqv fu) [(z8z fu fu).s]
def z8x:(qi4 fu).L 2:=Fx.jm (qek fu) [(z8y fu).s]
def z8w:Nat->(qi4 fu).L 3:=Fx.lq (qej fu) (qqt fu) (fun r0=>[r0.s,(z8x fu).s])
def znx:=(qi4 fu).fi (qjp fu) [(z8w fu fu).s]
def q5d:IF:=⟨.thr 69 [(2,2),(3,3)],[],[(1,.cells [wS] 9),(2,.cells [wN] 120),(3,.cells [wH,wH] 36)],_,.two (RS.mk (.tup [.u,.ifc 204 (.agg [wH])]) [(1,.cells [wS] 9),(2,.cells [.u] 120),(3,.cells [.u,.u] 36)]) (RS.mk (.tup [.h (.list (.prod .str (.prod .bool (.list (.prod .str wP))))),.h (.prod wI wI)]) [(1,.dead),(2,.dead),(3,.dead)])⟩
def z81:List (EP wG):=[(q4o fu).p,(z8q fu).p,(znx fu).p,eg.p,dc.p,c8.p,(qpy fu).p,qak.p]
section
variable[iHB:HB]
abbrev fxb{i:IF}(calls:List (EP wG):=[])(ls:List LB:=[])(hf:wG.funcs[y8 i.key]? = some (n9 wG (y8 i.key)):=by kernel_rfl):Fx wG i:=Fx.at etys qys (y8 i.key) calls ls false [] ez hf
def qam:Fx wG q5d:=fxb ((z81 fu).map fun x=>EP.cv x) [lb 252 [(2,.ptr 2 0),(3,.ptr 3 0)] [(1,.cells [wS] 9),(2,.cells [.own 32] 120),(3,.dat (.prod wI wI) 36),(32,.row (.prod .str (.prod .bool (.list (.prod .str wP)))) 125)],lb 16032 [(2,.ptr 2 0),(3,.ptr 3 0),(4,.ptr 32 0)] [(1,.cells [wS] 9),(2,.cells [.own 33] 120),(3,.dat (.prod wI wI) 36),(32,.dat (.prod .str wI) 207),(33,.row (.prod .str (.prod .bool (.list (.prod .str wP)))) 125)],lb 30 [(1,.ptr 1 0),(2,.ptr 2 0),(3,.ptr 3 0)] [(1,.cells [wS] 9),(2,.cells [wN] 120),(3,.dat (.prod wI wI) 36)]]
def zny:(qam fu).L 0:=Fx.jm (qen fu)
def z83:Nat->(qam fu).L 1:=Fx.lq (xw fu) (qqw fu) (fun r2=>[r2.s,(zny fu).s])
def z82:(qam fu).L 2:=Fx.jm (qau fu) [(zny fu).s,(z83 fu fu).s]
end
def xm(fu:Nat):Fx wG ⟨.fn 69,[wS],[],_,RS.mk (.tup [.h (.list (.prod .str (.prod .bool (.list (.prod .str wP))))),.h (.prod wI wI)]) []⟩:=fx [dc.p] [lb 14 [(1,.ptr 32 0),(2,.ptr 33 0),(3,.ptr 34 0)] [(32,.cells [wS] 9),(33,.cells [wN] 120),(34,.dat (.prod wI wI) 36)]]
def zu9(c a:Int)(w:World):Calls wG 12 #[.int .i64 c,.int .i64 a] w fun e w'=>e = .returned (.agg #[.int .i64 c,.int .i64 a])/\w'=w.alloc (.cells #[.int .i64 c,.int .i64 a] 36):=by
 go_enter func12,Tryz.ntmps12
 go_wp2
 simp[bodyPost,results,Tryz.results12,go_sem]
def ztl(p q r:Addr)(w:World) :
  CallsD wG 123 #[.pointer (some p),.pointer (some q),.pointer (some r)] .returning w fun e u' w'=>e = .returned (.tuple #[])/\u' = .returning/\w'=w:=by
 have hnil:∀w:World,(binOp BinOp.eql 20 .nilIface .nilIface).run wG w = .ok (.bool true) w:=fun _=>oB
 refine callsD_of_wpS func123 rfl fun vha cs hu => ?_
 apply wpS_seq;apply wpS_region;simp[wpOpsS,go_sem,recoverD,hu,Tryz.ntmps123,Exit.thenS];refine wpS_of_wp ?_;apply wp_block;apply wp_seq;apply wp_region;simp[wpOps,go_sem,hnil,Exit.then,Oper.upon]
 repeat refine Or.inl ?_
 refine wp_cond_true ?_ ?_
 ·simp[Act.eval]
 apply wp_region;simp[wpOps,go_sem,Exit.inBlock,bodyPostS,results,Tryz.results123,Oper.upon]
 repeat refine Or.inl ?_
 cases vha
 simp_all
def ztm(B1 B2 B3:Nat)(s:Bs)(n:Int)(x y z:Value)(w:World)(h1:w.cell? ⟨B1,0,none⟩=some (.string ⟨s.toArray⟩))(h2:w.heap[B2]? = some (.cells #[x] 120 (0,0)))(h3:w.heap[B3]? = some (.cells #[y,z] 36 (0,0)))(hne:B2≠B3) :
  CallsD wG 123 #[.pointer (some ⟨B1,0,none⟩),.pointer (some ⟨B2,0,none⟩),.pointer (some ⟨B3,0,none⟩)] (.panicking [{ v:=wv 204 n,recovered:=false }]) w fun e u' w'=>e = .returned (.tuple #[])/\u' = .panicking [{ v:=wv 204 n,recovered:=true }] /\
   w'=((((w.alloc (.cells #[.int .i64 n] 204)).alloc (.cells #[.int .i64 11,.int .i64 (if(s.length:Int)<n then s.length else n)] 36)).setCell ⟨B2,0,none⟩ (.slice none 0 0)).setCell ⟨B3,0,none⟩ (.int .i64 11)).setCell ⟨B3,1,none⟩ (.int .i64 (if(s.length:Int)<n then s.length else n)):=by
 have hnil:∀(t:TypeId)(v:Value)(w:World),(binOp BinOp.eql 20 (.iface t v) .nilIface).run wG w = .ok (.bool false) w:=fun t v w=>by
  have hu:wG.underlying 20=some (.interface #[]):=oB
  have q:∀d,(Op.equalIn (d+1) 20 (.iface t v) .nilIface).run wG w = .ok false w:=fun d=>by simp[Op.equalIn,bh hu]
  have e:(Op.equal 20 (.iface t v) .nilIface).run wG w = .ok false w:=q 9999;simp[binOp,e]
 have hta:∀w:World,(Instr.typeAssert (.iface 204 (.agg #[.int .i64 n])) 20 204 true).run wG w = .ok (.tuple #[.agg #[.int .i64 n],.bool true]) w:=fun w=>by
  have hs:(match wG.underlying 204 with|some (.struct _)=>true|_=>false)=true:=oB
  cases hd:wG.underlying 204 with
  |none=>rw[hd]at hs;cases hs
  |some d=>
   rw[hd]at hs;cases d<;>first
    |(simp[Instr.typeAssert,underlying,hd];done)
    |cases hs
 refine callsD_of_wpS func123 rfl fun vha cs hu => ?_
 apply wpS_seq;apply wpS_region;simp[wpOpsS,go_sem,recoverD,hu,Tryz.ntmps123,Exit.thenS];refine wpS_of_wp ?_;apply wp_block;apply wp_seq;apply wp_region;simp[wpOps,go_sem,wv,hnil,Exit.then,Oper.upon]
 repeat refine Or.inl ?_
 refine wp_cond_false ?_ ?_
 ·simp[Act.eval]
 apply wp_seq;apply wp_region;simp[wpOps,go_sem,hta,Exit.then,Oper.upon]
 repeat refine Or.inl ?_
 refine wp_cond_true ?_ ?_
 ·simp[Act.eval]
 apply wp_seq;apply wp_region;simp[wpOps,go_sem,Exit.then,Oper.upon]
 repeat refine Or.inl ?_
 have g1:w.heap[B1]? ≠ none:=fun e=>by simp[World.cell?,e]at h1
 have l1:B1<w.heap.size:=by
  rcases Nat.lt_or_ge B1 w.heap.size with h|h
  ·exact h
  ·exact absurd (Array.getElem?_eq_none h) g1
 have l2:B2<w.heap.size:=(Array.getElem?_eq_some_iff.1 h2).1;have l3:B3<w.heap.size:=(Array.getElem?_eq_some_iff.1 h3).1;apply wp_region;have hb:∀(w:World)(o:Obj)(B:Nat),B<w.heap.size->(w.alloc o).heap[B]? = w.heap[B]? := fun w o B h=>by
  show(w.heap.push o)[B]? = _;rw[Array.getElem?_push,qW]
 have c1:(w.alloc (.cells #[.int .i64 n] 204)).cell? ⟨B1,0,none⟩=some (.string ⟨s.toArray⟩):=by
  rw[World.cell?_of_block (w:=w) (hb w _ B1 l1)];exact h1
 have hmin:∀(a b:Int)(w:World),(Builtin.min_ #[3,3] 3 #[.int .i64 a,.int .i64 b]).run wG w = .ok (.int .i64 (if b<a then b else a)) w:=fun a b w=>by
  simp[Builtin.min_,Builtin.min2]
 simp[wpOps,go_sem,Exit.then,Oper.upon,c1,hmin]
 repeat refine Or.inl ?_
 refine(zu9 _ _ _).mono ?_;rintro e w' ⟨rfl,rfl⟩
 generalize hw2:(w.alloc (Obj.cells #[Value.int IntKind.i64 n] 204)).alloc (Obj.cells #[Value.int IntKind.i64 11,Value.int IntKind.i64 (if(s.length:Int)<n then(s.length:Int) else n)] 36)=w2
 have e2:w2.heap[B2]? = some (.cells #[x] 120 (0,0)):=by
  rw[← hw2,hb _ _ _ (by rw[World.size_alloc];omega),hb _ _ _ l2];exact h2
 have e3:w2.heap[B3]? = some (.cells #[y,z] 36 (0,0)):=by
  rw[← hw2,hb _ _ _ (by rw[World.size_alloc];omega),hb _ _ _ l3];exact h3
 have d2:w2.cell? ⟨B2,0,none⟩=some x:=by simp[World.cell?,e2]
 have f2:w2.frozen? ⟨B2,0,none⟩=false:=by simp[World.frozen?,e2]
 generalize hw3:w2.setCell ⟨B2,0,none⟩ (.slice none 0 0)=w3;have e3':w3.heap[B3]? = some (.cells #[y,z] 36 (0,0)):=by
  rw[← hw3];simp only[World.setCell,Array.getElem?_modify];rw[qW hne];exact e3
 have d3:w3.cell? ⟨B3,0,none⟩=some y:=by simp[World.cell?,e3']
 have f3:w3.frozen? ⟨B3,0,none⟩=false:=by simp[World.frozen?,e3']
 generalize hw4:w3.setCell ⟨B3,0,none⟩ (.int .i64 11)=w4;have e4:w4.heap[B3]? = some (.cells #[.int .i64 11,z] 36 (0,0)):=by
  rw[← hw4];simp[World.setCell,Array.getElem?_modify,e3']
 have d4:w4.cell? ⟨B3,1,none⟩=some z:=by simp[World.cell?,e4]
 have f4:w4.frozen? ⟨B3,1,none⟩=false:=by simp[World.frozen?,e4]
 simp[wpOps,go_sem,Exit.then,Oper.upon,d2,f2,hw3,storeCells,d3,f3,hw4,d4,f4,Addr.add]
 repeat refine Or.inl ?_
 refine⟨rfl,_,rfl,.tuple #[],?_,rfl,rfl,rfl⟩;simp[results,Tryz.results123]
def ii(p:List Nat):Code:=sub (tf (n9 wG 69)) p
def gl(i:Nat):Oper:=match ii [0,1,1] with|.region _ ops _=>ops[i]?.getD default|_=>default
def zyi:ii [0,1,1] = .region 3 #[gl 0,gl 1] false:=oB
def zyk:ii [1,1,1] = .seq (ii [0,1,1,1]) (ii [1,1,1,1]):=oB
def zyc:(gl 0).op = .makeFunc (.func 123) #[] #[.tmp 1,.tmp 2,.tmp 3]:=oB
def zyd:(gl 0).dst=some 10:=oB
def zye:(gl 0).guard=none:=oB
def zyf:(gl 1).op = .defer { callee := .value (.tmp 10),args:=#[],argTypes:=#[] }:=oB
def zyg:(gl 1).dst=none:=oB
def zyh:(gl 1).guard=none:=oB
def zx9:dw (jz (xm fu).body (kl 0 (xm fu).ls).1)=[.code (ii [0,1,1]),.code (ii [1,1,1])]:=oB
def zym[HB](fu:Nat):dw (jz (qam fu).body (kl 2 (qam fu).ls).1)=[.code (ii [0,1,1,1]),.code (ii [1,1,1,1])]:=oB
def oc(B1 B2 B3:Nat):Deferred:={ target := .fn (.func 123) #[.pointer (some ⟨B1,0,none⟩),.pointer (some ⟨B2,0,none⟩),.pointer (some ⟨B3,0,none⟩)],args:=#[] }
def zx8{b:Frame}{a:Act}{k:List Item}{cs:List Frame}{w:World}{B1 B2 B3:Nat}(hro:b.roundOf=none)(hk:b.kind = .normal)(hsz:10<a.tmps.size)(h1:a.tmps[1]? = some (.pointer (some ⟨B1,0,none⟩)))(h2:a.tmps[2]? = some (.pointer (some ⟨B2,0,none⟩)))(h3:a.tmps[3]? = some (.pointer (some ⟨B3,0,none⟩))) :
  ∃v,Steps wG (lone (b.atR a (.code (ii [0,1,1])::k)) cs w) (lone (b.atR { tmps:=a.tmps.setIfInBounds 10 v,defers:=oc B1 B2 B3::a.defers } k) cs w):=by
 refine⟨.func (.func 123) #[] #[.pointer (some ⟨B1,0,none⟩),.pointer (some ⟨B2,0,none⟩),.pointer (some ⟨B3,0,none⟩)],?_⟩;rw[zyi];have e:∀t v,a.tmps[t]? = some v->a.eval (.tmp t)=v:=fun t v h=>by
  show a.tmps.getD t undef=v;rw[Array.getD_eq_getD_getElem?,h];rfl
 have s0:∀(rest:List Nat),step wG (lone (b.atR a (.inRegion #[gl 0,gl 1] (0::rest)::k)) cs w) = .next (lone (b.atR { tmps:=a.tmps.setIfInBounds 10 (.func (.func 123) #[] #[.pointer (some ⟨B1,0,none⟩),.pointer (some ⟨B2,0,none⟩),.pointer (some ⟨B3,0,none⟩)]),defers:=a.defers } (.inRegion #[gl 0,gl 1] rest::k)) cs w):=by
  intro rest;have ho:(#[gl 0,gl 1]:Array Oper)[0]? = some (gl 0):=rfl;have hw:Region.wanted (gl 0) (yielded #[gl 0,gl 1] a.tmps)=true:=by simp[Region.wanted,zye]
  have hg:=stepGR_op (P:=wG) (b:=b) (a:=a) (k:=k) (cs:=cs) (w:=w) (rest:=rest) ho hw;rw[hro,Oper.semAt_none]at hg;have hr:(execOp a.eval (gl 0)).run wG w = .ok (.value (.func (.func 123) #[] #[.pointer (some ⟨B1,0,none⟩),.pointer (some ⟨B2,0,none⟩),.pointer (some ⟨B3,0,none⟩)])) w:=by
   simp[execOp,zyc,Instr.makeFunc,e 1 _ h1,e 2 _ h2,e 3 _ h3]
  have hfin:=Frame.finish_atR b a #[gl 0,gl 1] 0 rest k (.func (.func 123) #[] #[.pointer (some ⟨B1,0,none⟩),.pointer (some ⟨B2,0,none⟩),.pointer (some ⟨B3,0,none⟩)]);rw[ho]at hfin;simp only[qB,zyd]at hfin;refine step_lone_go ?_;rw[hg];simp[stepG.apply,hr];rw[hfin];rfl
 refine(Steps.one stepR_region).trans ?_;show Steps wG (lone (b.atR a (.inRegion #[gl 0,gl 1] [0,1]::k)) cs w) _;refine(Steps.one (s0 [1])).trans ((Steps.one (z0t (i:=1) rfl zyh zyf zyg hro (dd:=oc B1 B2 B3) ?_)).trans (.one stepR_region_end));have e10:({ tmps:=a.tmps.setIfInBounds 10 (.func (.func 123) #[] #[.pointer (some ⟨B1,0,none⟩),.pointer (some ⟨B2,0,none⟩),.pointer (some ⟨B3,0,none⟩)]),defers:=a.defers }:Act).eval (.tmp 10) = .func (.func 123) #[] #[.pointer (some ⟨B1,0,none⟩),.pointer (some ⟨B2,0,none⟩),.pointer (some ⟨B3,0,none⟩)]:=by
  show(a.tmps.setIfInBounds 10 _).getD 10 undef=_;rw[Array.getD_eq_getD_getElem?,Array.getElem?_setIfInBounds_self_of_lt hsz];rfl
 simp[resolve,e10,Deferred.ofValue,oc]
abbrev jj:List (Nat×Nat):=[(1,32),(2,33),(3,34)]
abbrev PTy:Ty := .list (.prod .str (.prod .bool (.list (.prod .str wP))))
def zjc(B1 B2 B3:Nat)(w':World):(invoke (.fn (.func 123) #[.pointer (some ⟨B1,0,none⟩),.pointer (some ⟨B2,0,none⟩),.pointer (some ⟨B3,0,none⟩)]) #[]).run wG w' = .ok (.enter 123 #[.pointer (some ⟨B1,0,none⟩),.pointer (some ⟨B2,0,none⟩),.pointer (some ⟨B3,0,none⟩)]) w':=by
 simp[go_sem]
def zyj{S:Bs}{f0:Int×Int}{vhe:World}{vg8 G G':Gh}{a:Act}{w w':World}{s:St}(hhp:s.hp=[(32,.cells [.str S] 9),(33,.cells [.val (.slice none 0 0)] 120),(34,.cells [.int .i64 f0.1,.int .i64 f0.2] 36)])(hnx:s.nx=64)(hrel:ai vhe vg8 [] G s a w)
  {x:Machine} {cs:List Frame} {fr:Frame} {B1 B2 B3:Nat} {v:Value} {fn':Func} {l:List (Bs×Bool×List (Bs×Bs×Bs))} {f1 f2:Int}
  (hs:Steps wG x (lone fr cs w')) (hfn:fr.fn=69) (hmode:fr.mode = .returning) (hdef:fr.defers=[oc B1 B2 B3]) (hkind:fr.kind = .normal) (hfn':wG.funcs[fr.fn]? = some fn') (hres:(results fn' fr.tmps).run wG w' = .ok v w')
  (hf:Fin w (G.view jj) [(1,.cells [.str S] 9),(2,.cells [.val (.slice none 0 0)] 120),(3,.cells [.int .i64 f0.1,.int .i64 f0.2] 36)] G' [(1,.dead),(2,.dead),(3,.dead)] w')
  (hrep:aj (.tup [.sl (.prod .str (.prod .bool (.list (.prod .str wP)))) l,.agg [.int .i64 f1,.int .i64 f2]]) G' v) :
  oo wG none 69 x cs (fun v w'=>∃G',Fin vhe vg8 [] G' [] w'/\aj (.tup [.sl (.prod .str (.prod .bool (.list (.prod .str wP)))) l,.agg [.int .i64 f1,.int .i64 f2]]) G' v):=by
 have hL:Leaves wG fn' fr.tmps (fun e w''=>e = .returned v/\w''=w') [oc B1 B2 B3] .returning w':=by
  refine leaves_cons (f:=123) oC (zjc B1 B2 B3 w') ((ztl _ _ _ w').mono ?_)
  rintro e u' w'' ⟨rfl,rfl,rfl⟩
  exact⟨v,hres,rfl,rfl⟩
 obtain⟨e,w'',fr',⟨rfl,rfl⟩,hc,hfn2,hl⟩:=leaves_steps [oc B1 B2 B3] .returning w' fr cs hmode hdef rfl hfn' hkind hL;obtain⟨m1,m2,m3,fn3,m4,m5⟩:=hl;refine⟨v,w'',fr',?_,hs.trans hc,hfn2.trans hfn,m1,m2,m3,fn3,m4,m5⟩;obtain⟨n,fr0,hp,nx,df⟩:=s;simp only at hhp hnx;subst hhp hnx;obtain⟨G2,v2,e2,h2,_,hR⟩:=qh8 (r := .tup [.sl (.prod .str (.prod .bool (.list (.prod .str wP)))) l,.agg [.int .i64 f1,.int .i64 f2]]) (names:=jj) (e := .returned v) hrel (k:=64) (by rfl) (by rfl) (wF _) (hpv:=[(1,.cells [.str S] 9),(2,.cells [.val (.slice none 0 0)] 120),(3,.cells [.int .i64 f0.1,.int .i64 f0.2] 36)]) (by rfl) (hp:=[(1,.cells [.str S] 9),(2,.cells [.val (.slice none 0 0)] 120),(3,.cells [.int .i64 f0.1,.int .i64 f0.2] 36)]) (hp':=[(1,.dead),(2,.dead),(3,.dead)]) (by rfl) (by simp[ap,AV.ren,AV.rens,lz]) ⟨v,G',rfl,hf,hrep⟩
 cases e2
 exact⟨G2,(g8.less hR.lt (s':={ n:=43,fr:=[],hp:=[],nx:=64,df:=df }) rfl (fun _ _ h=>by cases h) (fun _ _ h=>by cases h)).fin,h2⟩
def zyl{S:Bs}{f0:Int×Int}{vhe:World}{vg8 G G':Gh}{a:Act}{w w':World}{s:St}(hhp:s.hp=[(32,.cells [.str S] 9),(33,.cells [.val (.slice none 0 0)] 120),(34,.cells [.int .i64 f0.1,.int .i64 f0.2] 36)])(hnx:s.nx=64)(hrel:ai vhe vg8 [] G s a w)
  {x:Machine} {cs:List Frame} {fr:Frame} {B1 B2 B3:Nat} {n:Int} {S':Bs} (g1:G.box 32=some B1) (g2:G.box 33=some B2) (g3:G.box 34=some B3)
  (hs:Steps wG x (lone fr cs w')) (hfn:fr.fn=69) (hmode:fr.mode = .panicking [{ v:=wv 204 n,recovered:=false }]) (hdef:fr.defers=[oc B1 B2 B3]) (hkind:fr.kind = .normal)
  (t2:fr.tmps[2]? = some (.pointer (some ⟨B2,0,none⟩))) (t3:fr.tmps[3]? = some (.pointer (some ⟨B3,0,none⟩)))
  (hf:Fin w (G.view jj) [(1,.cells [.str S] 9),(2,.cells [.val (.slice none 0 0)] 120),(3,.cells [.int .i64 f0.1,.int .i64 f0.2] 36)] G' [(1,.cells [.str S'] 9),(2,.cells [.undef] 120),(3,.cells [.undef,.undef] 36)] w') :
  oo wG none 69 x cs (fun v w'=>∃G',Fin vhe vg8 [] G' [] w'/\aj (.tup [.sl (.prod .str (.prod .bool (.list (.prod .str wP)))) [],.agg [.int .i64 11,.int .i64 (if(S'.length:Int)<n then(S'.length:Int) else n)]]) G' v):=by
 obtain⟨C1,vs1,c1,h1,r1,_⟩:=hf.mem.holds 1 _ rfl;obtain⟨C2,vs2,c2,h2,r2,_⟩:=hf.mem.holds 2 _ rfl;obtain⟨C3,vs3,c3,h3,r3,_⟩:=hf.mem.holds 3 _ rfl;have e1:C1=B1:=by
  have:=hf.keep 1 _ B1 rfl (show(G.view jj).box 1=some B1 from g1)
  rw[c1]at this;exact qJ this
 have e2:C2=B2:=by
  have:=hf.keep 2 _ B2 rfl (show(G.view jj).box 2=some B2 from g2)
  rw[c2]at this;exact qJ this
 have e3:C3=B3:=by
  have:=hf.keep 3 _ B3 rfl (show(G.view jj).box 3=some B3 from g3)
  rw[c3]at this;exact qJ this
 subst e1 e2 e3;have hne:C2≠C3:=fun e=>by
  have:=hf.mem.apart 2 3 _ _ C2 rfl rfl c2 (by rw[e];exact c3)
  omega
 obtain⟨u1,rfl,q1⟩:=zj5 r1;simp only[aj]at q1;subst q1;obtain⟨u2,rfl,_⟩:=zj5 r2;obtain⟨y3,z3,rfl⟩:=zzj r3;have d1:w'.cell? ⟨C1,0,none⟩=some (.string ⟨S'.toArray⟩):=by simp[World.cell?,h1]
 generalize hm:(if(S'.length:Int)<n then(S'.length:Int) else n)=m
 have hcw:=ztm C1 C2 C3 S' n u2 y3 z3 w' d1 h2 h3 hne;rw[hm]at hcw;generalize hw1:(w'.alloc (.cells #[.int .i64 n] 204)).alloc (.cells #[.int .i64 11,.int .i64 m] 36)=w1 at hcw;have b1:b9 (fun b=>b=C2\/b=C3) w' w1:=by
  rw[← hw1];exact(ze3.wide fun _ h=>h.elim).tr (ze3.wide fun _ h=>h.elim)
 have l2:C2<w'.heap.size:=(Array.getElem?_eq_some_iff.1 h2).1;have l3:C3<w'.heap.size:=(Array.getElem?_eq_some_iff.1 h3).1;have hb:∀(w:World)(o:Obj)(B:Nat),B<w.heap.size->(w.alloc o).heap[B]? = w.heap[B]? := fun w o B h=>by
  show(w.heap.push o)[B]? = _;rw[Array.getElem?_push,qW]
 have k2:w1.heap[C2]? = some (.cells #[u2] 120 (0,0)):=by
  rw[← hw1,hb _ _ _ (by rw[World.size_alloc];omega),hb _ _ _ l2];exact h2
 have k3:w1.heap[C3]? = some (.cells #[y3,z3] 36 (0,0)):=by
  rw[← hw1,hb _ _ _ (by rw[World.size_alloc];omega),hb _ _ _ l3];exact h3
 generalize hw4:((w1.setCell ⟨C2,0,none⟩ (.slice none 0 0)).setCell ⟨C3,0,none⟩ (.int .i64 11)).setCell ⟨C3,1,none⟩ (.int .i64 m)=w4 at hcw;have b4:b9 (fun b=>b=C2\/b=C3) w' w4:=by
  rw[← hw4];exact((b1.tr (qzr.wide fun _ h => .inl h)).tr (qzr.wide fun _ h => .inr h)).tr (qzr.wide fun _ h => .inr h)
 have j2:w4.heap[C2]? = some (.cells #[.slice none 0 0] 120 (0,0)):=by
  rw[← hw4];simp[World.setCell,Array.getElem?_modify,k2,(Ne.symm hne:¬C3=C2)]
 have j3:w4.heap[C3]? = some (.cells #[.int .i64 11,.int .i64 m] 36 (0,0)):=by
  rw[← hw4];simp[World.setCell,Array.getElem?_modify,k3,hne]
 have i2:w4.cell? ⟨C2,0,none⟩=some (.slice none 0 0):=by simp[World.cell?,j2]
 have i3:w4.cell? ⟨C3,0,none⟩=some (.int .i64 11):=by simp[World.cell?,j3]
 have i4:w4.cell? ⟨C3,1,none⟩=some (.int .i64 m):=by simp[World.cell?,j3]
 have hres:(results f69 fr.tmps).run wG w4 = .ok (.tuple #[.slice none 0 0,.agg #[.int .i64 11,.int .i64 m]]) w4:=by
  simp[results,Tryz.results69,go_sem,t2,t3,i2,i3,i4]
 have hL:Leaves wG f69 fr.tmps (fun e w''=>e = .returned (.tuple #[.slice none 0 0,.agg #[.int .i64 11,.int .i64 m]])/\w''=w4) [oc C1 C2 C3] (.panicking [{ v:=wv 204 n,recovered:=false }]) w':=by
  refine leaves_cons (f:=123) oC (zjc C1 C2 C3 w') (hcw.mono ?_)
  rintro e u' w'' ⟨rfl,rfl,rfl⟩
  exact⟨_,hres,rfl,rfl⟩
 obtain⟨e,w'',fr',⟨rfl,rfl⟩,hc,hfn2,hl⟩:=leaves_steps [oc C1 C2 C3] _ w' fr cs hmode hdef rfl (by rw[hfn];exact func69) hkind hL
 obtain⟨m1,m2,m3,fn3,m4,m5⟩:=hl;refine⟨_,w'',fr',?_,hs.trans hc,hfn2.trans hfn,m1,m2,m3,fn3,m4,m5⟩;obtain⟨nn,fr0,hp,nx,df⟩:=s;simp only at hhp hnx;subst hhp hnx;obtain⟨G2,v2,_,_,hle,hR⟩:=qh8 (r := .undef) (names:=jj) (e := .returned undef) hrel (k:=64) (by rfl) (by rfl) (wF _) (hpv:=[(1,.cells [.str S] 9),(2,.cells [.val (.slice none 0 0)] 120),(3,.cells [.int .i64 f0.1,.int .i64 f0.2] 36)]) (by rfl) (hp:=[(1,.cells [.str S] 9),(2,.cells [.val (.slice none 0 0)] 120),(3,.cells [.int .i64 f0.1,.int .i64 f0.2] 36)]) (hp':=[(1,.cells [.str S'] 9),(2,.cells [.undef] 120),(3,.cells [.undef,.undef] 36)]) (by rfl) (by simp[ap,AV.ren,AV.rens,lz]) ⟨undef,G',rfl,hf,trivial⟩
 have o2:G2.box 33=some C2:=hle.box _ _ g2;have o3:G2.box 34=some C3:=hle.box _ _ g3;refine⟨G2,hR.fin.wild b4 fun b hb => ?_,_,rfl,⟨none,0,rfl,oC,.inl rfl⟩,⟨_,rfl,rfl,rfl,trivial⟩,trivial⟩
 rcases hb with rfl|rfl
 ·obtain⟨B,vs,p1,_,_,_,p5⟩:=hR.fin.mem.holds 33 (.cells [.undef] 120) rfl;rw[o2]at p1;cases p1;exact⟨p5,hR.fin.base 33 (.cells [.undef] 120) _ rfl o2⟩
 ·obtain⟨B,vs,p1,_,_,_,p5⟩:=hR.fin.mem.holds 34 (.cells [.undef,.undef] 36) rfl;rw[o3]at p1;cases p1;exact⟨p5,hR.fin.base 34 (.cells [.undef,.undef] 36) _ rfl o3⟩
def zx7{S:Bs}{f0:Int×Int}{r:qye}(hr:qat fu S f0=some r){vhe:World}{vg8 G:Gh}{a:Act}{w:World}
  (hrel:ai vhe vg8 [] G { n:=43,fr:=[(1,.ptr 32 0),(2,.ptr 33 0),(3,.ptr 34 0)],hp:=[(32,.cells [.str S] 9),(33,.cells [.val (.slice none 0 0)] 120),(34,.cells [.int .i64 f0.1,.int .i64 f0.2] 36)],nx:=64,df:=[] } a w)
  {b:Frame} (cs:List Frame) (hb:b.fn=69) (hkd:b.kind = .normal) (hro:b.roundOf=none) :
  oo wG none 69 (lone (b.atR a.bs [.code (ii [0,1,1]),.code (ii [1,1,1])]) cs w) cs (fun v w'=>∃G',Fin vhe vg8 [] G' [] w'/\aj (.tup [.sl (.prod .str (.prod .bool (.list (.prod .str wP)))) r.1,.agg [.int .i64 r.2.1,.int .i64 r.2.2]]) G' v):=by
 obtain⟨v1,t1,B1,g1,rfl⟩:=hrel.frame 1 _ rfl;obtain⟨v2,t2,B2,g2,rfl⟩:=hrel.frame 2 _ rfl;obtain⟨v3,t3,B3,g3,rfl⟩:=hrel.frame 3 _ rfl;have hd0:a.defers=[]:=by
  obtain⟨bs,e1,e2⟩:=hrel.defers;have:bs=[]:=by cases bs with|nil=>rfl|cons _ _=>simp at e2
  rw[e1,this];rfl
 have hsz:a.tmps.size=43:=hrel.size;have habs:a.bs=a:=by
  obtain⟨tm,df⟩:=a;show({ tmps:=tm,defers:=df++[] }:Act)=_;rw[List.append_nil]
 rw[habs];obtain⟨cl,hstep⟩:=zx8 (k:=[.code (ii [1,1,1])]) (cs:=cs) (w:=w) hro hkd oA t1 t2 t3
 rw[hd0]at hstep;have hstep2:Steps wG (lone (b.atR a [.code (ii [0,1,1]),.code (ii [1,1,1])]) cs w) (lone (b.atR { tmps:=a.tmps.setIfInBounds 10 cl,defers:=[oc B1 B2 B3] } [.code (ii [0,1,1,1]),.code (ii [1,1,1,1])]) cs w):=by
  refine hstep.trans (.one ?_);rw[zyk];exact stepR_seq
 refine oo.head hstep2 ?_
 -- what is known of the body behind
 unfold qat at hr
 cases hz:qau fu S f0 with
 |none=>
  rw[show qem fu S f0.1 f0.2=qau fu S f0 from rfl,hz]at hr;cases hr
 |some z=>
 rw[show qem fu S f0.1 f0.2=qau fu S f0 from rfl,hz]at hr
 have hr:ay z (fun a2=>some (([]:PTy.den),((11:Int),if(a2.2.length:Int)<a2.1 then(a2.2.length:Int) else a2.1))) (fun b3=>some b3)=some r:=hr
 have hv:gv (ar jj) [(32,.cells [.str S] 9),(33,.cells [.val (.slice none 0 0)] 120),(34,.cells [.int .i64 f0.1,.int .i64 f0.2] 36)] jj=some [(1,.cells [.str S] 9),(2,.cells [.val (.slice none 0 0)] 120),(3,.cells [.int .i64 f0.1,.int .i64 f0.2] 36)]:=rfl;have hdist:dr jj=true:=rfl;have hm:bp (G.view jj) [(1,.cells [.str S] 9),(2,.cells [.val (.slice none 0 0)] 120),(3,.cells [.int .i64 f0.1,.int .i64 f0.2] 36)] w:=hrel.fin.mem.view hv (vk hdist)
 let hb:HB:=⟨[oc B1 B2 B3]⟩
 have hsame:LC.Same (@instLCOfHB instHB) (@instLCOfHB hb):=⟨rfl,rfl,rfl,rfl,rfl⟩;have hm':=bp.cv hsame hm;have nb:∀(k m:Nat),k≠m->Nat.beq k m=false:=fun k m h=>by
  cases hq:Nat.beq k m
  ·rfl
  ·exact absurd (qN hq) h
 have hset:∀i v,i≠10->a.tmps[i]? = some v->(a.tmps.setIfInBounds 10 cl)[i]? = some v:=fun i v hi h=>by
  rw[Array.getElem?_setIfInBounds,qW (fun e=>hi e.symm)];exact h
 have hrel':=@ai.fresh_start (@instLCOfHB hb) G _ w jj hm' (fun m hm=>by
  simp only[jj,az,nb 1 m oA,nb 2 m oA,nb 3 m oA,qF]) 43 [(1,.ptr 1 0),(2,.ptr 2 0),(3,.ptr 3 0)] (a.tmps.setIfInBounds 10 cl) (by simpa using hsz) (fun i x hx=>by
  by_cases e1:i=1
  ·subst e1;cases hx;exact⟨_,hset 1 _ oA t1,B1,g1,rfl⟩
  by_cases e2:i=2
  ·subst e2;cases hx;exact⟨_,hset 2 _ oA t2,B2,g2,rfl⟩
  by_cases e3:i=3
  ·subst e3;cases hx;exact⟨_,hset 3 _ oA t3,B3,g3,rfl⟩
  simp only[af,nb 1 i (fun e=>e1 e.symm),nb 2 i (fun e=>e2 e.symm),nb 3 i (fun e=>e3 e.symm),qF]at hx
  cases hx)
 have hgo:=(z82 (iHB:=hb) fu).h ((S,()),((),()),((f0.1,(f0.2,())),())) (((),(),(),()),((S,()),((),()),(f0,()))) z hz w (G.view jj) (G.view jj) _ w hrel' b cs ‹b.fn=69› hkd hro;rw[hro]at hgo;have hs0:∀y,Steps wG (lone (b.atR (@Act.bs (@instLCOfHB hb) { tmps:=a.tmps.setIfInBounds 10 cl,defers:=[] }) (dw (jz (qam (iHB:=hb) fu).body (kl 2 (qam (iHB:=hb) fu).ls).1))) cs w) y->Steps wG (lone (b.atR { tmps:=a.tmps.setIfInBounds 10 cl,defers:=[oc B1 B2 B3] } [.code (ii [0,1,1,1]),.code (ii [1,1,1,1])]) cs w) y:=fun y hs=>by
  rw[← @zym hb fu];exact hs
 cases z with
 |inr y=>
  obtain⟨l,f1,f2⟩:=y;have hr:some (l,(f1,f2))=some r:=hr;have hr:=qJ hr;subst hr;rcases hgo with⟨_,v,w',fr,⟨G',hf,hrep⟩,hs,hfn,hmode,hdef,hkind,fn',hfn',hres⟩|⟨chain,w',fr,aT,hT,_⟩
  ·exact zyj rfl rfl hrel (hs0 _ hs) hfn hmode hdef hkind hfn' hres (Fin.cv hsame.symm hf) hrep
  ·obtain⟨t,n',hm0,_⟩:@ThT (@instLCOfHB hb) [(2,2),(3,3)] _ _ q5d.out w (G.view jj) (.inr (l,f1,f2)) chain aT w':=hT;cases hm0
 |inl y=>
  obtain⟨n,S'⟩:=y;have hr:=qJ (show some (([]:PTy.den),((11:Int),if(List.length S':Int)<n then(List.length S':Int) else n))=some r from hr);subst hr
  rcases hgo with⟨hnm,_⟩|⟨chain,w',fr,aT,hT,hs,hfn,hmode,hkind,hdef,htm⟩
  ·cases (show some (204,n)=none from hnm)
  ·obtain⟨t,n',hm0,rfl,hd1,hks,G',hf⟩:@ThT (@instLCOfHB hb) [(2,2),(3,3)] _ _ q5d.out w (G.view jj) (.inl (n,S')) chain aT w':=hT;cases (show some (204,n)=some (t,n') from hm0)
   obtain⟨C2,q1,q2⟩:=hks (2,2) oC
   obtain⟨C3,q3,q4⟩:=hks (3,3) oC
   have e2:=q2 _ B2 rfl g2;have e3:=q4 _ B3 rfl g3;subst e2 e3;exact zyl rfl rfl hrel g1 g2 g3 (hs0 _ hs) hfn hmode (by rw[hdef,hd1];rfl) hkind (by rw[htm];exact q1) (by rw[htm];exact q3) (Fin.cv hsame.symm hf)
def zya(d':f7 ([]:List (Nat×bc))):mh (xm fu).cx ((xm fu).cx.TT (bj [] d') (RS.mk (.tup [.h PTy,.h (.prod wI wI)]) [])) (bj [] d') (RS.mk (.tup [.h PTy,.h (.prod wI wI)]) []) (xm fu).body ((kl 0 (xm fu).ls).lab (qat fu)):=by
 intro d r hr vhe vg8 G a w hrel b cs hb hkd hrd;have hro:b.roundOf=none:=hrd;refine .inl ⟨trivial,?_⟩;obtain⟨⟨u1,u2,u3,u4⟩,⟨⟨S,u5⟩,⟨⟨u6,u7⟩,⟨f0,u8⟩⟩⟩⟩:=d;have h:=zx7 fu (S:=S) (f0:=f0) (r:=r) hr hrel cs hb hkd hro;rw[← zx9 fu,← hro]at h;exact h
def z84:(xm fu).L 0:=⟨qat fu,zya fu⟩
def z86:=(xm fu).fi (qjq fu) [(z84 fu).s]
def znz:EI wG ⟨.fn 184,[wS],[],_,RS.mk (wS) []⟩:=(fx [q6a.p,⟨q2s.e si,zj4⟩]).fi qa0
def z87:EI wG ⟨.fn 179,[.h (.prod .str wP)],[],_,RS.mk (wS) []⟩:=(fx [(znf fu).p,znz.p]).fi (qe0 fu)
def qd0(fu:Nat):Fx wG ⟨.fn 231,[wS],[],_,RS.mk (.h .bool) []⟩:=fx [zni.p,zpq.p,zm6.p] [lb 423 [(0,wS),(5,wH),(6,wH)],lb 3379 [(0,wS),(5,wH),(6,wH),(18,.h .bool)],lb 104 [(0,wS),(5,wH),(6,wH)]]
def z9a(r0:(qd0 fu).L 2):(qd0 fu).L 0:=Fx.jm (zdk fu r0.f) [r0.s]
def z89(r0:(qd0 fu).L 2):(qd0 fu).L 1:=Fx.jm (qx3 fu r0.f) [(z9a fu r0).s]
def z88:Nat->(qd0 fu).L 2:=Fx.lq (qx2 fu) (zdj fu) (fun r0=>[(z89 fu r0).s])
def z9b:=(qd0 fu).fi (zdi fu) [(z88 fu fu).s]
def zn1(fu:Nat):Fx wG ⟨.fn 232,[wS],[],_,RS.mk (wS) []⟩:=fx [] [lb 232 [(3,wS),(7,.ptr 32 0)] [(32,.it)]]
def z9f:Nat->(zn1 fu).L 0:=Fx.lq (qsk fu) (q78 fu) (fun r0=>[r0.s])
def z9g:=(zn1 fu).fi (q77 fu) [(z9f fu fu).s]
def z9h:EI wG ⟨.fn 233,[wS,wS],[],_,RS.mk (.fn 275 [.ptr 0 0,.ptr 1 0]) [(0,.cells [wS] 9),(1,.cells [wS] 9)]⟩:=(fx).fi zdl
end
end
noncomputable section
open Go.Proofs
set_option linter.unusedVariables false
set_option maxRecDepth 100000
set_option maxHeartbeats 2000000
open Tryz
section
variable(fu:Nat)
def z9i:EI wG ⟨.fn 314,[wS],[],_,RS.mk (.fn 339 [.ptr 0 0]) [(0,.cells [wS] 9)]⟩:=(fx).fi q8u
def zn2(fu:Nat):Fx wG ⟨.fn 379,[.h (.int .i32),.h (.list (.prod (.int .i32) (.prod (.int .i32) wI)))],[],_,RS.mk (.tup [wH,.h .bool]) []⟩:=fx [] [lb 104 [(0,.h (.int .i32)),(8,.h (.list (.prod (.int .i32) (.prod (.int .i32) wI)))),(9,wH),(10,wH)]]
def z9j:Nat->(zn2 fu).L 0:=Fx.lq (qta fu) (q8t fu) (fun r0=>[r0.s])
def z9k:=(zn2 fu).fi (q8s fu) [(z9j fu fu).s]
def z9l:EI wG ⟨.fn 363,[.h (.int .i32)],[],_,RS.mk (wH) []⟩:=(fx [(z9k fu).p]).fi (qs3 fu)
def z9m:EI wG ⟨.fn 340,[wS],[],_,RS.mk (.h (.prod wI (.prod .bool wI))) []⟩:=(fx [⟨vj.e iz,y6 mv ml mu mj⟩,(z9l fu).p]).fi (qs9 fu)
def z9n:EI wG ⟨.fn 364,[wH],[],_,RS.mk (.h .bool) []⟩:=(fx).fi qs4
def qd1:Fx wG ⟨.fn 341,[.h (.prod wI (.prod .bool wI)),.h (.prod wI (.prod .bool wI)),wH],[],_,RS.mk (.h .bool) []⟩:=fx [z9n.p] [lb 30 [(3,.ptr 32 0),(4,.ptr 33 0)] [(32,.dat (.prod wI (.prod .bool wI)) 422),(33,.dat (.prod wI (.prod .bool wI)) 422)],lb 3711 [(2,wH),(3,.ptr 32 0),(4,.ptr 33 0),(35,.h .bool)] [(32,.dat (.prod wI (.prod .bool wI)) 422),(33,.dat (.prod wI (.prod .bool wI)) 422)],lb 927 [(2,wH),(3,.ptr 32 0),(4,.ptr 33 0),(24,.h .bool)] [(32,.dat (.prod wI (.prod .bool wI)) 422),(33,.dat (.prod wI (.prod .bool wI)) 422)],lb 231 [(2,wH),(3,.ptr 32 0),(4,.ptr 33 0),(7,.fn 364 []),(15,.h .bool)] [(32,.dat (.prod wI (.prod .bool wI)) 422),(33,.dat (.prod wI (.prod .bool wI)) 422)],lb 57 [(2,wH),(3,.ptr 32 0),(4,.ptr 33 0),(7,.fn 364 []),(8,.h .bool)] [(32,.dat (.prod wI (.prod .bool wI)) 422),(33,.dat (.prod wI (.prod .bool wI)) 422)]]
def z9s:qd1.L 0:=Fx.jm q8r
def z9r:qd1.L 1:=Fx.jm qs8 [(z9s).s]
def z9q:qd1.L 2:=Fx.jm qs7 [(z9r).s]
def z9p:qd1.L 3:=Fx.jm qs6 [(z9q).s]
def z9o:qd1.L 4:=Fx.jm qs5 [(z9p).s]
def z9t:=qd1.fi q8q [(z9o).s]
def z9u:EI wG ⟨.yld 0,[wS],[(0,.loop .ready none 276 13 [(3,.ptr 1 0)] [7] 9 2),(1,.cells [.own 3] 97),(2,.dfr),(3,.row .str 9)],_,RS.mk (.c (.bool true)) [(0,.loop .ready none 276 13 [(3,.ptr 1 0)] [7] 9 2),(1,.cells [.own 4] 97),(2,.dfr),(3,.dead),(4,.row .str 9)]⟩:=(fy 276 [] [] false [([0,1,0,1,1],9)] (fl rfl ez)).fo qs2 [] 0 [0,1,0,1,1]
def qan:Fx wG ⟨.fn 339,[.yld 0,.ptr 1 0],[(0,.loop .ready none 276 13 [(3,.ptr 2 0)] [7] 9 3),(1,.cells [wS] 9),(2,.cells [.own 4] 97),(3,.dfr),(4,.row .str 9)],_,RS.mk (.tup []) [(0,.loop .ready none 276 13 [(3,.ptr 2 0)] [7] 9 3),(1,.cells [wS] 9),(2,.cells [.own 5] 97),(3,.dfr),(4,.dead),(5,.row .str 9)]⟩:=fx [(z9m fu).p,z9t.p,z9u.p] [lb 77358 [(0,.yld 0),(1,.ptr 1 0),(3,.ptr 32 0),(4,wH),(5,wH),(6,.ptr 33 0)] [(0,.loop .ready none 276 13 [(3,.ptr 2 0)] [7] 9 3),(1,.cells [wS] 9),(2,.cells [.own 34] 97),(3,.dfr),(4,.dead),(32,.dat (.prod wI (.prod .bool wI)) 422),(33,.dat (.prod wI (.prod .bool wI)) 422),(34,.row .str 9)],lb 4832 [(0,.yld 0),(1,.ptr 1 0),(3,.ptr 32 0),(4,wH),(5,wH)] [(0,.loop .ready none 276 13 [(3,.ptr 2 0)] [7] 9 3),(1,.cells [wS] 9),(2,.cells [.own 33] 97),(3,.dfr),(4,.dead),(32,.dat (.prod wI (.prod .bool wI)) 422),(33,.row .str 9)],lb 16 [(0,.yld 0),(1,.ptr 1 0)] [(0,.loop .ready none 276 13 [(3,.ptr 2 0)] [7] 9 3),(1,.cells [wS] 9),(2,.cells [.own 32] 97),(3,.dfr),(4,.dead),(32,.row .str 9)]]
def z9x(r0:(qan fu).L 2)(r1:(qan fu).L 1):(qan fu).L 0:=Fx.jm (qtc fu r0.f r1.f) [r1.s]
def z9w(r0:(qan fu).L 2):Nat->(qan fu).L 1:=Fx.lq (qkl fu r0.f) (q8x fu r0.f) (fun r1=>[r0.s,(z9x fu r0 r1).s])
def z9v:Nat->(qan fu).L 2:=Fx.lq (qtb fu) (q8w fu) (fun r0=>[(z9w fu r0 fu).s])
def z9y:=(qan fu).fi (q8v fu) [(z9v fu fu).s]
def z90:EI wG ⟨.fn 276,[wS],[],_,RS.mk (.own 0) [(0,.row .str 9)]⟩:=(fx [z9i.p,(z9y fu).p] [] false [([0,1,0,1,1],9)] (fl rfl ez)).fi (q8p fu)
def z91:EI wG ⟨.fn 366,[.h (.int .i32),.ptr 0 0],[(0,.cells [.h (.int .i32)] 21)],_,RS.mk (.tup [.own 1,.h .bool]) [(0,.cells [.h (.int .i32)] 21),(1,.row .byte 5)]⟩:=(fx).fi q8g
def q5h:Fx wG ⟨.fn 367,[wN,.h (.int .i32)],[],_,RS.mk (.own 0) [(0,.row .byte 5)]⟩:=fx [] [lb 479 [(0,wN),(1,.h (.int .i32)),(50,.h .bool)],lb 119 [(0,wN),(1,.h (.int .i32)),(5,.h (.int .u32)),(25,.h .bool)]]
def z93:q5h.L 0:=Fx.jm qxs
def z92:q5h.L 1:=Fx.jm qlq [(z93).s]
def z94:=q5h.fi zc9 [(z92).s]
def z95:EI wG ⟨.fn 345,[wN,.h (.int .i32)],[],_,RS.mk (.own 0) [(0,.row .byte 5)]⟩:=(fx [z94.p]).fi zc1
def z96:EI wG ⟨.fn 344,[.h (.int .i32)],[],_,RS.mk (.tup [.own 0,.h .bool]) [(0,.row .byte 5)]⟩:=(fx [z95.p]).fi q8f
def z97:EI wG ⟨.fn 347,[.h (.int .i32)],[],_,RS.mk (.tup [.own 0,.h .bool]) [(0,.row .byte 5)]⟩:=(fx).fi q8e
def qi5:Fx wG ⟨.fn 277,[wS,wS],[],_,RS.mk (.tup [.own 0,.h (.prod wI wI)]) [(0,.row .byte 5)]⟩:=fx [dc.p,(zno fu).p,⟨qda.e im,qiv mv ml mu mj⟩,z91.p,c8.p,z96.p,z97.p] [lb 4072 [(5,.ptr 32 0),(6,.ptr 33 0),(8,.own 36),(30,.ptr 34 0)] [(32,.dat (.prod wI wI) 36),(33,.cells [wS,.fn 365 [.ptr 35 0],.fn 366 [.ptr 35 0]] 388),(34,.it),(35,.cells [.h (.int .i32)] 21),(36,.row .byte 5)],lb 4072 [(5,.ptr 32 0),(6,.ptr 33 0),(8,.own 35),(30,.ptr 34 0)] [(32,.dat (.prod wI wI) 36),(33,.cells [wS,.fn 343 [],.fn 344 []] 388),(34,.it),(35,.row .byte 5)],lb 4072 [(5,.ptr 32 0),(6,.ptr 33 0),(8,.own 35),(30,.ptr 34 0)] [(32,.dat (.prod wI wI) 36),(33,.cells [wS,.fn 346 [],.fn 347 []] 388),(34,.it),(35,.row .byte 5)],lb 4072 [(5,.ptr 32 0),(6,.ptr 33 0),(8,wN),(30,.ptr 34 0)] [(32,.dat (.prod wI wI) 36),(33,.cells [wS,.c .nilFunc,.c .nilFunc] 388),(34,.it)]]
def z98:Nat->(qi5 fu).L 0:=Fx.lq (qsl fu) (q8a fu) (fun r0=>[r0.s])
def z99:Nat->(qi5 fu).L 1:=Fx.lq (qsm fu) (q8b fu) (fun r1=>[r1.s])
def vaa:Nat->(qi5 fu).L 2:=Fx.lq (qsn fu) (q8c fu) (fun r2=>[r2.s])
def vab:Nat->(qi5 fu).L 3:=Fx.lq (qso fu) (q8d fu) (fun r3=>[])
def vac:=(qi5 fu).fi (q79 fu) [(z98 fu fu).s,(z99 fu fu).s,(vaa fu fu).s,(vab fu fu).s]
def vad:EI wG ⟨.fn 317,[.ptr 0 0,.own 1],[(0,.cells [.pn 0,.own 2] 245),(1,.row .byte 5),(2,.row .byte 5)],_,RS.mk (.tup [wH,.c .nilIface]) [(0,.cells [.pn 0,.own 3] 245),(1,.row .byte 5),(2,.dead),(3,.row .byte 5)]⟩:=(fx [⟨qm8.e ql,q0c⟩]).fi zbq
def zn3(fu:Nat):Fx wG ⟨.fn 279,[.h wB],[],_,RS.mk (wS) []⟩:=fx [zns.p,qpw.p,zmg.p,vad.p,⟨qzw.e ya,zfg⟩] [lb 232 [(3,.ptr 32 0),(6,.h wB),(7,wH),(8,wH)] [(32,.cells [.pn 32,.own 33] 245),(33,.row .byte 5)]]
def vae:Nat->(zn3 fu).L 0:=Fx.lq (qx1 fu) (zdh fu) (fun r0=>[r0.s])
def vaf:=(zn3 fu).fi (zdg fu) [(vae fu fu).s]
def q5k:EI wG ⟨.fn 234,[wS,wS],[],_,RS.mk (wS) []⟩:=(fx [(vac fu).p,(znn fu).p,(vaf fu).p]).fi (qgf fu)
def vag:EI wG ⟨.yld 0,[wS],[(0,.loop .ready none 181 54 [(4,.ptr 1 0),(5,.ptr 2 0),(6,.ptr 3 0)] [25] 8 4),(1,.cells [wS] 9),(2,.cells [.own 5] 97),(3,.cells [wS] 9),(4,.dfr),(5,.row .str 9)],_,RS.mk (.c (.bool true)) [(0,.loop .ready none 181 54 [(4,.ptr 1 0),(5,.ptr 2 0),(6,.ptr 3 0)] [25] 8 4),(1,.cells [wS] 9),(2,.cells [.own 6] 97),(3,.cells [wS] 9),(4,.dfr),(5,.dead),(6,.row .str 9)]⟩:=(fy 181 [(q5k fu).p] [] false [([0,1,0,1,1,1,1,1,1,1],8)] (fl rfl ez)).fo (qxz fu) [] 0 [0,1,0,1,1,1,1,1,1,1]
def qp6:Fx wG ⟨.fn 275,[.yld 0,.ptr 1 0,.ptr 2 0],[(0,.loop .ready none 181 54 [(4,.ptr 3 0),(5,.ptr 4 0),(6,.ptr 5 0)] [25] 8 6),(1,.cells [wS] 9),(2,.cells [wS] 9),(3,.cells [wS] 9),(4,.cells [.own 7] 97),(5,.cells [wS] 9),(6,.dfr),(7,.row .str 9)],_,RS.mk (.tup []) [(0,.loop .ready none 181 54 [(4,.ptr 3 0),(5,.ptr 4 0),(6,.ptr 5 0)] [25] 8 6),(1,.cells [wS] 9),(2,.cells [wS] 9),(3,.cells [wS] 9),(4,.cells [.own 8] 97),(5,.cells [wS] 9),(6,.dfr),(7,.dead),(8,.row .str 9)]⟩:=fx [(z90 fu).p,(q5k fu).p,(vag fu).p] [lb 13112 [(0,.yld 0),(2,.ptr 2 0),(9,.own 32),(10,wH),(11,wH),(25,.ptr 33 0)] [(0,.loop .ready none 181 54 [(4,.ptr 3 0),(5,.ptr 4 0),(6,.ptr 5 0)] [25] 8 6),(1,.cells [wS] 9),(2,.cells [wS] 9),(3,.cells [wS] 9),(4,.cells [.own 34] 97),(5,.cells [wS] 9),(6,.dfr),(7,.dead),(32,.row .str 9),(33,.it),(34,.row .str 9)],lb 24 [(0,.yld 0),(2,.ptr 2 0),(9,.own 32),(10,wH),(11,wH)] [(0,.loop .ready none 181 54 [(4,.ptr 3 0),(5,.ptr 4 0),(6,.ptr 5 0)] [25] 8 6),(1,.cells [wS] 9),(2,.cells [wS] 9),(3,.cells [wS] 9),(4,.cells [.own 33] 97),(5,.cells [wS] 9),(6,.dfr),(7,.dead),(32,.row .str 9),(33,.row .str 9)]]
def vai(r0:(qp6 fu).L 1):Nat->(qp6 fu).L 0:=Fx.lq (qx6 fu r0.f) (zdo fu r0.f) (fun r1=>[r1.s,r0.s])
def vah:Nat->(qp6 fu).L 1:=Fx.lq (qx5 fu) (zdn fu) (fun r0=>[r0.s,(vai fu r0 fu).s])
def vaj:=(qp6 fu).fi (zdm fu) [(vah fu fu).s]
def vak:EI wG ⟨.fn 181,[wS],[],_,RS.mk (.tup [wS,.h (.prod wI wI)]) []⟩:=(fx [dc.p,⟨qda.e im,qiv mv ml mu mj⟩,(z9b fu).p,c8.p,(z9g fu).p,z9h.p,(vaj fu).p,(q5k fu).p,⟨qh1.e jt,qoc⟩] [] false [([0,1,0,1,1,1,1,1,1,1],8)] (fl rfl ez)).fi (zdf fu)
def vam:EI wG ⟨.yld 0,[wS],[(0,.loop .ready none 132 28 [(1,.ptr 1 0),(2,.ptr 2 0)] [17] 10 3),(1,.cells [wS] 9),(2,.cells [wS] 9),(3,.dfr)],_,.two (RS.mk (.c (.bool false)) [(0,.loop .done (some .ret) 132 28 [(1,.ptr 1 0),(2,.ptr 2 0)] [17] 10 3),(1,.cells [wS] 9),(2,.cells [wS] 9),(3,.dfr)]) (RS.mk (.c (.bool true)) [(0,.loop .ready none 132 28 [(1,.ptr 1 0),(2,.ptr 2 0)] [17] 10 3),(1,.cells [wS] 9),(2,.cells [wS] 9),(3,.dfr)])⟩:=(fy 132 [znz.p,(zne fu).p] [] false [([0,1,0,1,1],10)] (fl rfl ez)).fo (qjz fu) [] 0 [0,1,0,1,1]
def q5n:Fx wG ⟨.fn 280,[.yld 0,.ptr 1 0,.ptr 2 0,.ptr 3 0],[(0,.loop .ready none 132 28 [(1,.ptr 4 0),(2,.ptr 5 0)] [17] 10 6),(1,.cells [wS] 9),(2,.cells [wS] 9),(3,.cells [wH] 3),(4,.cells [wS] 9),(5,.cells [wS] 9),(6,.dfr)],_,.two (RS.mk (.tup []) [(0,.loop .done (some .ret) 132 28 [(1,.ptr 4 0),(2,.ptr 5 0)] [17] 10 6),(1,.cells [wS] 9),(2,.cells [wS] 9),(3,.cells [wH] 3),(4,.cells [wS] 9),(5,.cells [wS] 9),(6,.dfr)]) (RS.mk (.tup []) [(0,.loop .ready none 132 28 [(1,.ptr 4 0),(2,.ptr 5 0)] [17] 10 6),(1,.cells [wS] 9),(2,.cells [wS] 9),(3,.cells [wH] 3),(4,.cells [wS] 9),(5,.cells [wS] 9),(6,.dfr)])⟩:=fx [⟨vj.e iz,y6 mv ml mu mj⟩,(vam fu).p,qdq.p] [lb 320 [(0,.yld 0),(2,.ptr 2 0)] [(0,.loop .ready none 132 28 [(1,.ptr 4 0),(2,.ptr 5 0)] [17] 10 6),(1,.cells [wS] 9),(2,.cells [wS] 9),(3,.cells [wH] 3),(4,.cells [wS] 9),(5,.cells [wS] 9),(6,.dfr)],lb 96 [(0,.yld 0),(1,.ptr 1 0),(2,.ptr 2 0),(3,.ptr 3 0)] [(0,.loop .ready none 132 28 [(1,.ptr 4 0),(2,.ptr 5 0)] [17] 10 6),(1,.cells [wS] 9),(2,.cells [wS] 9),(3,.cells [wH] 3),(4,.cells [wS] 9),(5,.cells [wS] 9),(6,.dfr)]]
def van:Nat->(q5n fu).L 0:=Fx.lq (qw1 fu) (zcq fu) (fun r0=>[r0.s])
def vao:Nat->(q5n fu).L 1:=Fx.lq (qw2 fu) (zcr fu) (fun r1=>[r1.s])
def vap:=(q5n fu).fi (zcp fu) [(van fu fu).s,(vao fu fu).s]
def zn4:EI wG ⟨.fn 132,[wS],[],_,RS.mk (wS) []⟩:=(fx [(vak fu).p,q4q.p,(vap fu).p] [] false [([0,1,0,1,1],10)] (fl rfl ez)).fi (qq3 fu)
def vaq:EI wG ⟨.fn 129,[.h (.prod .str wP)],[],_,RS.mk (wS) []⟩:=(fx [(z87 fu).p,(zn4 fu).p]).fi (qjx fu)
def xn:Fx wG ⟨.fn 70,[.h (.list (.prod .str (.prod .bool (.list (.prod .str wP)))))],[],_,RS.mk (.tup [wS,.h (.prod wI wI)]) []⟩:=fx [(znx fu).p,eg.p,⟨qh1.e jt,qoc⟩,dc.p,c8.p,(vaq fu).p,(zn4 fu).p,zm1.p] [lb 1959 [(3,.ptr 32 0),(5,.own 33),(18,.h (.list (.prod .str (.prod .bool (.list (.prod .str wP)))))),(19,wH),(20,wH)] [(32,.dat (.prod wI wI) 36),(33,.row .str 9)],lb 125343 [(3,.ptr 32 0),(5,.own 33),(11,wS),(18,.h (.list (.prod .str (.prod .bool (.list (.prod .str wP)))))),(19,wH),(20,wH)] [(32,.dat (.prod wI wI) 36),(33,.row .str 9)],lb 501352 [(3,.ptr 32 0),(5,.own 35),(7,.ptr 33 0),(8,.own 34),(18,.h (.list (.prod .str (.prod .bool (.list (.prod .str wP)))))),(19,wH),(20,wH),(25,.h (.list (.prod .str wP))),(26,wH),(27,wH)] [(32,.dat (.prod wI wI) 36),(33,.dat (.prod .str (.prod .bool (.list (.prod .str wP)))) 125),(34,.row .str 9),(35,.row .str 9)],lb 488 [(3,.ptr 32 0),(5,.own 33),(18,.h (.list (.prod .str (.prod .bool (.list (.prod .str wP)))))),(19,wH),(20,wH)] [(32,.dat (.prod wI wI) 36),(33,.row .str 9)]]
def vau(r0:(xn fu).L 3):(xn fu).L 0:=Fx.jm (qqx fu r0.f) [r0.s]
def vat(r0:(xn fu).L 3):(xn fu).L 1:=Fx.jm (qju fu r0.f) [(vau fu r0).s]
def vas(r0:(xn fu).L 3):Nat->(xn fu).L 2:=Fx.lq (up fu r0.f) (qjt fu r0.f) (fun r1=>[r1.s,(vat fu r0).s])
def var:Nat->(xn fu).L 3:=Fx.lq (nj fu) (qjs fu) (fun r0=>[(vas fu r0 fu).s])
def vav:=(xn fu).fi (qjr fu) [(var fu fu).s]
def q5p:Fx wG ⟨.fn 33,[wS],[],_,RS.mk (.h .bool) []⟩:=fx [(z86 fu).p,eg.p,(vav fu).p] [lb 30 [(0,wS),(3,.h (.list (.prod .str (.prod .bool (.list (.prod .str wP)))))),(4,.ptr 32 0)] [(32,.dat (.prod wI wI) 36)],lb 29 [(0,wS),(3,.h (.list (.prod .str (.prod .bool (.list (.prod .str wP)))))),(4,.ptr 32 0),(33,.h .bool)] [(32,.dat (.prod wI wI) 36)]]
def vax:(q5p fu).L 0:=Fx.jm (qtn fu)
def vaw:(q5p fu).L 1:=Fx.jm (yg fu) [(vax fu).s]
def zn5:=(q5p fu).fi (qfl fu) [(vaw fu).s]
def vay:EI wG ⟨.fn 72,[.h (.prod .str wI),.ptr 0 0],[(0,.dat (.prod .str wI) 131)],_,RS.mk (.h .bool) [(0,.dat (.prod .str wI) 131)]⟩:=(fx).fi qtl
def zn6(fu:Nat):Fx wG ⟨.fn 133,[.h (.list (.prod .str wI)),.fn 72 [.ptr 0 0]],[(0,.dat (.prod .str wI) 131)],_,RS.mk (wH) [(0,.dat (.prod .str wI) 131)]⟩:=fx [vay.p] [lb 104 [(0,.h (.list (.prod .str wI))),(1,.fn 72 [.ptr 0 0]),(7,wH),(8,wH)] [(0,.dat (.prod .str wI) 131)]]
def va0:Nat->(zn6 fu).L 0:=Fx.lq (qf0 fu) (qvm fu) (fun r0=>[r0.s])
def va1:=(zn6 fu).fi (qvl fu) [(va0 fu fu).s]
def va2:EI wG ⟨.fn 71,[.h (.list (.prod .str wI)),.fn 72 [.ptr 0 0]],[(0,.dat (.prod .str wI) 131)],_,RS.mk (.h .bool) [(0,.dat (.prod .str wI) 131)]⟩:=(fx [(va1 fu).p]).fi (qvh fu)
def qp7:Fx wG ⟨.fn 34,[.h (.list (.prod .str wI))],[],_,RS.mk (.h (.prod wI wI)) []⟩:=fx [dc.p,(zn5 fu).p,c8.p,(va2 fu).p] [lb 59799 [(0,.h (.list (.prod .str wI))),(2,.ptr 32 0),(3,wH),(4,.ptr 33 0),(9,.h (.list (.prod .str wI))),(10,wH),(11,wH),(23,.h .bool)] [(32,.dat (.prod wI wI) 36),(33,.dat (.prod .str wI) 131)],lb 232 [(0,.h (.list (.prod .str wI))),(2,.ptr 32 0),(9,.h (.list (.prod .str wI))),(10,wH),(11,wH)] [(32,.dat (.prod wI wI) 36)]]
def va4(r0:(qp7 fu).L 1):(qp7 fu).L 0:=Fx.jm (qfk fu r0.f) [r0.s]
def va3:Nat->(qp7 fu).L 1:=Fx.lq (qbi fu) (qtm fu) (fun r0=>[(va4 fu r0).s])
def va5:=(qp7 fu).fi (qkr fu) [(va3 fu fu).s]
def va6:EI wG ⟨.fn 73,[.h .byte],[],_,RS.mk (.h .bool) []⟩:=(fx [qpw.p]).fi qrx
def zn7(fu:Nat):Fx wG ⟨.fn 30,[wS,.fn 73 []],[],_,RS.mk (.h .bool) []⟩:=fx [va6.p] [lb 104 [(0,wS),(1,.fn 73 []),(7,wH),(8,wH)]]
def va7:Nat->(zn7 fu).L 0:=Fx.lq (qe3 fu) (qrs fu) (fun r0=>[r0.s])
def va8:=(zn7 fu).fi (qrr fu) [(va7 fu fu).s]
def va9:EI wG ⟨.fn 35,[wS],[],_,RS.mk (.h .bool) []⟩:=(fx [(va8 fu).p]).fi (qj7 fu)
def qp9:EI wG ⟨.fn 36,[wH,wH,wH],[],_,RS.mk (.h .bool) []⟩:=(fx).fi np
def q5r:EI wG ⟨.fn 37,[.h (.prod .str (.prod wI (.prod wI (.prod (.prod wI (.prod wI (.prod wI wI))) (.prod wI (.prod wI (.prod wI wI)))))))],[],_,RS.mk (.h .bool) []⟩:=(fx).fi qbw
def vba:EI wG ⟨.fn 38,[.h (.prod wI (.prod wI (.prod wI wI)))],[],_,RS.mk (.h .bool) []⟩:=(fx [qp9.p]).fi qgj
def qqa:Fx wG ⟨.fn 14,[.h (.prod .str (.prod wI (.prod wI (.prod (.prod wI (.prod wI (.prod wI wI))) (.prod wI (.prod wI (.prod wI wI)))))))],[],_,RS.mk (.h (.prod wI wI)) []⟩:=fx [(va9 fu).p,dc.p,qp9.p,q5r.p,vba.p,c8.p] [lb 490 [(2,.ptr 32 0)] [(32,.dat (.prod wI wI) 36)],lb 489 [(2,.ptr 32 0),(23,.h .bool)] [(32,.dat (.prod wI wI) 36)],lb 249 [(1,.ptr 32 0),(2,.ptr 33 0),(26,.h .bool)] [(32,.dat (.prod .str (.prod wI (.prod wI (.prod (.prod wI (.prod wI (.prod wI wI))) (.prod wI (.prod wI (.prod wI wI))))))) 34),(33,.dat (.prod wI wI) 36)]]
def vbd:(qqa fu).L 0:=Fx.jm (qx7 fu)
def vbb:(qqa fu).L 1:=Fx.jm (qlw fu) [(vbd fu).s]
def vbc:(qqa fu).L 2:=Fx.jm (qlx fu)
def qqb:=(qqa fu).fi (ym fu) [(vbb fu).s,(vbc fu).s]
def zn8:EI wG ⟨.fn 78,[wH,wH,wH],[],_,RS.mk (.h .bool) []⟩:=(fx).fi ot
def vbe:EI wG ⟨.fn 185,[wH],[],_,RS.mk (.h .bool) []⟩:=(fx).fi qkj
def zn9:EI wG ⟨.fn 134,[wH,wH],[],_,RS.mk (wH) []⟩:=(fx [vbe.p]).fi qfe
def q5t:EI wG ⟨.fn 75,[.h (.prod wI (.prod wI (.prod wI (.prod wI (.prod wI (.prod wI wI))))))],[],_,RS.mk (.h (.prod wI wI)) []⟩:=(fx [zn8.p,zn9.p,dc.p,c8.p]).fi qbe
def vbf:EI wG ⟨.fn 135,[wH],[],_,RS.mk (wH) []⟩:=(fx).fi qfc
def zoa(fu:Nat):Fx wG ⟨.fn 76,[wH,wH,wH],[],_,RS.mk (wH) []⟩:=fx [vbf.p,zn9.p] [lb 464 [(0,wH),(1,wH),(7,wH),(8,wH)]]
def vbg:Nat->(zoa fu).L 0:=Fx.lq (qfd fu) (qsw fu) (fun r0=>[r0.s])
def q5u:=(zoa fu).fi (qm fu) [(vbg fu fu).s]
def q5w:EI wG ⟨.fn 39,[.h (.prod wI (.prod wI (.prod wI (.prod wI (.prod wI (.prod wI wI))))))],[],_,RS.mk (.tup [wH,.h (.prod wI wI)]) []⟩:=(fx [q5t.p,eg.p,(q5u fu).p,c8.p]).fi (yf fu)
def qi7:EI wG ⟨.fn 17,[wH],[],_,RS.mk (.h .bool) []⟩:=(fx).fi qk
def zob:EI wG ⟨.fn 79,[wH,wH],[],_,RS.mk (.tup [wH,wH]) []⟩:=(fx).fi qff
def uh:Fx wG ⟨.fn 44,[wH,wH],[],_,RS.mk (.tup [.h (.prod wI (.prod wI (.prod wI (.prod wI (.prod wI (.prod wI wI)))))),.h (.prod wI wI)]) []⟩:=fx [qi7.p,dc.p,zn8.p,zob.p,(q5u fu).p,c8.p] [lb 8147 [(1,wH),(4,.ptr 32 0),(5,.ptr 33 0),(6,wH),(7,wH),(8,wH),(9,wH)] [(32,.dat (.prod wI (.prod wI (.prod wI (.prod wI (.prod wI (.prod wI wI)))))) 24),(33,.dat (.prod wI wI) 36)],lb 32585 [(1,wH),(4,.ptr 32 0),(5,.ptr 33 0),(6,wH),(7,wH),(8,wH),(9,wH),(54,.h .bool)] [(32,.dat (.prod wI (.prod wI (.prod wI (.prod wI (.prod wI (.prod wI wI)))))) 24),(33,.dat (.prod wI wI) 36)],lb 16352 [(1,wH),(4,.ptr 32 0),(5,.ptr 33 0),(6,wH),(7,wH),(8,wH),(10,wH)] [(32,.dat (.prod wI (.prod wI (.prod wI (.prod wI (.prod wI (.prod wI wI)))))) 24),(33,.dat (.prod wI wI) 36)],lb 8144 [(1,wH),(4,.ptr 32 0),(5,.ptr 33 0),(6,wH),(7,wH),(8,wH),(9,wH)] [(32,.dat (.prod wI (.prod wI (.prod wI (.prod wI (.prod wI (.prod wI wI)))))) 24),(33,.dat (.prod wI wI) 36)],lb 126 [(1,wH),(4,.ptr 32 0),(5,.ptr 33 0),(6,wH),(7,wH)] [(32,.dat (.prod wI (.prod wI (.prod wI (.prod wI (.prod wI (.prod wI wI)))))) 24),(33,.dat (.prod wI wI) 36)],lb 125 [(1,wH),(4,.ptr 32 0),(5,.ptr 33 0),(6,wH),(7,wH),(36,.h .bool)] [(32,.dat (.prod wI (.prod wI (.prod wI (.prod wI (.prod wI (.prod wI wI)))))) 24),(33,.dat (.prod wI wI) 36)]]
def vbl(r2:(uh fu).L 3):(uh fu).L 0:=Fx.jm (qki fu r2.f) [r2.s]
def vbk(r2:(uh fu).L 3):(uh fu).L 1:=Fx.jm (qkh fu r2.f) [(vbl fu r2).s]
def vbm:Nat->(uh fu).L 2:=Fx.lq (qfb fu) (qsu fu) (fun r5=>[r5.s])
def vbj:Nat->(uh fu).L 3:=Fx.lq (qbd fu) (qkf fu) (fun r2=>[(vbk fu r2).s,(vbm fu fu).s])
def vbi:(uh fu).L 4:=Fx.jm (qsv fu) [(vbj fu fu).s]
def vbh:(uh fu).L 5:=Fx.jm (qkg fu) [(vbi fu).s]
def zoc:=(uh fu).fi (qbc fu) [(vbh fu).s]
def zoe:EI wG ⟨.fn 80,[.h (.prod wI (.prod wI (.prod wI (.prod wI (.prod wI (.prod wI wI))))))],[],_,RS.mk (.tup [wH,.h (.prod wI wI)]) []⟩:=(fx [q5t.p,eg.p,(q5u fu).p,zob.p,c8.p]).fi (qbf fu)
def q5x:Fx wG ⟨.fn 136,[.h (.prod wI (.prod wI (.prod wI wI))),wH,wH],[],_,RS.mk (wH) []⟩:=fx [(zoe fu).p,q5t.p,eg.p,(q5w fu).p] [lb 254 [(2,wH),(3,.ptr 32 0),(7,.ptr 33 0)] [(32,.dat (.prod wI (.prod wI (.prod wI wI))) 32),(33,.dat (.prod wI (.prod wI (.prod wI (.prod wI (.prod wI (.prod wI wI)))))) 24)],lb 253 [(2,wH),(3,.ptr 32 0),(7,.ptr 33 0),(46,.h .bool)] [(32,.dat (.prod wI (.prod wI (.prod wI wI))) 32),(33,.dat (.prod wI (.prod wI (.prod wI (.prod wI (.prod wI (.prod wI wI)))))) 24)]]
def vbo:(q5x fu).L 0:=Fx.jm (qlz fu)
def vbn:(q5x fu).L 1:=Fx.jm (qly fu) [(vbo fu).s]
def vbp:=(q5x fu).fi (qgg fu) [(vbn fu).s]
def qd5:Fx wG ⟨.fn 77,[.h (.prod .str (.prod wI (.prod wI (.prod (.prod wI (.prod wI (.prod wI wI))) (.prod wI (.prod wI (.prod wI wI))))))),wH,wH],[],_,RS.mk (wH) []⟩:=fx [q5r.p,(vbp fu).p] [lb 7826 [(1,wH),(2,wH),(3,.ptr 32 0),(7,wH),(8,wH),(9,.h .bool),(10,wH)] [(32,.dat (.prod .str (.prod wI (.prod wI (.prod (.prod wI (.prod wI (.prod wI wI))) (.prod wI (.prod wI (.prod wI wI))))))) 34)],lb 15651 [(1,wH),(2,wH),(3,.ptr 32 0),(7,wH),(8,wH),(9,.h .bool),(10,wH),(11,wH),(44,.h .bool)] [(32,.dat (.prod .str (.prod wI (.prod wI (.prod (.prod wI (.prod wI (.prod wI wI))) (.prod wI (.prod wI (.prod wI wI))))))) 34)],lb 976 [(1,wH),(2,wH),(3,.ptr 32 0),(7,wH),(8,wH),(9,.h .bool),(10,wH)] [(32,.dat (.prod .str (.prod wI (.prod wI (.prod (.prod wI (.prod wI (.prod wI wI))) (.prod wI (.prod wI (.prod wI wI))))))) 34)]]
def vbs(r0:(qd5 fu).L 2):(qd5 fu).L 0:=Fx.jm (ql0 fu r0.f) [r0.s]
def vbr(r0:(qd5 fu).L 2):(qd5 fu).L 1:=Fx.jm (qgi fu r0.f) [(vbs fu r0).s]
def vbq:Nat->(qd5 fu).L 2:=Fx.lq (ou fu) (qgh fu) (fun r0=>[(vbr fu r0).s])
def vbt:=(qd5 fu).fi (qbx fu) [(vbq fu fu).s]
def vbu:EI wG ⟨.fn 40,[.h (.prod .str (.prod wI (.prod wI (.prod (.prod wI (.prod wI (.prod wI wI))) (.prod wI (.prod wI (.prod wI wI))))))),wH],[],_,RS.mk (.tup [wH,.h (.prod wI wI)]) []⟩:=(fx [(qqb fu).p,eg.p,qi7.p,dc.p,(zoc fu).p,qp9.p,(vbt fu).p,c8.p]).fi (qlv fu)
def q5y:Fx wG ⟨.fn 15,[.h (.prod .str (.prod wI (.prod wI (.prod (.prod wI (.prod wI (.prod wI wI))) (.prod wI (.prod wI (.prod wI wI))))))),.h (.prod wI (.prod wI (.prod wI (.prod wI (.prod wI (.prod wI wI))))))],[],_,RS.mk (.tup [.own 0,.h (.prod wI wI)]) [(0,.row wI 3)]⟩:=fx [(qqb fu).p,eg.p,(q5w fu).p,dc.p,qp9.p,q5r.p,(vbu fu).p,⟨qvv sj,zbp⟩,c8.p] [lb 32744 [(2,.ptr 32 0),(5,.ptr 33 0),(7,wH),(10,.own 35),(49,.own 34),(50,wH),(51,wH)] [(32,.dat (.prod .str (.prod wI (.prod wI (.prod (.prod wI (.prod wI (.prod wI wI))) (.prod wI (.prod wI (.prod wI wI))))))) 34),(33,.dat (.prod wI wI) 36),(34,.row wI 3),(35,.row wI 3)],lb 1022 [(2,.ptr 32 0),(5,.ptr 33 0),(7,wH),(9,.own 34)] [(32,.dat (.prod .str (.prod wI (.prod wI (.prod (.prod wI (.prod wI (.prod wI wI))) (.prod wI (.prod wI (.prod wI wI))))))) 34),(33,.dat (.prod wI wI) 36),(34,.row wI 3)]]
def vbw:Nat->(q5y fu).L 0:=Fx.lq (qo fu) (qbv fu) (fun r1=>[r1.s])
def vbv:(q5y fu).L 1:=Fx.jm (qlu fu) [(vbw fu fu).s]
def q5z:=(q5y fu).fi (qbu fu) [(vbv fu).s]
def xq(fu:Nat):Fx wG ⟨.fn 41,[.h (.prod wI (.prod wI (.prod wI (.prod wI (.prod .bool (.prod (.list wI) (.prod (.list wI) (.list wI))))))))],[],_,RS.mk (.h (.prod wI wI)) []⟩:=fx [dc.p,c8.p] [lb 14950 [(1,.ptr 32 0),(2,.ptr 33 0),(3,wH),(4,wH),(16,.h (.list wI)),(17,wH),(18,wH)] [(32,.dat (.prod wI (.prod wI (.prod wI (.prod wI (.prod .bool (.prod (.list wI) (.prod (.list wI) (.list wI)))))))) 27),(33,.dat (.prod wI wI) 36)],lb 14949 [(1,.ptr 32 0),(2,.ptr 33 0),(3,wH),(4,wH),(16,.h (.list wI)),(17,wH),(18,wH),(28,.h .bool)] [(32,.dat (.prod wI (.prod wI (.prod wI (.prod wI (.prod .bool (.prod (.list wI) (.prod (.list wI) (.list wI)))))))) 27),(33,.dat (.prod wI wI) 36)],lb 232 [(1,.ptr 32 0),(2,.ptr 33 0),(16,.h (.list wI)),(17,wH),(18,wH)] [(32,.dat (.prod wI (.prod wI (.prod wI (.prod wI (.prod .bool (.prod (.list wI) (.prod (.list wI) (.list wI)))))))) 27),(33,.dat (.prod wI wI) 36)],lb 28 [(1,.ptr 32 0),(2,.ptr 33 0)] [(32,.dat (.prod wI (.prod wI (.prod wI (.prod wI (.prod .bool (.prod (.list wI) (.prod (.list wI) (.list wI)))))))) 27),(33,.dat (.prod wI wI) 36)],lb 13 [(1,.ptr 32 0),(2,.ptr 33 0),(13,.h .bool)] [(32,.dat (.prod wI (.prod wI (.prod wI (.prod wI (.prod .bool (.prod (.list wI) (.prod (.list wI) (.list wI)))))))) 27),(33,.dat (.prod wI wI) 36)]]
def vb1(r2:(xq fu).L 2):(xq fu).L 0:=Fx.jm (qvf fu r2.f) [r2.s]
def vb0(r2:(xq fu).L 2):(xq fu).L 1:=Fx.jm (qla fu r2.f) [(vb1 fu r2).s]
def vbz:Nat->(xq fu).L 2:=Fx.lq (qfv fu) (qvd fu) (fun r2=>[(vb0 fu r2).s])
def vby:(xq fu).L 3:=Fx.jm (qve fu) [(vbz fu fu).s]
def vbx:(xq fu).L 4:=Fx.jm (qk9 fu) [(vby fu).s]
def vb2:=(xq fu).fi (qk8 fu) [(vbx fu).s]
def zog(fu:Nat):Fx wG ⟨.fn 42,[.h (.list wI),wH],[],_,RS.mk (.h (.prod wI wI)) []⟩:=fx [dc.p,qi7.p,c8.p] [lb 232 [(0,.h (.list wI)),(1,wH),(4,.ptr 32 0),(12,.h (.list wI)),(13,wH),(14,wH)] [(32,.dat (.prod wI wI) 36)]]
def vb3:Nat->(zog fu).L 0:=Fx.lq (qfu fu) (qvc fu) (fun r0=>[r0.s])
def vb4:=(zog fu).fi (qft fu) [(vb3 fu fu).s]
def qao:Fx wG ⟨.fn 16,[.h (.prod wI (.prod wI (.prod wI (.prod wI (.prod .bool (.prod (.list wI) (.prod (.list wI) (.list wI))))))))],[],_,RS.mk (.h (.prod wI wI)) []⟩:=fx [dc.p,qi7.p,(vb2 fu).p,eg.p,(vb4 fu).p] [lb 28 [(1,.ptr 32 0),(2,.ptr 33 0)] [(32,.dat (.prod wI (.prod wI (.prod wI (.prod wI (.prod .bool (.prod (.list wI) (.prod (.list wI) (.list wI)))))))) 27),(33,.dat (.prod wI wI) 36)],lb 6655 [(1,.ptr 32 0),(2,.ptr 33 0),(45,.h .bool)] [(32,.dat (.prod wI (.prod wI (.prod wI (.prod wI (.prod .bool (.prod (.list wI) (.prod (.list wI) (.list wI)))))))) 27),(33,.dat (.prod wI wI) 36)],lb 1663 [(1,.ptr 32 0),(2,.ptr 33 0),(35,.h .bool)] [(32,.dat (.prod wI (.prod wI (.prod wI (.prod wI (.prod .bool (.prod (.list wI) (.prod (.list wI) (.list wI)))))))) 27),(33,.dat (.prod wI wI) 36)],lb 415 [(1,.ptr 32 0),(2,.ptr 33 0),(25,.h .bool)] [(32,.dat (.prod wI (.prod wI (.prod wI (.prod wI (.prod .bool (.prod (.list wI) (.prod (.list wI) (.list wI)))))))) 27),(33,.dat (.prod wI wI) 36)],lb 103 [(1,.ptr 32 0),(2,.ptr 33 0),(15,.h .bool)] [(32,.dat (.prod wI (.prod wI (.prod wI (.prod wI (.prod .bool (.prod (.list wI) (.prod (.list wI) (.list wI)))))))) 27),(33,.dat (.prod wI wI) 36)],lb 25 [(1,.ptr 32 0),(2,.ptr 33 0),(5,.h .bool)] [(32,.dat (.prod wI (.prod wI (.prod wI (.prod wI (.prod .bool (.prod (.list wI) (.prod (.list wI) (.list wI)))))))) 27),(33,.dat (.prod wI wI) 36)]]
def vca:(qao fu).L 0:=Fx.jm (qu8 fu)
def vb9:(qao fu).L 1:=Fx.jm (qk5 fu) [(vca fu).s]
def vb8:(qao fu).L 2:=Fx.jm (qk4 fu) [(vb9 fu).s]
def vb7:(qao fu).L 3:=Fx.jm (qk3 fu) [(vb8 fu).s]
def vb6:(qao fu).L 4:=Fx.jm (qk2 fu) [(vb7 fu).s]
def vb5:(qao fu).L 5:=Fx.jm (qk1 fu) [(vb6 fu).s]
def zoh:=(qao fu).fi (qfs fu) [(vb5 fu).s]
def qap:Fx wG ⟨.fn 10,[.h (.prod .str (.prod wI (.prod wI (.prod .str (.prod .str (.prod .str (.prod (.list (.prod .str wI)) (.prod .str (.prod (.prod wI (.prod wI (.prod wI (.prod wI (.prod wI (.prod wI wI)))))) (.prod wI (.prod wI (.prod wI (.prod wI (.prod wI (.prod .bool (.prod (.list wI) (.prod (.list wI) (.list wI))))))))))))))))))],[],_,RS.mk (.h (.prod wI wI)) []⟩:=fx [(z5t fu).p,dc.p,z5u.p,(zn5 fu).p,(va5 fu).p,eg.p,(qqb fu).p,(q5z fu).p,(zoh fu).p,c8.p] [lb 253 [(1,.ptr 32 0),(2,.ptr 33 0),(104,.h .bool)] [(32,.dat (.prod .str (.prod wI (.prod wI (.prod .str (.prod .str (.prod .str (.prod (.list (.prod .str wI)) (.prod .str (.prod (.prod wI (.prod wI (.prod wI (.prod wI (.prod wI (.prod wI wI)))))) (.prod wI (.prod wI (.prod wI (.prod wI (.prod wI (.prod .bool (.prod (.list wI) (.prod (.list wI) (.list wI)))))))))))))))))) 29),(33,.dat (.prod wI wI) 36)],lb 28 [(1,.ptr 32 0),(2,.ptr 33 0)] [(32,.dat (.prod .str (.prod wI (.prod wI (.prod .str (.prod .str (.prod .str (.prod (.list (.prod .str wI)) (.prod .str (.prod (.prod wI (.prod wI (.prod wI (.prod wI (.prod wI (.prod wI wI)))))) (.prod wI (.prod wI (.prod wI (.prod wI (.prod wI (.prod .bool (.prod (.list wI) (.prod (.list wI) (.list wI)))))))))))))))))) 29),(33,.dat (.prod wI wI) 36)],lb 26623 [(1,.ptr 32 0),(2,.ptr 33 0),(62,.h .bool)] [(32,.dat (.prod .str (.prod wI (.prod wI (.prod .str (.prod .str (.prod .str (.prod (.list (.prod .str wI)) (.prod .str (.prod (.prod wI (.prod wI (.prod wI (.prod wI (.prod wI (.prod wI wI)))))) (.prod wI (.prod wI (.prod wI (.prod wI (.prod wI (.prod .bool (.prod (.list wI) (.prod (.list wI) (.list wI)))))))))))))))))) 29),(33,.dat (.prod wI wI) 36)],lb 415 [(1,.ptr 32 0),(2,.ptr 33 0),(34,.h .bool)] [(32,.dat (.prod .str (.prod wI (.prod wI (.prod .str (.prod .str (.prod .str (.prod (.list (.prod .str wI)) (.prod .str (.prod (.prod wI (.prod wI (.prod wI (.prod wI (.prod wI (.prod wI wI)))))) (.prod wI (.prod wI (.prod wI (.prod wI (.prod wI (.prod .bool (.prod (.list wI) (.prod (.list wI) (.list wI)))))))))))))))))) 29),(33,.dat (.prod wI wI) 36)],lb 103 [(1,.ptr 32 0),(2,.ptr 33 0),(24,.h .bool)] [(32,.dat (.prod .str (.prod wI (.prod wI (.prod .str (.prod .str (.prod .str (.prod (.list (.prod .str wI)) (.prod .str (.prod (.prod wI (.prod wI (.prod wI (.prod wI (.prod wI (.prod wI wI)))))) (.prod wI (.prod wI (.prod wI (.prod wI (.prod wI (.prod .bool (.prod (.list wI) (.prod (.list wI) (.list wI)))))))))))))))))) 29),(33,.dat (.prod wI wI) 36)],lb 25 [(1,.ptr 32 0),(2,.ptr 33 0),(7,.h .bool)] [(32,.dat (.prod .str (.prod wI (.prod wI (.prod .str (.prod .str (.prod .str (.prod (.list (.prod .str wI)) (.prod .str (.prod (.prod wI (.prod wI (.prod wI (.prod wI (.prod wI (.prod wI wI)))))) (.prod wI (.prod wI (.prod wI (.prod wI (.prod wI (.prod .bool (.prod (.list wI) (.prod (.list wI) (.list wI)))))))))))))))))) 29),(33,.dat (.prod wI wI) 36)]]
def vcg:(qap fu).L 0:=Fx.jm (qfj fu)
def vcf:(qap fu).L 1:=Fx.jm (qkq fu) [(vcg fu).s]
def vce:(qap fu).L 2:=Fx.jm (qfi fu) [(vcf fu).s]
def vcd:(qap fu).L 3:=Fx.jm (qfh fu) [(vce fu).s]
def vcc:(qap fu).L 4:=Fx.jm (qfg fu) [(vcd fu).s]
def vcb:(qap fu).L 5:=Fx.jm (qbh fu) [(vcc fu).s]
def vch:=(qap fu).fi (qkp fu) [(vcb fu).s]
def vci:EI wG ⟨.fn 18,[.h (.prod .str (.prod wI (.prod wI (.prod (.prod wI (.prod wI (.prod wI wI))) (.prod wI (.prod wI (.prod wI wI))))))),.h (.prod wI (.prod wI (.prod wI (.prod wI (.prod wI (.prod wI wI)))))),.h (.prod wI (.prod wI (.prod wI (.prod wI (.prod .bool (.prod (.list wI) (.prod (.list wI) (.list wI))))))))],[],_,RS.mk (.fn 43 [.ptr 0 0,.ptr 1 0,.ptr 2 0]) [(0,.dat (.prod wI (.prod wI (.prod wI (.prod wI (.prod wI (.prod wI wI)))))) 24),(1,.dat (.prod wI (.prod wI (.prod wI (.prod wI (.prod .bool (.prod (.list wI) (.prod (.list wI) (.list wI)))))))) 27),(2,.dat (.prod .str (.prod wI (.prod wI (.prod (.prod wI (.prod wI (.prod wI wI))) (.prod wI (.prod wI (.prod wI wI))))))) 34)]⟩:=(fx).fi qu9
def zoj(fu:Nat):Fx wG ⟨.fn 137,[.h (.list wI),wH],[],_,RS.mk (wH) []⟩:=fx [] [lb 104 [(0,.h (.list wI)),(1,wH),(7,wH),(8,wH)]]
def vcj:Nat->(zoj fu).L 0:=Fx.lq (qf2 fu) (qvu fu) (fun r0=>[r0.s])
def vck:=(zoj fu).fi (qvt fu) [(vcj fu fu).s]
def vcl:EI wG ⟨.fn 81,[.h (.list wI),wH],[],_,RS.mk (.h .bool) []⟩:=(fx [(vck fu).p]).fi (qld fu)
def zol:Fx wG ⟨.fn 45,[.h (.prod wI (.prod wI (.prod wI (.prod wI (.prod .bool (.prod (.list wI) (.prod (.list wI) (.list wI)))))))),.h (.prod wI (.prod wI (.prod wI (.prod wI (.prod wI (.prod wI wI)))))),.h (.prod wI (.prod wI (.prod wI (.prod wI (.prod wI (.prod wI wI)))))),wH],[],_,RS.mk (.h .bool) []⟩:=fx [(zoe fu).p,(vcl fu).p] [lb 32118 [(3,wH),(4,.ptr 32 0),(11,wH),(14,.h .bool)] [(32,.dat (.prod wI (.prod wI (.prod wI (.prod wI (.prod .bool (.prod (.list wI) (.prod (.list wI) (.list wI)))))))) 27)]]
def vcm:(zol fu).L 0:=Fx.jm (qk7 fu)
def vcn:=(zol fu).fi (qk6 fu) [(vcm fu).s]
def vco:EI wG ⟨.fn 82,[wH],[],_,RS.mk (.h .bool) []⟩:=(fx).fi qke
def vcp:EI wG ⟨.fn 46,[wH,wH],[],_,RS.mk (.h .bool) []⟩:=(fx [vco.p]).fi qkd
def vcq:EI wG ⟨.fn 47,[wH],[],_,RS.mk (.h .bool) []⟩:=(fx).fi qlf
def zom(fu:Nat):Fx wG ⟨.fn 19,[.h (.list wI),wH],[],_,RS.mk (.tup [wH,.h .bool]) []⟩:=fx [vcp.p,vcq.p] [lb 480 [(0,.h (.list wI)),(1,wH),(6,wH),(7,wH),(8,wH)]]
def vcr:Nat->(zom fu).L 0:=Fx.lq (qfy fu) (qvg fu) (fun r0=>[r0.s])
def vcs:=(zom fu).fi (qlb fu) [(vcr fu fu).s]
def vct:EI wG ⟨.yld 0,[wH],[(0,.loop .ready none 6 93 [(7,.ptr 1 0),(16,.ptr 2 0)] [66] 11 3),(1,.dat (.prod wI (.prod wI (.prod wI (.prod wI (.prod .bool (.prod (.list wI) (.prod (.list wI) (.list wI)))))))) 27),(2,.cells [.own 4] 25),(3,.dfr),(4,.row wI 3)],_,RS.mk (.c (.bool true)) [(0,.loop .ready none 6 93 [(7,.ptr 1 0),(16,.ptr 2 0)] [66] 11 3),(1,.dat (.prod wI (.prod wI (.prod wI (.prod wI (.prod .bool (.prod (.list wI) (.prod (.list wI) (.list wI)))))))) 27),(2,.cells [.own 5] 25),(3,.dfr),(4,.dead),(5,.row wI 3)]⟩:=(fy 6 [(vcs fu).p] [] false [([0,1,0,1,1,1,1,1,1,1],11)] (fl rfl ez)).fo (qfr fu) [] 0 [0,1,0,1,1,1,1,1,1,1]
def zon:Fx wG ⟨.fn 43,[.yld 0,.ptr 1 0,.ptr 2 0,.ptr 3 0],[(0,.loop .ready none 6 93 [(7,.ptr 4 0),(16,.ptr 5 0)] [66] 11 6),(1,.dat (.prod wI (.prod wI (.prod wI (.prod wI (.prod wI (.prod wI wI)))))) 24),(2,.dat (.prod wI (.prod wI (.prod wI (.prod wI (.prod .bool (.prod (.list wI) (.prod (.list wI) (.list wI)))))))) 27),(3,.dat (.prod .str (.prod wI (.prod wI (.prod (.prod wI (.prod wI (.prod wI wI))) (.prod wI (.prod wI (.prod wI wI))))))) 34),(4,.dat (.prod wI (.prod wI (.prod wI (.prod wI (.prod .bool (.prod (.list wI) (.prod (.list wI) (.list wI)))))))) 27),(5,.cells [.own 7] 25),(6,.dfr),(7,.row wI 3)],_,RS.mk (.tup []) [(0,.loop .ready none 6 93 [(7,.ptr 4 0),(16,.ptr 5 0)] [66] 11 6),(1,.dat (.prod wI (.prod wI (.prod wI (.prod wI (.prod wI (.prod wI wI)))))) 24),(2,.dat (.prod wI (.prod wI (.prod wI (.prod wI (.prod .bool (.prod (.list wI) (.prod (.list wI) (.list wI)))))))) 27),(3,.dat (.prod .str (.prod wI (.prod wI (.prod (.prod wI (.prod wI (.prod wI wI))) (.prod wI (.prod wI (.prod wI wI))))))) 34),(4,.dat (.prod wI (.prod wI (.prod wI (.prod wI (.prod .bool (.prod (.list wI) (.prod (.list wI) (.list wI)))))))) 27),(5,.cells [.own 8] 25),(6,.dfr),(7,.dead),(8,.row wI 3)]⟩:=fx [(q5w fu).p,(zoc fu).p,(vcn fu).p,(q5z fu).p,(vct fu).p] [lb 240 [(0,.yld 0),(1,.ptr 1 0),(2,.ptr 2 0),(3,.ptr 3 0),(5,wH),(7,wH),(8,wH)] [(0,.loop .ready none 6 93 [(7,.ptr 4 0),(16,.ptr 5 0)] [66] 11 6),(1,.dat (.prod wI (.prod wI (.prod wI (.prod wI (.prod wI (.prod wI wI)))))) 24),(2,.dat (.prod wI (.prod wI (.prod wI (.prod wI (.prod .bool (.prod (.list wI) (.prod (.list wI) (.list wI)))))))) 27),(3,.dat (.prod .str (.prod wI (.prod wI (.prod (.prod wI (.prod wI (.prod wI wI))) (.prod wI (.prod wI (.prod wI wI))))))) 34),(4,.dat (.prod wI (.prod wI (.prod wI (.prod wI (.prod .bool (.prod (.list wI) (.prod (.list wI) (.list wI)))))))) 27),(5,.cells [.own 32] 25),(6,.dfr),(7,.dead),(32,.row wI 3)]]
def vcu:Nat->(zon fu).L 0:=Fx.lq (qbm fu) (qvb fu) (fun r0=>[r0.s])
def vcv:=(zon fu).fi (qva fu) [(vcu fu fu).s]
def zoo:EI wG ⟨.fn 20,[wH,.ptr 0 0,.ptr 1 0],[(0,.cells [wH] 3),(1,.cells [wH] 3)],_,RS.mk (.h .bool) [(0,.cells [wH] 3),(1,.cells [wH] 3)]⟩:=(fx).fi qfq
def zoq(fu:Nat):Fx wG ⟨.fn 48,[.own 0,.fn 20 [.ptr 1 0,.ptr 2 0]],[(0,.row wI 3),(1,.cells [wH] 3),(2,.cells [wH] 3)],_,RS.mk (wH) [(0,.row wI 3),(1,.cells [wH] 3),(2,.cells [wH] 3)]⟩:=fx [zoo.p] [lb 104 [(0,.own 0),(1,.fn 20 [.ptr 1 0,.ptr 2 0]),(7,wH),(8,wH)] [(0,.row wI 3),(1,.cells [wH] 3),(2,.cells [wH] 3)]]
def vcy:Nat->(zoq fu).L 0:=Fx.lq (qf1 fu) (qvr fu) (fun r0=>[r0.s])
def vcz:=(zoq fu).fi (qvq fu) [(vcy fu fu).s]
def zor:Fx wG ⟨.fn 21,[.own 0,.fn 20 [.ptr 1 0,.ptr 2 0]],[(0,.row wI 3),(1,.cells [wH] 3),(2,.cells [wH] 3)],_,RS.mk (.own 3) [(0,.dead),(1,.cells [wH] 3),(2,.cells [wH] 3),(3,.row wI 3)]⟩:=fx [(vcz fu).p,zoo.p] [lb 976 [(0,.own 32),(1,.fn 20 [.ptr 1 0,.ptr 2 0]),(5,wH),(6,wH)] [(0,.dead),(1,.cells [wH] 3),(2,.cells [wH] 3),(32,.row wI 3)]] true
def vc0:Nat->(zor fu).L 0:=Fx.lq (qfz fu) (qvk fu) (fun r0=>[r0.s])
def vc1:=(zor fu).fi (qle fu) [(vc0 fu fu).s]
def q57:Fx wG ⟨.fn 6,[.h (.prod .str (.prod wI (.prod wI (.prod (.prod wI (.prod wI (.prod wI wI))) (.prod wI (.prod wI (.prod wI wI))))))),.h (.prod wI (.prod wI (.prod wI (.prod wI (.prod wI (.prod wI wI)))))),.h (.prod wI (.prod wI (.prod wI (.prod wI (.prod .bool (.prod (.list wI) (.prod (.list wI) (.list wI)))))))),wH,wH],[],_,RS.mk (.tup [.own 0,.h (.prod wI wI)]) [(0,.row wI 3)]⟩:=fx [(qqb fu).p,eg.p,dc.p,(q5z fu).p,(zoh fu).p,qi7.p,vci.p,(vcv fu).p,(vc1 fu).p,⟨qvv sj,zbp⟩,⟨zbd qlc,zqd⟩,c8.p] [lb 254 [(5,.ptr 32 0),(6,.ptr 33 0),(7,.ptr 34 0),(8,.ptr 35 0),(9,.ptr 36 0),(10,wN),(11,.ptr 37 0)] [(32,.dat (.prod .str (.prod wI (.prod wI (.prod (.prod wI (.prod wI (.prod wI wI))) (.prod wI (.prod wI (.prod wI wI))))))) 34),(33,.dat (.prod wI (.prod wI (.prod wI (.prod wI (.prod wI (.prod wI wI)))))) 24),(34,.dat (.prod wI (.prod wI (.prod wI (.prod wI (.prod .bool (.prod (.list wI) (.prod (.list wI) (.list wI)))))))) 27),(35,.cells [wH] 3),(36,.cells [wH] 3),(37,.dat (.prod wI wI) 36)],lb 253 [(5,.ptr 32 0),(6,.ptr 33 0),(7,.ptr 34 0),(8,.ptr 35 0),(9,.ptr 36 0),(10,wN),(11,.ptr 37 0),(60,.h .bool)] [(32,.dat (.prod .str (.prod wI (.prod wI (.prod (.prod wI (.prod wI (.prod wI wI))) (.prod wI (.prod wI (.prod wI wI))))))) 34),(33,.dat (.prod wI (.prod wI (.prod wI (.prod wI (.prod wI (.prod wI wI)))))) 24),(34,.dat (.prod wI (.prod wI (.prod wI (.prod wI (.prod .bool (.prod (.list wI) (.prod (.list wI) (.list wI)))))))) 27),(35,.cells [wH] 3),(36,.cells [wH] 3),(37,.dat (.prod wI wI) 36)]] false [([0,1,0,1,1,1,1,1,1,1],11)] (fl rfl ez)
def vc3:(q57 fu).L 0:=Fx.jm (qu7 fu)
def vc2:(q57 fu).L 1:=Fx.jm (qbl fu) [(vc3 fu).s]
def zos:=(q57 fu).fi (yj fu) [(vc2 fu).s]
end
end
noncomputable section
open Go.Proofs
set_option linter.unusedVariables false
set_option maxRecDepth 100000
set_option maxHeartbeats 2000000
open Tryz
section
variable(fu:Nat)
def vc4:EI wG ⟨.fn 5,[.h (.prod .str (.prod wI (.prod wI (.prod .str (.prod .str (.prod .str (.prod (.list (.prod .str wI)) (.prod .str (.prod (.prod wI (.prod wI (.prod wI (.prod wI (.prod wI (.prod wI wI)))))) (.prod wI (.prod wI (.prod wI (.prod wI (.prod wI (.prod .bool (.prod (.list wI) (.prod (.list wI) (.list wI)))))))))))))))))),.h (.prod .str (.prod wI (.prod wI (.prod (.prod wI (.prod wI (.prod wI wI))) (.prod wI (.prod wI (.prod wI wI))))))),wH,wH],[],_,RS.mk (.tup [.own 0,.h (.prod wI wI)]) [(0,.row wI 3)]⟩:=(fx [(vch fu).p,eg.p,dc.p,(zos fu).p,c8.p]).fi (qko fu)
def q58:IF:=⟨.fn 3,[.h (.prod .str (.prod wI (.prod wI (.prod .str (.prod .str (.prod .str (.prod (.list (.prod .str wI)) (.prod .str (.prod (.prod wI (.prod wI (.prod wI (.prod wI (.prod wI (.prod wI wI)))))) (.prod wI (.prod wI (.prod wI (.prod wI (.prod wI (.prod .bool (.prod (.list wI) (.prod (.list wI) (.list wI)))))))))))))))))),wH,wH],[],_,RS.mk (.h .bool) []⟩
def qqc:Fx wG q58:=fx [(z5p fu).p,(vc4 fu).p,(zos fu).p] [lb 524240 [(1,wH),(2,wH),(9,.own 32),(11,.own 33),(13,wH)] [(32,.row wI 3),(33,.row wI 3)],lb 16380 [(1,wH),(2,wH),(9,.own 32),(11,.own 33)] [(32,.row wI 3),(33,.row wI 3)],lb 8189 [(1,wH),(2,wH),(9,.own 32),(10,.ptr 33 0),(11,.own 34),(54,.h .bool)] [(32,.row wI 3),(33,.dat (.prod wI wI) 36),(34,.row wI 3)]]
def vc7:Nat->(qqc fu).L 0:=Fx.lq (qei fu) (qqq fu) (fun r2=>[r2.s])
def vc6:(qqc fu).L 1:=Fx.jm (qqr fu) [(vc7 fu fu).s]
def vc5:(qqc fu).L 2:=Fx.jm (xv fu) [(vc6 fu).s]
def vc8:EI wG q58:=(qqc fu).fi (qas fu) [(vc5 fu).s]
def zp0:(q58.e (qas fu)).Sound wG:=(vc8 fu).h
end
end
end Go.Sym
