/- What the claim rests on, part 6: gathered texts. -/
import Derived.Test.YtdnaaelkpgijeaaGreatDoorSyQ5
set_option linter.defProp false
set_option linter.unusedSimpArgs false
set_option linter.unusedVariables false
namespace Go.Sym
noncomputable section
open Go.Proofs
set_option linter.unusedVariables false
set_option maxRecDepth 100000
set_option maxHeartbeats 2000000
open Tryz
section
variable(fu:Nat)
def q6o:Fx wG ⟨.fn 136,[.yld 0,.ptr 1 0,.ptr 2 0,.ptr 3 0],[(0,.loop .ready none 124 17 [(3,.ptr 4 0),(4,.ptr 5 0)] [8] 6 6),(1,.cells [wS] 9),(2,.cells [wS] 9),(3,.cells [wH] 3),(4,.cells [.fn 48 []] 96),(5,.cells [.h .bool] 4),(6,.dfr)],_,.two (RS.mk (.tup []) [(0,.loop .done (some .ret) 124 17 [(3,.ptr 4 0),(4,.ptr 5 0)] [8] 6 6),(1,.cells [wS] 9),(2,.cells [wS] 9),(3,.cells [wH] 3),(4,.cells [.fn 48 []] 96),(5,.cells [.h .bool] 4),(6,.dfr)]) (RS.mk (.tup []) [(0,.loop .ready none 124 17 [(3,.ptr 4 0),(4,.ptr 5 0)] [8] 6 6),(1,.cells [wS] 9),(2,.cells [wS] 9),(3,.cells [wH] 3),(4,.cells [.fn 48 []] 96),(5,.cells [.h .bool] 4),(6,.dfr)])⟩:=fx [⟨xl.e il,qa7 ou oc ot ob⟩,(z9b fu).p,qfe.p] [lb 320 [(0,.yld 0),(2,.ptr 2 0)] [(0,.loop .ready none 124 17 [(3,.ptr 4 0),(4,.ptr 5 0)] [8] 6 6),(1,.cells [wS] 9),(2,.cells [wS] 9),(3,.cells [wH] 3),(4,.cells [.fn 48 []] 96),(5,.cells [.h .bool] 4),(6,.dfr)],lb 96 [(0,.yld 0),(1,.ptr 1 0),(2,.ptr 2 0),(3,.ptr 3 0)] [(0,.loop .ready none 124 17 [(3,.ptr 4 0),(4,.ptr 5 0)] [8] 6 6),(1,.cells [wS] 9),(2,.cells [wS] 9),(3,.cells [wH] 3),(4,.cells [.fn 48 []] 96),(5,.cells [.h .bool] 4),(6,.dfr)]]
def z9c:Nat->(q6o fu).L 0:=Fx.lq (qyc fu) (zcl fu) (fun r0=>[r0.s])
def z9d:Nat->(q6o fu).L 1:=Fx.lq (qh0 fu) (zcm fu) (fun r1=>[r1.s])
def z9e:=(q6o fu).fi (qn2 fu) [(z9c fu fu).s,(z9d fu fu).s]
def z9f:EI wG ⟨.fn 124,[wS,.fn 48 []],[],_,RS.mk (.h .bool) []⟩:=(fx [q6i.p,(z9e fu).p] [] false [([0,1,0,1],6)] (f7 rfl fh)).fi (qmc fu)
def zn4:EI wG ⟨.fn 77,[wS],[],_,RS.mk (.h .bool) []⟩:=(fx [(z9f fu).p]).fi (wm fu)
def zn5:EI wG ⟨.fn 49,[wS],[],_,RS.mk (wS) []⟩:=(fx [q7x.p,⟨q4m.e t8,zkh⟩]).fi zy
def z9g:EI wG ⟨.fn 40,[.h (.prod .str wP)],[],_,RS.mk (wS) []⟩:=(fx [(zn4 fu).p,zn5.p]).fi (qgr fu)
def z9h:EI wG ⟨.fn 172,[wS,wS],[],_,RS.mk (.h .bool) []⟩:=(fx).fi qc9
def zn6:EI wG ⟨.fn 128,[wS,wS],[],_,RS.mk (.h .bool) []⟩:=(fx [z9h.p]).fi mv
def z9i:EI wG ⟨.fn 130,[wS,wS],[],_,RS.mk (.h .bool) []⟩:=(fx [qfe.p]).fi qxi
def qfh(fu:Nat):Fx wG ⟨.fn 82,[wS],[],_,RS.mk (.h .bool) []⟩:=fx [zn6.p,zp6.p,z9i.p] [lb 423 [(0,wS),(5,wH),(6,wH)],lb 3379 [(0,wS),(5,wH),(6,wH),(18,.h .bool)],lb 104 [(0,wS),(5,wH),(6,wH)]]
def z9l(r0:(qfh fu).L 2):(qfh fu).L 0:=Fx.jm (qzb fu r0.f) [r0.s]
def z9k(r0:(qfh fu).L 2):(qfh fu).L 1:=Fx.jm (qid fu r0.f) [(z9l fu r0).s]
def z9j:Nat->(qfh fu).L 2:=Fx.lq (qao fu) (qod fu) (fun r0=>[(z9k fu r0).s])
def z9m:=(qfh fu).fi (qic fu) [(z9j fu fu).s]
def zn7(fu:Nat):Fx wG ⟨.fn 83,[wS],[],_,RS.mk (wS) []⟩:=fx [] [lb 232 [(3,wS),(7,.ptr 32 0)] [(32,.it)]]
def z9n:Nat->(zn7 fu).L 0:=Fx.lq (qgw fu) (qu3 fu) (fun r0=>[r0.s])
def z9o:=(zn7 fu).fi (qu2 fu) [(z9n fu fu).s]
def z9s:EI wG ⟨.fn 84,[wS,wS],[],_,RS.mk (.fn 131 [.ptr 0 0,.ptr 1 0]) [(0,.cells [wS] 9),(1,.cells [wS] 9)]⟩:=(fx).fi qzd
def z9t:EI wG ⟨.fn 173,[wS],[],_,RS.mk (.fn 212 [.ptr 0 0]) [(0,.cells [wS] 9)]⟩:=(fx).fi qvm
def zn8(fu:Nat):Fx wG ⟨.fn 294,[.h (.int .i32),.h (.list (.prod (.int .i32) (.prod (.int .i32) wI)))],[],_,RS.mk (.tup [wH,.h .bool]) []⟩:=fx [] [lb 104 [(0,.h (.int .i32)),(8,.h (.list (.prod (.int .i32) (.prod (.int .i32) wI)))),(9,wH),(10,wH)]]
def z9u:Nat->(zn8 fu).L 0:=Fx.lq (qc5 fu) (qvl fu) (fun r0=>[r0.s])
def z9v:=(zn8 fu).fi (qvk fu) [(z9u fu fu).s]
def z9w:EI wG ⟨.fn 256,[.h (.int .i32)],[],_,RS.mk (wH) []⟩:=(fx [(z9v fu).p]).fi (qg7 fu)
def z9x:EI wG ⟨.fn 213,[wS],[],_,RS.mk (.h (.prod wI (.prod .bool wI))) []⟩:=(fx [⟨xl.e il,qa7 ou oc ot ob⟩,(z9w fu).p]).fi (qc4 fu)
def z9y:EI wG ⟨.fn 257,[wH],[],_,RS.mk (.h .bool) []⟩:=(fx).fi qg8
def qfi:Fx wG ⟨.fn 214,[.h (.prod wI (.prod .bool wI)),.h (.prod wI (.prod .bool wI)),wH],[],_,RS.mk (.h .bool) []⟩:=fx [z9y.p] [lb 30 [(3,.ptr 32 0),(4,.ptr 33 0)] [(32,.dat (.prod wI (.prod .bool wI)) 280),(33,.dat (.prod wI (.prod .bool wI)) 280)],lb 3711 [(2,wH),(3,.ptr 32 0),(4,.ptr 33 0),(35,.h .bool)] [(32,.dat (.prod wI (.prod .bool wI)) 280),(33,.dat (.prod wI (.prod .bool wI)) 280)],lb 927 [(2,wH),(3,.ptr 32 0),(4,.ptr 33 0),(24,.h .bool)] [(32,.dat (.prod wI (.prod .bool wI)) 280),(33,.dat (.prod wI (.prod .bool wI)) 280)],lb 231 [(2,wH),(3,.ptr 32 0),(4,.ptr 33 0),(7,.fn 257 []),(15,.h .bool)] [(32,.dat (.prod wI (.prod .bool wI)) 280),(33,.dat (.prod wI (.prod .bool wI)) 280)],lb 57 [(2,wH),(3,.ptr 32 0),(4,.ptr 33 0),(7,.fn 257 []),(8,.h .bool)] [(32,.dat (.prod wI (.prod .bool wI)) 280),(33,.dat (.prod wI (.prod .bool wI)) 280)]]
def z93:qfi.L 0:=Fx.jm qvj
def z92:qfi.L 1:=Fx.jm qm6 [(z93).s]
def z91:qfi.L 2:=Fx.jm qm5 [(z92).s]
def z90:qfi.L 3:=Fx.jm qm4 [(z91).s]
def z9z:qfi.L 4:=Fx.jm qm3 [(z90).s]
def z94:=qfi.fi qm2 [(z9z).s]
def z95:EI wG ⟨.yld 0,[wS],[(0,.loop .ready none 132 13 [(3,.ptr 1 0)] [7] 8 2),(1,.cells [.own 3] 39),(2,.dfr),(3,.row .str 9)],_,RS.mk (.c (.bool true)) [(0,.loop .ready none 132 13 [(3,.ptr 1 0)] [7] 8 2),(1,.cells [.own 4] 39),(2,.dfr),(3,.dead),(4,.row .str 9)]⟩:=(fy 132 [] [] false [([0,1,0,1,1],8)] (f7 rfl fh)).fo qg6 [] 0 [0,1,0,1,1]
def qb6:Fx wG ⟨.fn 212,[.yld 0,.ptr 1 0],[(0,.loop .ready none 132 13 [(3,.ptr 2 0)] [7] 8 3),(1,.cells [wS] 9),(2,.cells [.own 4] 39),(3,.dfr),(4,.row .str 9)],_,RS.mk (.tup []) [(0,.loop .ready none 132 13 [(3,.ptr 2 0)] [7] 8 3),(1,.cells [wS] 9),(2,.cells [.own 5] 39),(3,.dfr),(4,.dead),(5,.row .str 9)]⟩:=fx [(z9x fu).p,z94.p,z95.p] [lb 77358 [(0,.yld 0),(1,.ptr 1 0),(3,.ptr 32 0),(4,wH),(5,wH),(6,.ptr 33 0)] [(0,.loop .ready none 132 13 [(3,.ptr 2 0)] [7] 8 3),(1,.cells [wS] 9),(2,.cells [.own 34] 39),(3,.dfr),(4,.dead),(32,.dat (.prod wI (.prod .bool wI)) 280),(33,.dat (.prod wI (.prod .bool wI)) 280),(34,.row .str 9)],lb 4832 [(0,.yld 0),(1,.ptr 1 0),(3,.ptr 32 0),(4,wH),(5,wH)] [(0,.loop .ready none 132 13 [(3,.ptr 2 0)] [7] 8 3),(1,.cells [wS] 9),(2,.cells [.own 33] 39),(3,.dfr),(4,.dead),(32,.dat (.prod wI (.prod .bool wI)) 280),(33,.row .str 9)],lb 16 [(0,.yld 0),(1,.ptr 1 0)] [(0,.loop .ready none 132 13 [(3,.ptr 2 0)] [7] 8 3),(1,.cells [wS] 9),(2,.cells [.own 32] 39),(3,.dfr),(4,.dead),(32,.row .str 9)]]
def z98(r0:(qb6 fu).L 2)(r1:(qb6 fu).L 1):(qb6 fu).L 0:=Fx.jm (qg9 fu r0.f r1.f) [r1.s]
def z97(r0:(qb6 fu).L 2):Nat->(qb6 fu).L 1:=Fx.lq (t7 fu r0.f) (qvp fu r0.f) (fun r1=>[r0.s,(z98 fu r0 r1).s])
def z96:Nat->(qb6 fu).L 2:=Fx.lq (wy fu) (qvo fu) (fun r0=>[(z97 fu r0 fu).s])
def z99:=(qb6 fu).fi (qvn fu) [(z96 fu fu).s]
def vaa:EI wG ⟨.fn 132,[wS],[],_,RS.mk (.own 0) [(0,.row .str 9)]⟩:=(fx [z9t.p,(z99 fu).p] [] false [([0,1,0,1,1],8)] (f7 rfl fh)).fi (qm1 fu)
def vac:EI wG ⟨.fn 215,[wS,.h (.int .i32)],[],_,RS.mk (.agg [wS,.fn 258 [.ptr 0 0],.fn 259 [.ptr 0 0]]) [(0,.cells [.h (.int .i32)] 21)]⟩:=(fx).fi qg0
def zoa:EI wG ⟨.fn 174,[wS],[],_,.two (RS.mk (.tup [.agg [wS,.fn 258 [.ptr 0 0],.fn 259 [.ptr 0 0]],.h .bool]) [(0,.cells [.h (.int .i32)] 21)]) (.two (RS.mk (.tup [.agg [wS,.fn 216 [],.fn 217 []],.h .bool]) []) (.two (RS.mk (.tup [.agg [wS,.fn 219 [],.fn 220 []],.h .bool]) []) (RS.mk (.tup [.agg [wS,.c .nilFunc,.c .nilFunc],.h .bool]) [])))⟩:=(fx [vac.p,(nr fu).p]).fi (qgz fu)
def vad:EI wG ⟨.fn 259,[.h (.int .i32),.ptr 0 0],[(0,.cells [.h (.int .i32)] 21)],_,RS.mk (.tup [.own 1,.h .bool]) [(0,.cells [.h (.int .i32)] 21),(1,.row .byte 5)]⟩:=(fx).fi qvb
def q6u:Fx wG ⟨.fn 260,[wN,.h (.int .i32)],[],_,RS.mk (.own 0) [(0,.row .byte 5)]⟩:=fx [] [lb 479 [(0,wN),(1,.h (.int .i32)),(50,.h .bool)],lb 119 [(0,wN),(1,.h (.int .i32)),(5,.h (.int .u32)),(25,.h .bool)]]
def vaf:q6u.L 0:=Fx.jm qn6
def vae:q6u.L 1:=Fx.jm w9 [(vaf).s]
def vag:=q6u.fi qy3 [(vae).s]
def vah:EI wG ⟨.fn 218,[wN,.h (.int .i32)],[],_,RS.mk (.own 0) [(0,.row .byte 5)]⟩:=(fx [vag.p]).fi qn4
def vai:EI wG ⟨.fn 217,[.h (.int .i32)],[],_,RS.mk (.tup [.own 0,.h .bool]) [(0,.row .byte 5)]⟩:=(fx [vah.p]).fi qu9
def vaj:EI wG ⟨.fn 220,[.h (.int .i32)],[],_,RS.mk (.tup [.own 0,.h .bool]) [(0,.row .byte 5)]⟩:=(fx).fi q9q
def qk7:Fx wG ⟨.fn 133,[wS,wS],[],_,RS.mk (.tup [.own 0,.h (.prod wI wI)]) [(0,.row .byte 5)]⟩:=fx [ew.p,(zoa fu).p,⟨qkz.e ic,qr4 ou oc ot ob⟩,vad.p,eu.p,vai.p,vaj.p] [lb 4072 [(5,.ptr 32 0),(6,.ptr 33 0),(8,.own 36),(30,.ptr 34 0)] [(32,.dat (.prod wI wI) 26),(33,.cells [wS,.fn 258 [.ptr 35 0],.fn 259 [.ptr 35 0]] 226),(34,.it),(35,.cells [.h (.int .i32)] 21),(36,.row .byte 5)],lb 4072 [(5,.ptr 32 0),(6,.ptr 33 0),(8,.own 35),(30,.ptr 34 0)] [(32,.dat (.prod wI wI) 26),(33,.cells [wS,.fn 216 [],.fn 217 []] 226),(34,.it),(35,.row .byte 5)],lb 4072 [(5,.ptr 32 0),(6,.ptr 33 0),(8,.own 35),(30,.ptr 34 0)] [(32,.dat (.prod wI wI) 26),(33,.cells [wS,.fn 219 [],.fn 220 []] 226),(34,.it),(35,.row .byte 5)],lb 4072 [(5,.ptr 32 0),(6,.ptr 33 0),(8,wN),(30,.ptr 34 0)] [(32,.dat (.prod wI wI) 26),(33,.cells [wS,.c .nilFunc,.c .nilFunc] 226),(34,.it)]]
def vak:Nat->(qk7 fu).L 0:=Fx.lq (qgx fu) (qu4 fu) (fun r0=>[r0.s])
def vam:Nat->(qk7 fu).L 1:=Fx.lq (qgy fu) (qu5 fu) (fun r1=>[r1.s])
def van:Nat->(qk7 fu).L 2:=Fx.lq (qu6 fu) (q9o fu) (fun r2=>[r2.s])
def vao:Nat->(qk7 fu).L 3:=Fx.lq (qu7 fu) (q9p fu) (fun r3=>[])
def vap:=(qk7 fu).fi (qms fu) [(vak fu fu).s,(vam fu fu).s,(van fu fu).s,(vao fu fu).s]
def vaq:EI wG ⟨.fn 221,[.h wB],[],_,RS.mk (.fn 262 [.ptr 0 0]) [(0,.cells [.h wB] 23)]⟩:=(fx).fi qt2
def var:EI wG ⟨.yld 0,[.agg [.h .byte,.h .byte,.h .byte,.h .byte]],[(0,.loop .ready none 175 31 [(4,.ptr 1 0),(5,.ptr 2 0)] [13] 9 3),(1,.cells [.own 4] 23),(2,.cells [wH] 3),(3,.dfr),(4,.row .byte 5)],_,RS.mk (.c (.bool true)) [(0,.loop .ready none 175 31 [(4,.ptr 1 0),(5,.ptr 2 0)] [13] 9 3),(1,.cells [.own 5] 23),(2,.cells [wH] 3),(3,.dfr),(4,.dead),(5,.row .byte 5)]⟩:=(fy 175 [] [] false [([0,1,0,1,1,1,1],9)] (f7 rfl fh)).fo ib [] 0 [0,1,0,1,1,1,1]
def y9(fu:Nat):Fx wG ⟨.fn 262,[.yld 0,.ptr 1 0],[(0,.loop .ready none 175 31 [(4,.ptr 2 0),(5,.ptr 3 0)] [13] 9 4),(1,.cells [.h wB] 23),(2,.cells [.own 5] 23),(3,.cells [wH] 3),(4,.dfr),(5,.row .byte 5)],_,RS.mk (.tup []) [(0,.loop .ready none 175 31 [(4,.ptr 2 0),(5,.ptr 3 0)] [13] 9 4),(1,.cells [.h wB] 23),(2,.cells [.own 6] 23),(3,.cells [wH] 3),(4,.dfr),(5,.dead),(6,.row .byte 5)]⟩:=fx [var.p] [lb 9639 [(0,.yld 0),(1,.ptr 1 0),(3,wH),(4,wH),(14,.c (.int .i64 2))] [(0,.loop .ready none 175 31 [(4,.ptr 2 0),(5,.ptr 3 0)] [13] 9 4),(1,.cells [.h wB] 23),(2,.cells [.own 32] 23),(3,.cells [wH] 3),(4,.dfr),(5,.dead),(32,.row .byte 5)],lb 9639 [(0,.yld 0),(1,.ptr 1 0),(3,wH),(4,wH),(14,.c (.int .i64 1))] [(0,.loop .ready none 175 31 [(4,.ptr 2 0),(5,.ptr 3 0)] [13] 9 4),(1,.cells [.h wB] 23),(2,.cells [.own 32] 23),(3,.cells [wH] 3),(4,.dfr),(5,.dead),(32,.row .byte 5)],lb 9639 [(0,.yld 0),(1,.ptr 1 0),(3,wH),(4,wH),(14,.c (.int .i64 0))] [(0,.loop .ready none 175 31 [(4,.ptr 2 0),(5,.ptr 3 0)] [13] 9 4),(1,.cells [.h wB] 23),(2,.cells [.own 32] 23),(3,.cells [wH] 3),(4,.dfr),(5,.dead),(32,.row .byte 5)],lb 16 [(0,.yld 0),(1,.ptr 1 0)] [(0,.loop .ready none 175 31 [(4,.ptr 2 0),(5,.ptr 3 0)] [13] 9 4),(1,.cells [.h wB] 23),(2,.cells [.own 32] 23),(3,.cells [wH] 3),(4,.dfr),(5,.dead),(32,.row .byte 5)]]
def vaw(r0:(y9 fu).L 3):(y9 fu).L 0:=Fx.jm (tv fu r0.f) [r0.s]
def vav(r0:(y9 fu).L 3):(y9 fu).L 1:=Fx.jm (qcw fu r0.f) [(vaw fu r0).s]
def vau(r0:(y9 fu).L 3):(y9 fu).L 2:=Fx.jm (qcv fu r0.f) [(vav fu r0).s]
def vat:Nat->(y9 fu).L 3:=Fx.lq (nv fu) (tu fu) (fun r0=>[(vau fu r0).s])
def vax:=(y9 fu).fi (qt3 fu) [(vat fu fu).s]
def vay:EI wG ⟨.fn 175,[.h wB],[],_,RS.mk (.tup [.own 0,.h (.prod wI wI)]) [(0,.row .byte 5)]⟩:=(fx [ew.p,vaq.p,(vax fu).p,eu.p] [] false [([0,1,0,1,1,1,1],9)] (f7 rfl fh)).fi (qmi fu)
def zob:EI wG ⟨.fn 134,[.h wB],[],_,RS.mk (wS) []⟩:=(fx [(vay fu).p,⟨zke.e qdi,z1o oE⟩]).fi (qib fu)
def zoc:EI wG ⟨.fn 156,[.ptr 0 0,.h .byte],[(0,.cells [.pn 0,.own 1] 84),(1,.row .byte 5)],_,RS.mk (.c .nilIface) [(0,.cells [.pn 0,.own 2] 84),(1,.dead),(2,.row .byte 5)]⟩:=(fx [⟨qpo.e pc,q1k⟩]).fi qdf
def vaz:EI wG ⟨.fn 177,[.ptr 0 0,.own 1],[(0,.cells [.pn 0,.own 2] 84),(1,.row .byte 5),(2,.row .byte 5)],_,RS.mk (.tup [wH,.c .nilIface]) [(0,.cells [.pn 0,.own 3] 84),(1,.row .byte 5),(2,.dead),(3,.row .byte 5)]⟩:=(fx [⟨qpo.e pc,q1k⟩]).fi qnn
def zod(fu:Nat):Fx wG ⟨.fn 135,[.h wB],[],_,RS.mk (wS) []⟩:=fx [zoc.p,q6j.p,zm6.p,vaz.p,⟨q03.e z7,zez⟩] [lb 232 [(3,.ptr 32 0),(6,.h wB),(7,wH),(8,wH)] [(32,.cells [.pn 32,.own 33] 84),(33,.row .byte 5)]]
def va0:Nat->(zod fu).L 0:=Fx.lq (qia fu) (qza fu) (fun r0=>[r0.s])
def va1:=(zod fu).fi (qoc fu) [(va0 fu fu).s]
def q60:EI wG ⟨.fn 85,[wS,wS],[],_,RS.mk (wS) []⟩:=(fx [(vap fu).p,(zob fu).p,(va1 fu).p]).fi (qaq fu)
def va2:EI wG ⟨.yld 0,[wS],[(0,.loop .ready none 45 54 [(4,.ptr 1 0),(5,.ptr 2 0),(6,.ptr 3 0)] [25] 7 4),(1,.cells [wS] 9),(2,.cells [.own 5] 39),(3,.cells [wS] 9),(4,.dfr),(5,.row .str 9)],_,RS.mk (.c (.bool true)) [(0,.loop .ready none 45 54 [(4,.ptr 1 0),(5,.ptr 2 0),(6,.ptr 3 0)] [25] 7 4),(1,.cells [wS] 9),(2,.cells [.own 6] 39),(3,.cells [wS] 9),(4,.dfr),(5,.dead),(6,.row .str 9)]⟩:=(fy 45 [(q60 fu).p] [] false [([0,1,0,1,1,1,1,1,1,1],7)] (f7 rfl fh)).fo (qh8 fu) [] 0 [0,1,0,1,1,1,1,1,1,1]
def qsp:Fx wG ⟨.fn 131,[.yld 0,.ptr 1 0,.ptr 2 0],[(0,.loop .ready none 45 54 [(4,.ptr 3 0),(5,.ptr 4 0),(6,.ptr 5 0)] [25] 7 6),(1,.cells [wS] 9),(2,.cells [wS] 9),(3,.cells [wS] 9),(4,.cells [.own 7] 39),(5,.cells [wS] 9),(6,.dfr),(7,.row .str 9)],_,RS.mk (.tup []) [(0,.loop .ready none 45 54 [(4,.ptr 3 0),(5,.ptr 4 0),(6,.ptr 5 0)] [25] 7 6),(1,.cells [wS] 9),(2,.cells [wS] 9),(3,.cells [wS] 9),(4,.cells [.own 8] 39),(5,.cells [wS] 9),(6,.dfr),(7,.dead),(8,.row .str 9)]⟩:=fx [(vaa fu).p,(q60 fu).p,(va2 fu).p] [lb 13112 [(0,.yld 0),(2,.ptr 2 0),(9,.own 32),(10,wH),(11,wH),(25,.ptr 33 0)] [(0,.loop .ready none 45 54 [(4,.ptr 3 0),(5,.ptr 4 0),(6,.ptr 5 0)] [25] 7 6),(1,.cells [wS] 9),(2,.cells [wS] 9),(3,.cells [wS] 9),(4,.cells [.own 34] 39),(5,.cells [wS] 9),(6,.dfr),(7,.dead),(32,.row .str 9),(33,.it),(34,.row .str 9)],lb 24 [(0,.yld 0),(2,.ptr 2 0),(9,.own 32),(10,wH),(11,wH)] [(0,.loop .ready none 45 54 [(4,.ptr 3 0),(5,.ptr 4 0),(6,.ptr 5 0)] [25] 7 6),(1,.cells [wS] 9),(2,.cells [wS] 9),(3,.cells [wS] 9),(4,.cells [.own 33] 39),(5,.cells [wS] 9),(6,.dfr),(7,.dead),(32,.row .str 9),(33,.row .str 9)]]
def va4(r0:(qsp fu).L 1):Nat->(qsp fu).L 0:=Fx.lq (qie fu r0.f) (qzf fu r0.f) (fun r1=>[r1.s,r0.s])
def va3:Nat->(qsp fu).L 1:=Fx.lq (qap fu) (qze fu) (fun r0=>[r0.s,(va4 fu r0 fu).s])
def va5:=(qsp fu).fi (qof fu) [(va3 fu fu).s]
def va6:EI wG ⟨.fn 45,[wS],[],_,RS.mk (.tup [wS,.h (.prod wI wI)]) []⟩:=(fx [ew.p,⟨qkz.e ic,qr4 ou oc ot ob⟩,(z9m fu).p,eu.p,(z9o fu).p,z9s.p,(va5 fu).p,(q60 fu).p,⟨qjz.e f9,qqr⟩] [] false [([0,1,0,1,1,1,1,1,1,1],7)] (f7 rfl fh)).fi (qn7 fu)
def va9:EI wG ⟨.yld 0,[wS],[(0,.loop .ready none 18 28 [(1,.ptr 1 0),(2,.ptr 2 0)] [17] 10 3),(1,.cells [wS] 9),(2,.cells [wS] 9),(3,.dfr)],_,.two (RS.mk (.c (.bool false)) [(0,.loop .done (some .ret) 18 28 [(1,.ptr 1 0),(2,.ptr 2 0)] [17] 10 3),(1,.cells [wS] 9),(2,.cells [wS] 9),(3,.dfr)]) (RS.mk (.c (.bool true)) [(0,.loop .ready none 18 28 [(1,.ptr 1 0),(2,.ptr 2 0)] [17] 10 3),(1,.cells [wS] 9),(2,.cells [wS] 9),(3,.dfr)])⟩:=(fy 18 [zn5.p,(zn3 fu).p] [] false [([0,1,0,1,1],10)] (f7 rfl fh)).fo (zx fu) [] 0 [0,1,0,1,1]
def q63:Fx wG ⟨.fn 136,[.yld 0,.ptr 1 0,.ptr 2 0,.ptr 3 0],[(0,.loop .ready none 18 28 [(1,.ptr 4 0),(2,.ptr 5 0)] [17] 10 6),(1,.cells [wS] 9),(2,.cells [wS] 9),(3,.cells [wH] 3),(4,.cells [wS] 9),(5,.cells [wS] 9),(6,.dfr)],_,.two (RS.mk (.tup []) [(0,.loop .done (some .ret) 18 28 [(1,.ptr 4 0),(2,.ptr 5 0)] [17] 10 6),(1,.cells [wS] 9),(2,.cells [wS] 9),(3,.cells [wH] 3),(4,.cells [wS] 9),(5,.cells [wS] 9),(6,.dfr)]) (RS.mk (.tup []) [(0,.loop .ready none 18 28 [(1,.ptr 4 0),(2,.ptr 5 0)] [17] 10 6),(1,.cells [wS] 9),(2,.cells [wS] 9),(3,.cells [wH] 3),(4,.cells [wS] 9),(5,.cells [wS] 9),(6,.dfr)])⟩:=fx [⟨xl.e il,qa7 ou oc ot ob⟩,(va9 fu).p,qfe.p] [lb 320 [(0,.yld 0),(2,.ptr 2 0)] [(0,.loop .ready none 18 28 [(1,.ptr 4 0),(2,.ptr 5 0)] [17] 10 6),(1,.cells [wS] 9),(2,.cells [wS] 9),(3,.cells [wH] 3),(4,.cells [wS] 9),(5,.cells [wS] 9),(6,.dfr)],lb 96 [(0,.yld 0),(1,.ptr 1 0),(2,.ptr 2 0),(3,.ptr 3 0)] [(0,.loop .ready none 18 28 [(1,.ptr 4 0),(2,.ptr 5 0)] [17] 10 6),(1,.cells [wS] 9),(2,.cells [wS] 9),(3,.cells [wH] 3),(4,.cells [wS] 9),(5,.cells [wS] 9),(6,.dfr)]]
def vba:Nat->(q63 fu).L 0:=Fx.lq (qyf fu) (zcn fu) (fun r0=>[r0.s])
def vbb:Nat->(q63 fu).L 1:=Fx.lq (qdl fu) (qye fu) (fun r1=>[r1.s])
def vbc:=(q63 fu).fi (qyd fu) [(vba fu fu).s,(vbb fu fu).s]
def zof:EI wG ⟨.fn 18,[wS],[],_,RS.mk (wS) []⟩:=(fx [(va6 fu).p,q6i.p,(vbc fu).p] [] false [([0,1,0,1,1],10)] (f7 rfl fh)).fi (qgn fu)
def vbd:EI wG ⟨.fn 15,[.h (.prod .str wP)],[],_,RS.mk (wS) []⟩:=(fx [(z9g fu).p,(zof fu).p]).fi (qcn fu)
def za:Fx wG ⟨.fn 5,[.h (.list (.prod .str (.prod .bool (.list (.prod .str wP)))))],[],_,RS.mk (.tup [wS,.h (.prod wI wI)]) []⟩:=fx [(zn0 fu).p,gl.p,⟨qjz.e f9,qqr⟩,ew.p,eu.p,(vbd fu).p,(zof fu).p,znr.p] [lb 1959 [(3,.ptr 32 0),(5,.own 33),(18,.h (.list (.prod .str (.prod .bool (.list (.prod .str wP)))))),(19,wH),(20,wH)] [(32,.dat (.prod wI wI) 26),(33,.row .str 9)],lb 125343 [(3,.ptr 32 0),(5,.own 33),(11,wS),(18,.h (.list (.prod .str (.prod .bool (.list (.prod .str wP)))))),(19,wH),(20,wH)] [(32,.dat (.prod wI wI) 26),(33,.row .str 9)],lb 501352 [(3,.ptr 32 0),(5,.own 35),(7,.ptr 33 0),(8,.own 34),(18,.h (.list (.prod .str (.prod .bool (.list (.prod .str wP)))))),(19,wH),(20,wH),(25,.h (.list (.prod .str wP))),(26,wH),(27,wH)] [(32,.dat (.prod wI wI) 26),(33,.dat (.prod .str (.prod .bool (.list (.prod .str wP)))) 52),(34,.row .str 9),(35,.row .str 9)],lb 488 [(3,.ptr 32 0),(5,.own 33),(18,.h (.list (.prod .str (.prod .bool (.list (.prod .str wP)))))),(19,wH),(20,wH)] [(32,.dat (.prod wI wI) 26),(33,.row .str 9)]]
def vbh(r0:(za fu).L 3):(za fu).L 0:=Fx.jm (qtu fu r0.f) [r0.s]
def vbg(r0:(za fu).L 3):(za fu).L 1:=Fx.jm (qgm fu r0.f) [(vbh fu r0).s]
def vbf(r0:(za fu).L 3):Nat->(za fu).L 2:=Fx.lq (nt fu r0.f) (qgl fu r0.f) (fun r1=>[r1.s,(vbg fu r0).s])
def vbe:Nat->(za fu).L 3:=Fx.lq (tg fu) (ql8 fu) (fun r0=>[(vbf fu r0 fu).s])
def vbi:=(za fu).fi (qgk fu) [(vbe fu fu).s]
def qsq:EI wG ⟨.fn 25,[wH,wH],[],_,RS.mk (.h (.prod wI wI)) []⟩:=(fx).fi tc
def vbj:EI wG ⟨.fn 183,[wH,wH,wH],[],_,RS.mk (.h .bool) []⟩:=(fx).fi qga
def zog(fu:Nat):Fx wG ⟨.fn 142,[wS],[],_,RS.mk (.h .bool) []⟩:=fx [vbj.p] [lb 208 [(0,wS),(3,wH)]]
def vbk:Nat->(zog fu).L 0:=Fx.lq (qf5 fu) (qtc fu) (fun r0=>[r0.s])
def vbl:=(zog fu).fi (qls fu) [(vbk fu fu).s]
def zoh(fu:Nat):Fx wG ⟨.fn 143,[.h .byte,wS],[],_,RS.mk (.h .bool) []⟩:=fx [] [lb 208 [(0,.h .byte),(1,wS),(5,wH)]]
def vbm:Nat->(zoh fu).L 0:=Fx.lq (ql1 fu) (qtj fu) (fun r0=>[r0.s])
def vbn:=(zoh fu).fi (ql0 fu) [(vbm fu fu).s]
def zoi:EI wG ⟨.fn 94,[.h .byte],[],_,RS.mk (.h .bool) []⟩:=(fx).fi td
def qb7(fu:Nat):Fx wG ⟨.fn 144,[wS],[],_,RS.mk (wS) []⟩:=fx [zoi.p] [lb 98 [(0,wS)],lb 224 [(0,wS)],lb 97 [(0,wS),(10,.h .bool)],lb 96 [(0,wS)]]
def vbt(r0:(qb7 fu).L 3):(qb7 fu).L 0:=Fx.jm (qtp fu r0.f) [r0.s]
def vbu:Nat->(qb7 fu).L 1:=Fx.lq (qgg fu) (qto fu) (fun r3=>[r3.s])
def vbs(r0:(qb7 fu).L 3):(qb7 fu).L 2:=Fx.jm (qgf fu r0.f) [(vbt fu r0).s,(vbu fu fu).s]
def vbr:Nat->(qb7 fu).L 3:=Fx.lq (qge fu) (qtn fu) (fun r0=>[(vbs fu r0).s])
def vbv:=(qb7 fu).fi (qtm fu) [(vbr fu fu).s]
def zok:Fx wG ⟨.fn 93,[wS,wS],[],_,RS.mk (wH) []⟩:=fx [(vbl fu).p,(vbn fu).p,(vbv fu).p] [lb 976 [(1,wS),(5,wH)]]
def vbw:Nat->(zok fu).L 0:=Fx.lq (qce fu) (qtb fu) (fun r0=>[r0.s])
def vbx:=(zok fu).fi (qf4 fu) [(vbw fu fu).s]
def lw(fu:Nat):Fx wG ⟨.fn 54,[wS,wS],[],_,RS.mk (.own 0) [(0,.row .str 9)]⟩:=fx [zoi.p] [lb 979 [(5,wS),(6,.own 32),(7,wH)] [(32,.row wI 3)],lb 3913 [(5,wS),(6,.own 32),(7,wH),(37,.h .bool)] [(32,.row wI 3)],lb 520531 [(5,wS),(6,.own 32),(8,.own 33),(9,wH),(10,wH),(11,wH)] [(32,.row wI 3),(33,.row .str 9)],lb 4164243 [(5,wS),(6,.own 32),(8,.own 33),(9,wH),(10,wH),(11,wH),(12,wH),(69,.h .bool)] [(32,.row wI 3),(33,.row .str 9)],lb 520528 [(5,wS),(6,.own 32),(8,.own 33),(9,wH),(10,wH),(11,wH)] [(32,.row wI 3),(33,.row .str 9)],lb 4064 [(5,wS),(6,.own 32),(8,.own 33),(9,wH)] [(32,.row wI 3),(33,.row .str 9)],lb 976 [(5,wS),(6,.own 32),(7,wH)] [(32,.row wI 3)]]
def vb1(r0:(lw fu).L 6):(lw fu).L 0:=Fx.jm (qly fu r0.f) [r0.s]
def vbz(r0:(lw fu).L 6):(lw fu).L 1:=Fx.jm (qlx fu r0.f) [(vb1 fu r0).s]
def vb4(r2:(lw fu).L 5)(r4:(lw fu).L 4):(lw fu).L 2:=Fx.jm (qlz fu r2.f r4.f) [r4.s]
def vb3(r2:(lw fu).L 5)(r4:(lw fu).L 4):(lw fu).L 3:=Fx.jm (qf9 fu r2.f r4.f) [(vb4 fu r2 r4).s]
def vb2(r2:(lw fu).L 5):Nat->(lw fu).L 4:=Fx.lq (zk fu r2.f) (qtf fu r2.f) (fun r4=>[(vb3 fu r2 r4).s,r2.s])
def vb0:Nat->(lw fu).L 5:=Fx.lq (tf fu) (qlw fu) (fun r2=>[(vb2 fu r2 fu).s])
def vby:Nat->(lw fu).L 6:=Fx.lq (qcf fu) (qlv fu) (fun r0=>[(vbz fu r0).s,(vb0 fu fu).s])
def zol:=(lw fu).fi (qf8 fu) [(vby fu fu).s]
def zom:Fx wG ⟨.fn 53,[wS,wS],[],_,RS.mk (.h (.prod wI wI)) []⟩:=fx [(vbx fu).p,qsq.p,(zol fu).p] [lb 976 [(4,.ptr 32 0),(5,.own 33),(6,wH)] [(32,.dat (.prod wI wI) 26),(33,.row .str 9)]]
def vb5:Nat->(zom fu).L 0:=Fx.lq (qf7 fu) (qte fu) (fun r0=>[r0.s])
def vb6:=(zom fu).fi (qlu fu) [(vb5 fu fu).s]
def zon:Fx wG ⟨.fn 23,[.h wL],[],_,RS.mk (.h (.prod wI wI)) []⟩:=fx [qsq.p,(vb6 fu).p] [lb 464 [(0,.h wL),(2,.ptr 32 0),(3,wH)] [(32,.dat (.prod wI wI) 26)]]
def vb7:Nat->(zon fu).L 0:=Fx.lq (qf6 fu) (qtd fu) (fun r0=>[r0.s])
def vb8:=(zon fu).fi (qlt fu) [(vb7 fu fu).s]
def qsr:Fx wG ⟨.fn 24,[.h wL],[],_,RS.mk (.own 0) [(0,.row .byte 5)]⟩:=fx [(zol fu).p] [lb 59696 [(0,.h wL),(3,wS),(4,wH),(5,.own 32),(6,wH)] [(32,.row .str 9)],lb 464 [(0,.h wL),(3,wS),(4,wH)]]
def vca(r0:(qsr fu).L 1):Nat->(qsr fu).L 0:=Fx.lq (qcg fu r0.f) (qti fu r0.f) (fun r1=>[r1.s,r0.s])
def vb9:Nat->(qsr fu).L 1:=Fx.lq (zl fu) (qth fu) (fun r0=>[(vca fu r0 fu).s])
def vcb:=(qsr fu).fi (qtg fu) [(vb9 fu fu).s]
def vcc:EI wG ⟨.fn 55,[.h wB,wH],[],_,RS.mk (.h .bool) []⟩:=(fx).fi qlr
def qss(fu:Nat):Fx wG ⟨.fn 26,[.h wB],[],_,RS.mk (.h (.prod wI wI)) []⟩:=fx [vcc.p,qsq.p] [lb 7461 [(0,.h wB),(2,.ptr 32 0),(3,wH),(4,wH),(29,.h .bool)] [(32,.dat (.prod wI wI) 26)],lb 464 [(0,.h wB),(2,.ptr 32 0),(3,wH),(4,wH)] [(32,.dat (.prod wI wI) 26)]]
def vce(r0:(qss fu).L 1):(qss fu).L 0:=Fx.jm (ql3 fu r0.f) [r0.s]
def vcd:Nat->(qss fu).L 1:=Fx.lq (qgh fu) (qtr fu) (fun r0=>[r0.s,(vce fu r0).s])
def vcf:=(qss fu).fi (qtq fu) [(vcd fu fu).s]
def vcg:EI wG ⟨.fn 7,[.h (.prod wL wB)],[],_,RS.mk (.h (.prod wI wI)) []⟩:=(fx [(vb8 fu).p,qsq.p,(vcb fu).p,(vcf fu).p]).fi (ql4 fu)
def vch:EI wG ⟨.fn 29,[.h wL,wS],[],_,RS.mk (.h (.prod wI wI)) []⟩:=(fx [(q6x fu).p,gl.p,(zpg fu).p,ew.p,eu.p]).fi (qvu fu)
def zoo:Fx wG ⟨.fn 9,[.h wL,wS],[],_,RS.mk (.tup [.own 0,.h (.prod wI wI)]) [(0,.row .str 9)]⟩:=fx [(vch fu).p,gl.p,(nr fu).p,eu.p] [lb 488 [(1,wS),(5,.ptr 32 0),(7,.own 33),(16,.h wL),(17,wH),(18,wH)] [(32,.dat (.prod wI wI) 26),(33,.row .str 9)]]
def vcj:Nat->(zoo fu).L 0:=Fx.lq (qc6 fu) (qvq fu) (fun r0=>[r0.s])
def vck:=(zoo fu).fi (qm7 fu) [(vcj fu fu).s]
def qb9:EI wG ⟨.thr 35 [],[.ptr 0 0],[(0,.dat (.prod .str wI) 74)],_,RS.mk (.tup [.u,.ifc 71 (.agg [wH])]) [(0,.dead)]⟩:=(fx).ft ly
def qsu(fu:Nat):Fx wG ⟨.thr 154 [],[.ptr 0 0],[(0,.dat (.prod .str wI) 74)],_,.two (RS.mk (.tup [.u,.ifc 71 (.agg [wH])]) [(0,.dead)]) (RS.mk (.tup []) [(0,.dat (.prod .str wI) 74)])⟩:=fx [qb9.p] [lb 194 [(0,.ptr 0 0),(2,wH)] [(0,.dat (.prod .str wI) 74)],lb 192 [(0,.ptr 0 0),(2,wH)] [(0,.dat (.prod .str wI) 74)]]
def vcm(r0:(qsu fu).L 1):(qsu fu).L 0:=Fx.jm (q8s fu r0.f) [r0.s]
def vcl:Nat->(qsu fu).L 1:=Fx.lq (qtv fu) (q8r fu) (fun r0=>[(vcm fu r0).s])
def vcn:=(qsu fu).ft (q8q fu) [(vcl fu fu).s]
def zop:Fx wG ⟨.thr 108 [],[.ptr 0 0],[(0,.dat (.prod .str wI) 74)],_,.two (RS.mk (.tup [.u,.ifc 71 (.agg [wH])]) [(0,.dead)]) (RS.mk (.tup []) [(0,.dat (.prod .str wI) 74)])⟩:=fx [qfb.p,(vcn fu).p] [lb 16 [(0,.ptr 0 0)] [(0,.dat (.prod .str wI) 74)]]
def vco:Nat->(zop fu).L 0:=Fx.lq (wt fu) (qmg fu) (fun r0=>[r0.s])
def vcp:=(zop fu).ft (qmf fu) [(vco fu fu).s]
def qfq(fu:Nat):Fx wG ⟨.thr 109 [],[.ptr 0 0],[(0,.dat (.prod .str wI) 74)],_,.two (RS.mk (.tup [.u,.ifc 71 (.agg [wH])]) [(0,.dead)]) (RS.mk (wS) [(0,.dat (.prod .str wI) 74)])⟩:=fx [qb9.p] [lb 123357 [(0,.ptr 0 0),(3,.own 32)] [(0,.dat (.prod .str wI) 74),(32,.row .byte 5)],lb 962 [(0,.ptr 0 0),(3,.own 32)] [(0,.dat (.prod .str wI) 74),(32,.row .byte 5)],lb 960 [(0,.ptr 0 0),(3,.own 32)] [(0,.dat (.prod .str wI) 74),(32,.row .byte 5)]]
def vcs(r0:(qfq fu).L 2):(qfq fu).L 0:=Fx.jm (qt0 fu r0.f) [r0.s]
def vcr(r0:(qfq fu).L 2):(qfq fu).L 1:=Fx.jm (qgo fu r0.f) [(vcs fu r0).s,r0.s]
def vcq:Nat->(qfq fu).L 2:=Fx.lq (qcs fu) (qtz fu) (fun r0=>[(vcr fu r0).s])
def vct:=(qfq fu).ft (qty fu) [(vcq fu fu).s]
def qfr:Fx wG ⟨.thr 64 [],[.ptr 0 0],[(0,.dat (.prod .str wI) 74)],_,.two (RS.mk (.tup [.u,.ifc 71 (.agg [wH])]) [(0,.dead)]) (.two (RS.mk (.c .nilIface) [(0,.dat (.prod .str wI) 74)]) (.two (RS.mk (.ifc 162 (.agg [wS,.h .bool])) [(0,.dat (.prod .str wI) 74)]) (RS.mk (.ifc 78 (.h .byte)) [(0,.dat (.prod .str wI) 74)])))⟩:=fx [(vcp fu).p,(vct fu).p,x7s.p,zn1.p,qb9.p] [lb 8162 [(0,.ptr 0 0),(4,wH)] [(0,.dat (.prod .str wI) 74)],lb 8161 [(0,.ptr 0 0),(4,wH),(81,.h .bool)] [(0,.dat (.prod .str wI) 74)],lb 8160 [(0,.ptr 0 0),(4,wH)] [(0,.dat (.prod .str wI) 74)]]
def vcw(r0:(qfr fu).L 2):(qfr fu).L 0:=Fx.jm (qtx fu r0.f) [r0.s]
def vcv(r0:(qfr fu).L 2):(qfr fu).L 1:=Fx.jm (wq fu r0.f) [(vcw fu r0).s]
def vcu:Nat->(qfr fu).L 2:=Fx.lq (z6 fu) (qtw fu) (fun r0=>[(vcv fu r0).s])
def qsv:=(qfr fu).ft (tp fu) [(vcu fu fu).s]
def q7c:EI wG ⟨.thr 32 [],[.ptr 0 0],[(0,.dat (.prod .str wI) 74)],_,.two (RS.mk (.tup [.u,.ifc 71 (.agg [wH])]) [(0,.dead)]) (.two (RS.mk (.c .nilIface) [(0,.dat (.prod .str wI) 74)]) (.two (RS.mk (.ifc 162 (.agg [wS,.h .bool])) [(0,.dat (.prod .str wI) 74)]) (RS.mk (.ifc 78 (.h .byte)) [(0,.dat (.prod .str wI) 74)])))⟩:=(fx [(qsv fu).p]).ft (nu fu)
def zoq:Fx wG ⟨.thr 65 [],[.ptr 0 0],[(0,.dat (.prod .str wI) 74)],_,.two (RS.mk (.tup [.u,.ifc 71 (.agg [wH])]) [(0,.dead)]) (RS.mk (.own 1) [(0,.dat (.prod .str wI) 74),(1,.row (.prod .str .bool) 162)])⟩:=fx [(q7c fu).p,(qsv fu).p] [lb 112 [(0,.ptr 0 0),(3,.own 32)] [(0,.dat (.prod .str wI) 74),(32,.row (.prod .str .bool) 162)]]
def vcx:Nat->(zoq fu).L 0:=Fx.lq (qgq fu) (qt1 fu) (fun r0=>[r0.s])
def zor:=(zoq fu).ft (qcu fu) [(vcx fu fu).s]
def qsw:EI wG ⟨.thr 34 [],[.ptr 0 0,.h .byte],[(0,.dat (.prod .str wI) 74)],_,.two (RS.mk (.tup [.u,.ifc 71 (.agg [wH])]) [(0,.dead)]) (RS.mk (.h .bool) [(0,.dat (.prod .str wI) 74)])⟩:=(fx [(q7c fu).p,(qsv fu).p]).ft (pb fu)
def q7e:EI wG ⟨.thr 68 [],[.ptr 0 0,.h .byte],[(0,.dat (.prod .str wI) 74)],_,.two (RS.mk (.tup [.u,.ifc 71 (.agg [wH])]) [(0,.dead)]) (RS.mk (.tup []) [(0,.dat (.prod .str wI) 74)])⟩:=(fx [(qsw fu).p,qb9.p]).ft (qcr fu)
def q7g:Fx wG ⟨.thr 110 [],[.ptr 0 0,.own 1],[(0,.dat (.prod .str wI) 74),(1,.row (.prod .str .bool) 162)],_,.two (RS.mk (.tup [.u,.ifc 71 (.agg [wH])]) [(0,.dead),(1,.dead)]) (RS.mk (.h (.prod .str wP)) [(0,.dat (.prod .str wI) 74),(1,.row (.prod .str .bool) 162)])⟩:=fx [(znx fu).p,(zn4 fu).p,qb9.p,(q7e fu).p,(qsv fu).p,(znz fu).p] [lb 14 [(0,.ptr 0 0),(1,.own 1),(4,.ptr 32 0)] [(0,.dat (.prod .str wI) 74),(1,.row (.prod .str .bool) 162),(32,.dat (.prod .str wP) 54)],lb 13 [(0,.ptr 0 0),(1,.own 1),(4,.ptr 32 0),(32,.h .bool)] [(0,.dat (.prod .str wI) 74),(1,.row (.prod .str .bool) 162),(32,.dat (.prod .str wP) 54)]]
def vcz:(q7g fu).L 0:=Fx.jm (qmh fu)
def vcy:(q7g fu).L 1:=Fx.jm (qgp fu) [(vcz fu).s]
def vc0:=(q7g fu).ft (qct fu) [(vcy fu).s]
def zos(fu:Nat):Fx wG ⟨.fn 295,[wS],[],_,RS.mk (wH) []⟩:=fx [] [lb 104 [(2,wH),(4,.ptr 32 0)] [(32,.it)]]
def vc1:Nat->(zos fu).L 0:=Fx.lq (qy1 fu) (zc0 fu) (fun r0=>[r0.s])
def zot:=(zos fu).fi (qy0 fu) [(vc1 fu fu).s]
def qsx:Fx wG ⟨.fn 275,[wS,wH],[],_,RS.mk (.own 0) [(0,.row .str 9)]⟩:=fx [(zot fu).p,⟨xl.e il,qa7 ou oc ot ob⟩] [lb 2000 [(0,wS),(1,wH),(6,.own 32),(7,wH)] [(32,.row .str 9)],lb 30 [(0,wS),(1,wH)],lb 29 [(0,wS),(1,wH),(5,wH),(18,.h .bool)]]
def vc4:Nat->(qsx fu).L 0:=Fx.lq (qx7 fu) (zch fu) (fun r2=>[r2.s])
def vc3:(qsx fu).L 1:=Fx.jm (qx6 fu) [(vc4 fu fu).s]
def vc2:(qsx fu).L 2:=Fx.jm (qx5 fu) [(vc3 fu).s]
def vc5:=(qsx fu).fi (zcg fu) [(vc2 fu).s]
def zou:Fx wG ⟨.fn 263,[wS,wS],[],_,RS.mk (wH) []⟩:=fx [(zot fu).p,⟨quh 296 qmn,zqh⟩,qfe.p] [lb 496 [(0,wS),(1,wS),(5,wH)]]
def vc6:Nat->(zou fu).L 0:=Fx.lq (qxj fu) (zb3 fu) (fun r0=>[r0.s])
def vc7:=(zou fu).fi (zb2 fu) [(vc6 fu fu).s]
def q7j:Fx wG ⟨.fn 234,[wS,wS,wH,wH],[],_,RS.mk (.h (.list .str)) []⟩:=fx [(vc5 fu).p,(vc7 fu).p,qfe.p] [lb 16352 [(0,wS),(1,wS),(2,wH),(3,wH),(9,.own 32),(10,wH)] [(32,.row .str 9)],lb 62 [(0,wS),(1,wS),(2,wH),(3,wH)]]
def vc9:Nat->(q7j fu).L 0:=Fx.lq (w8 fu) (qnz fu) (fun r1=>[r1.s])
def vc8:(q7j fu).L 1:=Fx.jm (qn0 fu) [(vc9 fu fu).s]
def vda:=(q7j fu).fi (qx8 fu) [(vc8 fu).s]
def vdb:EI wG ⟨.fn 192,[wS,wS,wH],[],_,RS.mk (.h (.list .str)) []⟩:=(fx [(vda fu).p]).fi (qnu fu)
def qft:Fx wG ⟨.fn 193,[wS,wS],[],_,RS.mk (.tup [.own 0,.h .bool]) [(0,.row .byte 5)]⟩:=fx [(znh fu).p,(zob fu).p,q8b.p] [lb 7055647 [(1,wS),(8,.own 32),(9,wH),(65,.h .bool)] [(32,.row .byte 5)],lb 55120 [(1,wS),(8,.own 32),(9,wH)] [(32,.row .byte 5)],lb 215 [(1,wS),(27,.h .bool)],lb 53 [(1,wS),(12,wS),(13,.h .bool)]]
def vdf(r2:(qft fu).L 1):(qft fu).L 0:=Fx.jm (qob fu r2.f) [r2.s]
def vde:Nat->(qft fu).L 1:=Fx.lq (qh9 fu) (qy9 fu) (fun r2=>[r2.s,(vdf fu r2).s])
def vdd:(qft fu).L 2:=Fx.jm (qoa fu) [(vde fu fu).s]
def vdc:(qft fu).L 3:=Fx.jm (qn9 fu) [(vdd fu).s]
def vdg:=(qft fu).fi (qn8 fu) [(vdc fu).s]
def zov(fu:Nat):Fx wG ⟨.fn 258,[.h wB,.ptr 0 0],[(0,.cells [.h (.int .i32)] 21)],_,RS.mk (.own 1) [(0,.cells [.h (.int .i32)] 21),(1,.row (.int .i32) 21)]⟩:=fx [] [lb 232 [(1,.ptr 0 0),(4,.own 32),(8,.h wB),(9,wH),(10,wH)] [(0,.cells [.h (.int .i32)] 21),(32,.row (.int .i32) 21)]]
def vdh:Nat->(zov fu).L 0:=Fx.lq (qg1 fu) (qva fu) (fun r0=>[r0.s])
def vdi:=(zov fu).fi (qmt fu) [(vdh fu fu).s]
def vdj:EI wG ⟨.fn 216,[.h wB],[],_,RS.mk (.own 0) [(0,.row (.int .i32) 21)]⟩:=(fx).fi qu8
def vdk:EI wG ⟨.fn 261,[wH,.ptr 0 0],[(0,.cells [.h wB] 23)],_,RS.mk (.h (.int .i32)) [(0,.cells [.h wB] 23)]⟩:=(fx).fi qvc
def zd(fu:Nat):Fx wG ⟨.fn 219,[.h wB],[],_,RS.mk (.own 0) [(0,.row (.int .i32) 21)]⟩:=fx [vdk.p] [lb 62620 [(1,.ptr 32 0),(3,.own 33),(4,.fn 261 [.ptr 32 0]),(5,wH),(6,.h (.int .i32))] [(32,.cells [.h wB] 23),(33,.row (.int .i32) 21)],lb 250475 [(1,.ptr 32 0),(3,.own 33),(4,.fn 261 [.ptr 32 0]),(5,wH),(6,.h (.int .i32)),(7,.h (.int .i32)),(48,.h .bool)] [(32,.cells [.h wB] 23),(33,.row (.int .i32) 21)],lb 31309 [(1,.ptr 32 0),(3,.own 33),(4,.fn 261 [.ptr 32 0]),(5,wH),(6,.h (.int .i32)),(38,.h .bool)] [(32,.cells [.h wB] 23),(33,.row (.int .i32) 21)],lb 976 [(1,.ptr 32 0),(3,.own 33),(4,.fn 261 [.ptr 32 0]),(5,wH)] [(32,.cells [.h wB] 23),(33,.row (.int .i32) 21)]]
def zox(r0:(zd fu).L 3):(zd fu).L 0:=Fx.jm (qmv fu r0.f) [r0.s]
def vdn(r0:(zd fu).L 3):(zd fu).L 1:=Fx.jm (qve fu r0.f) [(zox fu r0).s]
def vdm(r0:(zd fu).L 3):(zd fu).L 2:=Fx.jm (qmu fu r0.f) [(vdn fu r0).s,(zox fu r0).s]
def vdl:Nat->(zd fu).L 3:=Fx.lq (qvd fu) (q9s fu) (fun r0=>[(vdm fu r0).s])
def vdo:=(zd fu).fi (q9r fu) [(vdl fu fu).s]
def vdp:EI wG ⟨.fn 194,[wS,.h wB],[],_,RS.mk (.tup [wS,.h (.prod wI wI)]) []⟩:=(fx [ew.p,(zoa fu).p,(vdi fu).p,eu.p,vdj.p,(vdo fu).p]).fi (qmr fu)
def q7m:Fx wG ⟨.fn 155,[wS],[],_,RS.mk (.tup [wS,wH,.h .bool]) []⟩:=fx [zn6.p,(vdb fu).p,(vdg fu).p,(vdp fu).p,gl.p] [lb 62 [(5,.h (.list .str))],lb 61 [(5,.h (.list .str)),(28,.h .bool)]]
def vdr:(q7m fu).L 0:=Fx.jm (qzc fu)
def vdq:(q7m fu).L 1:=Fx.jm (qoe fu) [(vdr fu).s]
def vds:=(q7m fu).fi (qdm fu) [(vdq fu).s]
def vdt:EI wG ⟨.fn 42,[.ptr 0 0,wS],[(0,.cells [.pn 0,.own 1] 84),(1,.row .byte 5)],_,RS.mk (.tup [wH,.c .nilIface]) [(0,.cells [.pn 0,.own 2] 84),(1,.dead),(2,.row .byte 5)]⟩:=(fx [⟨qpo.e pc,q1k⟩]).fi qdg
def ze:Fx wG ⟨.fn 112,[wS],[],_,RS.mk (.tup [wS,.h (.prod wI wI)]) []⟩:=fx [ew.p,(vds fu).p,zoc.p,vdt.p,⟨q03.e z7,zez⟩,eu.p,qfb.p] [lb 256342 [(0,wS),(3,.ptr 32 0),(4,.ptr 33 0),(5,wH),(6,wH)] [(32,.dat (.prod wI wI) 26),(33,.cells [.pn 33,.own 34] 84),(34,.row .byte 5)],lb 256341 [(0,wS),(3,.ptr 32 0),(4,.ptr 33 0),(5,wH),(6,wH),(42,.h .bool)] [(32,.dat (.prod wI wI) 26),(33,.cells [.pn 33,.own 34] 84),(34,.row .byte 5)],lb 256340 [(0,wS),(3,.ptr 32 0),(4,.ptr 33 0),(5,wH),(6,wH)] [(32,.dat (.prod wI wI) 26),(33,.cells [.pn 33,.own 34] 84),(34,.row .byte 5)],lb 2000 [(0,wS),(3,.ptr 32 0),(4,.ptr 33 0),(5,wH),(6,wH)] [(32,.dat (.prod wI wI) 26),(33,.cells [.pn 33,.own 34] 84),(34,.row .byte 5)]]
def vdx(r0:(ze fu).L 3):(ze fu).L 0:=Fx.jm (qh7 fu r0.f) [r0.s]
def vdw(r0:(ze fu).L 3):(ze fu).L 1:=Fx.jm (qh6 fu r0.f) [(vdx fu r0).s]
def vdv(r0:(ze fu).L 3):(ze fu).L 2:=Fx.jm (qh5 fu r0.f) [(vdw fu r0).s]
def vdu:Nat->(ze fu).L 3:=Fx.lq (pd fu) (qan fu) (fun r0=>[(vdv fu r0).s,r0.s])
def vdy:=(ze fu).fi (qh4 fu) [(vdu fu fu).s]
def vdz:EI wG ⟨.fn 111,[.ptr 0 0,.ptr 1 0],[(0,.cells [.own 2] 39),(1,.cells [.own 3] 39),(2,.row .str 9),(3,.row .str 9)],_,RS.mk (.tup []) [(0,.cells [.own 4] 39),(1,.cells [.own 5] 39),(2,.dead),(3,.dead),(4,.row .str 9),(5,.row .str 9)]⟩:=(fx [⟨qjz.e f9,qqr⟩,(vdy fu).p]).fi (zw fu)
def zoy:Fx wG ⟨.fn 67,[.h (.list (.prod .str .bool))],[],_,RS.mk (wS) []⟩:=fx [(vdz fu).p,⟨qjz.e f9,qqr⟩] [lb 488 [(3,.ptr 32 0),(4,.ptr 33 0),(5,.fn 111 [.ptr 33 0,.ptr 32 0]),(9,.h (.list (.prod .str .bool))),(10,wH),(11,wH)] [(32,.cells [.own 34] 39),(33,.cells [.own 35] 39),(34,.row .str 9),(35,.row .str 9)]]
def vd0:Nat->(zoy fu).L 0:=Fx.lq (tn fu) (qco fu) (fun r0=>[r0.s])
def zoz:=(zoy fu).fi (tj fu) [(vd0 fu fu).s]
def vd1:EI wG ⟨.thr 66 [],[.ptr 0 0,.own 1],[(0,.dat (.prod .str wI) 74),(1,.row (.prod .str .bool) 162)],_,.two (RS.mk (.tup [.u,.ifc 71 (.agg [wH])]) [(0,.dead),(1,.dead)]) (RS.mk (.h (.prod .str wP)) [(0,.dat (.prod .str wI) 74),(1,.row (.prod .str .bool) 162)])⟩:=(fx [(qsw fu).p,(vc0 fu).p,(zor fu).p,(zoz fu).p,(q7e fu).p]).ft (zz fu)
def q7o:Fx wG ⟨.thr 33 [],[.ptr 0 0],[(0,.dat (.prod .str wI) 74)],_,.two (RS.mk (.tup [.u,.ifc 71 (.agg [wH])]) [(0,.dead)]) (RS.mk (.h (.prod .str (.prod .bool (.list (.prod .str wP))))) [(0,.dat (.prod .str wI) 74)])⟩:=fx [(zor fu).p,(qsw fu).p,(vd1 fu).p,(zoz fu).p,qb9.p,(q7e fu).p] [lb 2032 [(0,.ptr 0 0),(2,.ptr 32 0),(4,.ptr 33 0)] [(0,.dat (.prod .str wI) 74),(32,.cells [wS,.h .bool,wN] 52),(33,.cells [wS,.c (.bool true),.own 34] 52),(34,.row (.prod .str wP) 54)],lb 252 [(0,.ptr 0 0),(2,.ptr 32 0),(4,.ptr 33 0)] [(0,.dat (.prod .str wI) 74),(32,.cells [wS,.h .bool,wN] 52),(33,.cells [wS,.c (.bool true),wN] 52)]]
def vd3:Nat->(q7o fu).L 0:=Fx.lq (qcq fu) (qmd fu) (fun r1=>[r1.s])
def vd2:(q7o fu).L 1:=Fx.jm (qme fu) [(vd3 fu fu).s]
def vd4:=(q7o fu).ft (qcp fu) [(vd2 fu).s]
def q7q:IF:=⟨.thr 10 [(2,2),(3,3)],[],[(1,.cells [wS] 9),(2,.cells [wN] 22),(3,.cells [wH,wH] 26)],_,.two (RS.mk (.tup [.u,.ifc 71 (.agg [wH])]) [(1,.cells [wS] 9),(2,.cells [.u] 22),(3,.cells [.u,.u] 26)]) (RS.mk (.tup [.h (.list (.prod .str (.prod .bool (.list (.prod .str wP))))),.h (.prod wI wI)]) [(1,.dead),(2,.dead),(3,.dead)])⟩
def vd5:List (EP wG):=[(q7c fu).p,(vd4 fu).p,(zn0 fu).p,gl.p,ew.p,eu.p,(qsw fu).p,qb9.p]
section
variable[iHB:HB]
abbrev fxb{i:IF}(calls:List (EP wG):=[])(ls:List LB:=[])(hf:wG.funcs[qa8 i.key]? = some (ow wG (qa8 i.key)):=by kernel_rfl):Fx wG i:=Fx.at etys qzv (qa8 i.key) calls ls false [] fh hf
def qcb:Fx wG q7q:=fxb ((vd5 fu).map fun x=>EP.cv x) [lb 252 [(2,.ptr 2 0),(3,.ptr 3 0)] [(1,.cells [wS] 9),(2,.cells [.own 32] 22),(3,.dat (.prod wI wI) 26),(32,.row (.prod .str (.prod .bool (.list (.prod .str wP)))) 52)],lb 16032 [(2,.ptr 2 0),(3,.ptr 3 0),(4,.ptr 32 0)] [(1,.cells [wS] 9),(2,.cells [.own 33] 22),(3,.dat (.prod wI wI) 26),(32,.dat (.prod .str wI) 74),(33,.row (.prod .str (.prod .bool (.list (.prod .str wP)))) 52)],lb 30 [(1,.ptr 1 0),(2,.ptr 2 0),(3,.ptr 3 0)] [(1,.cells [wS] 9),(2,.cells [wN] 22),(3,.dat (.prod wI wI) 26)]]
def zo0:(qcb fu).L 0:=Fx.jm (qcj fu)
def vd7:Nat->(qcb fu).L 1:=Fx.lq (mt fu) (qci fu) (fun r2=>[r2.s,(zo0 fu).s])
def vd6:(qcb fu).L 2:=Fx.jm (zt fu) [(zo0 fu).s,(vd7 fu fu).s]
end
def zg(fu:Nat):Fx wG ⟨.fn 10,[wS],[],_,RS.mk (.tup [.h (.list (.prod .str (.prod .bool (.list (.prod .str wP))))),.h (.prod wI wI)]) []⟩:=fx [ew.p] [lb 14 [(1,.ptr 32 0),(2,.ptr 33 0),(3,.ptr 34 0)] [(32,.cells [wS] 9),(33,.cells [wN] 22),(34,.dat (.prod wI wI) 26)]]
def zv6(c a:Int)(w:World):Calls wG 19 #[.int .i64 c,.int .i64 a] w fun e w'=>e = .returned (.agg #[.int .i64 c,.int .i64 a])/\w'=w.alloc (.cells #[.int .i64 c,.int .i64 a] 26):=by
 go_enter func19,Tryz.ntmps19
 go_wp2
 simp[bodyPost,results,Tryz.results19,go_sem]
def zt8(p q r:Addr)(w:World) :
  CallsD wG 31 #[.pointer (some p),.pointer (some q),.pointer (some r)] .returning w fun e u' w'=>e = .returned (.tuple #[])/\u' = .returning/\w'=w:=by
 have hnil:∀w:World,(binOp BinOp.eql 20 .nilIface .nilIface).run wG w = .ok (.bool true) w:=fun _=>oC
 refine callsD_of_wpS func31 rfl fun vib cs hu => ?_
 apply wpS_seq;apply wpS_region;simp[wpOpsS,go_sem,recoverD,hu,Tryz.ntmps31,Exit.thenS];refine wpS_of_wp ?_;apply wp_block;apply wp_seq;apply wp_region;simp[wpOps,go_sem,hnil,Exit.then,Oper.upon]
 repeat refine Or.inl ?_
 refine wp_cond_true ?_ ?_
 ·simp[Act.eval]
 apply wp_region;simp[wpOps,go_sem,Exit.inBlock,bodyPostS,results,Tryz.results31,Oper.upon]
 repeat refine Or.inl ?_
 cases vib
 simp_all
def zt9(B1 B2 B3:Nat)(s:Bs)(n:Int)(x y z:Value)(w:World)(h1:w.cell? ⟨B1,0,none⟩=some (.string ⟨s.toArray⟩))(h2:w.heap[B2]? = some (.cells #[x] 22 (0,0)))(h3:w.heap[B3]? = some (.cells #[y,z] 26 (0,0)))(hne:B2≠B3) :
  CallsD wG 31 #[.pointer (some ⟨B1,0,none⟩),.pointer (some ⟨B2,0,none⟩),.pointer (some ⟨B3,0,none⟩)] (.panicking [{ v:=wv 71 n,recovered:=false }]) w fun e u' w'=>e = .returned (.tuple #[])/\u' = .panicking [{ v:=wv 71 n,recovered:=true }] /\
   w'=((((w.alloc (.cells #[.int .i64 n] 71)).alloc (.cells #[.int .i64 11,.int .i64 (if(s.length:Int)<n then s.length else n)] 26)).setCell ⟨B2,0,none⟩ (.slice none 0 0)).setCell ⟨B3,0,none⟩ (.int .i64 11)).setCell ⟨B3,1,none⟩ (.int .i64 (if(s.length:Int)<n then s.length else n)):=by
 have hnil:∀(t:TypeId)(v:Value)(w:World),(binOp BinOp.eql 20 (.iface t v) .nilIface).run wG w = .ok (.bool false) w:=fun t v w=>by
  have hu:wG.underlying 20=some (.interface #[]):=oC
  have q:∀d,(Op.equalIn (d+1) 20 (.iface t v) .nilIface).run wG w = .ok false w:=fun d=>by simp[Op.equalIn,bh hu]
  have e:(Op.equal 20 (.iface t v) .nilIface).run wG w = .ok false w:=q 9999;simp[binOp,e]
 have hta:∀w:World,(Instr.typeAssert (.iface 71 (.agg #[.int .i64 n])) 20 71 true).run wG w = .ok (.tuple #[.agg #[.int .i64 n],.bool true]) w:=fun w=>by
  have hs:(match wG.underlying 71 with|some (.struct _)=>true|_=>false)=true:=oC
  cases hd:wG.underlying 71 with
  |none=>rw[hd]at hs;cases hs
  |some d=>
   rw[hd]at hs;cases d<;>first
    |(simp[Instr.typeAssert,underlying,hd];done)
    |cases hs
 refine callsD_of_wpS func31 rfl fun vib cs hu => ?_
 apply wpS_seq;apply wpS_region;simp[wpOpsS,go_sem,recoverD,hu,Tryz.ntmps31,Exit.thenS];refine wpS_of_wp ?_;apply wp_block;apply wp_seq;apply wp_region;simp[wpOps,go_sem,wv,hnil,Exit.then,Oper.upon]
 repeat refine Or.inl ?_
 refine wp_cond_false ?_ ?_
 ·simp[Act.eval]
 apply wp_seq;apply wp_region;simp[wpOps,go_sem,hta,Exit.then,Oper.upon]
 repeat refine Or.inl ?_
 refine wp_cond_true ?_ ?_
 ·simp[Act.eval]
 apply wp_seq;apply wp_region;simp[wpOps,go_sem,Exit.then,Oper.upon]
 repeat refine Or.inl ?_
 have g1:w.heap[B1]? ≠ none:=fun e=>by simp[World.cell?,e]at h1
 have l1:B1<w.heap.size:=by
  rcases Nat.lt_or_ge B1 w.heap.size with h|h
  ·exact h
  ·exact absurd (Array.getElem?_eq_none h) g1
 have l2:B2<w.heap.size:=(Array.getElem?_eq_some_iff.1 h2).1;have l3:B3<w.heap.size:=(Array.getElem?_eq_some_iff.1 h3).1;apply wp_region;have hb:∀(w:World)(o:Obj)(B:Nat),B<w.heap.size->(w.alloc o).heap[B]? = w.heap[B]? := fun w o B h=>by
  show(w.heap.push o)[B]? = _;rw[Array.getElem?_push,qW oA]
 have c1:(w.alloc (.cells #[.int .i64 n] 71)).cell? ⟨B1,0,none⟩=some (.string ⟨s.toArray⟩):=by
  rw[World.cell?_of_block (w:=w) (hb w _ B1 l1)];exact h1
 have hmin:∀(a b:Int)(w:World),(Builtin.min_ #[3,3] 3 #[.int .i64 a,.int .i64 b]).run wG w = .ok (.int .i64 (if b<a then b else a)) w:=fun a b w=>by
  simp[Builtin.min_,Builtin.min2]
 simp[wpOps,go_sem,Exit.then,Oper.upon,c1,hmin]
 repeat refine Or.inl ?_
 refine(zv6 _ _ _).mono ?_;rintro e w' ⟨rfl,rfl⟩
 generalize hw2:(w.alloc (Obj.cells #[Value.int IntKind.i64 n] 71)).alloc (Obj.cells #[Value.int IntKind.i64 11,Value.int IntKind.i64 (if(s.length:Int)<n then(s.length:Int) else n)] 26)=w2
 have e2:w2.heap[B2]? = some (.cells #[x] 22 (0,0)):=by
  rw[← hw2,hb _ _ _ (by rw[World.size_alloc];omega),hb _ _ _ l2];exact h2
 have e3:w2.heap[B3]? = some (.cells #[y,z] 26 (0,0)):=by
  rw[← hw2,hb _ _ _ (by rw[World.size_alloc];omega),hb _ _ _ l3];exact h3
 have d2:w2.cell? ⟨B2,0,none⟩=some x:=by simp[World.cell?,e2]
 have f2:w2.frozen? ⟨B2,0,none⟩=false:=by simp[World.frozen?,e2]
 generalize hw3:w2.setCell ⟨B2,0,none⟩ (.slice none 0 0)=w3;have e3':w3.heap[B3]? = some (.cells #[y,z] 26 (0,0)):=by
  rw[← hw3];simp only[World.setCell,Array.getElem?_modify];rw[qW hne];exact e3
 have d3:w3.cell? ⟨B3,0,none⟩=some y:=by simp[World.cell?,e3']
 have f3:w3.frozen? ⟨B3,0,none⟩=false:=by simp[World.frozen?,e3']
 generalize hw4:w3.setCell ⟨B3,0,none⟩ (.int .i64 11)=w4;have e4:w4.heap[B3]? = some (.cells #[.int .i64 11,z] 26 (0,0)):=by
  rw[← hw4];simp[World.setCell,Array.getElem?_modify,e3']
 have d4:w4.cell? ⟨B3,1,none⟩=some z:=by simp[World.cell?,e4]
 have f4:w4.frozen? ⟨B3,1,none⟩=false:=by simp[World.frozen?,e4]
 simp[wpOps,go_sem,Exit.then,Oper.upon,d2,f2,hw3,storeCells,d3,f3,hw4,d4,f4,Addr.add]
 repeat refine Or.inl ?_
 refine⟨rfl,_,rfl,.tuple #[],?_,rfl,rfl,rfl⟩;simp[results,Tryz.results31]
def iq(p:List Nat):Code:=sub (uu (ow wG 10)) p
def gf(i:Nat):Oper:=match iq [0,1,1] with|.region _ ops _=>ops[i]?.getD default|_=>default
def zz7:iq [0,1,1] = .region 3 #[gf 0,gf 1] false:=oC
def zz9:iq [1,1,1] = .seq (iq [0,1,1,1]) (iq [1,1,1,1]):=oC
def zz1:(gf 0).op = .makeFunc (.func 31) #[] #[.tmp 1,.tmp 2,.tmp 3]:=oC
def zz2:(gf 0).dst=some 10:=oC
def zz3:(gf 0).guard=none:=oC
def zz4:(gf 1).op = .defer { callee := .value (.tmp 10),args:=#[],argTypes:=#[] }:=oC
def zz5:(gf 1).dst=none:=oC
def zz6:(gf 1).guard=none:=oC
def zzz:dy (kq (zg fu).body (kl 0 (zg fu).ls).1)=[.code (iq [0,1,1]),.code (iq [1,1,1])]:=oC
def z0b[HB](fu:Nat):dy (kq (qcb fu).body (kl 2 (qcb fu).ls).1)=[.code (iq [0,1,1,1]),.code (iq [1,1,1,1])]:=oC
def o5(B1 B2 B3:Nat):Deferred:={ target := .fn (.func 31) #[.pointer (some ⟨B1,0,none⟩),.pointer (some ⟨B2,0,none⟩),.pointer (some ⟨B3,0,none⟩)],args:=#[] }
def zzx{b:Frame}{a:Act}{k:List Item}{cs:List Frame}{w:World}{B1 B2 B3:Nat}(hro:b.roundOf=none)(hk:b.kind = .normal)(hsz:10<a.tmps.size)(h1:a.tmps[1]? = some (.pointer (some ⟨B1,0,none⟩)))(h2:a.tmps[2]? = some (.pointer (some ⟨B2,0,none⟩)))(h3:a.tmps[3]? = some (.pointer (some ⟨B3,0,none⟩))) :
  ∃v,Steps wG (lone (b.atR a (.code (iq [0,1,1])::k)) cs w) (lone (b.atR { tmps:=a.tmps.setIfInBounds 10 v,defers:=o5 B1 B2 B3::a.defers } k) cs w):=by
 refine⟨.func (.func 31) #[] #[.pointer (some ⟨B1,0,none⟩),.pointer (some ⟨B2,0,none⟩),.pointer (some ⟨B3,0,none⟩)],?_⟩;rw[zz7];have e:∀t v,a.tmps[t]? = some v->a.eval (.tmp t)=v:=fun t v h=>by
  show a.tmps.getD t undef=v;rw[Array.getD_eq_getD_getElem?,h];rfl
 have s0:∀(rest:List Nat),step wG (lone (b.atR a (.inRegion #[gf 0,gf 1] (0::rest)::k)) cs w) = .next (lone (b.atR { tmps:=a.tmps.setIfInBounds 10 (.func (.func 31) #[] #[.pointer (some ⟨B1,0,none⟩),.pointer (some ⟨B2,0,none⟩),.pointer (some ⟨B3,0,none⟩)]),defers:=a.defers } (.inRegion #[gf 0,gf 1] rest::k)) cs w):=by
  intro rest;have ho:(#[gf 0,gf 1]:Array Oper)[0]? = some (gf 0):=rfl;have hw:Region.wanted (gf 0) (yielded #[gf 0,gf 1] a.tmps)=true:=by simp[Region.wanted,zz3]
  have hg:=stepGR_op (P:=wG) (b:=b) (a:=a) (k:=k) (cs:=cs) (w:=w) (rest:=rest) ho hw;rw[hro,Oper.semAt_none]at hg;have hr:(execOp a.eval (gf 0)).run wG w = .ok (.value (.func (.func 31) #[] #[.pointer (some ⟨B1,0,none⟩),.pointer (some ⟨B2,0,none⟩),.pointer (some ⟨B3,0,none⟩)])) w:=by
   simp[execOp,zz1,Instr.makeFunc,e 1 _ h1,e 2 _ h2,e 3 _ h3]
  have hfin:=Frame.finish_atR b a #[gf 0,gf 1] 0 rest k (.func (.func 31) #[] #[.pointer (some ⟨B1,0,none⟩),.pointer (some ⟨B2,0,none⟩),.pointer (some ⟨B3,0,none⟩)]);rw[ho]at hfin;simp only[qB,zz2]at hfin;refine step_lone_go ?_;rw[hg];simp[stepG.apply,hr];rw[hfin];rfl
 refine(Steps.one stepR_region).trans ?_;show Steps wG (lone (b.atR a (.inRegion #[gf 0,gf 1] [0,1]::k)) cs w) _;refine(Steps.one (s0 [1])).trans ((Steps.one (z29 (i:=1) rfl zz6 zz4 zz5 hro (dd:=o5 B1 B2 B3) ?_)).trans (.one stepR_region_end));have e10:({ tmps:=a.tmps.setIfInBounds 10 (.func (.func 31) #[] #[.pointer (some ⟨B1,0,none⟩),.pointer (some ⟨B2,0,none⟩),.pointer (some ⟨B3,0,none⟩)]),defers:=a.defers }:Act).eval (.tmp 10) = .func (.func 31) #[] #[.pointer (some ⟨B1,0,none⟩),.pointer (some ⟨B2,0,none⟩),.pointer (some ⟨B3,0,none⟩)]:=by
  show(a.tmps.setIfInBounds 10 _).getD 10 undef=_;rw[Array.getD_eq_getD_getElem?,Array.getElem?_setIfInBounds_self_of_lt hsz];rfl
 simp[resolve,e10,Deferred.ofValue,o5]
abbrev jw:List (Nat×Nat):=[(1,32),(2,33),(3,34)]
abbrev PTy:Ty := .list (.prod .str (.prod .bool (.list (.prod .str wP))))
def zjq(B1 B2 B3:Nat)(w':World):(invoke (.fn (.func 31) #[.pointer (some ⟨B1,0,none⟩),.pointer (some ⟨B2,0,none⟩),.pointer (some ⟨B3,0,none⟩)]) #[]).run wG w' = .ok (.enter 31 #[.pointer (some ⟨B1,0,none⟩),.pointer (some ⟨B2,0,none⟩),.pointer (some ⟨B3,0,none⟩)]) w':=by
 simp[go_sem]
def zz8{S:Bs}{f0:Int×Int}{vif:World}{vh8 G G':Gh}{a:Act}{w w':World}{s:St}(hhp:s.hp=[(32,.cells [.str S] 9),(33,.cells [.val (.slice none 0 0)] 22),(34,.cells [.int .i64 f0.1,.int .i64 f0.2] 26)])(hnx:s.nx=64)(hrel:ai vif vh8 [] G s a w)
  {x:Machine} {cs:List Frame} {fr:Frame} {B1 B2 B3:Nat} {v:Value} {fn':Func} {l:List (Bs×Bool×List (Bs×Bs×Bs))} {f1 f2:Int}
  (hs:Steps wG x (lone fr cs w')) (hfn:fr.fn=10) (hmode:fr.mode = .returning) (hdef:fr.defers=[o5 B1 B2 B3]) (hkind:fr.kind = .normal) (hfn':wG.funcs[fr.fn]? = some fn') (hres:(results fn' fr.tmps).run wG w' = .ok v w')
  (hf:Fin w (G.view jw) [(1,.cells [.str S] 9),(2,.cells [.val (.slice none 0 0)] 22),(3,.cells [.int .i64 f0.1,.int .i64 f0.2] 26)] G' [(1,.dead),(2,.dead),(3,.dead)] w')
  (hrep:aj (.tup [.sl (.prod .str (.prod .bool (.list (.prod .str wP)))) l,.agg [.int .i64 f1,.int .i64 f2]]) G' v) :
  pa wG none 10 x cs (fun v w'=>∃G',Fin vif vh8 [] G' [] w'/\aj (.tup [.sl (.prod .str (.prod .bool (.list (.prod .str wP)))) l,.agg [.int .i64 f1,.int .i64 f2]]) G' v):=by
 have hL:Leaves wG fn' fr.tmps (fun e w''=>e = .returned v/\w''=w') [o5 B1 B2 B3] .returning w':=by
  refine leaves_cons (f:=31) oB (zjq B1 B2 B3 w') ((zt8 _ _ _ w').mono ?_)
  rintro e u' w'' ⟨rfl,rfl,rfl⟩
  exact⟨v,hres,rfl,rfl⟩
 obtain⟨e,w'',fr',⟨rfl,rfl⟩,hc,hfn2,hl⟩:=leaves_steps [o5 B1 B2 B3] .returning w' fr cs hmode hdef rfl hfn' hkind hL;obtain⟨m1,m2,m3,fn3,m4,m5⟩:=hl;refine⟨v,w'',fr',?_,hs.trans hc,hfn2.trans hfn,m1,m2,m3,fn3,m4,m5⟩;obtain⟨n,fr0,hp,nx,df⟩:=s;simp only at hhp hnx;subst hhp hnx;obtain⟨G2,v2,e2,h2,_,hR⟩:=qj5 (r := .tup [.sl (.prod .str (.prod .bool (.list (.prod .str wP)))) l,.agg [.int .i64 f1,.int .i64 f2]]) (names:=jw) (e := .returned v) hrel (k:=64) (by rfl) (by rfl) (wF _) (hpv:=[(1,.cells [.str S] 9),(2,.cells [.val (.slice none 0 0)] 22),(3,.cells [.int .i64 f0.1,.int .i64 f0.2] 26)]) (by rfl) (hp:=[(1,.cells [.str S] 9),(2,.cells [.val (.slice none 0 0)] 22),(3,.cells [.int .i64 f0.1,.int .i64 f0.2] 26)]) (hp':=[(1,.dead),(2,.dead),(3,.dead)]) (by rfl) (by simp[ar,AV.ren,AV.rens,mj]) ⟨v,G',rfl,hf,hrep⟩
 cases e2
 exact⟨G2,(ie.less hR.lt (s':={ n:=43,fr:=[],hp:=[],nx:=64,df:=df }) rfl (fun _ _ h=>by cases h) (fun _ _ h=>by cases h)).fin,h2⟩
def z0a{S:Bs}{f0:Int×Int}{vif:World}{vh8 G G':Gh}{a:Act}{w w':World}{s:St}(hhp:s.hp=[(32,.cells [.str S] 9),(33,.cells [.val (.slice none 0 0)] 22),(34,.cells [.int .i64 f0.1,.int .i64 f0.2] 26)])(hnx:s.nx=64)(hrel:ai vif vh8 [] G s a w)
  {x:Machine} {cs:List Frame} {fr:Frame} {B1 B2 B3:Nat} {n:Int} {S':Bs} (g1:G.box 32=some B1) (g2:G.box 33=some B2) (g3:G.box 34=some B3)
  (hs:Steps wG x (lone fr cs w')) (hfn:fr.fn=10) (hmode:fr.mode = .panicking [{ v:=wv 71 n,recovered:=false }]) (hdef:fr.defers=[o5 B1 B2 B3]) (hkind:fr.kind = .normal)
  (t2:fr.tmps[2]? = some (.pointer (some ⟨B2,0,none⟩))) (t3:fr.tmps[3]? = some (.pointer (some ⟨B3,0,none⟩)))
  (hf:Fin w (G.view jw) [(1,.cells [.str S] 9),(2,.cells [.val (.slice none 0 0)] 22),(3,.cells [.int .i64 f0.1,.int .i64 f0.2] 26)] G' [(1,.cells [.str S'] 9),(2,.cells [.undef] 22),(3,.cells [.undef,.undef] 26)] w') :
  pa wG none 10 x cs (fun v w'=>∃G',Fin vif vh8 [] G' [] w'/\aj (.tup [.sl (.prod .str (.prod .bool (.list (.prod .str wP)))) [],.agg [.int .i64 11,.int .i64 (if(S'.length:Int)<n then(S'.length:Int) else n)]]) G' v):=by
 obtain⟨C1,vs1,c1,h1,r1,_⟩:=hf.mem.holds 1 _ rfl;obtain⟨C2,vs2,c2,h2,r2,_⟩:=hf.mem.holds 2 _ rfl;obtain⟨C3,vs3,c3,h3,r3,_⟩:=hf.mem.holds 3 _ rfl;have e1:C1=B1:=by
  have:=hf.keep 1 _ B1 rfl (show(G.view jw).box 1=some B1 from g1)
  rw[c1]at this;exact qJ this
 have e2:C2=B2:=by
  have:=hf.keep 2 _ B2 rfl (show(G.view jw).box 2=some B2 from g2)
  rw[c2]at this;exact qJ this
 have e3:C3=B3:=by
  have:=hf.keep 3 _ B3 rfl (show(G.view jw).box 3=some B3 from g3)
  rw[c3]at this;exact qJ this
 subst e1 e2 e3;have hne:C2≠C3:=fun e=>by
  have:=hf.mem.apart 2 3 _ _ C2 rfl rfl c2 (by rw[e];exact c3)
  omega
 obtain⟨u1,rfl,q1⟩:=zkj r1;simp only[aj]at q1;subst q1;obtain⟨u2,rfl,_⟩:=zkj r2;obtain⟨y3,z3,rfl⟩:=z1t r3;have d1:w'.cell? ⟨C1,0,none⟩=some (.string ⟨S'.toArray⟩):=by simp[World.cell?,h1]
 generalize hm:(if(S'.length:Int)<n then(S'.length:Int) else n)=m
 have hcw:=zt9 C1 C2 C3 S' n u2 y3 z3 w' d1 h2 h3 hne;rw[hm]at hcw;generalize hw1:(w'.alloc (.cells #[.int .i64 n] 71)).alloc (.cells #[.int .i64 11,.int .i64 m] 26)=w1 at hcw;have b1:bu (fun b=>b=C2\/b=C3) w' w1:=by
  rw[← hw1];exact(zel.wide fun _ h=>h.elim).tr (zel.wide fun _ h=>h.elim)
 have l2:C2<w'.heap.size:=(Array.getElem?_eq_some_iff.1 h2).1;have l3:C3<w'.heap.size:=(Array.getElem?_eq_some_iff.1 h3).1;have hb:∀(w:World)(o:Obj)(B:Nat),B<w.heap.size->(w.alloc o).heap[B]? = w.heap[B]? := fun w o B h=>by
  show(w.heap.push o)[B]? = _;rw[Array.getElem?_push,qW oA]
 have k2:w1.heap[C2]? = some (.cells #[u2] 22 (0,0)):=by
  rw[← hw1,hb _ _ _ (by rw[World.size_alloc];omega),hb _ _ _ l2];exact h2
 have k3:w1.heap[C3]? = some (.cells #[y3,z3] 26 (0,0)):=by
  rw[← hw1,hb _ _ _ (by rw[World.size_alloc];omega),hb _ _ _ l3];exact h3
 generalize hw4:((w1.setCell ⟨C2,0,none⟩ (.slice none 0 0)).setCell ⟨C3,0,none⟩ (.int .i64 11)).setCell ⟨C3,1,none⟩ (.int .i64 m)=w4 at hcw;have b4:bu (fun b=>b=C2\/b=C3) w' w4:=by
  rw[← hw4];exact((b1.tr (q0w.wide fun _ h => .inl h)).tr (q0w.wide fun _ h => .inr h)).tr (q0w.wide fun _ h => .inr h)
 have j2:w4.heap[C2]? = some (.cells #[.slice none 0 0] 22 (0,0)):=by
  rw[← hw4];simp[World.setCell,Array.getElem?_modify,k2,(Ne.symm hne:¬C3=C2)]
 have j3:w4.heap[C3]? = some (.cells #[.int .i64 11,.int .i64 m] 26 (0,0)):=by
  rw[← hw4];simp[World.setCell,Array.getElem?_modify,k3,hne]
 have i2:w4.cell? ⟨C2,0,none⟩=some (.slice none 0 0):=by simp[World.cell?,j2]
 have i3:w4.cell? ⟨C3,0,none⟩=some (.int .i64 11):=by simp[World.cell?,j3]
 have i4:w4.cell? ⟨C3,1,none⟩=some (.int .i64 m):=by simp[World.cell?,j3]
 have hres:(results f10 fr.tmps).run wG w4 = .ok (.tuple #[.slice none 0 0,.agg #[.int .i64 11,.int .i64 m]]) w4:=by
  simp[results,Tryz.results10,go_sem,t2,t3,i2,i3,i4]
 have hL:Leaves wG f10 fr.tmps (fun e w''=>e = .returned (.tuple #[.slice none 0 0,.agg #[.int .i64 11,.int .i64 m]])/\w''=w4) [o5 C1 C2 C3] (.panicking [{ v:=wv 71 n,recovered:=false }]) w':=by
  refine leaves_cons (f:=31) oB (zjq C1 C2 C3 w') (hcw.mono ?_)
  rintro e u' w'' ⟨rfl,rfl,rfl⟩
  exact⟨_,hres,rfl,rfl⟩
 obtain⟨e,w'',fr',⟨rfl,rfl⟩,hc,hfn2,hl⟩:=leaves_steps [o5 C1 C2 C3] _ w' fr cs hmode hdef rfl (by rw[hfn];exact func10) hkind hL
 obtain⟨m1,m2,m3,fn3,m4,m5⟩:=hl;refine⟨_,w'',fr',?_,hs.trans hc,hfn2.trans hfn,m1,m2,m3,fn3,m4,m5⟩;obtain⟨nn,fr0,hp,nx,df⟩:=s;simp only at hhp hnx;subst hhp hnx;obtain⟨G2,v2,_,_,hle,hR⟩:=qj5 (r := .undef) (names:=jw) (e := .returned undef) hrel (k:=64) (by rfl) (by rfl) (wF _) (hpv:=[(1,.cells [.str S] 9),(2,.cells [.val (.slice none 0 0)] 22),(3,.cells [.int .i64 f0.1,.int .i64 f0.2] 26)]) (by rfl) (hp:=[(1,.cells [.str S] 9),(2,.cells [.val (.slice none 0 0)] 22),(3,.cells [.int .i64 f0.1,.int .i64 f0.2] 26)]) (hp':=[(1,.cells [.str S'] 9),(2,.cells [.undef] 22),(3,.cells [.undef,.undef] 26)]) (by rfl) (by simp[ar,AV.ren,AV.rens,mj]) ⟨undef,G',rfl,hf,trivial⟩
 have o2:G2.box 33=some C2:=hle.box _ _ g2;have o3:G2.box 34=some C3:=hle.box _ _ g3;refine⟨G2,hR.fin.wild b4 fun b hb => ?_,_,rfl,⟨none,0,rfl,oB,.inl rfl⟩,⟨_,rfl,rfl,rfl,trivial⟩,trivial⟩
 rcases hb with rfl|rfl
 ·obtain⟨B,vs,p1,_,_,_,p5⟩:=hR.fin.mem.holds 33 (.cells [.undef] 22) rfl;rw[o2]at p1;cases p1;exact⟨p5,hR.fin.base 33 (.cells [.undef] 22) _ rfl o2⟩
 ·obtain⟨B,vs,p1,_,_,_,p5⟩:=hR.fin.mem.holds 34 (.cells [.undef,.undef] 26) rfl;rw[o3]at p1;cases p1;exact⟨p5,hR.fin.base 34 (.cells [.undef,.undef] 26) _ rfl o3⟩
def zzw{S:Bs}{f0:Int×Int}{r:qzj}(hr:zq fu S f0=some r){vif:World}{vh8 G:Gh}{a:Act}{w:World}
  (hrel:ai vif vh8 [] G { n:=43,fr:=[(1,.ptr 32 0),(2,.ptr 33 0),(3,.ptr 34 0)],hp:=[(32,.cells [.str S] 9),(33,.cells [.val (.slice none 0 0)] 22),(34,.cells [.int .i64 f0.1,.int .i64 f0.2] 26)],nx:=64,df:=[] } a w)
  {b:Frame} (cs:List Frame) (hb:b.fn=10) (hkd:b.kind = .normal) (hro:b.roundOf=none) :
  pa wG none 10 (lone (b.atR a.bs [.code (iq [0,1,1]),.code (iq [1,1,1])]) cs w) cs (fun v w'=>∃G',Fin vif vh8 [] G' [] w'/\aj (.tup [.sl (.prod .str (.prod .bool (.list (.prod .str wP)))) r.1,.agg [.int .i64 r.2.1,.int .i64 r.2.2]]) G' v):=by
 obtain⟨v1,t1,B1,g1,rfl⟩:=hrel.frame 1 _ rfl;obtain⟨v2,t2,B2,g2,rfl⟩:=hrel.frame 2 _ rfl;obtain⟨v3,t3,B3,g3,rfl⟩:=hrel.frame 3 _ rfl;have hd0:a.defers=[]:=by
  obtain⟨bs,e1,e2⟩:=hrel.defers;have:bs=[]:=by cases bs with|nil=>rfl|cons _ _=>simp at e2
  rw[e1,this];rfl
 have hsz:a.tmps.size=43:=hrel.size;have habs:a.bs=a:=by
  obtain⟨tm,df⟩:=a;show({ tmps:=tm,defers:=df++[] }:Act)=_;rw[List.append_nil]
 rw[habs];obtain⟨cl,hstep⟩:=zzx (k:=[.code (iq [1,1,1])]) (cs:=cs) (w:=w) hro hkd oA t1 t2 t3
 rw[hd0]at hstep;have hstep2:Steps wG (lone (b.atR a [.code (iq [0,1,1]),.code (iq [1,1,1])]) cs w) (lone (b.atR { tmps:=a.tmps.setIfInBounds 10 cl,defers:=[o5 B1 B2 B3] } [.code (iq [0,1,1,1]),.code (iq [1,1,1,1])]) cs w):=by
  refine hstep.trans (.one ?_);rw[zz9];exact stepR_seq
 refine pa.head hstep2 ?_
 -- what is known of the body behind
 unfold zq at hr
 cases hz:zt fu S f0 with
 |none=>
  rw[show qgj fu S f0.1 f0.2=zt fu S f0 from rfl,hz]at hr;cases hr
 |some z=>
 rw[show qgj fu S f0.1 f0.2=zt fu S f0 from rfl,hz]at hr
 have hr:ap z (fun a2=>some (([]:PTy.den),((11:Int),if(a2.2.length:Int)<a2.1 then(a2.2.length:Int) else a2.1))) (fun b3=>some b3)=some r:=hr
 have hv:gy (aw jw) [(32,.cells [.str S] 9),(33,.cells [.val (.slice none 0 0)] 22),(34,.cells [.int .i64 f0.1,.int .i64 f0.2] 26)] jw=some [(1,.cells [.str S] 9),(2,.cells [.val (.slice none 0 0)] 22),(3,.cells [.int .i64 f0.1,.int .i64 f0.2] 26)]:=rfl;have hdist:dr jw=true:=rfl;have hm:bq (G.view jw) [(1,.cells [.str S] 9),(2,.cells [.val (.slice none 0 0)] 22),(3,.cells [.int .i64 f0.1,.int .i64 f0.2] 26)] w:=hrel.fin.mem.view hv (xm hdist)
 let hb:HB:=⟨[o5 B1 B2 B3]⟩
 have hsame:LC.Same (@instLCOfHB instHB) (@instLCOfHB hb):=⟨rfl,rfl,rfl,rfl,rfl⟩;have hm':=bq.cv hsame hm;have nb:∀(k m:Nat),k≠m->Nat.beq k m=false:=fun k m h=>by
  cases hq:Nat.beq k m
  ·rfl
  ·exact absurd (qN hq) h
 have hset:∀i v,i≠10->a.tmps[i]? = some v->(a.tmps.setIfInBounds 10 cl)[i]? = some v:=fun i v hi h=>by
  rw[Array.getElem?_setIfInBounds,qW (fun e=>hi e.symm)];exact h
 have hrel':=@ai.fresh_start (@instLCOfHB hb) G _ w jw hm' (fun m hm=>by
  simp only[jw,ay,nb 1 m oA,nb 2 m oA,nb 3 m oA,qF]) 43 [(1,.ptr 1 0),(2,.ptr 2 0),(3,.ptr 3 0)] (a.tmps.setIfInBounds 10 cl) (by simpa using hsz) (fun i x hx=>by
  by_cases e1:i=1
  ·subst e1;cases hx;exact⟨_,hset 1 _ oA t1,B1,g1,rfl⟩
  by_cases e2:i=2
  ·subst e2;cases hx;exact⟨_,hset 2 _ oA t2,B2,g2,rfl⟩
  by_cases e3:i=3
  ·subst e3;cases hx;exact⟨_,hset 3 _ oA t3,B3,g3,rfl⟩
  simp only[af,nb 1 i (fun e=>e1 e.symm),nb 2 i (fun e=>e2 e.symm),nb 3 i (fun e=>e3 e.symm),qF]at hx
  cases hx)
 have hgo:=(vd6 (iHB:=hb) fu).h ((S,()),((),()),((f0.1,(f0.2,())),())) (((),(),(),()),((S,()),((),()),(f0,()))) z hz w (G.view jw) (G.view jw) _ w hrel' b cs ‹b.fn=10› hkd hro;rw[hro]at hgo;have hs0:∀y,Steps wG (lone (b.atR (@Act.bs (@instLCOfHB hb) { tmps:=a.tmps.setIfInBounds 10 cl,defers:=[] }) (dy (kq (qcb (iHB:=hb) fu).body (kl 2 (qcb (iHB:=hb) fu).ls).1))) cs w) y->Steps wG (lone (b.atR { tmps:=a.tmps.setIfInBounds 10 cl,defers:=[o5 B1 B2 B3] } [.code (iq [0,1,1,1]),.code (iq [1,1,1,1])]) cs w) y:=fun y hs=>by
  rw[← @z0b hb fu];exact hs
 cases z with
 |inr y=>
  obtain⟨l,f1,f2⟩:=y;have hr:some (l,(f1,f2))=some r:=hr;have hr:=qJ hr;subst hr;rcases hgo with⟨_,v,w',fr,⟨G',hf,hrep⟩,hs,hfn,hmode,hdef,hkind,fn',hfn',hres⟩|⟨chain,w',fr,aT,hT,_⟩
  ·exact zz8 rfl rfl hrel (hs0 _ hs) hfn hmode hdef hkind hfn' hres (Fin.cv hsame.symm hf) hrep
  ·obtain⟨t,n',hm0,_⟩:@ThT (@instLCOfHB hb) [(2,2),(3,3)] _ _ q7q.out w (G.view jw) (.inr (l,f1,f2)) chain aT w':=hT;cases hm0
 |inl y=>
  obtain⟨n,S'⟩:=y;have hr:=qJ (show some (([]:PTy.den),((11:Int),if(List.length S':Int)<n then(List.length S':Int) else n))=some r from hr);subst hr
  rcases hgo with⟨hnm,_⟩|⟨chain,w',fr,aT,hT,hs,hfn,hmode,hkind,hdef,htm⟩
  ·cases (show some (71,n)=none from hnm)
  ·obtain⟨t,n',hm0,rfl,hd1,hks,G',hf⟩:@ThT (@instLCOfHB hb) [(2,2),(3,3)] _ _ q7q.out w (G.view jw) (.inl (n,S')) chain aT w':=hT;cases (show some (71,n)=some (t,n') from hm0)
   obtain⟨C2,q1,q2⟩:=hks (2,2) oB
   obtain⟨C3,q3,q4⟩:=hks (3,3) oB
   have e2:=q2 _ B2 rfl g2;have e3:=q4 _ B3 rfl g3;subst e2 e3;exact z0a rfl rfl hrel g1 g2 g3 (hs0 _ hs) hfn hmode (by rw[hdef,hd1];rfl) hkind (by rw[htm];exact q1) (by rw[htm];exact q3) (Fin.cv hsame.symm hf)
def zz0(d':fq ([]:List (Nat×be))):mw (zg fu).cx ((zg fu).cx.TT (bj [] d') (RS.mk (.tup [.h PTy,.h (.prod wI wI)]) [])) (bj [] d') (RS.mk (.tup [.h PTy,.h (.prod wI wI)]) []) (zg fu).body ((kl 0 (zg fu).ls).lab (zq fu)):=by
 intro d r hr vif vh8 G a w hrel b cs hb hkd hrd;have hro:b.roundOf=none:=hrd;refine .inl ⟨trivial,?_⟩;obtain⟨⟨u1,u2,u3,u4⟩,⟨⟨S,u5⟩,⟨⟨u6,u7⟩,⟨f0,u8⟩⟩⟩⟩:=d;have h:=zzw fu (S:=S) (f0:=f0) (r:=r) hr hrel cs hb hkd hro;rw[← zzz fu,← hro]at h;exact h
def vd8:(zg fu).L 0:=⟨zq fu,zz0 fu⟩
def vd9:=(zg fu).fi (zp fu) [(vd8 fu).s]
end
end
noncomputable section
open Go.Proofs
set_option linter.unusedVariables false
set_option maxRecDepth 100000
set_option maxHeartbeats 2000000
open Tryz
section
variable(fu:Nat)
def zo1(fu:Nat):Fx wG ⟨.fn 36,[.h (.list (.prod .str wP)),.h (.list (.prod .str wP))],[],_,RS.mk (.h .bool) []⟩:=fx [] [lb 464 [(0,.h (.list (.prod .str wP))),(1,.h (.list (.prod .str wP))),(5,wH)]]
def vea:Nat->(zo1 fu).L 0:=Fx.lq (qgb fu) (qtk fu) (fun r0=>[r0.s])
def veb:=(zo1 fu).fi (ql2 fu) [(vea fu fu).s]
def zo2:Fx wG ⟨.fn 11,[.h (.list (.prod .str (.prod .bool (.list (.prod .str wP))))),.h (.list (.prod .str (.prod .bool (.list (.prod .str wP)))))],[],_,RS.mk (.h .bool) []⟩:=fx [(veb fu).p] [lb 464 [(0,.h (.list (.prod .str (.prod .bool (.list (.prod .str wP)))))),(1,.h (.list (.prod .str (.prod .bool (.list (.prod .str wP)))))),(5,wH)]]
def vec:Nat->(zo2 fu).L 0:=Fx.lq (qgd fu) (qtl fu) (fun r0=>[r0.s])
def ved:=(zo2 fu).fi (qgc fu) [(vec fu fu).s]
def q7w:IF:=⟨.fn 3,[.h (.list (.prod .str (.prod .bool (.list (.prod .str wP))))),.h wB],[],_,RS.mk (.h .bool) []⟩
def q7v:Fx wG q7w:=fx [(z8i fu).p,(vbi fu).p,(zow fu).p,(vcg fu).p,(zpr fu).p,(vck fu).p,(vd9 fu).p,(ved fu).p] [lb 4094 [(0,.h (.list (.prod .str (.prod .bool (.list (.prod .str wP)))))),(12,.own 32)] [(32,.row .str 9)],lb 4093 [(0,.h (.list (.prod .str (.prod .bool (.list (.prod .str wP)))))),(12,.own 32),(74,.h .bool)] [(32,.row .str 9)]]
def vef:(q7v fu).L 0:=Fx.jm (qts fu)
def vee:(q7v fu).L 1:=Fx.jm (qgi fu) [(vef fu).s]
def veg:EI wG q7w:=(q7v fu).fi (qch fu) [(vee fu).s]
def zqf:(q7w.e (qch fu)).Sound wG:=(veg fu).h
end
end
end Go.Sym
