/- What the claim rests on, part 5: gathered texts. -/
import Derived.Lib.TrimAscii
import Derived.Test.YtboiflmddgacmaaGreatDoorSyN4
set_option linter.defProp false
set_option linter.unusedSimpArgs false
set_option linter.unusedVariables false
namespace Go.Sym
open Go.Lib (spansFromP closeSpans goFieldsP spansOfP)
def gr(c:UInt8):Bool:=decide (33<=c.toNat/\c.toNat<128)
abbrev ia(l:Bs):ByteArray:=⟨l.toArray⟩
def qns(ab aa:Bs)(c:UInt8)(hc:c.toNat<128):Utf8.decode (ia (ab++c::aa)) ab.length=(c.toNat,1):=by
 rw[← Lib.decodeL_drop];simp only[List.drop_left];exact Lib.decodeL_ascii c aa hc
def q0h(c:UInt8)(h:gr c=true):c.toNat<128/\dy c.toNat=false:=by
 have h:=of_decide_eq_true h;refine⟨h.2,?_⟩;unfold dy;rw[Bool.or_eq_false_iff,beq_eq_false_iff_ne,beq_eq_false_iff_ne];omega
def q3d:∀(w ab rest:Bs)(f a:Nat)(acc:List (Nat×Nat)),w.all gr=true ->
  spansFromP dy (ia (ab++(w++rest))) (f+w.length) ab.length (some a) acc=spansFromP dy (ia (ab++(w++rest))) f (ab.length+w.length) (some a) acc
 |[],_,_,_,_,_,_=>rfl|c::w,ab,rest,f,a,acc,h=>by
  rw[List.all_cons,qA]at h;obtain⟨h1,h2⟩:=q0h c h.1;have ih:=q3d w (ab++[c]) rest f a acc h.2;rw[show(ab++[c])++(w++rest)=ab++(c::w++rest) by simp,qM,wD]at ih
  rw[show f+(c::w).length=(f+w.length)+1 by simp only[qL];omega,spansFromP,qX (by simp[ByteArray.size]),wK,qns ab _ c h1,h2,qW oF]
  simp only[];rw[show ab.length+(c::w).length=ab.length+1+w.length by simp only[qL];omega]
  exact ih
def q3e(w ab rest:Bs)(f:Nat)(acc:List (Nat×Nat))(h:w.all gr=true)(h0:w≠[]) :
  spansFromP dy (ia (ab++(w++rest))) (f+w.length) ab.length none acc=spansFromP dy (ia (ab++(w++rest))) f (ab.length+w.length) (some ab.length) acc:=by
 cases w with
 |nil=>exact absurd rfl h0|cons c w=>
  rw[List.all_cons,qA]at h;obtain⟨h1,h2⟩:=q0h c h.1;have ih:=q3d w (ab++[c]) rest f ab.length acc h.2;rw[show(ab++[c])++(w++rest)=ab++(c::w++rest) by simp,qM,wD]at ih
  rw[show f+(c::w).length=(f+w.length)+1 by simp only[qL];omega,spansFromP,qX (by simp[ByteArray.size]),wK,qns ab _ c h1,h2,qW oF]
  simp only[];rw[show ab.length+(c::w).length=ab.length+1+w.length by simp only[qL];omega]
  exact ih
def cg:List Bs->Bs|[]=>[]|[w]=>w|w::v::ws=>w++(32::cg (v::ws))
def qz1(ab w rest:Bs):((ia (ab++(w++rest))).extract ab.length (ab.length+w.length)).data.toList=w:=by
 rw[ByteArray.data_extract];simp
def q4h:∀(ws:List Bs),ws≠[]->(∀w∈ws,w.all gr=true/\w≠[])->∀(ab:Bs)(acc:List (Nat×Nat)),
  (closeSpans (ia (ab++cg ws)) (spansFromP dy (ia (ab++cg ws)) (cg ws).length ab.length none acc)).map (fun x=>((ia (ab++cg ws)).extract x.1 x.2).data.toList)=acc.map (fun x=>((ia (ab++cg ws)).extract x.1 x.2).data.toList)++ws
 |[],h,_,_,_=>absurd rfl h|[w],_,h,ab,acc=>by
  obtain⟨h1,h2⟩:=h w oC
  have:=q3e w ab [] 0 acc h1 h2;rw[List.append_nil,wO]at this;have e:=qz1 ab w [];rw[List.append_nil]at e;rw[cg,this,spansFromP];unfold closeSpans;simp only[List.map_append,List.map_cons,List.map_nil];rw[show(ia (ab++w)).size=ab.length+w.length by simp[ByteArray.size],e]
 |w::v::ws,_,h,ab,acc=>by
  obtain⟨h1,h2⟩:=h w oC
  have ih:=q4h (v::ws) oC (fun x hx=>h x (qE _ hx)) (ab++(w++[32])) (acc++[(ab.length,ab.length+w.length)])
  have e0:ab++(w++[32])++cg (v::ws)=ab++cg (w::v::ws):=by rw[cg];simp
  have e:=qz1 ab w (32::cg (v::ws));have e1:ab++(w++32::cg (v::ws))=ab++cg (w::v::ws):=by rw[cg]
  rw[e1]at e;rw[e0,List.map_append,List.map_cons,List.map_nil,e,qS]at ih;have s1:=q3e w ab (32::cg (v::ws)) ((cg (v::ws)).length+1) acc h1 h2;rw[e1]at s1;have s2:spansFromP dy (ia (ab++cg (w::v::ws))) ((cg (v::ws)).length+1) (ab.length+w.length) (some ab.length) acc=spansFromP dy (ia (ab++cg (w::v::ws))) (cg (v::ws)).length (ab++(w++[32])).length none (acc++[(ab.length,ab.length+w.length)]):=by
   have d:=qns (ab++w) (cg (v::ws)) 32 oF
   rw[qS,e1,qM]at d;rw[spansFromP,qX (by rw[← e1];simp[ByteArray.size]),d,qX oF]
   simp only[];congr 1;simp only[qM,qL,qZ];omega
  rw[show(cg (w::v::ws)).length=(cg (v::ws)).length+1+w.length by rw[cg];simp only[qM,qL];omega,s1,s2]
  exact ih
def zbl(ws:List Bs)(h0:ws≠[])(h:∀w∈ws,w.all gr=true/\w≠[])(hl:(cg ws).length<=4294967296:=by omega):qk (cg ws)=some ws:=by
 have:=q4h ws h0 h [] [];simp only[List.nil_append,qZ,List.map_nil]at this;unfold qk;rw[fl hl];unfold goFieldsP spansOfP;rw[List.map_map,show(⟨(cg ws).toArray⟩:ByteArray).size=(cg ws).length by simp[ByteArray.size]]
 exact congrArg some this
def q0w:∀ws:List Bs,Lib.join ws [32]=cg ws
 |[]=>rfl|[w]=>by rw[Lib.join_one];rfl|w::v::ws=>by
  rw[cg,← q0w (v::ws)];unfold Lib.join;simp[List.intercalate]
def zdm:ng 4001 (fun n=>qfg (iv (n:Int) 4) (du n))=true:=oB
def zdl(n:Nat)(h:n<4001:=by omega):iv (n:Int) 4=some (du n):=q1z (qu _ 4001 n zdm h)
end Go.Sym
namespace Go.Sym
open Cal Zn
abbrev wkL:List Bs:=[[83,117,110],[77,111,110],[84,117,101],[87,101,100],[84,104,117],[70,114,105],[83,97,116]]
abbrev ru:List Bs:=[[74,97,110],[70,101,98],[77,97,114],[65,112,114],[77,97,121],[74,117,110],[74,117,108],[65,117,103],[83,101,112],[79,99,116],[78,111,118],[68,101,99]]
def wk(w:Nat):Bs:=wkL.getD w []
def mo(m:Nat):Bs:=ru.getD (m-1) []
def gw(h m s:Nat):Bs:=two h++58::two m++58::two s
def d7(sg:UInt8)(zh zm:Nat):Bs:=sg::two zh++two zm
def ir(w y m d h mi s:Nat)(sg:UInt8)(zh zm:Nat):List Bs:=[wk w++[44],two d,mo m,du y,gw h mi s,d7 sg zh zm]
def su(n:Nat):(two n).length=2:=rfl
def zbr(n:Nat):(du n).length=4:=rfl
def q4g(w:Nat):Bool:=(wk w).all gr&&((wk w).length==3)
def zfq:ng 7 q4g=true:=oB
def q1e(w:Nat):Bool:=(ru.getD w []).all gr&&((ru.getD w []).length==3)
def zcy:ng 12 q1e=true:=oB
def qf5(w:Nat)(h:w<7):(wk w).all gr=true/\(wk w).length=3:=by
 have:=qu _ 7 w zfq h;unfold q4g at this;rw[qA,beq_iff_eq]at this;exact this
def q1f(m:Nat)(h1:1<=m)(h:m<=12):(mo m).all gr=true/\(mo m).length=3:=by
 have:=qu _ 12 (m-1) zcy oA
 unfold q1e at this;rw[qA,beq_iff_eq]at this;exact this
def uw(n:Nat)(h:n<10):gr (dg n)=true:=decide_eq_true (by rw[nq n h];omega)
def vy(n:Nat)(h:n<100:=by omega):(two n).all gr=true:=by
 unfold two;simp only[List.all_cons,List.all_nil,uw _ (show n/10<10 by omega),uw _ (show n%10<10 by omega),Bool.and_true]
def zbq(n:Nat)(h:n<10000:=by omega):(du n).all gr=true:=by
 unfold du;simp only[List.all_cons,List.all_nil,uw _ (show n/1000<10 by omega),uw _ (show n/100%10<10 by omega),uw _ (show n/10%10<10 by omega),uw _ (show n%10<10 by omega),Bool.and_true]
structure Nm(w y m d h mi s:Nat)(sg:UInt8)(zh zm:Nat):Prop where
 w:w<7
 y:1<=y/\y<=4000
 m:1<=m/\m<=12
 d:d<=31
 h:h<=23
 mi:mi<=59
 s:s<=59
 sg:sg=43\/sg=45
 zh:zh<=15
 zm:zm<=59
def zfs{w y m d h mi s:Nat}{sg:UInt8}{zh zm:Nat}(N:Nm w y m d h mi s sg zh zm):∀x∈ir w y m d h mi s sg zh zm,x.all gr=true/\x≠[]:=by
 obtain⟨n1,n2,n3,n4,n5,n6,n7,n8,n9,n10⟩:=N;obtain⟨k1,k2⟩:=qf5 w n1;obtain⟨m1,m2⟩:=q1f m n3.1 n3.2;have hs:gr sg=true:=by rcases n8 with rfl|rfl<;>rfl
 intro x hx;unfold ir at hx;simp only[wE,List.not_mem_nil,or_false]at hx;rcases hx with rfl|rfl|rfl|rfl|rfl|rfl
 ·exact⟨by rw[List.all_append,k1];rfl,oC⟩
 ·exact⟨vy d,by simp[two]⟩
 ·exact⟨m1,fun q=>by rw[q]at m2;simp at m2⟩
 ·exact⟨zbq y,by simp[du]⟩
 ·refine⟨?_,by simp[gw,two]⟩
  unfold gw;rw[List.all_append,List.all_append,List.all_cons,List.all_cons,vy h,vy mi,vy s];rfl
 ·refine⟨?_,by simp[d7]⟩
  unfold d7;rw[wK,List.all_cons,List.all_append,hs,vy zh,vy zm];rfl
def q4m{w y m d h mi s:Nat}{sg:UInt8}{zh zm:Nat}(N:Nm w y m d h mi s sg zh zm):(cg (ir w y m d h mi s sg zh zm)).length=31:=by
 unfold ir;simp only[cg,qM,qL,qZ,su,zbr,gw,d7,(qf5 w N.w).2,(q1f m N.m.1 N.m.2).2]
-- Print
def zdq{w y m d h mi s:Nat}{sg:UInt8}{zh zm:Nat}(N:Nm w y m d h mi s sg zh zm)(fu:Nat)(z:Int)(f:Int×Int) :
  xm fu (w:Int) [sg] ((60*zh+zm:Nat):Int) ((y:Int),(m:Int),(d:Int),(h:Int),(mi:Int),(s:Int),z) f=some (cg (ir w y m d h mi s sg zh zm),(0,0)):=by
 have hj:=q4m N;obtain⟨n1,n2,n3,n4,n5,n6,n7,n8,n9,n10⟩:=N;have t1:af (Int.tdiv ((60*zh+zm:Nat):Int) 60)=(zh:Int):=by
  rw[show Int.tdiv ((60*zh+zm:Nat):Int) 60=(((60*zh+zm)/60:Nat):Int) from rfl,bz];omega
 have t2:Int.tmod ((60*zh+zm:Nat):Int) 60=(zm:Int):=by
  rw[show Int.tmod ((60*zh+zm:Nat):Int) 60=(((60*zh+zm)%60:Nat):Int) from rfl];omega
 have hw:al wkL (w:Int)=some (wk w):=by
  unfold al wk;rw[qX,show(w:Int).toNat=w by omega]
  simp[List.getD,n1]
 have hm:al ru (af ((m:Int)-1))=some (mo m):=by
  unfold al mo;rw[bz,qX,show((m:Int)-1).toNat=m-1 by omega]
  have:m-1<12:=oA
  simp[List.getD,this]
 have kl:=(qf5 w n1).2;unfold xm;dsimp only;rw[t1,t2,vm zh,qB,vm zm,qB,fl (by simp only[su,bg];omega),fl oG,
  vm h,qB,fl (by simp only[qL,qZ,su,bg];omega),vm mi,qB,fl oG,fl oG,
  vm s,qB,fl oG]
 unfold xw xu;rw[qB,hw,qB,fl (by rw[kl];simp only[qL,qZ,bg];omega),vm d,qB,qB,hm,qB,zdl y,qB]
 have e:[wk w++[44],two d,mo m,du y,two h++[58]++two mi++[58]++two s,[sg]++(two zh++two zm)]=ir w y m d h mi s sg zh zm:=by
  unfold ir gw d7;simp
 unfold tr;rw[e,q0w,fl ⟨by unfold ir;simp only[qL,qZ];omega,by rw[hj];omega⟩];rfl
def uy(n:Nat)(h:n<10:=by omega):dg n≠58:=fun q=>by
 have:=nq n h;rw[q]at this;have e:(58:UInt8).toNat=58:=rfl;omega
def q0n(a b:UInt8)(r:Bs)(ha:a≠58)(hb:b≠58):yf (a::b::58::r) [58]=some 2:=by
 have e1:Lib.indexByte (58::r) 58=0:=by rw[Lib.indexByte,qX (by rfl)]
 have e2:Lib.indexByte (b::58::r) 58=1:=by rw[Lib.indexByte,qW (by simpa using hb),e1];rfl
 have e:Lib.indexByte (a::b::58::r) 58=2:=by rw[Lib.indexByte,qW (by simpa using ha),e2];rfl
 unfold yf qcc;rw[a7,show(([58]:Bs)==(a::b::58::r))=false by simp]
 unfold qce qcd mr;rw[a7 rfl,a6]
 show(some (Lib.indexByte (a::b::58::r) 58):Option Int)=some 2;rw[e]
def zaq(a b c d e f:UInt8)(ha:a≠58)(hb:b≠58)(hc:c≠58)(hd:d≠58)(he:e≠58)(hf:f≠58):qcq 100000000 [a,b,58,c,d,58,e,f] [58]=some 2:=by
 have k:Lib.countByte [a,b,58,c,d,58,e,f] 58=2:=by
  unfold Lib.countByte;simp[List.count_cons,ha,hb,hc,hd,he,hf]
 unfold qcq;rw[a7,a6]
 show(some ((Lib.countByte [a,b,58,c,d,58,e,f] 58:Nat):Int):Option Int)=some 2;rw[k];rfl
def zes(a b c d e f:UInt8)(ha:a≠58)(hb:b≠58)(hc:c≠58)(hd:d≠58)(he:e≠58)(hf:f≠58):yg 100000000 [a,b,58,c,d,58,e,f] [58]=some [[a,b],[c,d],[e,f]]:=by
 have k1:=q0n a b [c,d,58,e,f] ha hb;have k2:=q0n c d [e,f] hc hd;have step:∀n,mu 100000000 (n+3) [a,b,58,c,d,58,e,f] [58] 0 2 0 [[],[],[]]=some [[a,b],[c,d],[e,f]]:=fun n=>by
  rw[mu,yj,a6,k1,qB,a7]
  show mu 100000000 (n+2) [c,d,58,e,f] [58] 0 2 1 [[a,b],[],[]]=_;rw[mu,yj,a6,k2,qB,a7]
  show mu 100000000 (n+1) [e,f] [58] 0 2 2 [[a,b],[c,d],[]]=_;rw[mu,yj,a7];rfl
 unfold yg qk4;rw[a7,a7,a6,zaq a b c d e f ha hb hc hd he hf,qB]
 have:=step 99999997;unfold qcw;rw[a6]
 exact congrArg (fun x=>Option.bind x some) this
def zak(h mi s:Nat)(h1:h<=23)(h2:mi<=59)(h3:s<=59):qb4 100000000 (gw h mi s)=some ((h:Int),((mi:Int),((s:Int),true))):=by
 have sp:yg 100000000 (gw h mi s) [58]=some [two h,two mi,two s]:=
  zes _ _ _ _ _ _ (uy _) (uy _) (uy _) (uy _) (uy _) (uy _)
 have n1:=vl 100000000 oA h
 have n2:=vl 100000000 oA mi
 have n3:=vl 100000000 oA s
 unfold qb4;rw[sp,qB,a7,show decide ((3:Int)<(List.length [two h,two mi,two s]:Int))=false from rfl]
 unfold qb5 qh2;rw[a7 rfl,show al [two h,two mi,two s] 0=some (two h) from rfl,qB,n1,qB,show al [two h,two mi,two s] 1=some (two mi) from rfl,qB,n2,qB,a6,show al [two h,two mi,two s] 2=some (two s) from rfl,qB,n3]
 rfl
def zph(sg:UInt8)(zh zm:Nat)(hs:sg=43\/sg=45)(h1:zh<=15)(h2:zm<=59):qb8 100000000 (d7 sg zh zm)=some ((if sg=45 then -((60*zh+zm:Nat):Int) else((60*zh+zm:Nat):Int)),true):=by
 have n1:=vl 100000000 oA zh
 have n2:=vl 100000000 oA zm
 have p3:qb9 100000000 (d7 sg zh zm)=some ((if sg=45 then -((60*zh+zm:Nat):Int) else((60*zh+zm:Nat):Int)),true):=by
  have w:af ((af ((60:Int)*(zh:Int)))+(zm:Int))=((60*zh+zm:Nat):Int):=by
   rw[bz (x:=(60:Int)*(zh:Int)) oA oA,bz];omega
  have w':af (0-((60*zh+zm:Nat):Int)) = -((60*zh+zm:Nat):Int):=by rw[bz];omega
  unfold qb9;rw[a6,show List.take ((3:Int).toNat-(1:Int).toNat) (List.drop (1:Int).toNat (d7 sg zh zm))=two zh from rfl,n1,qB,a6,show List.drop (3:Int).toNat (d7 sg zh zm)=two zm from rfl,n2,qB,show al (d7 sg zh zm) 0=some sg from rfl,qB]
  dsimp only;rw[w,w',q92,a6 rfl,a6 rfl,a6 rfl,a6 rfl,decide_eq_true (show(zm:Int)<60 by omega)]
  split<;>rfl
 unfold qb8 xx;rw[a7 (by simp[d7,two]),a7 (by simp[d7,two]),a7 (show(d7 sg zh zm==([90]:Bs))=false by simp[d7,two])]
 unfold qh4;rw[a7,show al (d7 sg zh zm) 0=some sg from rfl,qB,qB]
 unfold xy;rcases hs with rfl|rfl
 ·rw[a7,a7 rfl,p3]
 ·rw[a6,a7,p3]
def wkC(w:Nat):Bool:=match qco 100000000 wkL (wk w) with|some b=>b|none=>false
def zfp:ng 7 wkC=true:=oB
def zfr(w:Nat)(h:w<7):qco 100000000 wkL (wk w)=some true:=by
 have:=qu _ 7 w zfp h;unfold wkC at this;split at this
 ·rename_i e;rw[e,this]
 ·cases this
def moI(m:Nat):Bool:=match yd 100000000 ru (ru.getD m []) with|some b=>b==(m:Int)|none=>false
def zcx:ng 12 moI=true:=oB
def zcz(m:Nat)(h1:1<=m)(h:m<=12):yd 100000000 ru (mo m)=some ((m-1:Nat):Int):=by
 have:=qu _ 12 (m-1) zcx oA
 unfold moI at this;unfold mo;split at this
 ·rename_i e;rw[e];exact congrArg some (by simpa using this)
 ·cases this
def q3p(s:Bs)(hs:s.length<=1000:=by omega):tk (s++[44]) [44]=some true:=by
 have l1:((s++[44]).length:Int)=(s.length:Int)+1:=oC
 have w:af ((((s++[44]).length:Nat):Int)-((([44]:Bs).length:Nat):Int))=(s.length:Int):=by
  rw[l1,show((([44]:Bs).length:Nat):Int)=1 from rfl,bz];omega
 unfold tk;rw[w,fl (by rw[l1];simp only[qL,qZ];omega),fl]
 simp
def zfb(s:Bs)(hs:s.length<=1000:=by omega):yi (s++[44]) [44]=some s:=by
 have l1:((s++[44]).length:Int)=(s.length:Int)+1:=oC
 have w:af ((((s++[44]).length:Nat):Int)-((([44]:Bs).length:Nat):Int))=(s.length:Int):=by
  rw[l1,show((([44]:Bs).length:Nat):Int)=1 from rfl,bz];omega
 unfold yi qih;rw[q3p s hs,qB,a6 rfl,w,fl]
 simp
def zdx{w y m d h mi s:Nat}{sg:UInt8}{zh zm:Nat}(N:Nm w y m d h mi s sg zh zm) :
  qb7 100000000 (ir w y m d h mi s sg zh zm)=some (((y:Int),((m:Int),((d:Int),((h:Int),((mi:Int),((s:Int),(if sg=45 then -((60*zh+zm:Nat):Int) else((60*zh+zm:Nat):Int)))))))),true):=by
 obtain⟨n1,n2,n3,n4,n5,n6,n7,n8,n9,n10⟩:=N;have kl:=(qf5 w n1).2;have a1:=vl 100000000 oA d
 have a2:=zdb 100000000 oA y
 have a3:=zcz m n3.1 n3.2;have a4:=zak h mi s n5 n6 n7;have a5:=zph sg zh zm n8 n9 n10;have wm:af ((1:Int)+((m-1:Nat):Int))=(m:Int):=by rw[bz];omega
 unfold qb7;rw[show xw=some _ from rfl,qB,a6,show al (ir w y m d h mi s sg zh zm) 0=some (wk w++[44]) from rfl,qB]
 unfold qcr;rw[q3p _,qB,qB,a6 rfl,qB,zfb _,qB,zfr w n1,qB,qm6,a6]
 show tj 100000000 [two d,mo m,du y,gw h mi s,d7 sg zh zm] (0,0,0,0,0,0,0)=_;unfold tj;rw[a7,show al [two d,mo m,du y,gw h mi s,d7 sg zh zm] 0=some (two d) from rfl,qB,qB,show(if(2:Int)<if(1:Int)>(List.length (two d):Int) then(1:Int) else(List.length (two d):Int) then(2:Int) else if(1:Int)>(List.length (two d):Int) then(1:Int) else(List.length (two d):Int))=2 from rfl,a1,qB,
  show xu=some _ from rfl,qB,show al [two d,mo m,du y,gw h mi s,d7 sg zh zm] 1=some (mo m) from rfl,qB,a3,qB,show al [two d,mo m,du y,gw h mi s,d7 sg zh zm] 2=some (du y) from rfl,qB,a2,qB,
  show al [two d,mo m,du y,gw h mi s,d7 sg zh zm] 3=some (gw h mi s) from rfl,qB,a4,qB,show al [two d,mo m,du y,gw h mi s,d7 sg zh zm] 4=some (d7 sg zh zm) from rfl,qB,a5,qB,wm,fl]
 rfl
def q14{w y m d h mi s:Nat}{sg:UInt8}{zh zm:Nat}(N:Nm w y m d h mi s sg zh zm)(z:Int)(hz:z=if sg=45 then -((60*zh+zm:Nat):Int) else((60*zh+zm:Nat):Int))(h0:sg=45->0<60*zh+zm)
  (hd:ep ((y:Int),(m:Int),(d:Int),(h:Int),(mi:Int),(s:Int),z)) (hw:mh (bc (y:Int) (m:Int) (d:Int))=(w:Int)) :
  ti 100000000 ((y:Int),(m:Int),(d:Int),(h:Int),(mi:Int),(s:Int),z)=some (cg (ir w y m d h mi s sg zh zm),(0,0)):=by
 have hwd:=q4e 100000000 oA _ hd
 have key:=zdq N 100000000 z (0,0);have hzz:=N.zh;have hzm:=N.zm;unfold ti;rw[hwd,qB];dsimp only;rw[hw,show cd ((0:Int),(0:Int))=some false from rfl,qB,a7 rfl]
 rcases N.sg with rfl|rfl
 ·rw[qW oF]at hz
  rw[qm5 oA,hz]
  rw[hz]at key;exact key
 ·rw[qX rfl]at hz;have:=h0 rfl;rw[fl,show af (0-z)=((60*zh+zm:Nat):Int) by rw[hz,bz];omega]
  exact key
def q11{w y m d h mi s:Nat}{sg:UInt8}{zh zm:Nat}(N:Nm w y m d h mi s sg zh zm)(z:Int)(hz:z=if sg=45 then -((60*zh+zm:Nat):Int) else((60*zh+zm:Nat):Int))
  (hd:ep ((y:Int),(m:Int),(d:Int),(h:Int),(mi:Int),(s:Int),z)) :
  th 100000000 (cg (ir w y m d h mi s sg zh zm))=some (((y:Int),(m:Int),(d:Int),(h:Int),(mi:Int),(s:Int),z),(0,0)):=by
 have hl:=q4m N;have hr:=zdx N;rw[← hz]at hr;unfold th;rw[qm5 oA,zbl _ (by simp[ir]) (zfs N),qB,hr,qB]
 dsimp only;rw[qm6,qd8,qX hd,qB];rfl
def q15(D:iz)(hd:ep D):∃t,ti 100000000 D=some (t,(0,0))/\th 100000000 t=some (D,(0,0)):=by
 obtain⟨Y,M,D,H,I,S,Z⟩:=D;obtain⟨⟨v1,v2,v3,v4,v5,v6⟩,h1,h2,h3,h4,h5,h6,h7,h8⟩:=id hd;simp only at v1 v2 v3 v4 v5 v6 h1 h2 h3 h4 h5 h6 h7 h8;have hdim:fp Y M<=31:=by
  unfold fp q9 lp
  repeat' split
  all_goals omega
 obtain⟨y,rfl⟩:∃n:Nat,Y=(n:Int):=⟨Y.toNat,oA⟩
 obtain⟨m,rfl⟩:∃n:Nat,M=(n:Int):=⟨M.toNat,oA⟩
 obtain⟨d,rfl⟩:∃n:Nat,D=(n:Int):=⟨D.toNat,oA⟩
 obtain⟨h,rfl⟩:∃n:Nat,H=(n:Int):=⟨H.toNat,oA⟩
 obtain⟨mi,rfl⟩:∃n:Nat,I=(n:Int):=⟨I.toNat,oA⟩
 obtain⟨s,rfl⟩:∃n:Nat,S=(n:Int):=⟨S.toNat,oA⟩
 have hwb:=q4d (bc (y:Int) (m:Int) (d:Int));obtain⟨w,hw⟩:∃n:Nat,mh (bc (y:Int) (m:Int) (d:Int))=(n:Int):=⟨(mh (bc (y:Int) (m:Int) (d:Int))).toNat,oA⟩
 by_cases hz:Z<0
 ·have N:Nm w y m d h mi s 45 ((-Z).toNat/60) ((-Z).toNat%60):=⟨oA,oA,oA,oA,oA,oA,oA,.inr rfl,oA,oA⟩
  have e:Z=if(45:UInt8)=45 then -((60*((-Z).toNat/60)+(-Z).toNat%60:Nat):Int) else((60*((-Z).toNat/60)+(-Z).toNat%60:Nat):Int):=by rw[qX rfl];omega
  exact⟨_,q14 N Z e (fun _=>oA) hd hw,q11 N Z e hd⟩
 ·have N:Nm w y m d h mi s 43 (Z.toNat/60) (Z.toNat%60):=⟨oA,oA,oA,oA,oA,oA,oA,.inl rfl,oA,oA⟩
  have e:Z=if(43:UInt8)=45 then -((60*(Z.toNat/60)+Z.toNat%60:Nat):Int) else((60*(Z.toNat/60)+Z.toNat%60:Nat):Int):=by rw[qW oF];omega
  exact⟨_,q14 N Z e (fun q=>absurd q oF) hd hw,q11 N Z e hd⟩
def zcw:qgv 100000000=some true:=oB
def zdg(z:cy)(t:Int):(ge z t).2.1≠0->(ge z t).1=0:=by
 unfold ge ql7
 repeat' split
 all_goals first
  |(intro _;rfl)
  |(intro q;exact absurd rfl q)
def qza(t z:Int):(mq t z).2.1=0->ep (mq t z).1/\qag (mq t z).1=t:=by
 unfold mq;by_cases c1:¬(-68719476736<=t/\t<=68719476736)
 ·rw[qX c1];intro q;exact absurd q oF
 rw[qW c1];by_cases c2:¬(-900<=z/\z<=900)
 ·rw[qX c2];intro q;exact absurd q oF
 rw[qW c2];by_cases c3:(t+60*z)/86400 < -719162\/741807<(t+60*z)/86400
 ·rw[qX c3];intro q;exact absurd q oF
 rw[qW c3];intro _;have h1 : -719162<=(t+60*z)/86400:=oA
 have h2:(t+60*z)/86400<=741807:=oA
 obtain⟨hv,he⟩:=qzb _ h1 h2;refine⟨⟨hv,?_,?_,?_,?_,?_,?_,?_,?_⟩,?_⟩<;>simp only[qne,qag]<;>(try rw[he])<;>omega
def zci(z:cy)(a b:Int)(hz:z.1.length<=1048576:=by omega):td 100000000 z a b=some true:=by
 have zo:=fun t=>zo5 100000000 oA z oA oA t
 have ci:=fun t x=>qzc 100000000 oA t x
 unfold td;rw[zcw,qB,qm6,zo a,qB,zo b,qB];unfold qbr;rw[qdu];by_cases h1:(ge z a).2.1≠0
 ·rw[qX h1,a6 rfl,qdt,qW h1,zdg z a h1];rfl
 ·have h1':(ge z a).2.1=0:=by simpa using h1
  rw[qW h1];by_cases h2:(ge z b).2.1≠0
  ·rw[show((ge z b).2.1 != 0)=true by simpa using h2,a6 rfl,qdt,qX h1']
  ·rw[show((ge z b).2.1 != 0)=false by simpa using h2,a7 rfl]
   unfold qgt;rw[ci,qB,ci,qB,qdu];unfold qbs;by_cases c1:(mq a (ge z a).1).2.1≠0
   ·rw[qX c1,a6 rfl]
   ·rw[qW c1];by_cases c2:(mq b (ge z b).1).2.1≠0
    ·rw[a6 (by simpa using c2)]
    ·rw[a7 (by simpa using c2)]
     obtain⟨d1,d2⟩:=qza a (ge z a).1 (by simpa using c1)
     obtain⟨e1,e2⟩:=qza b (ge z b).1 (by simpa using c2)
     obtain⟨t,p1,p2⟩:=q15 _ d1;obtain⟨u,q1,q2⟩:=q15 _ e1;unfold qgu;rw[p1,qB,q1,qB,p2,qB,q2,qB,qof 100000000 oA,qB,qof 100000000 oA,qB,qX d1,qX e1,d2,e2]
     dsimp only;rw[a6,a6,a6,a6,a6,a6,a6]
     simp
abbrev qfz:Ty := .prod (.int .i64) (.prod (.int .i64) (.prod (.int .i64) (.int .i64)))
abbrev zpd:Ty := .prod .str (.prod (.int .i64) (.prod (.int .i64) (.prod qfz qfz)))
def zcj(x:cy×Int×Int×Unit)(h:ug [zpd,.int .i64,.int .i64] x<=1048576):td 100000000 x.1 x.2.1 x.2.2.1=some true:=by
 have h:((x.1.1.length+1)+(Ty.prod (.int .i64) (.prod (.int .i64) (.prod qfz qfz))).bk x.1.2)+ug [.int .i64,.int .i64] x.2<=1048576:=h;exact zci x.1 x.2.1 x.2.2.1
end Go.Sym
