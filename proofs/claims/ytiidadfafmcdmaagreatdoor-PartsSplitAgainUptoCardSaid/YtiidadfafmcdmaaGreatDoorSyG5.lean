/- What the claim rests on, part 5: gathered texts. -/
import Derived.WalkKit
import Derived.ProofKit
import Derived.OpenShut
import Derived.ShutString
import Derived.ChangeOld
import Derived.Carry
import Derived.Handed
import Derived.Deep.DeepHandedRow
import Derived.LaidMore
import Derived.Lay
import Derived.LaidHandle
import Derived.MakeChecks
import Derived.LaidLaws
import Derived.Test.YtiidadfafmcdmaaGreatDoorSyG4
set_option maxRecDepth 100000
set_option linter.defProp false
namespace Go.Sym
open Go.Lib (decDigits itoa validD)
def two(c:UInt8):Bs:=(qxp c).getD []
def zpv:∀n:_root_.Fin 256,qxp (UInt8.ofNat n.val)=some (two (UInt8.ofNat n.val))/\(two (UInt8.ofNat n.val)).length=2:=by decide +kernel
def qpr(c:UInt8):(two c).length=2:=(ig (fun c=>qxp c=some (two c)/\(two c).length=2) zpv c).2
def zh(c:UInt8):UInt8:=(n8 (q9 c (min (4:Int).toNat 8))).getD 0
def yx(c:UInt8):UInt8:=(n8 c).getD 0
def z0h:∀n:_root_.Fin 256,n8 (q9 (UInt8.ofNat n.val) (min (4:Int).toNat 8))=some (zh (UInt8.ofNat n.val))/\n8 (UInt8.ofNat n.val)=some (yx (UInt8.ofNat n.val))/\[zh (UInt8.ofNat n.val),yx (UInt8.ofNat n.val)]=two (UInt8.ofNat n.val):=by decide +kernel
def zjs(c:UInt8):n8 (q9 c (min (4:Int).toNat 8))=some (zh c)/\n8 c=some (yx c)/\[zh c,yx c]=two c:=
 ig (fun c=>n8 (q9 c (min (4:Int).toNat 8))=some (zh c)/\n8 c=some (yx c)/\[zh c,yx c]=two c) z0h c
def dp(c:UInt8):Bs:=if tk c=true then[c] else 37::two c
def qny(c:UInt8):1<=(dp c).length/\(dp c).length<=3:=by
 unfold dp;split
 ·simp
 ·rw[qL,qpr];omega
def dh(cur:Bs):Bs->List Bs|[]=>[cur]|c::t=>if cur.length+(dp c).length<=60 then dh (cur++dp c) t else cur::dh (dp c) t
def uk:∀(t cur:Bs),(dh cur t).length<=t.length+1/\1<=(dh cur t).length
 |[],_=>by simp[dh]|c::t,cur=>by
  rw[dh];split
  ·have:=uk t (cur++dp c);simp only[qL];omega
  ·have:=uk t (dp c);simp only[qL];omega
def qfb:∀(t cur:Bs),cur.length<=60->∀x∈dh cur t,x.length<=60
 |[],cur,h,x,hx=>by rw[dh,List.mem_singleton]at hx;rw[hx];exact h|c::t,cur,h,x,hx=>by
  have hu:=qny c;rw[dh]at hx;split at hx
  ·exact qfb t _ (by rw[qM];omega) x hx
  ·rcases List.mem_cons.1 hx with e|e
   ·rw[e];exact h
   ·exact qfb t _ (by omega) x e
def fw(nm:Bs):Nat->List Bs->Bs|_,[]=>[]|n,p::ps=>(((((([59,32]:Bs)++nm)++([42]:Bs))++decDigits n)++([42,61]:Bs))++p)++fw nm (n+1) ps
def q2v(nm:Bs)(hn:nm.length<=1000):∀(ps:List Bs)(n:Nat),n+ps.length<=100000000->(∀x∈ps,x.length<=60)->(fw nm n ps).length<=ps.length*1200
 |[],_,_,_=>by simp[fw]|p::ps,n,h,hs=>by
  simp only[qL]at h;have h1:=q2v nm hn ps (n+1) (by omega) (fun x hx=>hs x (qE _ hx))
  have h2:=hs p qH;have h3:=qbz 9 n (by omega) (by omega)
  rw[fw];simp only[qM,qL,qZ];omega
def zxv(fu n:Nat):∀(ab aa cur:Bs)(done:List Bs),aa.length<n->ab.length+aa.length<1000000->done.length<=ab.length->cur.length<=60 ->
  qaf fu n (ab++aa) ((ab.length+aa.length:Nat):Int) (ab.length:Int) (done++[cur])=some (done++dh cur aa):=by
 have hrm:=iq
 induction n with
 |zero=>intro ab aa cur done h;omega|succ n ih=>
  intro ab aa cur done h hb hd hc;rw[qaf,qu4]
  cases aa with
  |nil=>rw[a6];rfl|cons c t=>
   simp only[qL]at h hb;have hu:=qny c;have e:(ab.length+(c::t).length:Nat)=ab.length+1+t.length:=by simp only[qL];omega
   have p1:qd5 fu (qaf fu n) (ab++c::t) (dp c) ((ab.length+(c::t).length:Nat):Int) (ab.length:Int) (done++[cur])=some (done++dh cur (c::t)):=by
    have hl:(((done++[cur]).length:Nat):Int)-1=(done.length:Int):=by simp
    rw[qd5,hl,me,aj,ng,qB,qcp _ _,dh,a8 _,e]
    have st:=fun cur' done'(h1:done'.length<=ab.length+1)(h2:cur'.length<=60)=>ih (ab++[c]) t cur' done' (by omega) (by simp;omega) (by simpa using h1) h2
    simp only[qM,qL,qZ,qS,wM,wO]at st;by_cases h60:cur.length+(dp c).length<=60
    ·rw[aj,qX h60,aj,qB,aj (by simp only[bh];omega),aj,qB,tu]
     exact st (cur++dp c) done (by omega) (by rw[qM];omega)
    ·rw[a6,qW h60,aj (by simp only[qM,qL,qZ];omega)]
     have:=st (dp c) (done++[cur]) (by simp;omega) (by omega)
     refine this.trans ?_;simp
   rw[aj (by simp only[qL];omega),a8 _,aj (by rw[iw];omega),da,qB,qew,qB,zor]
   rw[dp]at p1;obtain⟨d1,d2,d3⟩:=zjs c;cases hk:tk c
   ·rw[fp,qB,d1,qB,qB,d2,qB];rw[hk,qW,← d3]at p1
    exact p1
   ·rw[dd];rw[hk,qX rfl]at p1;exact p1
def d9:Bs:=[117,116,102,56,39,39]
def zyb(fu:Nat)(hfu:90000000<=fu)(v:Bs)(h:v.length<=500000:=by omega):qno fu v=some (dh d9 v):=by
 have:=zxv fu fu [] v d9 [] (by omega) (by simp;omega) (by simp) (by decide)
 simpa [qno,d9] using this
def fo(c:UInt8):Bool:=decide (32<=c)&&decide (c<=126)
def z0d(c:UInt8):qg2 c=some (fo c):=by unfold qg2 fo;by_cases h:(32:UInt8)<=c<;>simp[h]
def zrx(fu:Nat)(s:Bs)(h:s.length<fu:=by omega)(hb:s.length<9223372036854775807:=by omega):qki fu s=some (s.all fo):=by
 have e:∀n,qec fu n=wk qg2 n:=by
  intro n;induction n with|zero=>rfl|succ n ih=>rw[qec,ih];funext a b c;rfl
 unfold qki;rw[e];exact qo7 _ _ z0d _ _ h hb
def quo(s:Bs):Bs:=ej 92 34 [92,92] [92,34] s
def qth(s:Bs):(quo s).length<=2*s.length:=by
 unfold quo;rw[qmt (by decide)]
 have h1:=List.count_le_length (a:=(92:UInt8)) (l:=s);unfold jh;have:List.count 92 s+List.count 34 s<=s.length:=by
  induction s with
  |nil=>simp|cons c s ih=>
   have h1:=List.count_le_length (a:=(92:UInt8)) (l:=s);have:=ih h1;simp only[List.count_cons,qL];by_cases e:c=92
   ·subst e;simp;omega
   ·have:(c==92)=false:=by simpa using e
    rw[this];simp only[wJ,if_false];split<;>omega
 omega
def d5(p:bt):Bs:=if dq p.2=true then((([59,32]:Bs)++p.1)++([61]:Bs))++p.2
 else if p.2.length<=60/\p.2.all fo=true then((((([59,32]:Bs)++p.1)++([61,34]:Bs))++quo p.2)++([34]:Bs))
 else fw p.1 0 (dh d9 p.2)
def zta(fu n:Nat)(z:bt)(hz:z.1.length<=1000):∀(ab aa:List Bs)(out:Bs),aa.length<n->ab.length+aa.length<1000000->out.length<=ab.length*1200->(∀x∈aa,x.length<=60) ->
  qeu fu n out ((ab.length+aa.length:Nat):Int) (ab.length:Int) z (ab++aa)=some (out++fw z.1 ab.length aa):=by
 induction n with
 |zero=>intro ab aa out h;omega|succ n ih=>
  intro ab aa out h hb ho hs;rw[qeu,qx1]
  cases aa with
  |nil=>rw[a6];simp[fw]|cons p t=>
   simp only[qL]at h hb;have hp:=hs p qH;have hd:=qbz 9 ab.length (by omega) (by omega)
   rw[aj (by simp only[qL];omega),aj,ng,qB,aj (by simp[bh];omega),aj (by simp[bh];omega)]
   have hi:oe (ab.length:Int)=some (decDigits ab.length):=by unfold oe;rw[aj,qij]
   rw[hi,qB,aj (by simp[bh];omega),aj (by simp[bh];omega),aj (by simp[bh];omega),aj (by simp[bh];omega),a8 _]
   have st:=ih (ab++[p]) t (out++((((((([59,32]:Bs)++z.1)++([42]:Bs))++decDigits ab.length)++([42,61]:Bs))++p))) (by omega) (by simp;omega) (by simp only[qM,qL,qZ];omega) (fun x hx=>hs x (qE _ hx))
   simp only[qM,qL,qZ,wO]at st;rw[show(ab.length+(p::t).length:Nat)=ab.length+1+t.length by simp only[qL];omega]
   rw[show(ab++[p])++t=ab++p::t by simp]at st
   refine st.trans ?_;rw[fw,qS]
def zi5(fu:Nat)(hfu:90000000<=fu)(p:bt)(h1:p.1.length<=1000)(h2:p.2.length<=100000):qmv fu p=some (d5 p):=by
 unfold qmv d5;rw[ql4 fu _,qB]
 cases ht:dq p.2
 ·rw[bc rfl,qW]
  have hno:qa3 fu false p=some (fw p.1 0 (dh d9 p.2)):=by
   rw[qa3,bc rfl,qvp,zyb fu hfu _,qB]
   have hl:=uk p.2 d9;have:=zta fu fu p h1 [] (dh d9 p.2) [] (by omega) (by simp;omega) (by simp) (qfb _ _ (by decide))
   simpa using this
  by_cases h60:p.2.length<=60
  ·rw[aj,zrx fu _,qB]
   cases ha:p.2.all fo
   ·rw[hno,qW]
   ·rw[qX ⟨h60,rfl⟩,qa3,a7 rfl,aj (by simp[bh];omega),aj (by simp[bh];omega)]
    have hq:=qth p.2;rw[show qf8 ([([92]:Bs),([92,92]:Bs),([34]:Bs),([92,34]:Bs)]:List Bs)=some (0,0,0,[[92],[92,92],[34],[92,34]]) by rfl,qB]
    have hr:ue p.2 0 0 0 [[92],[92,92],[34],[92,34]]=some (quo p.2):=by
     unfold ue quo;simp only;rw[aj (by refine⟨?_,?_,by decide,by omega⟩<;>first|rfl|trivial)]
    rw[hr,qB,aj (by simp[bh];omega),aj (by simp[bh];omega)]
  ·rw[a6,hno,qW]
 ·rw[a7 rfl,qX rfl,aj (by simp[bh];omega),aj (by simp[bh];omega),aj (by simp[bh];omega)]
def zyy(p:bt)(h1:p.1.length<=1000)(h2:p.2.length<=100000):(d5 p).length<=200000000:=by
 have hq:=qth p.2;have hl:=uk p.2 d9;have hn:=q2v p.1 h1 (dh d9 p.2) 0 (by omega) (qfb _ _ (by decide))
 unfold d5;split
 ·simp;omega
 ·split
  ·simp;omega
  ·omega
def bp(m:cv):Bs:=((m.1++([47]:Bs))++m.2.1)++m.2.2.flatMap d5
def SmV(m:cv):Prop:=m.1.length<=1000/\m.2.1.length<=1000/\m.2.2.length<=1000/\∀p∈m.2.2,p.1.length<=1000/\p.2.length<=100000
def qc2{s:Bs}(h:dq s=true):s.length<=60:=by unfold dq at h;simp at h;exact h.1.2
def q5g:∀(l ab:List bt),(ia ab l).1=0->∀p∈l,dq p.1=true/\p.1.length<=20/\p.2.length<=500/\validD p.2=true
 |[],_,_,p,hp=>by cases hp
 |q::l,ab,h,p,hp=>by
  rw[ia]at h;split at h
  ·cases h
  ·split at h
   ·cases h
   ·split at h
    ·cases h
    ·split at h
     ·cases h
     ·rename_i g1 g2 g3 g4;rcases List.mem_cons.1 hp with e|e
      ·subst e;refine⟨?_,by omega,by omega,?_⟩
       ·cases hh:dq p.1
        ·exact absurd (.inl hh) g1
        ·rfl
       ·cases hh:validD p.2
        ·exact absurd hh g4
        ·rfl
      ·exact q5g l _ h p e
def qax{m:cv}(h:(dw m).1=0):dq m.1=true/\dq m.2.1=true/\m.2.2.length<=60/\∀p∈m.2.2,dq p.1=true/\p.1.length<=20/\p.2.length<=500/\validD p.2=true:=by
 unfold dw at h;split at h
 ·cases h
 ·split at h
  ·cases h
  ·rename_i g1 g2;refine⟨?_,?_,by omega,q5g _ _ h⟩
   ·cases hh:dq m.1
    ·exact absurd (.inl hh) g1
    ·rfl
   ·cases hh:dq m.2.1
    ·exact absurd (.inr hh) g1
    ·rfl
def xd{m:cv}(h:(dw m).1=0):SmV m:=by
 obtain⟨h1,h2,h3,h4⟩:=qax h;have:=qc2 h1;have:=qc2 h2;exact⟨by omega,by omega,by omega,fun p hp=>by have:=h4 p hp;omega⟩
def SmV.smD{m:cv}(h:SmV m):yz m:=⟨by have:=h.1;omega,by have:=h.2.1;omega,by have:=h.2.2.1;omega,fun x hx=>by have:=h.2.2.2 x hx;omega⟩
def z0o(fu n:Nat)(hfu:90000000<=fu)(z:Int×Int):∀(ab aa:List bt)(out:Bs),aa.length<n->ab.length+aa.length<=1000->(∀p∈aa,p.1.length<=1000/\p.2.length<=100000)->out.length<=3000+ab.length*200000000 ->
  qc7 fu n out (ab++aa) ((ab.length+aa.length:Nat):Int) (ab.length:Int) z=some (if 4000<(out++aa.flatMap d5).length then([],(1,-4)) else(out++aa.flatMap d5,(0,0))):=by
 induction n with
 |zero=>intro ab aa out h;omega|succ n ih=>
  intro ab aa out h hb hs ho;rw[qc7,qsa]
  cases aa with
  |nil=>
   rw[a6]
   simp only[List.flatMap_nil,List.append_nil];by_cases h4:4000<out.length
   ·rw[aj,qX h4,o5];rfl
   ·rw[a6,qW h4,zt3];rfl
  |cons p t=>
   simp only[qL]at h hb;have hp:=hs p qH;have hpl:=zyy p hp.1 hp.2;rw[aj (by simp only[qL];omega),da,qB,zi5 fu hfu p hp.1 hp.2,qB,aj (by simp only[bh];omega),a8 _]
   have st:=ih (ab++[p]) t (out++d5 p) (by omega) (by simp;omega) (fun x hx=>hs x (qE _ hx)) (by simp;omega)
   simp only[qM,qL,qZ,wO]at st;rw[show(ab++[p])++t=ab++p::t by simp]at st
   rw[show(ab.length+(p::t).length:Nat)=ab.length+1+t.length by simp only[qL];omega]
   refine st.trans ?_;simp only[List.flatMap_cons,qS,qM,Nat.add_assoc]
def quu(fu:Nat)(hfu:90000000<=fu)(m:cv)(hs:yz m):uf fu m=some (if(dw m).1≠0 then([],dw m) else if 4000<(bp m).length then([],(1,-4)) else(bp m,(0,0))):=by
 unfold uf;rw[qud fu hfu m hs,qB,jx,qB,jg];by_cases h:(dw m).1≠0
 ·rw[qX h,qX h]
 ·rw[qW h,qW h];obtain⟨g1,g2,g3,g4⟩:=xd (m:=m) (by omega)
  rw[aj (by simp[bh];omega),aj (by simp[bh];omega)]
  have:=z0o fu fu hfu (0,0) [] m.2.2 ((m.1++([47]:Bs))++m.2.1) (by omega) (by simp;omega) g4 (by simp;omega)
  simpa [bp] using this
end Go.Sym
namespace Go.Sym
abbrev bq:Bs:=[67,111,110,116,101,110,116,45,84,121,112,101]
abbrev mpN:Bs:=[109,117,108,116,105,112,97,114,116]
abbrev cy:Bs:=[98,111,117,110,100,97,114,121]
def il(l:List al):Option cv:=match d6 l bq with|[v]=>p7 v|_=>none
def tyP(fu:Nat)(k:Int)(v:Bs):Option qjz:=(qcr fu v).bind fun x4=>cf x4 (fun a5=>(e7 a5.2.2).bind fun x7=>some (.inl (a5.1,(a5.2.1,(k,!x7))))) (fun b6=>(e7 (b6.2.2.1,b6.2.2.2.1)).bind fun x8=>some (.inr (b6.1,(b6.2.1,(k,(!x8,b6.2.2.2.2))))))
def zjq(fu:Nat)(hfu:90000000<=fu)(k:Int)(v:Bs)(h:v.length<=4000000):tyP fu k v=some (match p7 v with|some m => .inr (m.1,(m.2.1,(k,(true,m.2.2))))|none => .inl ([],([],(k,false)))):=by
 unfold tyP;obtain⟨R,h1,h2⟩:=zmj fu hfu v h;rw[h1,qB]
 cases hp:p7 v with
 |none=>
  rw[hp]at h2;obtain⟨f,rfl,hf⟩:=h2;simp only[cf,jx,qB];have:(f.1 != 0)=true:=by simpa using hf
  rw[this];rfl
 |some m=>rw[hp]at h2;simp only at h2;subst h2;rfl
section typ
variable(fu:Nat)(hfu:90000000<=fu)(l:List al)(hs:∀x∈l,x.1.length<=4000000/\x.2.length<=4000000)(hl:l.length<=4000000)
include hfu hs hl
def z1y(k:Nat)(y:al)(hy:aq l (k:Int)=some y)(n:Nat):∀(ab aa:List al),l=ab++aa->aa.length<n ->
  ut fu n l (k:Int) (ab++aa) ((ab.length+aa.length:Nat):Int) (ab.length:Int) [] []=if d6 aa bq=[] then tyP fu (k:Int) y.2 else some (.inl ([],([],(0,false)))):=by
 induction n with
 |zero=>intro ab aa _ h;omega|succ n ih=>
  intro ab aa hp h;have ac:l.length=ab.length+aa.length:=by rw[hp];simp
  rw[ut,qil]
  cases aa with
  |nil=>rw[a6,a6,hy,qB,show d6 [] bq=[] from rfl,qX rfl];rfl|cons x t=>
   simp only[qL]at h ac;have hx:=hs x (by rw[hp];simp)
   have st:=ih (ab++[x]) t (by rw[hp];simp) (by omega)
   simp only[qM,qL,qZ,qS,wM,wO]at st;rw[aj (by simp only[qL];omega),da,qB,o7 fu hfu _ _ hx.1 (by simp),qB,qr]
   cases hk:lk x.1 bq
   ·rw[bc rfl,qbh,a8 _,qW (show ¬((x.1.map lo==bq.map lo)=true) by show ¬lk x.1 bq=true;rw[hk];simp),show(ab.length+(x::t).length:Nat)=ab.length+1+t.length by simp only[qL];omega]
    exact st
   ·rw[a7 rfl,aj,qX (show(x.1.map lo==bq.map lo)=true from hk),qW]
def zpc(n:Nat):∀(ab aa:List al),l=ab++aa->aa.length<n ->
  (d6 aa bq=[]->ut fu n l (-1) (ab++aa) ((ab.length+aa.length:Nat):Int) (ab.length:Int) [] []=some (.inl ([],([],(0,false))))) /\
  (∀u x w,aa=u++x::w->d6 u bq=[]->lk x.1 bq=true->ut fu n l (-1) (ab++aa) ((ab.length+aa.length:Nat):Int) (ab.length:Int) [] []=if d6 w bq=[] then tyP fu ((ab.length+u.length:Nat):Int) x.2 else some (.inl ([],([],(0,false))))):=by
 induction n with
 |zero=>intro ab aa _ h;omega|succ n ih=>
  intro ab aa hp h;have ac:l.length=ab.length+aa.length:=by rw[hp];simp
  rw[ut,qil]
  cases aa with
  |nil=>exact⟨fun _=>by rw[a6,aj],fun u x w e=>by simp at e⟩
  |cons y t=>
   simp only[qL]at h ac;have hy:=hs y (by rw[hp];simp)
   obtain⟨s1,s2⟩:=ih (ab++[y]) t (by rw[hp];simp) (by omega)
   simp only[qM,qL,qZ,qS,wM,wO]at s1 s2;rw[aj (by simp only[qL];omega),da,qB,o7 fu hfu _ _ hy.1 (by simp),qB,qr,show(ab.length+(y::t).length:Nat)=ab.length+1+t.length by simp only[qL];omega]
   cases hk:lk y.1 bq
   ·rw[bc rfl,qbh,a8 _,qW (show ¬((y.1.map lo==bq.map lo)=true) by show ¬lk y.1 bq=true;rw[hk];simp)]
    refine⟨s1,fun u x w e hu hx => ?_⟩
    cases u with
    |nil=>rw[List.nil_append,List.cons.injEq]at e;rw[e.1,hx]at hk;cases hk
    |cons z u=>
     rw[wK,List.cons.injEq]at e;obtain⟨rfl,e⟩:=e;rw[qr,qW (show ¬((y.1.map lo==bq.map lo)=true) by show ¬lk y.1 bq=true;rw[hk];simp)]at hu
     have:=s2 u x w e hu hx;rw[show(ab.length+(y::u).length:Nat)=ab.length+1+u.length by simp only[qL];omega]
     exact this
   ·rw[a7 rfl,a6,qbh,a8 _,qX (show(y.1.map lo==bq.map lo)=true from hk)]
    refine⟨fun e=>by simp at e,fun u x w e hu hx => ?_⟩
    cases u with
    |nil=>
     rw[List.nil_append,List.cons.injEq]at e;obtain⟨rfl,rfl⟩:=e;have:=z1y fu hfu l hs hl ab.length y (by rw[hp];exact da ab y t) n (ab++[y]) t (by rw[hp];simp) (by omega)
     simp only[qM,qL,qZ,qS,wM,wO]at this;exact this
    |cons z u=>
     rw[wK,List.cons.injEq]at e;obtain⟨rfl,e⟩:=e;rw[qr,qX (show(y.1.map lo==bq.map lo)=true from hk)]at hu
     simp at hu
def qm4:∃R,ye fu l=some R/\match il l with
  |some m=>∃ab x aa,l=ab++x::aa/\d6 l bq=[x.2]/\lk x.1 bq=true/\d6 ab bq=[]/\d6 aa bq=[]/\R = .inr (m.1,(m.2.1,((ab.length:Int),(true,m.2.2))))|none=>∃k,R = .inl ([],([],(k,false))):=by
 obtain⟨h1,h2⟩:=zpc fu hfu l hs hl fu [] l rfl (by omega)
 simp only[List.nil_append,qZ,wO]at h1 h2;unfold ye;rw[show((0:Nat):Int)=0 from rfl]at h1 h2
 have hd:d6 l bq=[]\/∃u x w,l=u++x::w/\d6 u bq=[]/\lk x.1 bq=true:=by
  clear h1 h2 hs hl
  induction l with
  |nil=>exact .inl rfl|cons y t ih=>
   rw[qr];cases hk:lk y.1 bq
   ·rw[qW (show ¬((y.1.map lo==bq.map lo)=true) by show ¬lk y.1 bq=true;rw[hk];simp)]
    rcases ih with g|⟨u,x,w,e,g1,g2⟩
    ·exact .inl g
    ·exact .inr ⟨y::u,x,w,by rw[e];rfl,by rw[qr,qW (show ¬((y.1.map lo==bq.map lo)=true) by show ¬lk y.1 bq=true;rw[hk];simp)];exact g1,g2⟩
   ·exact .inr ⟨[],y,t,rfl,rfl,hk⟩
 have vapp:∀(u w:List al)(x:al),lk x.1 bq=true->d6 (u++x::w) bq=d6 u bq++x.2::d6 w bq:=fun u w x hx=>by
  unfold d6;rw[List.filter_append,List.filter_cons,qX (show(x.1.map lo==bq.map lo)=true from hx),List.map_append];rfl
 rcases hd with g|⟨u,x,w,e,g1,g2⟩
 ·refine⟨_,h1 g,?_⟩;unfold il;rw[g];exact⟨0,rfl⟩
 ·have hr:=h2 u x w e g1 g2;have hv:=vapp u w x g2;rw[← e,g1,List.nil_append]at hv;by_cases hw:d6 w bq=[]
  ·rw[qX hw,zjq fu hfu _ _ (hs x (by rw[e];simp)).2]at hr
   refine⟨_,hr,?_⟩;rw[hw]at hv;unfold il;rw[hv];simp only
   cases hp:p7 x.2 with|none=>exact⟨_,rfl⟩|some m=>exact⟨u,x,w,e,rfl,g2,g1,hw,rfl⟩
  ·rw[qW hw]at hr;refine⟨_,hr,?_⟩;unfold il;rw[hv]
   cases hh:d6 w bq with|nil=>exact absurd hh hw|cons=>exact⟨0,rfl⟩
end typ
def qjn{l:List al}{m:cv}(h:il l=some m):(dw m).1=0:=by
 unfold il at h;split at h
 ·exact(zww h).2
 ·cases h
def bOk(b:Bs):Bool := !b.isEmpty&&(decide (b.length<=60)&&(b.all fo && !(b.getLast? == some 32)))
def bnd(l:List al):Option Bs:=match il l with|some m=>if lk m.1 mpN=true/\(ez m.2.2 cy).2=true/\bOk (ez m.2.2 cy).1=true then some (ez m.2.2 cy).1 else none|none=>none
def znt(l:List bt)(nm:Bs)(M:Nat)(h:∀x∈l,x.2.length<=M):(ez l nm).1.length<=M:=by
 induction l with
 |nil=>simp[ez,par]|cons p l ih=>
  rw[qdi];split
  ·exact h p qH
  ·exact ih (fun x hx=>h x (qE _ hx))
def zvx(c:UInt8):qfg c=some (fo c):=by unfold qfg fo;by_cases h:(32:UInt8)<=c<;>simp[h]
def zbm(fu:Nat)(s:Bs)(h:s.length<fu:=by omega)(hb:s.length<9223372036854775807:=by omega):qke fu s=some (s.all fo):=by
 have e:∀n,qgl fu n=wk qfg n:=by
  intro n;induction n with|zero=>rfl|succ n ih=>rw[qgl,ih];funext a b c;rfl
 unfold qke;rw[e];exact qo7 _ _ zvx _ _ h hb
def zom(t:Bs)(hb:t.length<=4000000:=by omega):qh5 t [32]=some (t.getLast? == some 32):=by
 unfold qh5 qgr;rw[show(([32]:List UInt8).length:Int)=1 from rfl]
 rcases List.eq_nil_or_concat t with rfl|⟨u,c,rfl⟩
 ·rfl
 ·rw[List.concat_eq_append]at *;simp only[qM,qL,qZ]at hb;rw[vi,uj _,aj,aj,qB,List.getLast?_concat]
  have e:List.drop ((u.length:Nat):Int).toNat (u++[c])=[c]:=qab u [c];rw[e];congr 1;rw[Bool.eq_iff_iff];simp
def z03(fu:Nat)(hfu:90000000<=fu)(l:List al)(hs:∀x∈l,x.1.length<=4000000/\x.2.length<=4000000)(hl:l.length<=4000000):∃R,qkf fu l=some R/\match bnd l with
  |some b=>R=(b,true)|none=>R.2=false:=by
 obtain⟨R,h1,h2⟩:=qm4 fu hfu l hs hl;unfold qkf bnd;rw[h1,qB]
 cases ht:il l with
 |none=>
  rw[ht]at h2;obtain⟨k,rfl⟩:=h2;exact⟨_,rfl,rfl⟩
 |some m=>
  rw[ht]at h2;obtain⟨ab,x,aa,e1,e2,e3,e4,e5,rfl⟩:=h2;have h0:=qjn ht;have hv:=xd h0;simp only[cf];rw[dd,o7 fu hfu _ _ (by have:=hv.1;omega) (by simp),qB]
  cases hk:lk m.1 mpN
  ·rw[xy,fp];exact⟨_,rfl,by simp⟩
  ·have hbl:=znt m.2.2 cy 100000 (fun x hx=>(hv.2.2.2 x hx).2)
   rw[xy,dd,qws,q7l fu hfu (m.1,(m.2.1,m.2.2)) cy (by simp) hv.smD,qB,qW (by simpa using h0)]
   simp only;generalize hb:(ez m.2.2 cy).1=b at *;generalize hi:(ez m.2.2 cy).2=i at *;unfold bOk
   cases b with
   |nil=>rw[show(!(([]:Bs)==[]))=false from rfl,bc rfl];cases i<;>exact⟨_,rfl,by simp⟩
   |cons c b=>
    rw[show(!((c::b:Bs)==[]))=true from rfl,a7 rfl]
    by_cases h60:(c::b).length<=60
    ·rw[aj,zbm fu _,qB]
     cases ha:(c::b).all fo
     ·rw[bc rfl];cases i<;>exact⟨_,rfl,by simp[ha]⟩
     ·rw[a7 rfl,zom _,qB]
      cases i
      ·exact⟨_,rfl,by simp⟩
      ·rw[a7 rfl];refine⟨_,rfl,?_⟩;cases hg:((c::b).getLast? == some 32)
       ·rw[qX ⟨by first|rfl|trivial,by first|rfl|trivial,by simp only[List.isEmpty_cons,Bool.not_false,Bool.true_and,Bool.and_true];exact decide_eq_true h60⟩];rfl
       ·rw[qW];rfl
    ·rw[a6]
     have hnot:¬(decide ((c::b).length<=60)=true):=by simpa using h60
     cases i
     ·exact⟨_,rfl,by simp⟩
     ·refine⟨_,rfl,?_⟩;rw[qW (by
       rintro⟨_,_,g⟩
       rw[qA,qA]at g;exact hnot g.2.1)]
def zpz{l:List al}{b:Bs}(h:bnd l=some b):1<=b.length/\b.length<=60:=by
 unfold bnd at h;split at h
 ·split at h
  ·rename_i hc;cases h
   have q:=hc.2.2;unfold bOk at q;simp only[qA,Bool.not_eq_true',decide_eq_true_eq]at q;refine⟨?_,q.2.1⟩;generalize (ez _ cy).1=z at *
   cases z with|nil=>simp at q|cons=>simp
  ·cases h
 ·cases h
def qj4(t b:Bs):Int:=if t=([45,45]:Bs)++b then 1 else if t=(([45,45]:Bs)++b)++([45,45]:Bs) then 2 else 0
def gv(line b:Bs):Int:=qj4 (ew line) b
def q08{α:Type}{a b:Bs}{x y:α}:(bif a==b then x else y)=if a=b then x else y:=by
 by_cases h:a=b
 ·rw[a7 (by simpa using h),qX h]
 ·rw[bc (by simpa using h),qW h]
def zxx(fu:Nat)(hfu:90000000<=fu)(line b:Bs)(h:line.length<=4000000)(hb:b.length<=1000):qhg fu line b=some (gv line b):=by
 unfold qhg gv qj4;rw[qub fu line,qB,aj (by simp[bh];omega),q08,aj (by simp[bh];omega),aj (by simp[bh];omega),q08]
 split
 ·rfl
 ·split<;>rfl
def bm:Bs->Bs|[]=>[]|c::t=>if d7 c t=true then[] else c::bm t
def bu:Bs->Bs|[]=>[]|c::t=>if d7 c t=true then t.tail else bu t
def se:∀r:Bs,(r=bm r++13::10::bu r/\Lib.index r [13,10]=((bm r).length:Int))\/(bm r=r/\bu r=[]/\Lib.index r [13,10] = -1)
 |[] => .inr ⟨rfl,rfl,rfl⟩|c::t=>by
  have hp:([13,10]:Bs).isPrefixOf (c::t)=d7 c t:=by
   unfold d7
   cases t with|nil=>simp[List.isPrefixOf]|cons d t=>simp[List.isPrefixOf,zye]
  rw[bm,bu,Lib.index,hp];by_cases hc:d7 c t=true
  ·obtain⟨rfl,r',rfl⟩:=qed hc;rw[qX hc,qX hc,qX hc];exact .inl ⟨rfl,rfl⟩
  ·rw[qW hc,qW hc,qW hc];rcases se t with⟨h1,h2⟩|⟨h1,h2,h3⟩
   ·refine .inl ⟨by rw[wK,← h1],?_⟩
    rw[h2,qW];simp
   ·refine .inr ⟨by rw[h1],h2,?_⟩
    rw[h3];rfl
def qkx(r:Bs):r.take (bm r).length=bm r:=by
 rcases se r with⟨h1,_⟩|⟨h1,_,_⟩
 ·have e:r.take (bm r).length=(bm r++13::10::bu r).take (bm r).length:=by rw[← h1]
  rw[e,List.take_left]
 ·rw[h1];simp
def qr2(r:Bs):bu r <:+ r:=by
 rcases se r with⟨h1,_⟩|⟨_,h2,_⟩
 ·exact⟨bm r++[13,10],by simp;exact h1.symm⟩
 ·rw[h2];exact List.nil_suffix
def tr(c:UInt8)(t:Bs):(bu (c::t)).length<=t.length:=by
 rcases se (c::t) with⟨h1,_⟩|⟨_,h2,_⟩
 ·have:=congrArg List.length h1;simp only[qM,qL]at this;omega
 ·rw[h2];simp
def qs6(r:Bs):(bm r).length<=r.length:=by
 rcases se r with⟨h1,_⟩|⟨h1,_,_⟩
 ·have:=congrArg List.length h1;simp only[qM,qL]at this;omega
 ·rw[h1];exact wF _
def vy(s r:Bs):Bs:=s.take (s.length-r.length-2)
def jc(st:Option Bs)(r:Bs)(out:List Bs):List Bs:=match st with|some s=>out++[vy s r]|none=>out
def gx(b:Bs):Nat->Bs->Option Bs->List Bs->List Bs
 |0,_,_,out=>out|_+1,[],st,out=>match st with|some s=>out++[s]|none=>out
 |n+1,c::t,st,out=>if gv (bm (c::t)) b=0 then gx b n (bu (c::t)) st out
  else if gv (bm (c::t)) b=2 then jc st (c::t) out else gx b n (bu (c::t)) (some (bu (c::t))) (jc st (c::t) out)
def mp(body:Bs)(st:Option Bs):Int:=match st with|some s=>pos body s|none => -1
def zus{body s r:Bs}(hs:s <:+ body)(hr:r <:+ s)(hb:body.length<=4000000):0<=pos body s/\pos body s<=(if af (pos body r-2)>pos body s then af (pos body r-2) else pos body s)/\(if af (pos body r-2)>pos body s then af (pos body r-2) else pos body s)<=(body.length:Int) /\
  List.take ((if af (pos body r-2)>pos body s then af (pos body r-2) else pos body s).toNat-(pos body s).toNat) (List.drop (pos body s).toNat body)=vy s r:=by
 have h1:=hs.length_le;have h2:=hr.length_le;rw[qjg hs];unfold vy pos;rw[me]
 refine⟨by omega,?_,?_,?_⟩
 ·split<;>omega
 ·split<;>omega
 ·congr 1;split<;>omega
def z1a{body r:Bs}(hr:r <:+ body)(hb:body.length<=4000000):(if(body.length:Int)<af (af (pos body r+((bm r).length:Int))+2) then(body.length:Int) else af (af (pos body r+((bm r).length:Int))+2))=pos body (bu r):=by
 have h1:=hr.length_le;rcases se r with⟨h,_⟩|⟨h,h2,_⟩
 ·have:=congrArg List.length h;simp only[qM,qL]at this;unfold pos;rw[qcp _ _,me]
  split<;>omega
 ·rw[h2,h,qfo];unfold pos;rw[qcp _ _,me]
  split<;>omega
def zvw(fu:Nat)(hfu:90000000<=fu)(body b:Bs)(hb:body.length<=4000000)(hbb:b.length<=1000)(r:Bs)(hr:r <:+ body)(st:Option Bs)(hst:∀s,st=some s->s <:+ body/\r <:+ s)(z out:List Bs)(ho:out.length<=4000000:=by omega) :
  qar fu (pos body r) (bm r) body b (mp body st) z out =
   if gv (bm r) b=0 then some (.inl (body,(b,(mp body st,(z,out))))) else if gv (bm r) b=2 then some (.inr (body,(b,(mp body st,jc st r out)))) else some (.inl (body,(b,(pos body (bu r),(z,jc st r out))))):=by
 have hrm:=iq;have hcl:=qs6 r;have hrl:=hr.length_le;unfold qar;rw[zxx fu hfu _ b (by omega) hbb,qB,ke]
 by_cases h0:gv (bm r) b=0
 ·rw[qX h0,qX h0]
 rw[qW h0,qW h0,z1a hr hb,ke]
 cases st with
 |none=>
  rw[show mp body none = -1 from rfl,a6]
  try rw[ke]
  by_cases h2:gv (bm r) b=2
  ·rw[qX h2,qX h2];rfl
  ·rw[qW h2,qW h2];rfl
 |some s=>
  obtain⟨g1,g2⟩:=hst s rfl;obtain⟨q1,q2,q3,q4⟩:=zus g1 g2 hb;rw[show mp body (some s)=pos body s from rfl,aj q1,aj ⟨q1,q2,q3⟩,q4,aj]
  by_cases h2:gv (bm r) b=2
  ·rw[qX h2,qX h2];rfl
  ·rw[qW h2,qW h2];rfl
def q9f(st:Option Bs)(r:Bs)(out:List Bs):(jc st r out).length<=out.length+1:=by unfold jc;cases st<;>simp
def q16(st:Option Bs)(out:List Bs):List Bs:=match st with|some s=>out++[s]|none=>out
def zmw(fu:Nat)(hfu:90000000<=fu)(body b:Bs)(hb:body.length<=4000000)(hbb:b.length<=1000)(z:List Bs)(n:Nat):∀(r:Bs)(st:Option Bs)(out:List Bs),r <:+ body->(∀s,st=some s->s <:+ body/\r <:+ s)->r.length<n->out.length+r.length<=4000000 ->
  (∃x,ws fu n (pos body r) body body b (mp body st) z out=some (.inl (body,(body,(b,(x,gx b n r st out)))))) \/
  (∃st' out',ws fu n (pos body r) body body b (mp body st) z out=some (.inr (body,(body,(b,(mp body st',(z,out'))))))/\gx b n r st out=q16 st' out'/\out'.length<=4000000/\∀s,st'=some s->s <:+ body):=by
 induction n with
 |zero=>intro r st out _ _ h;omega|succ n ih=>
  intro r st out hr hst h ho;rw[ws,qwg]
  cases r with
  |nil=>
   rw[qfo,a6]
   exact .inr ⟨st,out,rfl,rfl,by omega,fun s hs=>(hst s hs).1⟩
  |cons c t=>
   simp only[qL]at h ho;have hL:(c::t).length=t.length+1:=rfl;have hrl:=hr.length_le;simp only[qL]at hrl;have hcl:=qs6 (c::t);have hnl:=tr c t;have hge:=qnx body (c::t);have hnx:bu (c::t) <:+ body:=(qr2 _).trans hr;rw[aj (q0d hr),aj hge,aj (by decide),qjg hr]
   have hI:oo (c::t) [13,10]=some (Lib.index (c::t) [13,10]):=by
    unfold oo;rw[aj (by refine⟨by simp,by simp only[qL];omega,by simp[maxLen]⟩)]
   have step:∀q:Option qol,q=((qar fu (pos body (c::t)) (bm (c::t)) body b (mp body st) z out).bind fun x2=>cf x2 (fun a3=>ws fu n (pos body (bu (c::t))) body a3.1 a3.2.1 a3.2.2.1 a3.2.2.2.1 a3.2.2.2.2) (fun b4=>some (.inl (body,b4)))) ->
     (∃x,q=some (.inl (body,(body,(b,(x,gx b (n+1) (c::t) st out))))))\/(∃st' out',q=some (.inr (body,(body,(b,(mp body st',(z,out'))))))/\gx b (n+1) (c::t) st out=q16 st' out'/\out'.length<=4000000/\∀s,st'=some s->s <:+ body):=by
    intro q hq;rw[hq,zvw fu hfu body b hb hbb (c::t) hr st hst z out,gx]
    have hal:=q9f st (c::t) out;by_cases h0:gv (bm (c::t)) b=0
    ·simp only[qX h0,qB,cf];exact ih (bu (c::t)) st out hnx (fun s hs=>⟨(hst s hs).1,(qr2 _).trans (hst s hs).2⟩) (by omega) (by omega)
    ·simp only[qW h0];by_cases h2:gv (bm (c::t)) b=2
     ·simp only[qX h2,qB,cf];exact .inl ⟨_,rfl⟩
     ·simp only[qW h2,qB,cf];exact ih (bu (c::t)) (some (bu (c::t))) _ hnx (fun s hs=>by cases hs;exact⟨hnx,List.suffix_refl _⟩) (by omega) (by omega)
   apply step;rw[hI,qB];rcases se (c::t) with⟨h1,h2⟩|⟨h1,h2,h3⟩
   ·have ac:=congrArg List.length h1;simp only[qM,qL]at ac;have e1:af (pos body (c::t)+((bm (c::t)).length:Int))=((body.length-(c::t).length+(bm (c::t)).length:Nat):Int):=by unfold pos;rw[qcp _ _]
    have e2:af (((body.length-(c::t).length+(bm (c::t)).length:Nat):Int)+2)=pos body (bu (c::t)):=by unfold pos;rw[me];simp only[qL];omega
    have e3:((body.length-(c::t).length+(bm (c::t)).length:Nat):Int).toNat-(pos body (c::t)).toNat=(bm (c::t)).length:=by unfold pos;omega
    rw[h2,aj,e1,aj (by unfold pos;simp only[qL];omega),e3,qkx,e2]
   ·have e3:(body.length:Int).toNat-(pos body (c::t)).toNat=(bm (c::t)).length:=by rw[h1];unfold pos;omega
    rw[h3,a6,aj,e3,qkx,h2,qfo]
def qpp(b:Bs):∀(n:Nat)(r:Bs)(st:Option Bs)(out:List Bs),r.length<n->gx b n r st out=gx b (r.length+1) r st out:=by
 intro n
 induction n using Nat.strongRecOn with
 |ind n ih=>
  intro r st out h;obtain⟨n,rfl⟩:∃m,n=m+1:=⟨n-1,by omega⟩
  cases r with
  |nil=>rfl|cons c t=>
   simp only[qL]at h ⊢;have hnl:=tr c t;rw[gx,gx];have e:∀st' out',gx b n (bu (c::t)) st' out'=gx b (t.length+1) (bu (c::t)) st' out':=fun st' out'=>by
    rw[ih n (by omega) _ _ _ (by omega)]
    by_cases hq:t.length+1=n
    ·rw[hq];exact(ih n (by omega) _ _ _ (by omega)).symm
    ·exact(ih (t.length+1) (by omega) _ _ _ (by omega)).symm
   rw[e,e]
def ii(body b:Bs):List Bs:=gx b (body.length+1) body none []
def z1j(fu:Nat)(hfu:90000000<=fu)(body b:Bs)(hb:body.length<=4000000)(hbb:b.length<=1000):qnr fu body b=some (ii body b):=by
 have hrm:=iq;unfold qnr qez qql ii;rw[qB];have:=zmw fu hfu body b hb hbb [] fu body none [] (List.suffix_refl _) (by simp) (by omega) (by simpa using hb)
 rw[q5x,show mp body none = -1 from rfl,qpp b fu body none [] (by omega)]at this
 rcases this with⟨x,h⟩|⟨st',out',h1,h2,h3,h4⟩
 ·rw[h];rfl
 ·rw[h1,qB,h2];simp only[cf]
  cases st' with
  |none=>rw[show mp body none = -1 from rfl,a6];rfl|some s=>
   have hge:=qnx body s;rw[show mp body (some s)=pos body s from rfl,aj hge.1,aj hge,aj,qjg (h4 s rfl)];rfl
open Go.ChangeShapes Go.WideShapes Go.ChangeAt Go.RowKit
variable[LC]
def Gw(w:World):Gh:=⟨fun b o=>match w.cell? ⟨b,o,none⟩ with|some v=>if v.oneCell'=true then some v else none|none=>none,fun _=>none,fun _=>none⟩
def qp9{w:World}{b o:Nat}{v:Value}(h:w.cell? ⟨b,o,none⟩=some v)(h1:v.oneCell'=true):(Gw w).imm b o=some v:=by
 simp only[Gw];rw[h];simp[h1]
def zri(w:World)(ht:LC.tab (Gw w).imm w):ci (Gw w) [] w:=by
 have key:∀b o v,(Gw w).imm b o=some v->w.cell? ⟨b,o,none⟩=some v/\v.oneCell'=true:=by
  intro b o v h;simp only[Gw]at h;split at h
  ·rename_i u hu;split at h
   ·rename_i h1;cases h;exact⟨hu,h1⟩
   ·cases h
  ·cases h
 exact⟨fun b o v h=>(key b o v h).1,fun b o v h=>(key b o v h).2,fun n bx h=>(by cases h),fun n m bx bx' b h=>(by cases h),ht⟩
inductive qnu{α:Type}(p:α->Prop):Tree α->Prop
 |mk (a:α) (l:List (Tree α)):p a->l.length<=maxLen->(∀x∈l,qnu p x)->qnu p (.node a l)
def Ty.bd:(τ:Ty)->τ.den->Prop|.int k,n=>(Lit.int k n).wf=true|.str,s=>List.length s<=maxLen|.prod a b,x=>a.bd x.1/\b.bd x.2|.list a,l=>List.length l<=maxLen/\∀x∈(show List a.den from l),a.bd x|.tree a,t=>qnu a.bd t|_,_=>True
def qam(P:Program)(rec:Ty->TypeId->Bool):Ty->List Field->Nat->Bool|τ,[f],o=>f.offset==o&&(P.cellsOf f.type==τ.sz&&rec τ f.type)|.prod a b,f::fs,o=>f.offset==o&&(P.cellsOf f.type==a.sz&&(rec a f.type&&qam P rec b fs (o+a.sz)))|_,_,_=>false
def qmj(P:Program)(t g:TypeId):Bool:=match P.underlying g with|some (.slice e)=>e==t|_=>false
def yg(P:Program)(rec:Ty->TypeId->Bool)(t:TypeId):Ty->List Field->Nat->Bool|τ,[f,g],o=>f.offset==o&&(P.cellsOf f.type==τ.sz&&(rec τ f.type&&(g.offset==o+τ.sz&&(P.cellsOf g.type==1&&qmj P t g.type))))|.prod a b,f::fs,o=>f.offset==o&&(P.cellsOf f.type==a.sz&&(rec a f.type&&yg P rec t b fs (o+a.sz)))|_,_,_=>false
def dc(P:Program):Nat->Ty->TypeId->Bool
 |0,_,_=>false|_+1,.int k,t=>match P.underlying t with|some (.int k')=>decide (k'=k)|_=>false
 |_+1,.byte,t=>match P.underlying t with|some (.int k')=>decide (k' = .u8)|_=>false
 |_+1,.bool,t=>match P.underlying t with|some .bool=>true|_=>false
 |_+1,.str,t=>match P.underlying t with|some .string=>true|_=>false
 |n+1,.list a,t=>match P.underlying t with|some (.slice e)=>P.cellsOf e==a.sz&&(decide (0<a.sz)&&dc P n a e)|_=>false
 |n+1,.prod a b,t=>match P.underlying t with|some (.struct fs)=>P.cellsOf t==(Ty.prod a b).sz&&qam P (dc P n) (.prod a b) fs.toList 0|_=>false
 |n+1,.tree a,t=>match P.underlying t with|some (.struct fs)=>P.cellsOf t==(Ty.tree a).sz&&yg P (dc P n) t a fs.toList 0|_=>false
 |_+1,_,_=>false
def q0s{P:Program}{n:Nat}{k:IntKind}{t:TypeId}(h:dc P (n+1) (.int k) t=true):P.underlying t=some (.int k):=by
 unfold dc at h;split at h
 ·rename_i k' e;rw[e,of_decide_eq_true h]
 ·cases h
def qy6{P:Program}{n:Nat}{t:TypeId}(h:dc P (n+1) .byte t=true):P.underlying t=some (.int .u8):=by
 unfold dc at h;split at h
 ·rename_i k' e;rw[e,of_decide_eq_true h]
 ·cases h
def q6m{P:Program}{n:Nat}{t:TypeId}(h:dc P (n+1) .bool t=true):P.underlying t=some .bool:=by
 unfold dc at h;split at h
 ·rename_i e;exact e
 ·cases h
def zay{P:Program}{n:Nat}{t:TypeId}(h:dc P (n+1) .str t=true):P.underlying t=some .string:=by
 unfold dc at h;split at h
 ·rename_i e;exact e
 ·cases h
def ak.app{G:Gh}:∀{xs ys:List AV}{us vs:List Value},ak xs G us->ak ys G vs->ak (xs++ys) G (us++vs)|[],_,[],_,_,h=>h|[],_,_::_,_,h,_=>by simp[ak]at h|_::_,_,[],_,h,_=>by simp[ak]at h|_::_,_,_::_,_,h,k=>⟨h.1,ak.app h.2 k⟩
def qjt{G:Gh}:∀(τ:Ty)(x:τ.den)(cs:List Value),ak (τ.enc x) G cs->∀v∈cs,v.oneCell'=true
 |.int k,n,[v],h,u,hu=>by
  rw[List.mem_singleton]at hu;subst hu;have h1:u = .int k n:=h.1;rw[h1];rfl
 |.byte,c,[v],h,u,hu=>by
  rw[List.mem_singleton]at hu;subst hu;have h1:u = .int .u8 (UInt8.toNat c):=h.1;rw[h1];rfl
 |.bool,c,[v],h,u,hu=>by
  rw[List.mem_singleton]at hu;subst hu;have h1:u = .bool c:=h.1;rw[h1];rfl
 |.str,s,[v],h,u,hu=>by
  rw[List.mem_singleton]at hu;subst hu;have h1:u = .string ⟨List.toArray s⟩:=h.1;rw[h1];rfl
 |.list a,l,[v],h,u,hu=>by
  rw[List.mem_singleton]at hu;subst hu;obtain⟨ad,c,rfl,_⟩:jf a.sz (a.At G.imm) l u:=h.1;rfl
 |.unit,_,[],_,u,hu=>by cases hu
 |.unit,_,_::_,h,_,_=>by simp[Ty.enc,ak]at h|.prod a b,x,cs,h,u,hu=>by
  have key:∀(xs ys:List AV)(cs:List Value),ak (xs++ys) G cs->∃us vs,cs=us++vs/\ak xs G us/\ak ys G vs:=by
   intro xs
   induction xs with
   |nil=>intro ys cs h;exact⟨[],cs,rfl,trivial,h⟩|cons x xs ih=>
    intro ys cs h
    cases cs with
    |nil=>simp[ak]at h|cons c cs=>
     obtain⟨us,vs,e,h1,h2⟩:=ih ys cs h.2;exact⟨c::us,vs,by rw[e];rfl,⟨h.1,h1⟩,h2⟩
  obtain⟨us,vs,rfl,h1,h2⟩:=key _ _ _ h;rcases List.mem_append.1 hu with q|q
  ·exact qjt a x.1 us h1 u q
  ·exact qjt b x.2 vs h2 u q
 |.tree a,x,cs,h,u,hu=>by
  have key:∀(xs ys:List AV)(cs:List Value),ak (xs++ys) G cs->∃us vs,cs=us++vs/\ak xs G us/\ak ys G vs:=by
   intro xs
   induction xs with
   |nil=>intro ys cs h;exact⟨[],cs,rfl,trivial,h⟩|cons x xs ih=>
    intro ys cs h
    cases cs with
    |nil=>simp[ak]at h|cons c cs=>
     obtain⟨us,vs,e,h1,h2⟩:=ih ys cs h.2;exact⟨c::us,vs,by rw[e];rfl,⟨h.1,h1⟩,h2⟩
  obtain⟨us,vs,rfl,h1,h2⟩:=key _ _ _ h;rcases List.mem_append.1 hu with q|q
  ·exact qjt a _ us h1 u q
  ·cases vs with
   |nil=>cases q
   |cons v vs=>
    cases vs with
    |cons v' vs=>simp[ak]at h2|nil=>
     rw[List.mem_singleton]at q;subst q;obtain⟨ad,c,rfl,_⟩:jf (Ty.tree a).sz ((Ty.tree a).At G.imm) (Tree.kids x) u:=h2.1;rfl
 |.int _,_,[],h,_,_=>by simp[Ty.enc,ak]at h|.int _,_,_::_::_,h,_,_=>by simp[Ty.enc,ak]at h|.byte,_,[],h,_,_=>by simp[Ty.enc,ak]at h|.byte,_,_::_::_,h,_,_=>by simp[Ty.enc,ak]at h|.bool,_,[],h,_,_=>by simp[Ty.enc,ak]at h|.bool,_,_::_::_,h,_,_=>by simp[Ty.enc,ak]at h|.str,_,[],h,_,_=>by simp[Ty.enc,ak]at h|.str,_,_::_::_,h,_,_=>by simp[Ty.enc,ak]at h|.list _,_,[],h,_,_=>by simp[Ty.enc,ak]at h|.list _,_,_::_::_,h,_,_=>by simp[Ty.enc,ak]at h
def ak.cells{w:World}{b:Nat}:∀(xs:List AV)(cs:List Value)(o:Nat),ak xs (Gw w) cs->(∀v∈cs,v.oneCell'=true)->(∀(j:Nat)(v:Value),cs[j]? = some v->w.cell? ⟨b,o+j,none⟩=some v)->b9 xs (Gw w) b o
 |[],[],_,_,_,_=>trivial|[],_::_,_,h,_,_=>by simp[ak]at h|_::_,[],_,h,_,_=>by simp[ak]at h|x::xs,c::cs,o,h,h1,h2=>by
  refine⟨⟨c,qp9 (h2 0 c rfl) (h1 c qH),h.1⟩,ak.cells xs cs (o+1) h.2 (fun v hv=>h1 v (qE _ hv)) (fun j v hj => ?_)⟩
  have:=h2 (j+1) v hj;rw[show o+1+j=o+(j+1) by omega];exact this
structure qh(H:Type) where
 b:DataW H->Nat
 ba:List (DataW H)->Nat
 str:∀s,b (.lit (.string s))=s.length+1
 lit:∀l,1<=b (.lit l)
 nilb:b .nil=1
 sl:∀e r,b (.slice e r)=ba e+ba r+1
 agg:∀l,b (.agg l)=ba l+1
 nil:ba []=0
 cons:∀d r,ba (d::r)=b d+ba r
def qh.app{H:Type}(B:qh H):∀(l r:List (DataW H)),B.ba (l++r)=B.ba l+B.ba r|[],r=>by rw[List.nil_append,B.nil,wO]|d::l,r=>by rw[wK,B.cons,B.cons,B.app l r,Nat.add_assoc]
mutual
def qbu{α:Type}(f:α->Nat):Tree α->Nat|.node a l=>f a+qd4 f l+2
def qd4{α:Type}(f:α->Nat):List (Tree α)->Nat|[]=>0|t::l=>qbu f t+qd4 f l
end
def q0x{α:Type}(f:α->Nat):∀l:List (Tree α),qd4 f l=(l.map (qbu f)).sum|[]=>by simp[qd4]|t::l=>by rw[qd4,q0x f l,List.map_cons,List.sum_cons]
def q1s{α:Type}(f:α->Nat)(a:α)(l:List (Tree α)):qbu f (.node a l)=f a+(l.map (qbu f)).sum+2:=by
 rw[← q0x];simp only[qbu]
def Ty.bk:(τ:Ty)->τ.den->Nat|.str,s=>List.length s+1|.prod a b,x=>a.bk x.1+b.bk x.2|.list a,l=>((show List a.den from l).map a.bk).sum+1|.unit,_=>0|.tree a,t=>qbu a.bk t|_,_=>1
section
variable{H:Type}{enc:TypeId×Value->H}{P:Program}{w:World}{base:Nat}{spare:Nat->Bool}{held:Bool}
def q34(B:qh H)(n m:Nat)(cs:List Value)
  (ih:∀(τ:Ty)(t:TypeId)(cs:List Value)(y:DataW H×List MemPlace),dc P n τ t=true->DataW.trod enc P w base spare held m t cs=some y->∃x:τ.den,τ.bd x/\ak (τ.enc x) (Gw w) cs/\τ.bk x<=B.b y.1) :
  ∀(fs:List Field)(τ:Ty)(o:Nat)(xs:List (DataW H×List MemPlace)),qam P (dc P n) τ fs o=true->xs.length=fs.length->(∀(i:Nat)(f:Field),fs[i]? = some f->DataW.trod enc P w base spare held m f.type ((cs.drop f.offset).take (P.cellsOf f.type))=xs[i]?) ->
   ∃x:τ.den,τ.bd x/\ak (τ.enc x) (Gw w) ((cs.drop o).take τ.sz)/\τ.bk x<=B.ba (xs.map (·.1))
 |[],τ,o,xs,h,_,_=>by cases τ<;>simp[qam]at h
 |[f],τ,o,xs,h,hl,hf=>by
  have h':(f.offset==o&&(P.cellsOf f.type==τ.sz&&dc P n τ f.type))=true:=by cases τ<;>exact h
  simp only[qA,beq_iff_eq]at h'
  match xs,hl with
  |[y],_=>
   have hy:DataW.trod enc P w base spare held m f.type ((cs.drop f.offset).take (P.cellsOf f.type))=some y:=hf 0 f rfl;rw[h'.1,h'.2.1]at hy;obtain⟨x,x1,x2,x3⟩:=ih τ f.type _ y h'.2.2 hy;exact⟨x,x1,x2,by simp only[List.map_cons,List.map_nil,B.cons,B.nil];omega⟩
 |f::g::fs,τ,o,xs,h,hl,hf=>by
  cases τ with
  |prod a b=>
   have h':(f.offset==o&&(P.cellsOf f.type==a.sz&&(dc P n a f.type&&qam P (dc P n) b (g::fs) (o+a.sz))))=true:=h;simp only[qA,beq_iff_eq]at h'
   match xs,hl with
   |y::ys,hl=>
    have hy:DataW.trod enc P w base spare held m f.type ((cs.drop f.offset).take (P.cellsOf f.type))=some y:=hf 0 f rfl;rw[h'.1,h'.2.1]at hy;obtain⟨x1,b1,r1,k1⟩:=ih a f.type _ y h'.2.2.1 hy;obtain⟨x2,b2,r2,k2⟩:=q34 B n m cs ih (g::fs) b (o+a.sz) ys h'.2.2.2 (by simpa using hl) (fun i f' hf'=>hf (i+1) f' hf')
    refine⟨(x1,x2),⟨b1,b2⟩,?_,?_⟩
    ·show ak (a.enc x1++b.enc x2) (Gw w) ((cs.drop o).take (a.sz+b.sz));rw[List.take_add,List.drop_drop];exact ak.app r1 r2
    ·show a.bk x1+b.bk x2<=_;rw[List.map_cons,B.cons];omega
  |_=>simp[qam]at h
def q52(B:qh H)(n m:Nat)(cs:List Value){z2i:Ty}(t:TypeId)
  (ih:∀(τ:Ty)(t:TypeId)(cs:List Value)(y:DataW H×List MemPlace),dc P n τ t=true->DataW.trod enc P w base spare held m t cs=some y->∃x:τ.den,τ.bd x/\ak (τ.enc x) (Gw w) cs/\τ.bk x<=B.b y.1)
  (ihk:∀(g:TypeId)(cs:List Value)(y:DataW H×List MemPlace),qmj P t g=true->DataW.trod enc P w base spare held m g cs=some y->∃l:List (Ty.tree z2i).den,(Ty.list (.tree z2i)).bd l/\ak [.sl (.tree z2i) l] (Gw w) cs/\(l.map (Ty.tree z2i).bk).sum+1<=B.b y.1) :
  ∀(fs:List Field)(τ:Ty)(o:Nat)(xs:List (DataW H×List MemPlace)),yg P (dc P n) t τ fs o=true->xs.length=fs.length->(∀(i:Nat)(f:Field),fs[i]? = some f->DataW.trod enc P w base spare held m f.type ((cs.drop f.offset).take (P.cellsOf f.type))=xs[i]?) ->
   ∃(x:τ.den)(l:List (Ty.tree z2i).den),τ.bd x/\(Ty.list (.tree z2i)).bd l/\ak (τ.enc x++[.sl (.tree z2i) l]) (Gw w) ((cs.drop o).take (τ.sz+1))/\τ.bk x+((l.map (Ty.tree z2i).bk).sum+1)<=B.ba (xs.map (·.1))
 |[],τ,o,xs,h,_,_=>by cases τ<;>simp[yg]at h
 |[f],τ,o,xs,h,_,_=>by cases τ<;>simp[yg]at h
 |[f,g],τ,o,xs,h,hl,hf=>by
  have h':(f.offset==o&&(P.cellsOf f.type==τ.sz&&(dc P n τ f.type&&(g.offset==o+τ.sz&&(P.cellsOf g.type==1&&qmj P t g.type)))))=true:=by cases τ<;>exact h
  simp only[qA,beq_iff_eq]at h'
  match xs,hl with
  |[y,z],_=>
   have hy:DataW.trod enc P w base spare held m f.type ((cs.drop f.offset).take (P.cellsOf f.type))=some y:=hf 0 f rfl;have hz:DataW.trod enc P w base spare held m g.type ((cs.drop g.offset).take (P.cellsOf g.type))=some z:=hf 1 g rfl;rw[h'.1,h'.2.1]at hy;rw[h'.2.2.2.1,h'.2.2.2.2.1]at hz;obtain⟨x,x1,x2,x3⟩:=ih τ f.type _ y h'.2.2.1 hy;obtain⟨l,l1,l2,l3⟩:=ihk g.type _ z h'.2.2.2.2.2 hz;refine⟨x,l,x1,l1,?_,by simp only[List.map_cons,List.map_nil,B.cons,B.nil];omega⟩
   rw[List.take_add,List.drop_drop];exact ak.app x2 l2
 |f::g::k::fs,τ,o,xs,h,hl,hf=>by
  cases τ with
  |prod a b=>
   have h':(f.offset==o&&(P.cellsOf f.type==a.sz&&(dc P n a f.type&&yg P (dc P n) t b (g::k::fs) (o+a.sz))))=true:=h;simp only[qA,beq_iff_eq]at h'
   match xs,hl with
   |y::ys,hl=>
    have hy:DataW.trod enc P w base spare held m f.type ((cs.drop f.offset).take (P.cellsOf f.type))=some y:=hf 0 f rfl;rw[h'.1,h'.2.1]at hy;obtain⟨x1,b1,r1,k1⟩:=ih a f.type _ y h'.2.2.1 hy;obtain⟨x2,l,b2,bl,r2,k2⟩:=q52 B n m cs t ih ihk (g::k::fs) b (o+a.sz) ys h'.2.2.2 (by simpa using hl) (fun i f' hf'=>hf (i+1) f' hf')
    refine⟨(x1,x2),l,⟨b1,b2⟩,bl,?_,?_⟩
    ·show ak ((a.enc x1++b.enc x2)++[.sl (.tree z2i) l]) (Gw w) ((cs.drop o).take ((a.sz+b.sz)+1));rw[qS,Nat.add_assoc,List.take_add,List.drop_drop];exact ak.app r1 r2
    ·show(a.bk x1+b.bk x2)+_<=_;rw[List.map_cons,B.cons];omega
  |_=>simp[yg]at h
def zm5(B:qh H):∀(m n:Nat)(τ:Ty)(t:TypeId)(cs:List Value)(y:DataW H×List MemPlace),dc P n τ t=true->DataW.trod enc P w base spare held m t cs=some y->∃x:τ.den,τ.bd x/\ak (τ.enc x) (Gw w) cs/\τ.bk x<=B.b y.1:=by
 intro m
 induction m with
 |zero=>intro n τ t cs y _ h;simp[DataW.trod]at h|succ m ih=>
  intro n τ t cs y ht h
  cases n with
  |zero=>simp[dc]at ht|succ n=>
   cases τ with
   |int k=>
    obtain⟨n,rfl,rfl,hw⟩:=DataW.trod_int (q0s ht) h;exact⟨n,hw,⟨rfl,trivial⟩,B.lit _⟩
   |byte=>
    obtain⟨n,rfl,rfl,hw⟩:=DataW.trod_int (qy6 ht) h;have hb:0<=n/\n<=255:=by simp only[Lit.wf,qA,decide_eq_true_eq]at hw;exact hw
    refine⟨UInt8.ofNat n.toNat,trivial,⟨?_,trivial⟩,B.lit _⟩;show Value.int .u8 n = .int .u8 ((UInt8.ofNat n.toNat).toNat:Int);rw[UInt8.toNat_ofNat',Nat.mod_eq_of_lt (by omega)]
    congr 1;omega
   |bool=>
    obtain⟨b,rfl,rfl⟩:=DataW.trod_bool (q6m ht) h;exact⟨b,trivial,⟨rfl,trivial⟩,B.lit _⟩
   |str=>
    obtain⟨s,rfl,rfl,hs⟩:=DataW.trod_string (zay ht) h;refine⟨s.data.toList,?_,⟨?_,trivial⟩,Nat.le_of_eq (B.str _).symm⟩
    ·show s.data.toList.length<=maxLen;rw[Array.length_toList];exact hs
    ·show Value.string s = .string ⟨s.data.toList.toArray⟩;simp
   |unit=>simp[dc]at ht|tree a=>
    have ht0:=ht;unfold dc at ht;split at ht
    ·rename_i fs hu;simp only[qA,beq_iff_eq]at ht;obtain⟨xs,n',e1,rfl,ac,hxl,hg⟩:=DataW.trod_struct hu h;cases e1
     obtain⟨x,l,hb,hbl,hr,hk⟩:=q52 B n m cs t (fun τ t cs y=>ih n τ t cs y) (fun g cs y hg hy=>by
      have hg':dc P (n+2) (.list (.tree a)) g=true:=by
       unfold qmj at hg;unfold dc;split at hg
       ·rename_i e he;have:e=t:=by simpa using hg
        subst this;simp only[qA,beq_iff_eq,decide_eq_true_eq];exact⟨ht.1,by simp[Ty.sz],ht0⟩
       ·cases hg
      exact ih (n+2) (.list (.tree a)) g cs y hg' hy) fs.toList a 0 xs ht.2 (by rw[hxl,Array.length_toList]) (fun i f hf=>hg i f (by rw[← Array.getElem?_toList];exact hf))
     refine⟨.node x l,.mk x l hb hbl.1 hbl.2,?_,?_⟩
     ·rw[List.drop_zero,List.take_of_length_le (by rw[ac,ht.1];exact wF _)]at hr
      exact hr
     ·rw[B.agg];have e:(Ty.tree a).bk (.node x l)=a.bk x+(l.map (Ty.tree a).bk).sum+2:=q1s a.bk x l;omega
    ·cases ht
   |prod a b=>
    unfold dc at ht;split at ht
    ·rename_i fs hu;simp only[qA,beq_iff_eq]at ht;obtain⟨xs,n',e1,rfl,ac,hxl,hg⟩:=DataW.trod_struct hu h;cases e1
     obtain⟨x,hb,hr,hk⟩:=q34 B n m cs (fun τ t cs y=>ih n τ t cs y) fs.toList (.prod a b) 0 xs ht.2 (by rw[hxl,Array.length_toList]) (fun i f hf=>hg i f (by rw[← Array.getElem?_toList];exact hf))
     refine⟨x,hb,?_,by rw[B.agg];omega⟩
     rw[List.drop_zero,List.take_of_length_le (by rw[ac,ht.1];exact wF _)]at hr
     exact hr
    ·cases ht
   |list a=>
    unfold dc at ht;split at ht
    ·rename_i e hu;simp only[qA,beq_iff_eq,decide_eq_true_eq]at ht;obtain⟨hsz,hpos,hte⟩:=ht;rcases DataW.trod_slice hu h with⟨rfl,rfl⟩|⟨ad,len,cap,elems,rest,n',e1,rfl,rfl,_,hlc,hcm,hel,hget,_⟩
     ·exact⟨[],⟨Nat.zero_le _,fun x hx=>by cases hx⟩,⟨⟨none,0,rfl,wF _,.inl rfl⟩,trivial⟩,Nat.le_of_eq (show 0+1=_ by rw[B.nilb])⟩
     ·cases e1
      have each:∀i,i<len->∃(x:a.den)(h:i<elems.length),a.bd x/\ad.spot=none/\a.At (Gw w).imm x ad.block (ad.off+i*a.sz)/\a.bk x<=B.b elems[i].1:=by
       intro i hi;have h1:=hget i hi;rw[List.getElem?_eq_getElem (by omega)]at h1
       obtain⟨cs,hc,hc2⟩:=Option.bind_eq_some_iff.1 h1;obtain⟨x,hb,hr,hk⟩:=ih n a e cs _ hte hc2;unfold World.cells? at hc;split at hc
       ·have hl:=mapM_some_length hc;rw[List.length_range,hsz]at hl;have hcell:∀(j:Nat)(v:Value),cs[j]? = some v->w.cell? ((ad.add (i*P.cellsOf e)).add j)=some v:=by
         intro j v hj;have hj':j<cs.length:=by
          by_cases q:j<cs.length
          ·exact q
          ·rw[List.getElem?_eq_none (by omega)]at hj;cases hj
         have:=mapM_some_get hc j j (by rw[List.getElem?_range (by omega)])
         rw[this,hj]
        have hspot:ad.spot=none:=by
         have g0:=hget 0 (by omega)
         rw[List.getElem?_eq_getElem (by omega)]at g0
         obtain⟨cs0,hc0,_⟩:=Option.bind_eq_some_iff.1 g0;unfold World.cells? at hc0;split at hc0
         ·have pg:=mapM_some_length hc0;rw[List.length_range,hsz]at pg;have:=mapM_some_get hc0 0 0 (by rw[List.getElem?_range (by omega)])
          rw[List.getElem?_eq_getElem (by omega)]at this
          simp only[Nat.zero_mul,Addr.add,if_true]at this;unfold World.cell? at this
          cases hs:ad.spot with
          |none=>rfl|some q=>
           rw[hs]at this;split at this
           ·simp at this
           ·cases this
         ·cases hc0
        refine⟨x,by omega,hb,hspot,?_,hk⟩
        refine rt.1 (ak.cells _ cs _ hr (qjt a x cs hr) (fun j v hj => ?_))
        have:=hcell j v hj;rw[hsz]at this;have ea:(ad.add (i*a.sz)).add j=⟨ad.block,ad.off+i*a.sz+j,none⟩:=by
         obtain⟨b,o,s⟩:=ad;simp only[]at hspot;subst hspot;unfold Addr.add;by_cases q1:i*a.sz=0
         ·by_cases q2:j=0
          ·simp[q1,q2]
          ·simp[q1,q2]
         ·by_cases q2:j=0
          ·simp[q1,q2]
          ·simp[q1,q2]
        rw[ea]at this;exact this
       ·cases hc
      have lst:∀k,k<=len->∃l:List a.den,l.length=k/\(∀x∈l,a.bd x)/\(∀(j:Nat)(x:a.den),l[j]? = some x->a.At (Gw w).imm x ad.block (ad.off+j*a.sz))/\(l.map a.bk).sum<=B.ba ((elems.take k).map (·.1)):=by
       intro k
       induction k with
       |zero=>intro _;exact⟨[],rfl,fun x hx=>(by cases hx),fun j x hj=>(by simp at hj),by simp⟩
       |succ k ihk=>
        intro hk;obtain⟨l,l1,l2,l3,l4⟩:=ihk (by omega)
        obtain⟨x,hx,x1,_,x2,x3⟩:=each k (by omega)
        refine⟨l++[x],by simp[l1],fun y hy => ?_,fun j y hj => ?_,?_⟩
        ·rcases List.mem_append.1 hy with q|q
         ·exact l2 y q
         ·rw[List.mem_singleton]at q;subst q;exact x1
        ·by_cases q:j<l.length
         ·rw[List.getElem?_append_left q]at hj;exact l3 j y hj
         ·rw[List.getElem?_append_right (by omega)]at hj
          have:j=k:=by
           by_cases q2:j-l.length=0
           ·omega
           ·rw[List.getElem?_eq_none (by simp;omega)]at hj;cases hj
          subst this;rw[l1,Nat.sub_self]at hj;cases hj
          exact x2
        ·rw[List.take_succ_eq_append_getElem hx,List.map_append,List.map_append,B.app,List.sum_append];simp only[List.map_cons,List.map_nil,B.cons,B.nil,List.sum_cons,List.sum_nil];omega
      obtain⟨l,l1,l2,l3,l4⟩:=lst len (wF _);refine⟨l,⟨by show l.length<=maxLen;omega,l2⟩,⟨⟨some ad,cap,by rw[← l1],by omega,?_⟩,trivial⟩,?_⟩
      rotate_left
      ·rw[List.take_of_length_le (by omega)]at l4
       rw[B.sl];show(l.map a.bk).sum+1<=_;omega
      by_cases q:l=[]
      ·exact .inl q
      ·obtain⟨_,_,_,hs,_⟩:=each 0 (by have:=List.length_pos_iff.2 q;omega)
       refine .inr ⟨ad.block,ad.off,?_,l3⟩;cases ad;simp only[]at hs;subst hs;rfl
    ·cases ht
def zdr(B:qh H){r:Reach}{bb n:Nat}{τ:Ty}{t:TypeId}{v:Value}{d:DataW H}{ps:List MemPlace}(ht:dc P n τ t=true)(hv:Value.okWide P w r bb t v)(h:DataW.Trod enc P w base spare held t v d ps) :
  ∃x:τ.den,τ.bd x/\ai (τ.av x) (Gw w) v/\τ.bk x<=B.b d:=by
 obtain⟨m,hm⟩:=h;obtain⟨x,hb,hr,hk⟩:=zm5 B m n τ t _ _ ht hm;refine⟨x,hb,?_,hk⟩
 cases n with
 |zero=>simp[dc]at ht|succ n=>
  cases τ with
  |int k=>obtain⟨_,rfl⟩:=okWide_int (q0s ht) hv;exact hr.1
  |byte=>obtain⟨_,rfl⟩:=okWide_int (qy6 ht) hv;exact hr.1
  |bool=>obtain⟨_,rfl⟩:=okWide_bool (q6m ht) hv;exact hr.1
  |str=>obtain⟨_,rfl⟩:=okWide_string (zay ht) hv;exact hr.1
  |unit=>simp[dc]at ht|tree a=>
   unfold dc at ht;split at ht
   ·rename_i fs hu;obtain⟨cs,rfl,_⟩:=okWide_struct hu hv;exact⟨cs,rfl,hr⟩
   ·cases ht
  |prod a b=>
   unfold dc at ht;split at ht
   ·rename_i fs hu;obtain⟨cs,rfl,_⟩:=okWide_struct hu hv;exact⟨cs,rfl,hr⟩
   ·cases ht
  |list a=>
   unfold dc at ht;split at ht
   ·rename_i e hu;obtain⟨_,_,_,rfl⟩:=okWide_slice hu hv;exact hr.1
   ·cases ht
end
end Go.Sym
namespace Go.Sym
open Go.ChangeShapes Go.WideShapes Go.ChangeAt Go.RowKit
variable[LC]
def tf(P:Program)(n:Nat):List Ty->List TypeId->Bool|[],[]=>true|τ::τs,t::ts=>dc P n τ t&&tf P n τs ts|_,_=>false
def bds:(τs:List Ty)->Pts.den (τs.map .h)->Prop|[],_=>True|τ::τs,x=>τ.bd x.1/\bds τs x.2
section
variable{H:Type}{enc:TypeId×Value->H}{P:Program}{w:World}{base:Nat}{spare:Nat->Bool}{held:Bool}
def bks:(τs:List Ty)->Pts.den (τs.map .h)->Nat|[],_=>0|τ::τs,x=>τ.bk x.1+bks τs x.2
def qzk(B:qh H){r:Reach}{bb n:Nat}:∀(τs:List Ty)(ts:List TypeId)(vs:List Value)(ds:List (DataW H))(ps:List MemPlace),tf P n τs ts=true ->
  (∀(j:Nat) t v,ts[j]? = some t->vs[j]? = some v->Value.okWide P w r bb t v)->DataW.TrodAll enc P w base spare held ts vs ds ps ->
  ∃x:Pts.den (τs.map .h),bds τs x/\ak (Pts.put (τs.map .h) x) (Gw w) vs/\bks τs x<=B.ba ds
 |[],[],vs,ds,ps,_,_,h=>by
  obtain⟨rfl,rfl,_⟩:=trodAll_nil h;exact⟨(),trivial,trivial,Nat.zero_le _⟩
 |τ::τs,t::ts,vs,ds,ps,h1,h2,h=>by
  obtain⟨v,vs',d,ds',p,q,rfl,rfl,rfl,hd,hr⟩:=trodAll_cons h;simp only[tf,qA]at h1;obtain⟨x,xb,xr,xk⟩:=zdr B h1.1 (h2 0 t v rfl rfl) hd;obtain⟨y,yb,yr,yk⟩:=qzk B τs ts vs' ds' q h1.2 (fun j t v ht hv=>h2 (j+1) t v ht hv) hr
  exact⟨(x,y),⟨xb,yb⟩,⟨xr,yr⟩,by rw[B.cons];show τ.bk x+bks τs y<=_;omega⟩
 |[],_::_,_,_,_,h,_,_=>by simp[tf]at h|_::_,[],_,_,_,h,_,_=>by simp[tf]at h
def q9p{W W':World}(laid:laidOutB P=true)(hb:Below W.heap.size W W'):∀(ts:List TypeId)(vs:List Value)(ds:List (DataW H))(ps:List MemPlace),
  ts.all (fun t=>P.readableRec t&&decide (t<P.types.size))=true->DataW.TrodAll enc P W 0 (fun _=>true) true ts vs ds ps->DataW.TrodAll enc P W' 0 (fun b=>decide (b<W.heap.size)) true ts vs ds ps
 |[],vs,ds,ps,_,h=>by
  obtain⟨rfl,rfl,rfl⟩:=trodAll_nil h;exact trodAll_mk0
 |t::ts,vs,ds,ps,h1,h=>by
  obtain⟨v,vs',d,ds',p,q,rfl,rfl,rfl,hd,hr⟩:=trodAll_cons h;simp only[List.all_cons,qA,decide_eq_true_eq]at h1;have lt:∀x∈p,x.block<W.heap.size:=by obtain⟨m,hm⟩:=hd;exact DataW.trod_lt m _ _ _ hm
  exact trodAll_cons_mk (Below.trod laid h1.1.1 h1.1.2 hd hb lt) (q9p laid hb ts vs' ds' q h1.2 hr)
end
def zyz{P:Program}{f:FuncId}{xs:List AV}(h:c7 P f xs [] (.bool true) [])(vs:List Value)(w:World)(ht:LC.tab (Gw w).imm w)(hr:ak xs (Gw w) vs) :
  Calls P f vs.toArray w fun e w'=>e = .returned (.bool true)/\Below w.heap.size w w':=by
 refine(h w (Gw w) vs (zri w ht) hr).mono ?_;rintro e w' ⟨v,G,rfl,hfin,hrep⟩
 have hv:v = .bool true:=hrep;subst hv;refine⟨rfl,hfin.bel.os,hfin.bel.tape,hfin.bel.output,hfin.bel.size,fun k hk=>hfin.bel.block k hk ?_⟩
 rintro⟨n,bx,hl,_⟩
 cases hl
def q9u{H:Type}{enc:TypeId×Value->H}{C:Checked}{os:Os}{f:FuncId}{fn:Func}{s:ChangeSpec}{so:OpenSpec}{F:Stop.Interp}{conds:List PathCond}{t:TypeId}{n:Nat}(τs:List Ty)(l:List (String×DataW Unit))(B:qh H)(M:Nat)
  (small:(H:Type)->List (DataW H)->Bool) (hso:so={ OpenSpec.ofChange s with cond:=some small }) (hsm:∀ds:List (DataW H),small H ds=true->B.ba ds<=M)
  (own:ownKnob C.prog.godebug=none) (laid:laidOutB C.prog=true) (started:os.Started) (noInit:C.prog.inits.idxOf? f=none) (hfn:C.prog.funcs[f]? = some fn)
  (witness:∃(w:World)(tape:Tape)(i:Input),w.os=os/\(w.forCall tape i).Shaped C.prog/\i.vars=[]/\Input.okWide C.prog (w.forCall tape i) .any w.heap.size f i /\
   so.preRow enc C.prog fn conds false l (w.forCall tape i).memory i.args/\({}:Assume).holds C.prog (lone (Frame.enter C.prog f i.args .normal) [] (w.forCall tape i)))
  (hvars:s.vars=[]) (hspec:∀ds:List (DataW H),ds.length=fn.params.size->s.fn H ds={ results:=[.lit (.bool true)],args:=ds })
  (htys:tf C.prog n τs fn.params.toList=true) (hread:fn.params.toList.all (fun t=>C.prog.readableRec t&&decide (t<C.prog.types.size))=true)
  (hres:fn.resultTypes=#[t]) (hbool:C.prog.underlying t=some .bool)
  (htab:∀W:World,laidMetH C.prog l W->W.ShapedOpen C.prog->LC.tab (Gw W).imm W)
  (hcall:∀x:Pts.den (τs.map .h),bds τs x->bks τs x<=M->c7 C.prog f (Pts.put (τs.map .h) x) [] (.bool true) []) :
  ReturnsInHanded {} C os f .any (so.preRow enc C.prog fn conds false l) ((so.at F).post enc C.prog fn false true false false):=by
 subst hso;refine returnsInHanded_of_row own started noInit hfn witness ?_;intro W base args ds gs before hval hW _ hcond _ hlaid hsh _;have hW':=hW;obtain⟨p,q,hA,hV,rfl,_,_⟩:=hW;rw[show({ OpenSpec.ofChange s with cond:=some small }:OpenSpec).vars=[] from hvars]at hV
 obtain⟨rfl,rfl⟩:=trodVars_none hV;have hk:=hsm _ (hcond small rfl);rw[List.append_nil]at hk;have hl:ds.length=fn.params.size:=by
  have key:∀(ts:List TypeId)(vs:List Value)(ds:List (DataW H))(ps:List MemPlace),DataW.TrodAll enc C.prog W 0 (fun _=>true) true ts vs ds ps->ds.length=ts.length:=by
   intro ts
   induction ts with
   |nil=>intro vs ds ps h;obtain⟨_,rfl,_⟩:=trodAll_nil h;rfl
   |cons t ts ih=>
    intro vs ds ps h;obtain⟨v,vs',d,ds',p,q,_,rfl,_,_,hr⟩:=trodAll_cons h;rw[qL,qL,ih _ _ _ hr]
  rw[key _ _ _ _ hA,Array.length_toList]
 obtain⟨x,xb,xr,xk⟩:=qzk B τs fn.params.toList args.toList ds p htys (fun j t v ht hv=>hval j t v (by rw[← Array.getElem?_toList];exact ht) (by rw[← Array.getElem?_toList];exact hv)) hA
 have hc:=zyz (hcall x xb (Nat.le_trans xk hk)) args.toList W (htab W hlaid hsh) xr;rw[Array.toArray_toList]at hc;refine hc.mono fun e W'⟨he,bel⟩ => ?_
 subst he;refine⟨_,rfl,ds,[],p++[],[],p,[],hW',?_⟩;show DataW.TrodAll _ _ _ _ _ _ _ _ _ _/\_;rw[List.append_nil,show((OpenSpec.at { OpenSpec.ofChange s with cond:=some small } F).fn H ds)=s.fn H ds from rfl,hspec ds hl,hres]
 exact⟨trodAll_mk1 (shut_bool hbool _),q9p laid bel _ _ _ _ hread hA,(by rw[show((OpenSpec.at { OpenSpec.ofChange s with cond:=some small } F).vars)=[] from hvars];rfl),bel.frame _,fun h=>by cases h⟩
end Go.Sym
namespace Go.Sym
def q31(l:List al)(f:al->Nat)(hf:∀x,x.1.length+x.2.length+1<=f x):l.length<=(l.map f).sum/\∀x∈l,x.1.length+x.2.length<=(l.map f).sum:=by
 induction l with
 |nil=>exact⟨wF _,fun x h=>by cases h⟩
 |cons y l ih=>
  have hy:=hf y;refine⟨by simp only[qL,List.map_cons,List.sum_cons];omega,fun x hx => ?_⟩
  rw[List.map_cons,List.sum_cons];rcases List.mem_cons.1 hx with rfl|hx
  ·omega
  ·have:=ih.2 x hx;omega
def qnh:∀b:List UInt8,(List.map (Ty.byte.bk:Ty.byte.den->Nat) b).sum=b.length
 |[]=>rfl|c::b=>by
  show 1+(List.map (Ty.byte.bk:Ty.byte.den->Nat) b).sum=b.length+1;rw[qnh b];omega
def mr(x:al):Nat:=(x.1.length+1)+(x.2.length+1)
def ztx(l:List al)(b:List UInt8)(h:((l.map mr).sum+1)+(b.length+1)<=1048576):xf (l,b):=by
 obtain⟨h1,h2⟩:=q31 l mr (fun x=>by unfold mr;omega)
 refine⟨⟨by simp only;omega,fun x hx => ?_⟩,by simp only;omega⟩
 have:=h2 x hx;omega
def q4k(m:List al×List UInt8)(h:(Ty.prod (.list (.prod .str .str)) (.list .byte)).bk m<=1048576):xf m:=by
 obtain⟨l,b⟩:=m;have h:((l.map mr).sum+1)+((List.map (Ty.byte.bk:Ty.byte.den->Nat) b).sum+1)<=1048576:=h;rw[qnh]at h;exact ztx l b h
abbrev TP:Type:=Tree (List (Bs×Bs)×Bs)
abbrev τP:Ty := .prod (.list (.prod .str .str)) (.list .byte)
def ch(t:TP):Nat:=(Ty.tree τP).bk t
def vj(x:List (Bs×Bs)×Bs)(l:List TP):ch (.node x l)=τP.bk x+(l.map ch).sum+2:=q1s τP.bk x l
def gy(t:TP):Tree.node t.val t.kids=t:=by cases t;rfl
def zhu(l:List TP)(k:TP)(h:k∈l):ch k<=(l.map ch).sum:=by
 obtain⟨a,b,rfl⟩:=List.append_of_mem h;simp;omega
def jl{t k:TP}(h:k∈t.kids):ch k+2<=ch t:=by
 cases t with
 |node x l=>
  rw[vj];have:=zhu l k h;omega
def zu2(l:List TP):l.length<=(l.map ch).sum:=by
 induction l with
 |nil=>simp|cons k l ih=>
  have:2<=ch k:=by cases k;rw[vj];omega
  simp only[qL,List.map_cons,List.sum_cons];omega
def qc1(t:TP):t.kids.length+2<=ch t:=by
 cases t with|node x l=>rw[vj];have:=zu2 l;show l.length+2<=_;omega
def oa(t:TP):2<=ch t:=by cases t;rw[vj];omega
def zjv(t:TP):τP.bk t.val<=ch t:=by cases t;rw[vj];show τP.bk _<=_;simp only[Tree.val];omega
def sv(x:List (Bs×Bs)×Bs):Prop:=xf x/\x.1.length<=4000000/\(∀y∈x.1,y.1.length<=4000000/\y.2.length<=4000000)/\x.2.length<=4000000
def zq4(x:List (Bs×Bs)×Bs)(h:τP.bk x<=1048576):sv x:=by
 refine⟨q4k x h,?_⟩;obtain⟨l,b⟩:=x;have h:((l.map mr).sum+1)+((List.map (Ty.byte.bk:Ty.byte.den->Nat) b).sum+1)<=1048576:=h;rw[qnh]at h;obtain⟨h1,h2⟩:=q31 l mr (fun x=>by unfold mr;omega)
 exact⟨by simp only;omega,fun y hy=>by have:=h2 y hy;omega,by simp only;omega⟩
def y8(l:List al)(b:Bs):Int:=match il l with|none=>5|some m=>if 0<b.length\/lk m.1 mpN=false\/(ez m.2.2 cy).2=true\/60<=m.2.2.length\/d6 l bq≠[bp m]\/2000<(bp m).length then 5 else 0
def zf0(fu:Nat)(hfu:90000000<=fu)(t:TP)(hs:sv t.val):qi3 fu t=some (y8 t.val.1 t.val.2):=by
 obtain⟨_,h1,h2,h3⟩:=hs;obtain⟨R,g1,g2⟩:=qm4 fu hfu t.val.1 h2 h1;unfold qi3 y8;rw[g1,qB];simp only[gy]
 cases ht:il t.val.1 with
 |none=>
  rw[ht]at g2;obtain⟨k,rfl⟩:=g2;simp only[cf];by_cases hb:0<t.val.2.length
  ·rw[aj,n7,a7 rfl]
  ·rw[a6,fp,n7,a7 rfl]
 |some m=>
  rw[ht]at g2;obtain⟨ab,x,aa,e1,e2,e3,e4,e5,rfl⟩:=g2;have h0:=qjn ht;have hv:=xd h0;simp only[cf];by_cases hb:0<t.val.2.length
  ·rw[aj,n7,a7 rfl,qX (.inl hb)]
  rw[a6,dd,o7 fu hfu _ _ (by have:=hv.1;omega) (by simp),qB,n7,gy]
  cases hk:lk m.1 mpN
  ·rw[fp,qX (.inr (.inl rfl))]
  rw[dd,qps,q7l fu hfu (m.1,(m.2.1,m.2.2)) cy (by simp) hv.smD,qB,qW (by simpa using h0),quu fu hfu (m.1,(m.2.1,m.2.2)) hv.smD,qB,qW (by simpa using h0)]
  rw[show((m.1,(m.2.1,m.2.2)):cv)=m from rfl]
  simp only;cases hp:(ez m.2.2 cy).2
  ·rw[bc rfl];by_cases h60:60<=m.2.2.length
   ·rw[aj,qX (.inr (.inr (.inr (.inl h60))))]
   rw[a6]
   by_cases h4:4000<(bp m).length
   ·rw[qX h4,qX];rfl
   ·have hx:aq t.val.1 (ab.length:Int)=some x:=by rw[e1];exact da ab x aa
    rw[qW h4];simp only[jx,qB];rw[bc,hx,qB,zrn,e2]
    by_cases he:bp m=x.2
    ·rw[qW (by rw[he];simp),ft]
     by_cases h2k:2000<(bp m).length
     ·rw[qX,qX]
     ·rw[qW,qW (by
       rintro (q|q|q|q|q|q)
       ·exact hb q
       ·simp at q
       ·simp at q
       ·exact h60 q
       ·exact q (by rw[he])
       ·exact h2k q)]
    ·rw[qX (by simpa using he),qX (.inr (.inr (.inr (.inr (.inl (by simpa using fun q=>he q.symm))))))]
  ·rw[a7 rfl,qX (.inr (.inr (.inl rfl)))]
def li(t:TP)(d:Int):Int:=if(mv t.val.1).1≠0 then(mv t.val.1).1 else if 0<t.kids.length then y8 t.val.1 t.val.2 else if 12000<t.val.2.length then 1
 else if bs 0 t.val.2≠0 then bs 0 t.val.2 else match bnd t.val.1 with|none=>0|some b=>if d<8/\0<(ii t.val.2 b).length then 5 else 0
def zpn(fu:Nat)(s:Bs)(h:s.length<fu:=by omega)(hb:s.length<100000000:=by omega):qbs fu s=some (bs 0 s):=by
 unfold qbs;have:=q9y fu fu [] s 0 h (by simpa using hb) (by omega)
 exact this
def qsh(fu:Nat)(hfu:90000000<=fu)(l:List al)(b:Bs)(d:Int)(hs:sv (l,b)):wd fu l b d=some (match bnd l with|none=>[]|some bb=>if d<8 then ii b bb else[]):=by
 obtain⟨_,h1,h2,h3⟩:=hs;obtain⟨R,g1,g2⟩:=z03 fu hfu l h2 h1;unfold wd;rw[g1,qB]
 cases hb:bnd l with
 |none=>rw[hb]at g2;simp only at g2;rw[g2,fp]|some bb=>
  rw[hb]at g2;simp only at g2;subst g2;rw[dd,ft];have:=zpz hb;by_cases hd:d<8
  ·rw[qW];simp only[qX hd];rw[z1j fu hfu b bb h3 (by omega)];rfl
  ·rw[qX];simp only[qW hd]
def zkm(fu:Nat)(hfu:90000000<=fu)(t:TP)(d:Int)(hs:sv t.val):qjs fu (t,d)=some (li t d):=by
 unfold qjs li;rw[q4q fu hfu _ hs.1.1,qB,jx,qB,jg];simp only[gy];by_cases h0:(mv t.val.1).1≠0
 ·rw[qX h0,qX h0]
 rw[qW h0,qW h0,ft];by_cases h1:0<t.kids.length
 ·rw[qX,qX h1,zf0 fu hfu t hs];rfl
 rw[qW,qW h1,ft]
 by_cases h2:12000<t.val.2.length
 ·rw[qX,qX h2]
 rw[qW,qW h2,zpn fu _,qB,jg]
 by_cases h3:bs 0 t.val.2≠0
 ·rw[qX h3,qX h3]
 rw[qW h3,qW h3,qsh fu hfu t.val.1 t.val.2 d hs,qB]
 cases bnd t.val.1 with
 |none=>rfl|some b=>
  simp only;by_cases hd:d<8
  ·simp only[qX hd];rw[ft];by_cases hc:0<(ii t.val.2 b).length
   ·rw[qX,qX ⟨hd,hc⟩]
   ·rw[qW,qW (fun q=>hc q.2)]
  ·simp only[qW hd];rw[qW (fun q=>hd q.1)];rfl
def ay:Nat->TP->Int->List (TP×Int)|0,_,_=>[]|n+1,t,d=>(t,d)::t.kids.flatMap fun k=>ay n k (d+1)
def ziq:∀(n:Nat)(t:TP)(d:Int),(ay n t d).length<=ch t:=by
 intro n
 induction n with
 |zero=>intro t d;simp[ay]|succ n ih=>
  intro t d;have key:∀l:List TP,(l.flatMap fun k=>ay n k (d+1)).length<=(l.map ch).sum:=by
   intro l
   induction l with
   |nil=>simp|cons k l ih2=>
    have:=ih k (d+1);rw[List.flatMap_cons,qM,List.map_cons,List.sum_cons];omega
  cases t with
  |node x l=>
   have:=key l;rw[ay,qL,vj];show(l.flatMap _).length+1<=_;omega
def zfd:∀(n:Nat)(t:TP)(d:Int),∀x∈ay n t d,ch x.1<=ch t:=by
 intro n
 induction n with
 |zero=>intro t d x hx;cases hx
 |succ n ih=>
  intro t d x hx;rw[ay]at hx;rcases List.mem_cons.1 hx with e|e
  ·rw[e];exact wF _
  ·obtain⟨k,hk,hx2⟩:=List.mem_flatMap.1 e;have:=ih k (d+1) x hx2;have:=jl hk;omega
def gd(t:TP):Prop:=ch t<=60000000/\∀n d,∀x∈ay n t d,sv x.1.val
def q19{t:TP}(h:gd t):sv t.val:=h.2 1 0 (t,0) (by rw[ay];exact qH)
def q1o{t k:TP}(h:gd t)(hk:k∈t.kids):gd k:=⟨by have:=jl hk;have:=h.1;omega,fun n d x hx=>h.2 (n+1) (d-1) x (by
 rw[ay];refine qE _ (List.mem_flatMap.2 ⟨k,hk,?_⟩);rw[show d-1+1=d by omega];exact hx)⟩
def q97{t:TP}(h:ch t<=1048576:=by omega):gd t:=⟨by omega,fun n d x hx=>zq4 _ (by have:=zfd n t d x hx;have:=zjv x.1;omega)⟩
def ju:List (TP×Int)->Nat->Bool->Option (Nat×Bool)|[],i,fl=>some (i,fl)|x::L,i,fl=>if 40<=i then none else ju L (i+1) (fl||decide (8<x.2))
def q8e:∀(L M:List (TP×Int))(i:Nat)(fl:Bool),ju (L++M) i fl=(ju L i fl).bind fun x=>ju M x.1 x.2
 |[],_,_,_=>rfl|x::L,M,i,fl=>by
  rw[wK,ju,ju];by_cases h:40<=i
  ·rw[qX h,qX h];rfl
  ·rw[qW h,qW h,q8e L M]
def q5a:∀(L:List (TP×Int))(i:Nat)(fl:Bool)(x:Nat×Bool),i<=40->ju L i fl=some x->x.1<=40
 |[],_,_,_,h,e=>by cases e;exact h
 |y::L,i,fl,x,h,e=>by
  rw[ju]at e;by_cases h4:40<=i
  ·rw[qX h4]at e;cases e
  ·rw[qW h4]at e;exact q5a L _ _ x (by omega) e
def q02:∀(L:List (TP×Int))(i:Nat)(fl:Bool),i<=40->ju L i fl=if 40<i+L.length then none else some (i+L.length,fl||L.any fun x=>decide (8<x.2))
 |[],i,fl,h=>by rw[ju,qW];simp|x::L,i,fl,h=>by
  rw[ju];by_cases h4:40<=i
  ·rw[qX h4,qX (by simp only[qL];omega)]
  ·rw[qW h4,q02 L _ _ (by omega)]
   by_cases h5:40<i+1+L.length
   ·rw[qX h5,qX (by simp only[qL];omega)]
   ·rw[qW h5,qW (by simp only[qL];omega),List.any_cons,Bool.or_assoc,qL,Nat.add_assoc,Nat.add_comm 1]
def zy7(fu:Nat)(hfu:90000000<=fu)(z:Int×Int):∀(n:Nat)(t:TP)(d i:Nat)(fl:Bool),ch t<=n->ch t+d<=70000000->i<=40 ->
  ∃R,zm fu n t (d:Int) (i:Int) z fl=some R/\match ju (ay n t (d:Int)) i fl with
   |none=>∃a b,R = .inl (a,(((2:Int),(-1:Int)),b))|some x=>R = .inr ((x.1:Int),(z,x.2)):=by
 intro n
 induction n with
 |zero=>intro t d i fl h;have:=oa t;omega|succ n ih=>
  intro t d i fl hz hd hi;rw[zm,qkd,qtt,ay,ju];by_cases h4:40<=i
  ·rw[aj,qX h4,o5];exact⟨_,rfl,_,_,rfl⟩
  rw[a6,qW h4]
  have hr0:(bif fl then some (.inr (z,true)) else some (.inr (z,decide ((8:Int)<(d:Int)))):Option qzl)=some (.inr (z,fl||decide ((8:Int)<(d:Int)))):=by cases fl<;>rfl
  rw[hr0,qB];simp only[cf];rw[a8 i]
  have loop:∀(m:Nat)(ab aa:List TP)(i:Nat)(fl:Bool),t.kids=ab++aa->aa.length<m->i<=40 ->
    ∃R,qe8 (zm fu n) fu m (d:Int) t.kids (t.kids.length:Int) (ab.length:Int) (i:Int) z fl=some R/\match ju (aa.flatMap fun k=>ay n k ((d:Int)+1)) i fl with
     |none=>∃a b,R = .inl (a,(((2:Int),(-1:Int)),b))|some x=>R = .inr ((x.1:Int),(z,x.2)):=by
   intro m
   induction m with
   |zero=>intro ab aa i fl _ h;omega|succ m ihm=>
    intro ab aa i fl hk h hi;have ac:t.kids.length=ab.length+aa.length:=by rw[hk];simp
    have hks:=qc1 t;rw[qe8,qxb]
    cases aa with
    |nil=>rw[a6 (by simp only[qZ]at ac;omega)];exact⟨_,rfl,rfl⟩|cons k aa=>
     simp only[qL]at h ac;have hkm:k∈t.kids:=by rw[hk];simp
     have hx:aq t.kids (ab.length:Int)=some k:=by rw[hk];exact da ab k aa
     have hkz:=jl hkm;rw[aj,hx,qB,gy,a8 d,List.flatMap_cons,q8e]
     obtain⟨R,g1,g2⟩:=ih k (d+1) i fl (by omega) (by omega) hi
     rw[g1,qB];rw[show((d+1:Nat):Int)=(d:Int)+1 by omega]at g2
     cases hr:ju (ay n k ((d:Int)+1)) i fl with
     |none=>
      rw[hr]at g2;obtain⟨a,b,rfl⟩:=g2;exact⟨_,rfl,a,b,rfl⟩
     |some x=>
      rw[hr]at g2;simp only at g2;subst g2;simp only[cf,qB];rw[a8 _]
      have:=ihm (ab++[k]) aa x.1 x.2 (by rw[hk];simp) (by omega) (q5a _ _ _ _ hi hr)
      rw[qM,wD]at this;exact this
  have hks:=qc1 t;exact loop fu [] t.kids (i+1) _ rfl (by omega) (by omega)
def ir:List (TP×Int)->Nat->Option (Int×Int)|[],_=>none|x::L,i=>if li x.1 x.2≠0 then some (li x.1 x.2,(i:Int)) else ir L (i+1)
def qys:∀(L M:List (TP×Int))(i:Nat),ir (L++M) i=match ir L i with|some f=>some f|none=>ir M (i+L.length)
 |[],_,_=>rfl|x::L,M,i=>by
  rw[wK,ir,ir];by_cases h:li x.1 x.2≠0
  ·rw[qX h,qX h]
  ·rw[qW h,qW h,qys L M,qL,Nat.add_assoc,Nat.add_comm 1]
def zxt(fu:Nat)(hfu:90000000<=fu)(z:Int×Int):∀(n:Nat)(t:TP)(d i:Nat),ch t<=n->ch t+d<=70000000->gd t->i+ch t<=70000000 ->
  ∃R,qbq fu n t (d:Int) (i:Int) z=some R/\match ir (ay n t (d:Int)) i with
   |some f=>∃a,R = .inl (a,f)|none=>R = .inr (((i+(ay n t (d:Int)).length:Nat):Int),z):=by
 intro n
 induction n with
 |zero=>intro t d i h;have:=oa t;omega|succ n ih=>
  intro t d i hz hd hs hi;have htp:=oa t;rw[qbq,qjw,qvj];rw[show((t.val.1,t.val.2):List (Bs×Bs)×Bs)=t.val from rfl,gy,zkm fu hfu t _ (q19 hs),qB,ay,ir,jg]
  by_cases hc:li t (d:Int)≠0
  ·rw[qX hc,qX hc,o5];exact⟨_,rfl,_,rfl⟩
  rw[qW hc,qW hc,qB];simp only[cf];rw[a8 i]
  have loop:∀(m:Nat)(ab aa:List TP)(i:Nat),t.kids=ab++aa->aa.length<m->i+(aa.map ch).sum<=70000000 ->
    ∃R,qcm (qbq fu n) fu m (d:Int) t.kids (t.kids.length:Int) (ab.length:Int) (i:Int) z=some R/\match ir (aa.flatMap fun k=>ay n k ((d:Int)+1)) i with
     |some f=>∃a,R = .inl (a,f)|none=>R = .inr (((i+(aa.flatMap fun k=>ay n k ((d:Int)+1)).length:Nat):Int),z):=by
   intro m
   induction m with
   |zero=>intro ab aa i _ h;omega|succ m ihm=>
    intro ab aa i hk h hi;have ac:t.kids.length=ab.length+aa.length:=by rw[hk];simp
    have hks:=qc1 t;rw[qcm,qok]
    cases aa with
    |nil=>rw[a6 (by simp only[qZ]at ac;omega)];exact⟨_,rfl,rfl⟩|cons k aa=>
     simp only[qL]at h ac;simp only[List.map_cons,List.sum_cons]at hi;have hkm:k∈t.kids:=by rw[hk];simp
     have hx:aq t.kids (ab.length:Int)=some k:=by rw[hk];exact da ab k aa
     have hkz:=jl hkm;have hfl:=ziq n k ((d:Int)+1);rw[aj,hx,qB,gy,a8 d,List.flatMap_cons,qys]
     obtain⟨R,g1,g2⟩:=ih k (d+1) i (by omega) (by omega) (q1o hs hkm) (by omega)
     rw[g1,qB];rw[show((d+1:Nat):Int)=(d:Int)+1 by omega]at g2
     cases hr:ir (ay n k ((d:Int)+1)) i with
     |some f=>
      rw[hr]at g2;obtain⟨a,rfl⟩:=g2;exact⟨_,rfl,a,rfl⟩
     |none=>
      rw[hr]at g2;simp only at g2;subst g2;simp only[cf];rw[a8 _]
      have:=ihm (ab++[k]) aa (i+(ay n k ((d:Int)+1)).length) (by rw[hk];simp) (by omega) (by omega)
      rw[qM,wD]at this;rw[qM,← Nat.add_assoc];exact this
  have hks:=qc1 t;have hsum:(t.kids.map ch).sum+2<=ch t:=by cases t;rw[vj];show(List.map ch _).sum+2<=_;simp only[Tree.kids];omega
  obtain⟨R,g1,g2⟩:=loop fu [] t.kids (i+1) rfl (by omega) (by omega)
  refine⟨R,g1,?_⟩;rw[qL,show i+((t.kids.flatMap fun k=>ay n k ((d:Int)+1)).length+1)=i+1+(t.kids.flatMap fun k=>ay n k ((d:Int)+1)).length by omega]
  exact g2
def kq(n:Nat)(t:TP):Int×Int:=if 40<(ay n t 0).length then(2,-1) else if(ay n t 0).any (fun x=>decide (8<x.2))=true then(2,-2) else(ir (ay n t 0) 0).getD (0,0)
def q5i(fu:Nat)(hfu:90000000<=fu)(t:TP)(hs:gd t):zk fu t=some (kq fu t):=by
 have hz:=hs.1;unfold zk ql1;simp only[gy,qB];obtain⟨R,g1,g2⟩:=zy7 fu hfu (0,0) fu t 0 0 false (by omega) (by omega) (by omega)
 rw[show((0:Nat):Int)=0 from rfl,q02 _ _ _ (by omega),wO]at g2
 rw[show((0:Nat):Int)=0 from rfl]at g1
 have e1:qlt fu t (0,0) false=R.elim (fun a2=>some (.inl (t,a2.2))) (fun b3=>some (.inr (t,b3.2))):=by
  unfold qlt q18;simp only[gy];rw[g1,qB];cases R<;>rfl
 rw[e1];unfold kq;by_cases h4:40<(ay fu t 0).length
 ·rw[qX h4]at g2;obtain⟨a,b,rfl⟩:=g2;rw[qX h4];rfl
 rw[qW h4]at g2;simp only at g2;subst g2;rw[qW h4];simp only[Sum.elim_inr,qB,cf,Bool.false_or];cases hany:(ay fu t 0).any fun x=>decide (8<x.2)
 ·rw[bc rfl,qW]
  obtain⟨R2,q1,q2⟩:=zxt fu hfu (0,0) fu t 0 0 (by omega) (by omega) hs (by omega)
  rw[show((0:Nat):Int)=0 from rfl]at q1 q2
  have e2:qj0 fu t (0,0)=R2.elim (fun a2=>some (.inl (t,a2.2))) (fun b3=>some (.inr (t,b3.2))):=by
   unfold qj0 q39;simp only[gy];rw[q1,qB];cases R2<;>rfl
  rw[e2]
  cases hr:ir (ay fu t 0) 0 with
  |some f=>
   rw[hr]at q2;obtain⟨a,rfl⟩:=q2;rfl
  |none=>rw[hr]at q2;simp only at q2;subst q2;rfl
 ·rw[a7 rfl,qX rfl];rfl

def zhr(fu:Nat)(l:List al)(h:l.length<fu:=by omega)(hb:l.length<100000000:=by omega):qb3 fu l l=some true:=by
 unfold qb3;have:=q43 fu fu [] l h (by simpa using hb)
 rw[bc]
 exact this
def ztt(fu:Nat)(hfu:90000000<=fu):∀(n:Nat)(t:TP),ch t<=n->gd t->qa7 fu n t t=some true:=by
 intro n
 induction n with
 |zero=>intro t h;have:=oa t;omega|succ n ih=>
  intro t hz hs;obtain⟨_,h1,_,h3⟩:=q19 hs;have hgz:=hs.1;rw[qa7,qlw,zhr fu _,qB,dd,show qa0 t.val.2 t.val.2=some true by unfold qa0;simp,qB,dd,qdj,bc,qqx]
  simp only[gy];have hks:=qc1 t;have loop:∀(m:Nat)(ab aa:List TP),t.kids=ab++aa->aa.length<m->qgq (qa7 fu n) fu m (ab.length:Int) t t=some true:=by
   intro m
   induction m with
   |zero=>intro ab aa _ h;omega|succ m ihm=>
    intro ab aa hk h;have ac:t.kids.length=ab.length+aa.length:=by rw[hk];simp
    rw[qgq,qu0]
    cases aa with
    |nil=>rw[a6 (by simp only[qZ]at ac;omega)]|cons k aa=>
     simp only[qL]at h ac;have hkm:k∈t.kids:=by rw[hk];simp
     have hx:aq t.kids (ab.length:Int)=some k:=by rw[hk];exact da ab k aa
     have hkz:=jl hkm;rw[aj,hx,qB,qB,gy,ih k (by omega) (q1o hs hkm),qB,dd,a8 _]
     simp only[gy];have:=ihm (ab++[k]) aa (by rw[hk];simp) (by omega)
     rw[qM,wD]at this;exact this
  exact loop fu [] t.kids rfl (by omega)
def qse(fu:Nat)(hfu:90000000<=fu)(t:TP)(hs:gd t):qfp fu t t=some true:=ztt fu hfu fu t (by have:=hs.1;omega) hs
abbrev emT:TP:=Tree.node ([],[]) []
section sec
variable(fu:Nat)(hfu:90000000<=fu)(path:List Int)(hp:path.length<=2000000)(z:Int×Int)
include hfu hp
end sec
def q3f:∀(L:List (TP×Int))(i:Nat)(f:Int×Int),ir L i=some f->f.1≠0/\∃x∈L,f.1=li x.1 x.2
 |[],_,_,h=>by cases h
 |x::L,i,f,h=>by
  rw[ir]at h;by_cases hc:li x.1 x.2≠0
  ·rw[qX hc]at h;cases h;exact⟨hc,x,qH,rfl⟩
  ·rw[qW hc]at h;obtain⟨h1,y,h2,h3⟩:=q3f L _ _ h;exact⟨h1,y,qE _ h2,h3⟩
def qic:gd emT:=q97 (by show 4<=_;omega)
def g7(x:bt):Bool := !(lk x.1 cy)
def zls(fu n:Nat)(hfu:90000000<=fu):∀(ab aa:List bt),aa.length<n->ab.length+aa.length<100000000->(∀x∈aa,x.1.length<=4000000) ->
  (aa.all g7=true->qbx fu n (ab++aa) ((ab.length+aa.length:Nat):Int) (ab.length:Int)=some (-1)) /\
  (∀u y w,aa=u++y::w->u.all g7=true->g7 y=false->qbx fu n (ab++aa) ((ab.length+aa.length:Nat):Int) (ab.length:Int)=some ((ab.length+u.length:Nat):Int)):=by
 induction n with
 |zero=>intro ab aa h;omega|succ n ih=>
  intro ab aa h hb hs;rw[qbx,qtu]
  cases aa with
  |nil=>exact⟨fun _=>by rw[a6],fun u y w e=>by simp at e⟩
  |cons d t=>
   simp only[qL]at h hb;obtain⟨s1,s2⟩:=ih (ab++[d]) t (by omega) (by simp;omega) (fun x hx=>hs x (qE _ hx))
   simp only[qM,qL,qZ,qS,wM,wO]at s1 s2;rw[aj (by simp only[qL];omega),da,qB,qa6,o7 fu hfu _ _ (hs d qH) (by simp),qB,qB,a8 _,show(ab.length+(d::t).length:Nat)=ab.length+1+t.length by simp only[qL];omega,List.all_cons]
   have hk:g7 d = !(lk d.1 cy):=rfl;rw[hk];cases hd:lk d.1 cy
   ·rw[bc rfl];refine⟨fun e=>s1 (by simpa using e),fun u y w e hu hy => ?_⟩
    cases u with
    |nil=>rw[List.nil_append,List.cons.injEq]at e;obtain⟨rfl,_⟩:=e;rw[hk,hd]at hy;cases hy
    |cons z u=>
     rw[wK,List.cons.injEq]at e;obtain⟨rfl,e⟩:=e;rw[List.all_cons,qA]at hu;have:=s2 u y w e hu.2 hy;rw[show(ab.length+(d::u).length:Nat)=ab.length+1+u.length by simp only[qL];omega]
     exact this
   ·rw[a7 rfl];refine⟨fun e=>by simp at e,fun u y w e hu hy => ?_⟩
    cases u with
    |nil=>rfl|cons z u=>
     rw[wK,List.cons.injEq]at e;obtain⟨rfl,e⟩:=e;rw[List.all_cons,hk,hd]at hu;simp at hu
def zq8(fu n:Nat)(hfu:90000000<=fu):∀(aa kept junk:List bt),junk≠[]->aa.length<n->kept.length+junk.length+aa.length<100000000->(∀x∈aa,x.1.length<=4000000) ->
  qdq fu n (kept.length:Int) ((kept.length+junk.length:Nat):Int) (kept++junk++aa)=some (kept++aa.filter g7):=by
 induction n with
 |zero=>intro aa kept junk _ h;omega|succ n ih=>
  intro aa kept junk hj h hb hs;rw[qdq,qpn];have ac:(kept++junk++aa).length=kept.length+junk.length+aa.length:=by simp only[qM]
  have hj1:1<=junk.length:=by cases junk with|nil=>exact absurd rfl hj|cons=>simp
  cases aa with
  |nil=>
   simp only[qZ]at ac;rw[a6 (by rw[ac];omega),aj (by rw[ac];omega),aj (by rw[qM,List.length_take,List.length_replicate,ac];omega)]
   have e:List.take ((kept.length:Nat):Int).toNat (List.take ((kept.length:Nat):Int).toNat (kept++junk++[])++List.replicate ((kept++junk++[]).length-((kept.length:Nat):Int).toNat) (([]:Bs),([]:Bs)))=kept:=by
    rw[List.append_nil,uq];simp
   rw[e];simp
  |cons y t=>
   simp only[qL]at h hb;have g:(kept++junk++y::t)[(((kept.length+junk.length:Nat):Int)).toNat]? = some y:=by
    rw[show(((kept.length+junk.length:Nat):Int)).toNat=(kept++junk).length by simp;omega];simp
   simp only[qL]at ac;rw[aj (by rw[ac];omega),aj (by rw[ac];omega),g,qB,qa6,o7 fu hfu _ _ (hs y qH) (by simp),qB,qB,a8 (kept.length+junk.length),List.filter_cons]
   have hk:g7 y = !(lk y.1 cy):=rfl;rw[hk];have hs':∀x∈t,x.1.length<=4000000:=fun x hx=>hs x (qE _ hx)
   cases hd:lk y.1 cy
   ·obtain⟨j,js,rfl⟩:∃j js,junk=j::js:=by cases junk with|nil=>exact absurd rfl hj|cons j js=>exact⟨j,js,rfl⟩
    have g2:(kept++j::js++y::t)[((kept.length:Nat):Int).toNat]? = some j:=by rw[qS];exact ng kept j _
    rw[fp,aj (by rw[ac];simp only[qL]at *;omega),g2,qB,a8 _,qS,wK,tu]
    have:=ih t (kept++[y]) (js++[y]) (by simp) (by omega) (by simp at hb ⊢;omega) hs'
    simp only[qM,qL,qZ,wO,qS,wM,wK,List.nil_append]at this;rw[show(kept.length+(j::js).length+1:Nat)=kept.length+1+(js.length+1) by simp only[qL];omega]
    simpa using this
   ·rw[dd];have:=ih t kept (junk++[y]) (by simp) (by omega) (by simp;omega) hs'
    simp only[qM,qL,qZ,wO,qS,wM]at this;rw[show(kept.length+junk.length+1:Nat)=kept.length+(junk.length+1) by omega]
    simpa using this
def zbj(fu:Nat)(hfu:90000000<=fu)(l:List bt)(hs:sf l):qhj fu l=some (l.filter g7):=by
 have hl:=hs.1;obtain⟨h1,h2⟩:=zls fu fu hfu [] l (by omega) (by simp;omega) (fun x hx=>(hs.2 x hx).1)
 simp only[List.nil_append,qZ,wO]at h1 h2;unfold qhj qma;rw[show((0:Nat):Int)=0 from rfl]at h1 h2
 have hd:l.all g7=true\/∃u y w,l=u++y::w/\u.all g7=true/\g7 y=false:=by
  clear h1 h2 hs hl
  induction l with
  |nil=>exact .inl rfl|cons y t ih=>
   cases hk:g7 y
   ·exact .inr ⟨[],y,t,rfl,rfl,hk⟩
   ·rcases ih with g|⟨u,x,w,e,g1,g2⟩
    ·exact .inl (by rw[List.all_cons,hk,g];rfl)
    ·exact .inr ⟨y::u,x,w,by rw[e];rfl,by rw[List.all_cons,hk,g1];rfl,g2⟩
 rcases hd with g|⟨u,y,w,rfl,g1,g2⟩
 ·rw[h1 g,qB,a7,List.filter_eq_self.2 (fun x hx=>List.all_eq_true.1 g x hx)]
 ·simp only[qM,qL]at hl;rw[h2 u y w rfl g1 g2,qB,ke,qW,a8 _]
  have:=zq8 fu fu hfu w u [y] (by simp) (by omega) (by simp;omega) (fun x hx=>(hs.2 x (by simp[hx])).1)
  simp only[qL,qZ,wO,qS,wM]at this;rw[this,List.filter_append,List.filter_cons,g2,List.filter_eq_self.2 (fun x hx=>List.all_eq_true.1 g1 x hx)];rfl
def ji(m:cv):cv:=(m.1,(m.2.1,m.2.2.filter g7))
def qyf(f:bt->Bool):∀(l ab pre':List bt),(∀x∈pre',x∈ab)->(ia ab l).1=0->(ia pre' (l.filter f)).1=0
 |[],_,_,_,_=>rfl|p::l,ab,pre',hp,h=>by
  rw[ia]at h;split at h
  ·cases h
  ·split at h
   ·cases h
   ·split at h
    ·cases h
    ·split at h
     ·cases h
     ·rename_i g1 g2 g3 g4;rw[List.filter_cons];split
      ·rw[ia,qW g1,qW (by
        intro q;obtain⟨x,hx,hk⟩:=List.any_eq_true.1 q;exact g2 (List.any_eq_true.2 ⟨x,hp x hx,hk⟩)),qW g3,qW g4]
       exact qyf f l _ _ (fun x hx=>by
        rcases List.mem_append.1 hx with e|e
        ·exact List.mem_append_left _ (hp x e)
        ·exact List.mem_append_right _ e) h
      ·exact qyf f l _ _ (fun x hx=>List.mem_append_left _ (hp x hx)) h
def zs9{m:cv}(h:(dw m).1=0):(dw (ji m)).1=0:=by
 obtain⟨h1,h2,h3,_⟩:=qax h;unfold dw at h ⊢;rw[qW (by simp[h1,h2]),qW]at h
 unfold ji;have:=List.length_filter_le g7 m.2.2;simp only;rw[qW (by simp[h1,h2]),qW]
 exact qyf g7 m.2.2 [] [] (by simp) h
def eg(l:List al)(t:Bs):List al:=l.map fun x=>if lk x.1 bq=true then(x.1,t) else x
def q26{l ab aa:List al}{x:al}(t:Bs)(e:l=ab++x::aa)(hx:lk x.1 bq=true)(h1:d6 ab bq=[])(h2:d6 aa bq=[]):eg l t=ab++(x.1,t)::aa:=by
 have idm:∀l:List al,d6 l bq=[]->(l.map fun x=>if lk x.1 bq=true then(x.1,t) else x)=l:=by
  intro l
  induction l with
  |nil=>intro _;rfl|cons y l ih=>
   intro h;rw[qr]at h;by_cases hk:(y.1.map lo==bq.map lo)=true
   ·rw[qX hk]at h;cases h
   ·rw[qW hk]at h;rw[List.map_cons,ih h,qW (show ¬lk y.1 bq=true from hk)]
 subst e;unfold eg;rw[List.map_append,List.map_cons,idm ab h1,idm aa h2,qX hx]
def zzv(fu:Nat)(hfu:90000000<=fu)(l:List al)(hs:∀x∈l,x.1.length<=4000000/\x.2.length<=4000000)(hl:l.length<=4000000)(m:cv)(hm:il l=some m) :
  qg8 fu l=some (if 4000<(bp (ji m)).length then(false,[]) else(true,eg l (bp (ji m)))):=by
 have hrm:=iq;obtain⟨R,g1,g2⟩:=qm4 fu hfu l hs hl;rw[hm]at g2;obtain⟨ab,x,aa,e1,e2,e3,e4,e5,rfl⟩:=g2;have h0:=qjn hm;have hv:=xd h0;have hb:=zs9 h0;unfold qg8;rw[g1,qB];simp only[cf];rw[zbj fu hfu m.2.2 hv.smD.2.2,qB,show((m.1,(m.2.1,m.2.2.filter g7)):cv)=ji m from rfl,quu fu hfu (ji m) (xd hb).smD,qB,qW (by simpa using hb)]
 by_cases h4:4000<(bp (ji m)).length
 ·rw[qX h4,qX h4];rfl
 ·rw[qW h4,qW h4];simp only[jx,qB];have hc:cd l=some l:=by unfold cd;rw[aj]
  rw[bc,hc,qB,aj (by rw[e1];simp)]
  have hg:l[((ab.length:Nat):Int).toNat]? = some x:=by rw[e1];exact ng ab x aa
  rw[hg,qB,q26 _ e1 e3 e4 e5];have hset:List.set l ((ab.length:Nat):Int).toNat (x.1,bp (ji m))=ab++(x.1,bp (ji m))::aa:=by rw[e1];exact tu ab x _ aa
  rw[hset]
def oh(l:List al)(b:Bs):Option (List al×List Bs):=match bnd l with
 |none=>none|some bb=>if ii b bb=[] then none else match il l with|none=>none|some m=>if 4000<(bp (ji m)).length then none else some (eg l (bp (ji m)),ii b bb)
def rn(rec:List al->Bs->Nat->(TP×Nat) ⊕ (Int×Int))(c:Bs)(k:Nat):(TP×Nat) ⊕ (Int×Int):=
 if(fq c).2.1.1≠0 then .inr ((fq c).2.1.1,-8) else if 40<=k then .inr (2,-7) else rec (fq c).2.2 (c.drop (fq c).1.toNat) k
def pp(rec:List al->Bs->Nat->(TP×Nat) ⊕ (Int×Int))(f:List al):List Bs->Nat->List TP->(TP×Nat) ⊕ (Int×Int)
 |[],k,acc => .inl (.node (f,[]) acc,k)|c::cs,k,acc=>match rn rec c k with|.inr e => .inr e|.inl x=>pp rec f cs x.2 (acc++[x.1])
def fm:Nat->List al->Bs->Nat->(TP×Nat) ⊕ (Int×Int)
 |0,l,b,k => .inl (.node (l,b) [],k+1)|n+1,l,b,k=>match oh l b with|none => .inl (.node (l,b) [],k+1)|some x=>pp (fm n) x.1 x.2 (k+1) []
def Mo(l:List al)(b:Bs):Prop:=l.length<=60/\(∀y∈l,y.1.length<=12000/\y.2.length<=12000)/\b.length<=12000
def Mo.smT{l:List al}{b:Bs}(h:Mo l b):sv (l,b):=⟨⟨⟨by have:=h.1;simp only;omega,fun x hx=>by have:=h.2.1 x hx;omega⟩,by have:=h.2.2;simp only;omega⟩,by have:=h.1;simp only;omega,fun x hx=>by have:=h.2.1 x hx;omega,by have:=h.2.2;simp only;omega⟩
def zao{c:Bs}(h:(fq c).2.1.1=0):Mo (fq c).2.2 (c.drop (fq c).1.toNat)/\0<=(fq c).1/\(fq c).1<=(c.length:Int):=by
 obtain⟨h1,h2,h3,_⟩:=zd9 h;refine⟨⟨?_,?_,?_⟩,by rw[h2];omega,by rw[h2];omega⟩
 ·unfold fq at h ⊢;rw[qW]at h ⊢
  unfold pc at h ⊢;split at h
  ·cases h
  ·rename_i h60;rw[qW h60];unfold qx at h ⊢
   cases hv:s9 ([]:List al).length (hd c.length c 0 []).2 with
   |some i=>rw[hv]at h;cases h
   |none=>simp;omega
 ·obtain⟨q1,q2,q3⟩:=qje c.length c 0 [] ⟨wF _,fun x hx=>by cases hx⟩
  unfold fq at h ⊢;rw[qW]at h ⊢
  unfold pc at h ⊢;split at h
  ·cases h
  ·rename_i h60;rw[qW h60];unfold qx at h ⊢
   cases hv:s9 ([]:List al).length (hd c.length c 0 []).2 with
   |some i=>rw[hv]at h;cases h
   |none=>
    simp only[List.nil_append];intro y hy;obtain⟨x,hx,rfl⟩:=List.mem_map.1 hy;have:=q3.2 x hx;have hc:=q8g x.2;exact⟨by show x.1.length<=_;omega,by show(kh x.2).length<=_;omega⟩
 ·rw[List.length_drop];omega
def zxr(b:Bs):∀(n:Nat)(r:Bs)(st:Option Bs)(out:List Bs)(M:Nat),r.length<=M->(∀s,st=some s->s.length<=M)->(∀x∈out,x.length<=M)->∀x∈gx b n r st out,x.length<=M:=by
 intro n
 induction n with
 |zero=>intro r st out M _ _ h;exact h|succ n ih=>
  intro r st out M hr hst ho;have hadd:∀r',∀x∈jc st r' out,x.length<=M:=by
   intro r' x hx;unfold jc at hx
   cases st with
   |none=>exact ho x hx|some s=>
    rcases List.mem_append.1 hx with e|e
    ·exact ho x e
    ·rw[List.mem_singleton.1 e];unfold vy;rw[List.length_take];have:=hst s rfl;omega
  cases r with
  |nil=>
   intro x hx
   cases st with
   |none=>exact ho x hx|some s=>
    rcases List.mem_append.1 hx with e|e
    ·exact ho x e
    ·rw[List.mem_singleton.1 e];exact hst s rfl
  |cons c t=>
   have hn:=tr c t;simp only[qL]at hr;rw[gx];split
   ·exact ih _ _ _ M (by omega) hst ho
   ·split
    ·exact hadd _
    ·exact ih _ _ _ M (by omega) (fun s hs=>by cases hs;omega) (hadd _)
def q63{l:List al}{b:Bs}{x:List al×List Bs}(h:oh l b=some x)(hm:Mo l b):Mo x.1 []/\(∀c∈x.2,c.length<=12000)/\0<x.2.length:=by
 unfold oh at h;split at h
 ·cases h
 ·rename_i bb hb;split at h
  ·cases h
  ·rename_i hne;split at h
   ·cases h
   ·split at h
    ·cases h
    ·rename_i h4;cases h
     refine⟨⟨by unfold eg;rw[wC];exact hm.1,fun y hy => ?_,by simp⟩,?_,by cases hh:ii b bb with|nil=>exact absurd hh hne|cons=>simp⟩
     ·unfold eg at hy;obtain⟨z,hz,rfl⟩:=List.mem_map.1 hy;have:=hm.2.1 z hz;split
      ·exact⟨this.1,by simp only;omega⟩
      ·exact this
     ·exact zxr bb _ b none [] 12000 hm.2.2 (by simp) (by simp)
def qer(t:TP):Prop:=∀n d,∀x∈ay n t d,Mo x.1.val.1 x.1.val.2
def q9x{f:List al}{b:Bs}{l:List TP}(h:Mo f b)(hl:∀t∈l,qer t):qer (.node (f,b) l):=by
 intro n d x hx
 cases n with
 |zero=>cases hx
 |succ n=>
  rw[ay]at hx;rcases List.mem_cons.1 hx with e|e
  ·rw[e];exact h
  ·obtain⟨k,hk,hx2⟩:=List.mem_flatMap.1 e;exact hl k hk _ _ _ hx2
abbrev mo:Nat:=1452200
def q2z(M:Nat):∀l:List al,(∀y∈l,y.1.length<=M/\y.2.length<=M)->(l.map mr).sum<=(2*M+2)*l.length
 |[],_=>by simp|x::l,h=>by
  have h1:=h x qH;have:=q2z M l (fun y hy=>h y (qE _ hy))
  rw[List.map_cons,List.sum_cons,qL,Nat.mul_succ];unfold mr at this ⊢;omega
def bkP(f:List al)(b:Bs):τP.bk (f,b)=((f.map mr).sum+1)+(b.length+1):=by
 have:=qnh b;show((f.map mr).sum+1)+((List.map (Ty.byte.bk:Ty.byte.den->Nat) b).sum+1)=_;rw[this]
def Mo.sz{f:List al}{b:Bs}(h:Mo f b)(l:List TP):ch (.node (f,b) l)<=mo+(l.map ch).sum:=by
 have e:ch (.node (f,b) l)=((f.map mr).sum+1)+(b.length+1)+(l.map ch).sum+2:=(vj (f,b) l).trans (congrArg (fun z=>z+(l.map ch).sum+2) (bkP f b))
 rw[e];have h1:=q2z 12000 f h.2.1;have h2:(2*12000+2)*f.length<=(2*12000+2)*60:=Nat.mul_le_mul_left _ h.1;have:=h.2.2;show _<=1452200+_;omega
def okS(k:Nat)(s:(TP×Nat) ⊕ (Int×Int)):Prop:=match s with|.inl x=>k<x.2/\x.2<=40/\ch x.1<=mo*(x.2-k)/\qer x.1|.inr e=>e.1≠0
def q48(rec:List al->Bs->Nat->(TP×Nat) ⊕ (Int×Int))(hr:∀l b k,Mo l b->k<40->okS k (rec l b k))(c:Bs)(k:Nat):okS k (rn rec c k):=by
 unfold rn;by_cases h:(fq c).2.1.1=0
 ·rw[qW (by simpa using h)]
  by_cases h4:40<=k
  ·rw[qX h4];show(2:Int)≠0;decide
  ·rw[qW h4];exact hr _ _ _ (zao h).1 (by omega)
 ·rw[qX h];exact h
def q0j(rec:List al->Bs->Nat->(TP×Nat) ⊕ (Int×Int))(hr:∀l b k,Mo l b->k<40->okS k (rec l b k))(f:List al)(hf:Mo f [])(k0:Nat):∀(cs:List Bs)(k:Nat)(acc:List TP),k0<k->k<=40->(acc.map ch).sum<=mo*(k-(k0+1))->(∀t∈acc,qer t)->okS k0 (pp rec f cs k acc)
 |[],k,acc,h1,h2,h3,h4=>by
  rw[pp];refine⟨h1,h2,?_,q9x hf h4⟩;have:=hf.sz acc;have e:mo*(k-k0)=mo*(k-(k0+1))+mo:=by rw[← Nat.mul_succ];congr 1;omega
  show ch (.node (f,[]) acc)<=mo*(k-k0);omega
 |c::cs,k,acc,h1,h2,h3,h4=>by
  rw[pp];have:=q48 rec hr c k
  cases hc:rn rec c k with
  |inr e=>rw[hc]at this;exact this|inl x=>
   rw[hc]at this;obtain⟨g1,g2,g3,g4⟩:=this;refine q0j rec hr f hf k0 cs x.2 _ (by omega) g2 ?_ ?_
   ·rw[List.map_append,List.sum_append];have e:mo*(x.2-(k0+1))=mo*(k-(k0+1))+mo*(x.2-k):=by rw[← Nat.mul_add];congr 1;omega
    simp only[List.map_cons,List.map_nil,List.sum_cons,List.sum_nil];omega
   ·intro t ht;rcases List.mem_append.1 ht with e|e
    ·exact h4 t e
    ·rw[List.mem_singleton.1 e];exact g4
def qdf:∀(n:Nat)(l:List al)(b:Bs)(k:Nat),Mo l b->k<40->okS k (fm n l b k)
 |0,l,b,k,hm,hk=>by
  refine⟨by simp only;omega,by simp only;omega,?_,q9x hm (by simp)⟩
  have:=hm.sz [];simp only[List.map_nil,List.sum_nil]at this;show ch (.node (l,b) [])<=mo*(k+1-k);rw[show k+1-k=1 by omega];omega
 |n+1,l,b,k,hm,hk=>by
  rw[fm]
  cases hx:oh l b with
  |none=>exact qdf 0 l b k hm hk|some x=>
   obtain⟨h1,h2,h3⟩:=q63 hx hm;exact q0j (fm n) (fun l b k=>qdf n l b k) x.1 h1 k x.2 (k+1) [] (by omega) (by omega) (by simp) (by simp)
def zq7{t:TP}{k:Nat}(hk:k<=40)(h1:ch t<=mo*k)(h2:qer t):gd t:=⟨by
 have:mo*k<=1452200*40:=Nat.mul_le_mul_left _ hk;omega,fun n d x hx=>(h2 n d x hx).smT⟩
def zii(b:Bs):∀(n:Nat)(r:Bs)(st:Option Bs)(out:List Bs),(gx b n r st out).length<=out.length+r.length+1:=by
 intro n
 induction n with
 |zero=>intro r st out;show out.length<=_;omega|succ n ih=>
  intro r st out
  cases r with
  |nil=>cases st with|none=>show out.length<=_;omega|some s=>show(out++[s]).length<=_;simp
  |cons c t=>
   have hn:=tr c t;have ha:=q9f st (c::t) out;rw[gx];simp only[qL];split
   ·have:=ih (bu (c::t)) st out;omega
   ·split
    ·omega
    ·have:=ih (bu (c::t)) (some (bu (c::t))) (jc st (c::t) out);omega
def zzb(body b:Bs):(ii body b).length<=body.length+1:=by have:=zii b (body.length+1) body none [];simpa [ii] using this
def okR(R:qky)(s:(TP×Nat) ⊕ (Int×Int)):Prop:=match s with|.inl x=>R=(x.1,(true,((x.2:Int),(0,0))))|.inr e=>R.2.1=false/\R.2.2.2=e
def z18(fu m:Nat)(rs:qa1)(d:Int)(n:Nat)(f:List al)(cs:List Bs)(hcs:cs.length<=4000000)(hf:Mo f [])
  (hrs:∀c∈cs,∀k:Nat,k<=40->∃R,rs c (af (d+1)) ((k:Int),(0,0))=some R/\okR R (rn (fm n) c k)) :
  ∀(ab aa:List Bs)(k:Nat)(acc:List TP),cs=ab++aa->aa.length<m->k<=40->acc.length<=k ->
  ∃R,w8 rs fu m d (cs.length:Int) (ab.length:Int) ((k:Int),(0,0)) cs f acc=some R/\okR R (pp (fm n) f aa k acc):=by
 have hrm:=iq
 induction m with
 |zero=>intro ab aa k acc _ h;omega|succ m ih=>
  intro ab aa k acc hp h hk ha;have ac:cs.length=ab.length+aa.length:=by rw[hp];simp
  rw[w8,qwk]
  cases aa with
  |nil=>
   rw[a6 (by simp only[qZ]at ac;omega)]
   exact⟨_,rfl,by rw[pp];rfl⟩
  |cons c aa=>
   simp only[qL]at h ac;have hc:cs[((ab.length:Nat):Int).toNat]? = some c:=by rw[hp];exact ng ab c aa
   obtain⟨R,g1,g2⟩:=hrs c (by rw[hp];simp) k hk
   rw[aj,aj,hc,qB,g1,qB]
   rw[pp];have hok:=q48 (fm n) (fun l b k=>qdf n l b k) c k
   cases hr:rn (fm n) c k with
   |inr e=>
    rw[hr]at g2;obtain⟨q1,q2⟩:=g2;rw[q1,fp];exact⟨_,rfl,rfl,q2⟩
   |inl x=>
    rw[hr]at g2 hok;have g2:R=(x.1,(true,((x.2:Int),(0,0)))):=g2;subst g2;obtain⟨o1,o2,_,_⟩:=hok;simp only[gy];rw[dd,aj,a8 _]
    have:=ih (ab++[c]) aa x.2 (acc++[x.1]) (by rw[hp];simp) (by omega) o2 (by simp;omega)
    rw[qM,wD]at this;exact this
def zd7(fu:Nat)(hfu:90000000<=fu):∀(n m:Nat)(l:List al)(b:Bs)(d:Int)(k:Nat),d+n=8->0<=d->n<=m->Mo l b->k<40 ->
  ∃R,vn (ru fu m) fu b d ((k:Int),(0,0)) l=some R/\okR R (fm n l b k):=by
 intro n
 induction n with
 |zero=>
  intro m l b d k hd h0 hm hmo hk;have hs:=hmo.smT;unfold vn;have hc1:cd l=some l:=by unfold cd;rw[aj (by have:=hmo.1;have:=iq;omega)]
  have hc2:cd b=some b:=by unfold cd;rw[aj (by have:=hmo.2.2;have:=iq;omega)]
  have hin:wd fu l b d=some []:=by
   rw[qsh fu hfu l b d hs]
   cases bnd l with|none=>rfl|some bb=>exact congrArg some (qW)
  rw[hc1,hc2,hin];simp only[qB];rw[a7,a8 _]
  exact⟨_,rfl,rfl⟩
 |succ n ih=>
  intro m l b d k hd h0 hm hmo hk;have hs:=hmo.smT;have hrm:=iq;unfold vn;have hc1:cd l=some l:=by unfold cd;rw[aj (by have:=hmo.1;omega)]
  have hc2:cd b=some b:=by unfold cd;rw[aj (by have:=hmo.2.2;omega)]
  rw[hc1,hc2,qsh fu hfu l b d hs];simp only[qB];rw[fm,a8 _]
  unfold oh
  cases hb:bnd l with
  |none=>simp only[];rw[a7];exact⟨_,rfl,rfl⟩|some bb=>
   simp only[];rw[qX (show d<8 by omega)]
   by_cases hc:ii b bb=[]
   ·rw[qX hc,hc,a7];exact⟨_,rfl,rfl⟩
   ·rw[qW hc];have hcl:(ii b bb).length≠0:=by cases hh:ii b bb with|nil=>exact absurd hh hc|cons=>simp
    rw[bc (by simp;omega)]
    have ht:∃mt,il l=some mt:=by
     cases ht:il l with
     |none=>unfold bnd at hb;rw[ht]at hb;cases hb
     |some mt=>exact⟨mt,rfl⟩
    obtain⟨mt,ht⟩:=ht;rw[zzv fu hfu l (fun x hx=>by have:=hmo.2.1 x hx;omega) (by have:=hmo.1;omega) mt ht,ht,qB]
    simp only[];have hkid:oh l b=if 4000<(bp (ji mt)).length then none else some (eg l (bp (ji mt)),ii b bb):=by
     unfold oh;rw[hb];simp only[];rw[qW hc,ht]
    by_cases h4:4000<(bp (ji mt)).length
    ·rw[qX h4,qX h4,fp];exact⟨_,rfl,rfl⟩
    ·rw[qW h4]at hkid;rw[qW h4,qW h4,dd];obtain⟨q1,q2,q3⟩:=q63 hkid hmo;have hcon:=zzb b bb;have hb12:=hmo.2.2;have:=z18 fu fu (ru fu m) d n (eg l (bp (ji mt))) (ii b bb) (by omega) q1 (by
      intro c hc' k' hk';obtain⟨m',rfl⟩:∃m',m=m'+1:=⟨m-1,by omega⟩
      rw[ru,qnq,zs0 fu hfu c];simp only[qB,jx];unfold rn;by_cases hr:(fq c).2.1.1=0
      ·rw[bc (by simpa using hr),qW (by simpa using hr)]
       obtain⟨p1,p2,p3⟩:=zao hr;by_cases h40:40<=k'
       ·rw[qX h40,a7 (by simp;omega)]
        exact⟨_,rfl,rfl,rfl⟩
       ·rw[qW h40,bc (by simp;omega),aj ⟨p2,p3⟩]
        have hw:af (d+1)=d+1:=by rw[show d=((d.toNat:Nat):Int) by omega];exact a8 _
        obtain⟨R,r1,r2⟩:=ih m' (fq c).2.2 (c.drop (fq c).1.toNat) (af (d+1)) k' (by rw[hw];omega) (by rw[hw];omega) (by omega) p1 (by omega)
        rw[r1,qB];refine⟨_,rfl,?_⟩;rw[gy];exact r2
      ·rw[a7 (by simpa using hr),qX hr]
       exact⟨_,rfl,rfl,rfl⟩) [] (ii b bb) (k+1) [] rfl (by omega) (by omega) (by simp)
     exact this
def zd2(fu:Nat):qh0 fu=fun l b d x=>vn (ru fu fu) fu b d x l:=by
 have hp:∀n,qeo fu n=w8 (ru fu fu) fu n:=by
  intro n
  induction n with|zero=>rfl|succ n ih=>rw[qeo,w8,ih];rfl
 funext l b d x;unfold qh0 vn;rw[hp]

def lv(fu:Nat)(m:List al×Bs):TP×(Int×Int):=if(fe m).1≠0 then(emT,fe m) else match fm 8 m.1 m.2 0 with|.inr e=>(emT,e)|.inl x=>if(kq fu x.1).1≠0 then(emT,((kq fu x.1).1,-9)) else(x.1,(0,0))
def qxx{m:List al×Bs}(h:(fe m).1=0):Mo m.1 m.2:=by
 obtain⟨_,h1,h2,h3,_⟩:=qpz h;refine⟨h1,fun y hy => ?_,by omega⟩
 obtain⟨g1,g2,_,_⟩:=qe3 (h2 y hy);omega
def zal{l:List al}{b:Bs}{x:TP×Nat}(hm:Mo l b)(h:fm 8 l b 0 = .inl x):gd x.1:=by
 have:=qdf 8 l b 0 hm (by omega)
 rw[h]at this;obtain⟨_,h2,h3,h4⟩:=this;exact zq7 h2 h3 h4
def qq3(fu:Nat)(hfu:90000000<=fu)(m:List al×Bs)(hs:xf m):wl fu m=some (lv fu m):=by
 unfold wl lv;rw[q3h fu hfu m hs,qB,jx,qB,jg];by_cases h:(fe m).1=0
 ·rw[qW (by simpa using h),qW (by simpa using h)]
  have hm:=qxx h;obtain⟨R,g1,g2⟩:=zd7 fu hfu 8 fu m.1 m.2 0 0 (by omega) (by omega) (by omega) hm (by omega)
  rw[zd2];show(vn (ru fu fu) fu m.2 0 (((0:Nat):Int),(0,0)) m.1).bind _=_;rw[g1,qB]
  cases hx:fm 8 m.1 m.2 0 with
  |inr e=>
   rw[hx]at g2;obtain⟨q1,q2⟩:=g2;rw[q1,fp,q2]
  |inl x=>
   rw[hx]at g2;have g2:R=(x.1,(true,((x.2:Int),(0,0)))):=g2;subst g2;have hg:=zal hm hx;simp only[gy];rw[dd,q5i fu hfu x.1 hg,qB,jx,qB,jg];by_cases hp:(kq fu x.1).1≠0
   ·rw[qX hp,qX hp];rfl
   ·rw[qW hp,qW hp];rfl
 ·rw[qX h,qX h]
def zei{fu:Nat}{m:List al×Bs}(h:(lv fu m).2.1≠0):(lv fu m).1=emT:=by
 unfold lv at h ⊢;split
 ·rfl
 ·rename_i h0;rw[qW h0]at h
  cases hx:fm 8 m.1 m.2 0 with
  |inr e=>rfl|inl x=>
   rw[hx]at h;simp only at h ⊢;split
   ·rfl
   ·rename_i h1;rw[qW h1]at h;exact absurd rfl h
def zrz(fu:Nat)(m:List al×Bs):gd (lv fu m).1:=by
 unfold lv;split
 ·exact qic
 ·rename_i h0
  cases hx:fm 8 m.1 m.2 0 with
  |inr e=>exact qic|inl x=>
   simp only;split
   ·exact qic
   ·exact zal (qxx (by simpa using h0)) hx
open Go.Lib (decDigits)
def gc(c:UInt8):Bool:=fo c && !bl c
def zca:∀n:_root_.Fin 256,tk (UInt8.ofNat n.val)=true->gc (UInt8.ofNat n.val)=true:=by decide +kernel
def qoy(c:UInt8)(h:tk c=true):gc c=true:=ig (fun c=>tk c=true->gc c=true) zca c h
def zdd:∀n:_root_.Fin 256,(two (UInt8.ofNat n.val)).all gc=true:=by decide +kernel
def zl8(c:UInt8):(two c).all gc=true:=ig (fun c=>(two c).all gc=true) zdd c
def q95:∀n:_root_.Fin 256,(48<=(UInt8.ofNat n.val).toNat/\(UInt8.ofNat n.val).toNat<=57->gc (UInt8.ofNat n.val)=true)/\(fo (UInt8.ofNat n.val)=true->([13,10,0]:Bs).contains (UInt8.ofNat n.val)=false):=by decide +kernel
def zvr(c:UInt8)(h:48<=c.toNat/\c.toNat<=57):gc c=true:=(ig (fun c=>(48<=c.toNat/\c.toNat<=57->gc c=true)/\(fo c=true->([13,10,0]:Bs).contains c=false)) q95 c).1 h
def zpp(c:UInt8)(h:fo c=true):([13,10,0]:Bs).contains c=false:=(ig (fun c=>(48<=c.toNat/\c.toNat<=57->gc c=true)/\(fo c=true->([13,10,0]:Bs).contains c=false)) q95 c).2 h
def qkk{c:UInt8}(h:gc c=true):fo c=true:=by unfold gc at h;simp at h;exact h.1
def qpa{c:UInt8}(h:gc c=true):bl c=false:=by unfold gc at h;simp at h;exact h.2
def qji{s:Bs}(h:dq s=true):s≠[]/\∀x∈s,gc x=true:=by
 unfold dq at h;simp only[qA,List.all_eq_true]at h;exact⟨by intro e;subst e;simp at h,fun x hx=>qoy x (h.2 x hx)⟩
def q3d(c:UInt8):∀x∈dp c,gc x=true:=by
 intro x hx;unfold dp at hx;split at hx
 ·rename_i h;rw[List.mem_singleton.1 hx];exact qoy c h
 ·rcases List.mem_cons.1 hx with e|e
  ·rw[e];decide
  ·exact List.all_eq_true.1 (zl8 c) x e
def qye:∀(t cur:Bs),(∀x∈cur,gc x=true)->∀p∈dh cur t,∀x∈p,gc x=true
 |[],cur,h,p,hp=>by rw[dh,List.mem_singleton]at hp;rw[hp];exact h|c::t,cur,h,p,hp=>by
  rw[dh]at hp;split at hp
  ·exact qye t _ (fun x hx=>by
    rcases List.mem_append.1 hx with e|e
    ·exact h x e
    ·exact q3d c x e) p hp
  ·rcases List.mem_cons.1 hp with e|e
   ·rw[e];exact h
   ·exact qye t _ (q3d c) p e
def Ck(c:Bs):Prop:=∃w e,c=59::32::(w++[e])/\w.length<=200/\bl e=false/\∀x∈w++[e],fo x=true
def qyv{t:Bs}(h0:t≠[])(hl:t.length<=200)(h:∀x∈t,gc x=true):Ck (59::32::t):=by
 refine⟨t.dropLast,t.getLast h0,by rw[List.dropLast_concat_getLast],by rw[List.length_dropLast];omega,qpa (h _ (List.getLast_mem h0)),fun x hx => ?_⟩
 rw[List.dropLast_concat_getLast]at hx;exact qkk (h x hx)
def q5h(nm:Bs)(hn:∀x∈nm,gc x=true)(hl:nm.length<=20):∀(ps:List Bs)(n:Nat),n+ps.length<=100000000->(∀p∈ps,p.length<=60/\∀x∈p,gc x=true)->∃cs:List Bs,cs.flatten=fw nm n ps/\∀c∈cs,Ck c
 |[],_,_,_=>⟨[],rfl,by simp⟩|p::ps,n,h,hp=>by
  simp only[qL]at h;obtain⟨cs,e,hc⟩:=q5h nm hn hl ps (n+1) (by omega) (fun q hq=>hp q (qE _ hq))
  obtain⟨p1,p2⟩:=hp p qH;have h3:=qbz 9 n (by omega) (by omega)
  refine⟨(59::32::(nm++[42]++decDigits n++[42,61]++p))::cs,?_,?_⟩
  ·rw[List.flatten_cons,e,fw];simp
  ·intro c hc';rcases List.mem_cons.1 hc' with e|e
   ·rw[e];refine qyv (by simp) (by simp;omega) (fun x hx => ?_)
    simp only[wA,wE,List.not_mem_nil,or_false]at hx;rcases hx with(((q|q)|q)|q|q)|q
    ·exact hn x q
    ·rw[q];decide
    ·exact zvr x (xq n x q)
    ·rw[q];decide
    ·rw[q];decide
    ·exact p2 x q
   ·exact hc c e
def zms:∀s:Bs,(∀x∈s,fo x=true)->∀x∈quo s,fo x=true:=by
 intro s h x hx;unfold quo ej at hx;obtain⟨c,hc,hx⟩:=List.mem_flatMap.1 hx;unfold np at hx;split at hx
 ·simp at hx;rw[hx];decide
 ·split at hx
  ·simp at hx;rcases hx with e|e<;>(rw[e];decide)
  ·rw[List.mem_singleton.1 hx];exact h c hc
def zx7(p:bt)(h1:dq p.1=true)(h2:p.1.length<=20)(h3:p.2.length<=500):∃cs:List Bs,cs.flatten=d5 p/\∀c∈cs,Ck c:=by
 obtain⟨n0,n1⟩:=qji h1;unfold d5;split
 ·rename_i hv;have hl:=qc2 hv;obtain⟨v0,v1⟩:=qji hv;refine⟨[59::32::(p.1++[61]++p.2)],by simp,?_⟩
  intro c hc;rw[List.mem_singleton.1 hc];refine qyv (by simp) (by simp;omega) (fun x hx => ?_)
  simp only[wA,List.mem_singleton]at hx;rcases hx with(q|q)|q
  ·exact n1 x q
  ·rw[q];decide
  ·exact v1 x q
 ·split
  ·rename_i hv;refine⟨[59::32::((p.1++[61,34]++quo p.2)++[34])],by simp,?_⟩
   intro c hc;rw[List.mem_singleton.1 hc];have hq:=qth p.2;refine⟨_,_,rfl,by simp;omega,rfl,fun x hx => ?_⟩
   simp only[wA,wE,List.not_mem_nil,or_false]at hx;rcases hx with((q|q|q)|q)|q
   ·exact qkk (n1 x q)
   ·rw[q];decide
   ·rw[q];decide
   ·exact zms p.2 (fun y hy=>List.all_eq_true.1 hv.2 y hy) x q
   ·rw[q];decide
  ·have hl:=uk p.2 d9;exact q5h p.1 n1 h2 _ 0 (by omega) (fun q hq=>⟨qfb _ _ (by decide) q hq,qye _ _ (by decide) q hq⟩)
def q50:∀l:List bt,(∀p∈l,dq p.1=true/\p.1.length<=20/\p.2.length<=500/\Go.Lib.validD p.2=true)->∃cs:List Bs,cs.flatten=l.flatMap d5/\∀c∈cs,Ck c
 |[],_=>⟨[],rfl,by simp⟩|p::l,h=>by
  obtain⟨q1,q2,q3,_⟩:=h p qH;obtain⟨a,ha,ha2⟩:=zx7 p q1 q2 q3;obtain⟨b,hb,hb2⟩:=q50 l (fun q hq=>h q (qE _ hq))
  refine⟨a++b,by rw[List.flatten_append,ha,hb,List.flatMap_cons],fun c hc => ?_⟩
  rcases List.mem_append.1 hc with e|e
  ·exact ha2 c e
  ·exact hb2 c e
def qui{m:cv}(h:(dw m).1=0):∃(u:Bs)(cs:List Bs),bp m=u++cs.flatten/\u≠[]/\u.length<=121/\(∀x∈u,gc x=true)/\∀c∈cs,Ck c:=by
 obtain⟨h1,h2,h3,h4⟩:=qax h;obtain⟨cs,hc,hc2⟩:=q50 m.2.2 h4;obtain⟨a0,a1⟩:=qji h1;obtain⟨b0,b1⟩:=qji h2;have l1:=qc2 h1;have l2:=qc2 h2;refine⟨m.1++[47]++m.2.1,cs,by rw[hc];rfl,by simp,by simp;omega,fun x hx => ?_,hc2⟩
 simp only[wA,List.mem_singleton]at hx;rcases hx with(q|q)|q
 ·exact a1 x q
 ·rw[q];decide
 ·exact b1 x q
def zs7{m:cv}(h:(dw m).1=0):∀x∈bp m,fo x=true:=by
 obtain⟨u,cs,e,_,_,hu,hc⟩:=qui h;rw[e];intro x hx;rcases List.mem_append.1 hx with q|q
 ·exact qkk (hu x q)
 ·obtain⟨c,hc1,hx⟩:=List.mem_flatten.1 q;obtain⟨w,y,rfl,_,_,hw⟩:=hc c hc1;rcases List.mem_cons.1 hx with e|e
  ·rw[e];decide
  ·rcases List.mem_cons.1 e with e|e
   ·rw[e];decide
   ·exact hw x e
def zkt{m:cv}(h:(dw m).1=0):o9 (bp m)=true:=by
 obtain⟨u,cs,e,hu0,_,hu,hc⟩:=qui h;have hp:=zs7 h;unfold o9 yn;have h1:(bp m).any ([13,10,0]:Bs).contains=false:=by
  rw[List.any_eq_false];intro x hx;rw[zpp x (hp x hx)];decide
 have h2:(bp m).head?.any bl=false:=by
  rw[e]
  cases u with|nil=>exact absurd rfl hu0|cons a u=>simpa using qpa (hu a qH)
 have h3:(bp m).getLast?.any bl=false:=by
  rw[e];rcases List.eq_nil_or_concat cs with q|⟨ds,c,q⟩
  ·subst q;rw[List.flatten_nil,List.append_nil,List.getLast?_eq_some_getLast hu0];simpa using qpa (hu _ (List.getLast_mem hu0))
  ·subst q;obtain⟨w,y,rfl,_,hy,_⟩:=hc c (by simp)
   rw[show u++(ds.concat (59::32::(w++[y]))).flatten=(u++ds.flatten++59::32::w)++[y] by simp,List.getLast?_concat]
   simpa using hy
 rw[h1,h2,h3];rfl
def Gap(K:Nat)(s:Bs):Prop:=∀i,1<=i->i+K<=s.length->∃j,i<=j/\j<i+K/\ml s j=true
def qzg(U:Nat)(hU:202<=U):∀(cs:List Bs)(ab u:Bs)(i:Nat),u.length<=U->(∀c∈cs,Ck c)->ab.length<=i->i+(U+2)<=(ab++u++cs.flatten).length->∃j,i<=j/\j<i+(U+2)/\ml (ab++u++cs.flatten) j=true
 |[],ab,u,i,hu,_,hi,hl=>by simp at hl;omega|c::cs,ab,u,i,hu,hc,hi,hl=>by
  obtain⟨w,e,rfl,hw,he,_⟩:=hc c qH;by_cases hp:i<=ab.length+u.length+1
  ·refine⟨ab.length+u.length+1,hp,by omega,?_⟩
   have g1:(ab++u++((59::32::(w++[e]))::cs).flatten).getD (ab.length+u.length+1) 0=32:=by
    rw[List.flatten_cons,wK,wK,List.getD_eq_getElem?_getD,List.getElem?_append_right (by simp)]
    simp[show ab.length+u.length+1-(ab.length+u.length)=1 by omega]
   have g2:(ab++u++((59::32::(w++[e]))::cs).flatten).getD (ab.length+u.length+1-1) 0=59:=by
    rw[List.flatten_cons,wK,wK,List.getD_eq_getElem?_getD,List.getElem?_append_right (by simp)]
    simp
   unfold ml;rw[g1,g2];decide
  ·have hs:ab++u++((59::32::(w++[e]))::cs).flatten=(ab++u++[59])++(32::(w++[e]))++cs.flatten:=by simp
   rw[hs]at hl ⊢;exact qzg U hU cs (ab++u++[59]) (32::(w++[e])) i (by simp;omega) (fun c hc'=>hc c (qE _ hc')) (by simp;omega) hl
def qxo(s:Bs):∀m i b,1<=i->0<b->cb s m i b<=max 78 b
 |0,_,b,_,_=>by rw[cb];omega|m+1,i,b,hi,hb=>by
  rw[cb];split
  ·rename_i h;have h78:i<=78:=by
    simp only[qA,Bool.not_eq_true',Bool.and_eq_false_iff,decide_eq_false_iff_not]at h;omega
   have:=qxo s m (i+1) i (by omega) (by omega)
   omega
  ·exact qxo s m (i+1) b (by omega) hb
def q40(s:Bs)(j:Nat)(hj:ml s j=true):∀m i,1<=i->i<=j->j<i+m->cb s m i 0<=max 78 j/\cb s m i 0≠0
 |0,i,_,h1,h2=>by omega|m+1,i,hi,h1,h2=>by
  rw[cb];split
  ·have:=qxo s m (i+1) i (by omega) (by omega)
   refine⟨by omega,?_⟩
   rcases qmx s m (i+1) i with e|⟨q,_,_⟩<;>omega
  ·rename_i h;by_cases e:i=j
   ·subst e;exact absurd (by rw[hj];simp) h
   ·exact q40 s j hj m (i+1) (by omega) (by omega) (by omega)
def zt2(s:Bs)(k K:Nat)(h1:1<=k)(hg:Gap K s):gq s k<=max 78 (k+K)/\(gq s k=0->s.length<k+K):=by
 by_cases hl:k+K<=s.length
 ·obtain⟨j,q1,q2,q3⟩:=hg k h1 hl;have:=q40 s j q3 (s.length-k) k h1 q1 (by omega)
  unfold gq;exact⟨by omega,fun e=>absurd e this.2⟩
 ·refine⟨?_,fun _=>by omega⟩
  by_cases h0:gq s k=0
  ·omega
  ·have:=qj3 s k h1 h0;omega
def zl1{K:Nat}{s:Bs}(h:Gap K s)(a:Nat):Gap K (s.drop a):=by
 intro i hi hl;rw[List.length_drop]at hl;by_cases ha:a<=s.length
 ·obtain⟨j,q1,q2,q3⟩:=h (i+a) (by omega) (by omega)
  exact⟨j-a,by omega,by omega,by rw[zf7 s a j];exact q3⟩
 ·exact absurd hl (by
   have:K=0\/0<K:=by omega
   omega)
def q64(K:Nat):∀(m:Nat)(s:Bs)(k:Nat),s.length<=m->1<=k->Gap K s->∀x∈ik m s k,x.length<=max 78 (k+K)
 |0,s,k,hm,_,_,x,hx=>by rw[ik,List.mem_singleton]at hx;rw[hx];omega|m+1,s,k,hm,h1,hg,x,hx=>by
  obtain⟨b1,b2⟩:=zt2 s k K h1 hg;rw[ik]at hx;split at hx
  ·split at hx
   ·rename_i h0;rw[List.mem_singleton.1 hx];have:=b2 h0;omega
   ·rename_i h78 h0;rcases List.mem_cons.1 hx with e|e
    ·rw[e,List.length_take];omega
    ·have:=q64 K m (s.drop (gq s k)) 1 (by rw[List.length_drop];omega) (by omega) (zl1 hg _) x e
     omega
  ·rw[List.mem_singleton.1 hx];omega
def q8s:∀(ls:List Bs)(i:Nat),(∀x∈ls,x.length<=998)->oc i ls=none
 |[],_,_=>rfl|l::ls,i,h=>by
  have:=h l qH;rw[oc,qW]
  exact q8s ls (i+1) (fun x hx=>h x (qE _ hx))
def zq1{n:Bs}{m:cv}(hn:io n=true)(h:(dw m).1=0)(hl:(bp m).length<=4000):eh (n,bp m):=by
 refine⟨?_,?_⟩
 ·show ou n (bp m)=0;unfold ou;rw[qX hn,qW,qX (zkt h)]
 ·have hn60:=qk4 hn;obtain⟨u,cs,e,hu0,hul,hu,hc⟩:=qui h;have hg:Gap 302 (cm n (bp m)):=by
   intro i hi hl;have es:cm n (bp m)=[]++(n++[58,32]++u)++cs.flatten:=by unfold cm;rw[e];simp
   rw[es]at hl ⊢;exact qzg 300 (by omega) cs [] (n++[58,32]++u) i (by simp;omega) hc (by simp) hl
  have:=q64 302 (cm n (bp m)).length (cm n (bp m)) (n.length+2) (wF _) (by omega) hg
  exact q8s _ 0 (fun x hx=>by have:=this x hx;omega)
end Go.Sym
namespace Go.Sym
open Go.Lib (decDigits itoa)
def zt9(fu:Nat)(r0:qb2)(s1:Bs)(s12:List al)(s13 s14:Int)(n:Nat):∀(ab aa:List Bs)(out:Bs),aa.length<n->ab.length+aa.length<100000000->out.length+(bi aa).length<1000000000 ->
  y7 fu r0 n s1 s12 s13 s14 ((ab.length+aa.length:Nat):Int) (ab.length:Int) (ab++aa) out=r0 s1 s12 s13 (af (s14+1)) (out++bi aa):=by
 induction n with
 |zero=>intro ab aa out h;omega|succ n ih=>
  intro ab aa out h hb ho;rw[y7,qre]
  cases aa with
  |nil=>rw[a6];simp[bi]|cons x aa=>
   have hc:bi (x::aa)=x++[13,10]++bi aa:=by simp[bi]
   rw[hc]at ho ⊢;simp only[qL,qM,qZ]at h hb ho;rw[show(x::aa).length=aa.length+1 from rfl,aj,qta,da,qB,aj (by simp[bg];omega),aj (by simp[bg];omega),a8 _]
   have:=ih (ab++[x]) aa (out++x++[13,10]) (by omega) (by simp;omega) (by simp;omega)
   simp only[qS,wM,qM,qL,qZ]at this;rw[show ab.length+(0+1)+aa.length=ab.length+(aa.length+1) by omega]at this
   simpa using this
def z2c(fu n:Nat)(hfu:90000000<=fu)(b:Bs)(hm:b.length<=100000000):∀(ab aa:List al)(out:Bs),aa.length<n->ab.length+aa.length<1000->(∀x∈aa,eh x)->out.length<=20000*ab.length ->
  xg fu n b (ab++aa) ((ab.length+aa.length:Nat):Int) (ab.length:Int) out=some (out++hbytes aa++b):=by
 induction n with
 |zero=>intro ab aa out h;omega|succ n ih=>
  intro ab aa out h hb hok ho;rw[xg,qyh]
  cases aa with
  |nil=>
   rw[a6,aj (by simp[bg];omega),aj (by simp[bg];omega)];simp[hbytes,ie]
  |cons x aa=>
   have hx:=hok x qH;obtain⟨l1,l2,l3,l4⟩:=qe3 hx;have hc:hbytes (x::aa)=bi (cz x.1 x.2)++hbytes aa:=by simp[hbytes,ie]
   rw[hc];simp only[qL]at h hb ⊢;rw[aj,da,qB,qiq fu x.1 x.2,qB,qtq hx]
   have:=zt9 fu (xg fu n) b (ab++x::aa) ((ab.length+(aa.length+1):Nat):Int) (ab.length:Int) fu [] (cz x.1 x.2) out (by omega) (by simp;omega) (by omega)
   simp only[List.nil_append,qZ,wO]at this;have this:y7 fu (xg fu n) fu b (ab++x::aa) ((ab.length+(aa.length+1):Nat):Int) (ab.length:Int) ((cz x.1 x.2).length:Int) 0 (cz x.1 x.2) out=_:=this;rw[this,a8 _]
   have:=ih (ab++[x]) aa (out++bi (cz x.1 x.2)) (by omega) (by simp;omega) (fun y hy=>hok y (qE _ hy)) (by simp;omega)
   simp only[qS,wM,qM,qL,qZ]at this;rw[show ab.length+(0+1)+aa.length=ab.length+(aa.length+1) by omega]at this
   simpa using this
def zrf(fu:Nat)(hfu:90000000<=fu)(l:List al)(b:Bs)(hl:l.length<=60)(hok:∀x∈l,eh x)(hb:b.length<=100000000):qvf fu l b=some (hbytes l++b):=by
 have:=z2c fu fu hfu b hb [] l [] (by omega) (by simp;omega) hok (by simp)
 simp only[List.nil_append,qZ,wO]at this;exact this
def lb(pat:Bs):Bool->Bs->Bool|_,[]=>false|st,c::t=>(st&&pat.isPrefixOf (c::t))||lb pat (c==10) t
def zdi{a b:Bs}(h:a.isPrefixOf b=true):a.length<=b.length:=(List.isPrefixOf_iff_prefix.1 h).length_le
def ztc(pat s:Bs):(s.take pat.length==pat)=pat.isPrefixOf s:=by
 rw[Bool.eq_iff_iff,beq_iff_eq,List.isPrefixOf_iff_prefix,List.prefix_iff_eq_take];exact⟨Eq.symm,Eq.symm⟩
def zjw(s p:Bs):qhw s p=some (p.isPrefixOf s):=by
 unfold qhw qx6;by_cases h:p.length<=s.length
 ·rw[aj,aj,qB,show((p.length:Nat):Int).toNat=p.length by omega,ztc]
 ·rw[a6,qB]
  cases hh:p.isPrefixOf s
  ·rfl
  ·exact absurd (zdi hh) h
def nu(pat:Bs):Nat->Bs->Bool|0,_=>false|_+1,[]=>false|n+1,c::t=>pat.isPrefixOf (bm (c::t))||nu pat n (bu (c::t))
def zlo(fu:Nat)(body b:Bs)(hb:body.length<=100000000)(hbb:b.length<=1000)(n:Nat):∀r:Bs,r <:+ body->r.length<n ->
  zd fu n (pos body r) body b false=some (if nu (([45,45]:Bs)++b) n r=true then .inl (body,(b,true)) else .inr (body,(b,false))):=by
 induction n with
 |zero=>intro r _ h;omega|succ n ih=>
  intro r hr h;rw[zd,qq5]
  cases r with
  |nil=>
   rw[qfo,a6];rfl
  |cons c t=>
   simp only[qL]at h;have hL:(c::t).length=t.length+1:=rfl;have hrl:=hr.length_le;simp only[qL]at hrl;have hcl:=qs6 (c::t);have hnl:=tr c t;have hge:=qnx body (c::t);have hnx:bu (c::t) <:+ body:=(qr2 _).trans hr;rw[aj (q0d hr),aj hge,aj (by decide),qjg hr]
   have hI:oo (c::t) [13,10]=some (Lib.index (c::t) [13,10]):=by
    unfold oo;rw[aj (by refine⟨by simp,by simp only[qL];omega,by simp[maxLen]⟩)]
   have hro:∀s,qdz s (bm (c::t)) b false=some (if(([45,45]:Bs)++b).isPrefixOf (bm (c::t))=true then .inl (b,true) else .inr (b,false)):=by
    intro s;unfold qdz;rw[aj (by simp[bh];omega),zjw,qB]
    cases (([45,45]:Bs)++b).isPrefixOf (bm (c::t))<;>rfl
   have st:=ih (bu (c::t)) hnx (by omega)
   have fin:∀(q:Option qoo),q=(some (if(([45,45]:Bs)++b).isPrefixOf (bm (c::t))=true then(.inl (b,true):q3k) else .inr (b,false))).bind (fun x2=>cf x2 (fun a3=>some (.inl (body,a3))) (fun b4=>zd fu n (pos body (bu (c::t))) body b4.1 b4.2)) ->
     q=some (if nu (([45,45]:Bs)++b) (n+1) (c::t)=true then .inl (body,(b,true)) else .inr (body,(b,false))):=by
    intro q hq;rw[hq,qB,nu];cases hh:(([45,45]:Bs)++b).isPrefixOf (bm (c::t))
    ·rw[qW]
     simp only[cf,Bool.false_or];exact st
    ·rw[qX rfl,qX];rfl
   apply fin;rw[hI,qB];rcases se (c::t) with⟨h1,h2⟩|⟨h1,h2,h3⟩
   ·have ac:=congrArg List.length h1;simp only[qM,qL]at ac;have e1:af (pos body (c::t)+((bm (c::t)).length:Int))=((body.length-(c::t).length+(bm (c::t)).length:Nat):Int):=by unfold pos;rw[qcp _ _]
    have e2:af (((body.length-(c::t).length+(bm (c::t)).length:Nat):Int)+2)=pos body (bu (c::t)):=by unfold pos;rw[me];simp only[qL];omega
    have e3:((body.length-(c::t).length+(bm (c::t)).length:Nat):Int).toNat-(pos body (c::t)).toNat=(bm (c::t)).length:=by unfold pos;omega
    rw[h2,aj,e1,aj (by unfold pos;simp only[qL];omega),e3,qkx,e2,hro]
   ·have e3:(body.length:Int).toNat-(pos body (c::t)).toNat=(bm (c::t)).length:=by rw[h1];unfold pos;omega
    rw[h3,a6,aj,e3,qkx,h2,qfo,hro]
def ze5(fu:Nat)(p b:Bs)(hp:p.length<=100000000)(hf:p.length<fu)(hb:b.length<=1000):qju fu p b=some (nu (([45,45]:Bs)++b) fu p,b):=by
 unfold qju qez qvu;have:=zlo fu p b hp hb fu p (List.suffix_refl _) hf;rw[q5x]at this;rw[qB,this,qB];cases nu (([45,45]:Bs)++b) fu p<;>rfl
def ce(s:Bs):Prop:=∀u w,s=u++10::w->u.getLast? = some 13
def ce.app{a b:Bs}(ha:ce a)(hb:ce b):ce (a++b):=by
 intro u w e;rcases List.append_eq_append_iff.1 e with⟨q,h1,h2⟩|⟨q,h1,h2⟩
 ·have:=hb q w h2;rw[h1,List.getLast?_append,this];rfl
 ·cases q with
  |nil=>
   rw[List.append_nil]at h1;have:=hb [] w (by simpa using h2.symm)
   cases this
  |cons c q=>
   rw[wK,List.cons.injEq]at h2;obtain⟨rfl,h2⟩:=h2;exact ha u q h1
def ce.no{s:Bs}(h:∀x∈s,x≠10):ce s:=by
 intro u w e;exact absurd rfl (h 10 (by rw[e];simp))
def ce.crlf:ce [13,10]:=by
 intro u w e
 match u,e with
 |[],e=>cases e
 |[c],e=>simp at e;rw[← e.1];rfl|c::d::u,e=>simp at e
def ce.drop{u r:Bs}(h:ce (u++13::10::r)):ce r:=by
 intro a w e;have:=h (u++13::10::a) w (by rw[e];simp)
 rcases List.eq_nil_or_concat a with q|⟨b,c,q⟩
 ·subst q;rw[show u++13::10::[]=(u++[13])++[10] by simp,List.getLast?_concat]at this;cases this
 ·subst q;rw[List.concat_eq_append]at this ⊢;rw[show u++13::10::(b++[c])=(u++13::10::b)++[c] by simp,List.getLast?_concat]at this
  rw[List.getLast?_concat];exact this
def q74:∀r:Bs,ce r->∀x∈bm r,x≠10
 |[],_,x,hx=>by cases hx
 |c::t,h,x,hx=>by
  rw[bm]at hx;split at hx
  ·cases hx
  ·rename_i hc;have h10:c≠10:=by intro e;have:=h [] t (by rw[e];rfl);cases this
   rcases List.mem_cons.1 hx with e|e
   ·rw[e];exact h10
   ·refine q74 t ?_ x e;intro u w e2;have:=h (c::u) w (by rw[e2];rfl)
    cases u with
    |nil=>
     simp at this;refine absurd ?_ hc;rw[e2,this];rfl
    |cons d u=>simpa using this
def qtf(pat:Bs):∀(u w:Bs)(st:Bool),u≠[]->(∀x∈u,x≠10)->lb pat st (u++w)=((st&&pat.isPrefixOf (u++w))||lb pat false w)
 |[],_,_,h,_=>absurd rfl h|[c],w,st,_,h=>by
  rw[wM,lb,show(c==10)=false by simpa using h c qH]
 |c::d::u,w,st,_,h=>by
  rw[wK,lb,show(c==10)=false by simpa using h c qH,qtf pat (d::u) w false (by simp) (fun x hx=>h x (qE _ hx))]
  simp
def zbd{pat u w:Bs}(h:∀x∈pat,x≠13):pat.isPrefixOf (u++13::w)=pat.isPrefixOf u:=by
 rw[Bool.eq_iff_iff,List.isPrefixOf_iff_prefix,List.isPrefixOf_iff_prefix];constructor
 ·intro⟨z,e⟩;rcases List.append_eq_append_iff.1 e with⟨q,h1,h2⟩|⟨q,h1,h2⟩
  ·exact⟨q,h1.symm⟩
  ·cases q with
   |nil=>rw[List.append_nil]at h1;rw[h1];exact List.prefix_refl _|cons c q=>
    rw[wK,List.cons.injEq]at h2;exact absurd h2.1.symm (h c (by rw[h1];simp))
 ·intro⟨z,e⟩;exact⟨z++13::w,by rw[← e];simp⟩
def qoa(pat:Bs)(h0:pat≠[])(h:∀x∈pat,x≠13):∀(n:Nat)(r:Bs),r.length<n->ce r->nu pat n r=lb pat true r:=by
 intro n
 induction n with
 |zero=>intro r h;omega|succ n ih=>
  intro r hl hok
  cases r with
  |nil=>rfl|cons c t=>
   have hn:=tr c t;simp only[qL]at hl;have hno:=q74 _ hok;rw[nu];rcases se (c::t) with⟨h1,_⟩|⟨h1,h2,_⟩
   ·have hok2:ce (bu (c::t)):=by rw[h1]at hok;exact hok.drop
    rw[ih _ (by omega) hok2]
    have e:lb pat true (c::t)=lb pat true (bm (c::t)++13::10::bu (c::t)):=by rw[← h1]
    rw[e];have tail:lb pat false (13::10::bu (c::t))=lb pat true (bu (c::t)):=by
     rw[lb,lb];simp
    by_cases hc:bm (c::t)=[]
    ·rw[hc,List.nil_append,lb,lb];have:pat.isPrefixOf (13::10::bu (c::t))=pat.isPrefixOf []:=zbd (u:=[]) h;rw[this];simp
    ·rw[qtf pat _ _ true hc hno,tail,zbd h];simp
   ·rw[h2];have e:lb pat true (c::t)=lb pat true (bm (c::t)++[]):=by rw[List.append_nil,h1]
    have e3:nu pat n []=false:=by cases n<;>rfl
    rw[e,qtf pat _ _ true (by rw[h1];simp) hno,e3,List.append_nil]
    simp[lb]
def bN(N:Nat):Bs:=98::decDigits N
def dl(N:Nat):Bs:=[45,45]++bN N
def fk(ps:List Bs)(N:Nat):Bool:=ps.any fun p=>lb (dl N) true p
def qt1(N:Nat):dl N≠[]:=by unfold dl;simp
def y9(N:Nat):∀x∈dl N,x≠13:=by
 intro x hx;unfold dl bN at hx;simp only[wA,wE,List.not_mem_nil,or_false]at hx;rcases hx with(q|q)|q|q
 ·rw[q];decide
 ·rw[q];decide
 ·rw[q];decide
 ·intro e;subst e;have:=xq N 13 q;revert this;decide
def p8(N:Nat)(h:N<1000000000000:=by omega):(bN N).length<=13:=by unfold bN;have:=qbz 12 N h (by omega);simp only[qL];omega
def zqz(fu N:Nat)(p:Bs)(hf:p.length<fu)(hok:ce p):nu (([45,45]:Bs)++bN N) fu p=lb (dl N) true p:=qoa (dl N) (qt1 N) (y9 N) fu p hf hok
def qiu(fu:Nat)(ps:List Bs):Prop:=ps.length<=1000/\∀p∈ps,p.length<=100000000/\p.length<fu/\ce p
def ztn(fu n N:Nat)(hN:N<1000000000000)(z:List Bs):∀(ab aa:List Bs),aa.length<n->ab.length+aa.length<100000->(∀p∈aa,p.length<=100000000/\p.length<fu/\ce p) ->
  ∃k:Int,qe7 fu n (ab++aa) ((ab.length+aa.length:Nat):Int) (ab.length:Int) (bN N)=some (k,bN N)/\decide (0<=k)=fk aa N:=by
 have hb:=p8 N hN
 induction n with
 |zero=>intro ab aa h;omega|succ n ih=>
  intro ab aa h hl hs;rw[qe7,qut]
  cases aa with
  |nil=>rw[a6];exact⟨-1,rfl,rfl⟩|cons p t=>
   simp only[qL]at h hl;obtain⟨p1,p2,p3⟩:=hs p qH;rw[aj (by simp only[qL];omega),da,qB,ze5 fu p (bN N) p1 p2 (by omega),qB,zqz fu N p p2 p3]
   cases hh:lb (dl N) true p
   ·obtain⟨k,g1,g2⟩:=ih (ab++[p]) t (by omega) (by simp;omega) (fun q hq=>hs q (qE _ hq))
    rw[qM,wD,qS,wM]at g1;refine⟨k,?_,by rw[g2];unfold fk;rw[List.any_cons,hh,Bool.false_or]⟩
    rw[bc rfl,a8 _,show ab.length+(p::t).length=ab.length+1+t.length by simp only[qL];omega]
    exact g1
   ·refine⟨(ab.length:Int),by rw[a7 rfl],?_⟩
    unfold fk;rw[List.any_cons,hh];simp
def zrw(fu N:Nat)(hN:N<1000000000000)(ps:List Bs)(hs:qiu fu ps)(hfu:90000000<=fu):qdp fu ps (bN N)=some (fk ps N,bN N):=by
 have h1:=hs.1;obtain⟨k,g1,g2⟩:=ztn fu fu N hN ps [] ps (by omega) (by simp;omega) hs.2
 simp only[List.nil_append,qZ,wO]at g1;unfold qdp qrr;rw[show((0:Int))=((0:Nat):Int) from rfl]at *
 rw[g1,qB,← g2]
def zgv(fu:Nat)(hfu:90000000<=fu)(ps:List Bs)(hs:qiu fu ps)(N:Nat)(hN:N<1000000000000)(h0:fk ps N=false)(h1:∀k,k<N->fk ps k=true)(n:Nat):∀a:Nat,a<=N->N-a<n->qgo fu n ps (a:Int)=some (bN N):=by
 induction n with
 |zero=>intro a _ h;omega|succ n ih=>
  intro a ha h;rw[qgo,qrn];have hI:oe (a:Int)=some (decDigits a):=by unfold oe;rw[aj,qij]
  have hd:=qbz 12 a (by omega) (by omega)
  rw[hI,qB,aj (by simp[bh];omega)]
  show(qdp fu ps (bN a)).bind _=_;rw[zrw fu a (by omega) ps hs hfu,qB]
  by_cases e:a=N
  ·subst e;rw[h0,fp]
  ·rw[h1 a (by omega),dd,a8 _]
   exact ih (a+1) (by omega) (by omega)
def zr6(fu:Nat)(hfu:1000000000000<=fu)(ps:List Bs)(hs:qiu fu ps)(N:Nat)(hN:N<1000000000)(h0:fk ps N=false)(h1:∀k,k<N->fk ps k=true):qxz fu ps=some (bN N):=
 zgv fu (by omega) ps hs N (by omega) h0 h1 fu 0 (by omega) (by omega)
def qp0:∀(T:Nat)(l:List Nat),l.Nodup->(∀x∈l,x<T)->l.length<=T
 |0,l,_,h=>by
  cases l with|nil=>simp|cons a l=>exact absurd (h a qH) (by omega)
 |T+1,l,hn,h=>by
  by_cases hm:T∈l
  ·have:=qp0 T (l.erase T) (hn.erase T) (fun x hx=>by
    have h1:=(hn.mem_erase_iff).1 hx;have:=h x h1.2;have:=h1.1;omega)
   rw[List.length_erase_of_mem hm]at this;omega
  ·have:=qp0 T l hn (fun x hx=>by
    have:=h x hx;have:x≠T:=fun e=>hm (e▸hx)
    omega)
   omega
def q6w(pat:Bs):∀(s:Bs)(st:Bool),lb pat st s=true->∃u w,s=u++w/\w≠[]/\pat <+: w
 |[],_,h=>by cases h
 |c::t,st,h=>by
  rw[lb,Bool.or_eq_true]at h;rcases h with q|q
  ·rw[qA]at q;exact⟨[],c::t,rfl,by simp,List.isPrefixOf_iff_prefix.1 q.2⟩
  ·obtain⟨u,w,e,h1,h2⟩:=q6w pat t _ q;exact⟨c::u,w,by rw[e];rfl,h1,h2⟩
def zn9(ps:List Bs)(N:Nat)(h:fk ps N=true):∃p,p<ps.flatten.length/\dl N <+: ps.flatten.drop p:=by
 unfold fk at h;obtain⟨q,hq,hb⟩:=List.any_eq_true.1 h;obtain⟨u,w,e,h1,h2⟩:=q6w _ _ _ hb;obtain⟨a,b,e2⟩:=List.append_of_mem hq;have hw:1<=w.length:=by cases w with|nil=>exact absurd rfl h1|cons=>simp
 refine⟨(a.flatten++u).length,?_,?_⟩
 ·rw[e2,List.flatten_append,List.flatten_cons,e];simp only[qM];omega
 ·rw[e2,List.flatten_append,List.flatten_cons,e,show a.flatten++(u++w++b.flatten)=(a.flatten++u)++(w++b.flatten) by simp,List.drop_left]
  exact h2.trans (List.prefix_append _ _)
def zkl(u:Nat):1<=u->∀k,10 ^ k<=u->k+1<=(decDigits u).length:=by
 intro h k
 induction k generalizing u with
 |zero=>intro _;have:=qxg u;cases hh:decDigits u with|nil=>exact absurd hh this|cons=>simp
 |succ k ih=>
  intro hk;have hp:1<=10 ^ k:=Nat.pow_pos (by omega)
  rw[Nat.pow_succ]at hk;rw[qah u,qM,wD]
  have:=ih (u/10) (by omega) (by omega)
  omega
def q59(j:Nat)(h:j<=800000000):(dl (100000000+j)).length=12:=by
 have h1:=qbz 9 (100000000+j) (by omega) (by omega)
 have h2:=zkl (100000000+j) (by omega) 8 (by omega)
 unfold dl bN;simp only[qM,qL,qZ];omega
def zwq{a b:Nat}(h:dl a=dl b):a=b:=by
 unfold dl bN at h;rw[List.append_cancel_left_eq,List.cons.injEq]at h;exact zu5 h.2
def z0w(ps:List Bs)(h:ps.flatten.length<=700000000):∃N,N<1000000000/\fk ps N=false:=by
 by_cases hx:∃N,N<1000000000/\fk ps N=false
 ·exact hx
 exfalso;have hall:∀j,j<=800000000->∃p,p<ps.flatten.length/\dl (100000000+j) <+: ps.flatten.drop p:=by
  intro j hj;refine zn9 ps _ ?_;cases hb:fk ps (100000000+j)
  ·exact absurd ⟨_,by omega,hb⟩ hx
  ·rfl
 have hf:∃f:Nat->Nat,∀j,j<=800000000->f j<ps.flatten.length/\dl (100000000+j) <+: ps.flatten.drop (f j):=by
  refine⟨fun j=>if hj:j<=800000000 then(hall j hj).choose else 0,fun j hj => ?_⟩
  simp only[dif_pos hj];exact(hall j hj).choose_spec
 obtain⟨f,hf⟩:=hf;have hinj:∀a b,a<=800000000->b<=800000000->f a=f b->a=b:=by
  intro a b ha hb e;have h1:=(hf a ha).2;have h2:=(hf b hb).2;rw[← e]at h2;have:dl (100000000+a)=dl (100000000+b):=by
   have q1:=List.prefix_iff_eq_take.1 h1;have q2:=List.prefix_iff_eq_take.1 h2;rw[q59 a ha]at q1;rw[q59 b hb]at q2;rw[q1,q2]
  have:=zwq this;omega
 have hnd:((List.range (ps.flatten.length+1)).map f).Nodup:=by
  refine List.pairwise_map.2 (List.Pairwise.imp_of_mem ?_ (List.nodup_range (n:=ps.flatten.length+1)));intro a b ha hb hne e;rw[List.mem_range]at ha hb;exact hne (hinj a b (by omega) (by omega) e)
 have:=qp0 ps.flatten.length _ hnd (by
  intro x hx;obtain⟨j,hj,rfl⟩:=List.mem_map.1 hx;rw[List.mem_range]at hj;exact(hf j (by omega)).1)
 rw[wC,List.length_range]at this;omega
def zjz(P:Nat->Bool):∀N,P N=false->∃M,M<=N/\P M=false/\∀k,k<M->P k=true:=by
 intro N
 induction N using Nat.strongRecOn with
 |_ N ih=>
  intro h;by_cases hx:∃k,k<N/\P k=false
  ·obtain⟨k,hk,hp⟩:=hx;obtain⟨M,h1,h2,h3⟩:=ih k hk hp;exact⟨M,by omega,h2,h3⟩
  ·refine⟨N,wF _,h,fun k hk => ?_⟩
   cases hp:P k
   ·exact absurd ⟨k,hk,hp⟩ hx
   ·rfl
def frF(ps:List Bs):Nat->Nat->Nat|0,a=>a|n+1,a=>if fk ps a=true then frF ps n (a+1) else a
def f5(ps:List Bs):Nat:=frF ps 1000000000 0
def qy9(ps:List Bs)(M:Nat)(h0:fk ps M=false)(h1:∀k,k<M->fk ps k=true):∀(n a:Nat),a<=M->M-a<n->frF ps n a=M
 |0,a,_,h=>by omega|n+1,a,ha,h=>by
  rw[frF];by_cases e:a=M
  ·subst e;rw[h0];simp
  ·rw[qX (h1 a (by omega))];exact qy9 ps M h0 h1 n (a+1) (by omega) (by omega)
def zhn(ps:List Bs)(h:ps.flatten.length<=700000000:=by omega):f5 ps<1000000000/\fk ps (f5 ps)=false/\∀k,k<f5 ps->fk ps k=true:=by
 obtain⟨N,hN,hb⟩:=z0w ps h;obtain⟨M,h1,h2,h3⟩:=zjz (fk ps) N hb;have e:f5 ps=M:=qy9 ps M h2 h3 _ 0 (by omega) (by omega)
 rw[e];exact⟨by omega,h2,h3⟩
end Go.Sym
namespace Go.Sym
open Go.Lib (decDigits validD decodeL decodeN decodeL_N validD_step)
def q8t:∀l:Bs,(∀x∈l,x.toNat<128)->validD l=true
 |[],_=>rfl|c::t,h=>by
  have hc:=h c qH;have hd:decodeL (c::t)=(c.toNat,1):=by
   rw[decodeL_N];simp only[List.getD_cons_zero];unfold decodeN;rw[qX hc]
  rw[validD_step (c::t) (by simp),hd,qW (by simp only;omega)]
  exact q8t t (fun x hx=>h x (qE _ hx))
def ge(m:cv)(N:Nat):cv:=(m.1,(m.2.1,m.2.2++[(cy,bN N)]))
def qhr(N:Nat)(h:N<1000000000000):dq (bN N)=true/\validD (bN N)=true:=by
 have hl:=p8 N h;have hd:∀x∈bN N,tk x=true/\x.toNat<128:=by
  intro x hx;unfold bN at hx;rcases List.mem_cons.1 hx with e|e
  ·rw[e];decide
  ·have hd:=xq N x e;refine⟨?_,by omega⟩
   have:∀n:_root_.Fin 256,48<=(UInt8.ofNat n.val).toNat/\(UInt8.ofNat n.val).toNat<=57->tk (UInt8.ofNat n.val)=true:=by decide +kernel
   exact ig (fun c=>48<=c.toNat/\c.toNat<=57->tk c=true) this x hd
 refine⟨?_,q8t _ (fun x hx=>(hd x hx).2)⟩
 unfold dq;simp only[qA,List.all_eq_true,decide_eq_true_eq];exact⟨⟨rfl,by omega⟩,fun x hx=>(hd x hx).1⟩
def qof{l:List bt}(h:(ez l cy).2=false):∀x∈l,lk x.1 cy=false:=by
 intro x hx
 induction l with
 |nil=>cases hx
 |cons y l ih=>
  rw[qdi]at h;by_cases hy:lk y.1 cy=true
  ·rw[qX hy]at h;cases h
  ·rw[qW hy]at h;rcases List.mem_cons.1 hx with e|e
   ·rw[e];simpa using hy
   ·exact ih h e
def q1z(z:bt)(h1:dq z.1=true)(h2:z.1.length<=20)(h3:z.2.length<=500)(h4:validD z.2=true):∀(l ab:List bt),(ia ab l).1=0->(∀x∈ab++l,lk x.1 z.1=false)->(ia ab (l++[z])).1=0
 |[],ab,_,hn=>by
  rw[List.nil_append,ia,qW (by rw[h1];simp;omega),qW (by
   intro q;obtain⟨x,hx,hk⟩:=List.any_eq_true.1 q;rw[hn x (by simpa using hx)]at hk;cases hk),qW,qW (by rw[h4];simp)]
  rfl
 |p::l,ab,h,hn=>by
  rw[ia]at h;split at h
  ·cases h
  ·split at h
   ·cases h
   ·split at h
    ·cases h
    ·split at h
     ·cases h
     ·rename_i g1 g2 g3 g4;rw[wK,ia,qW g1,qW g2,qW g3,qW g4];exact q1z z h1 h2 h3 h4 l _ h (by simpa using hn)
def zh0{m:cv}(h:(dw m).1=0)(hb:(ez m.2.2 cy).2=false)(hl:m.2.2.length<60)(N:Nat)(hN:N<1000000000000:=by omega):(dw (ge m N)).1=0:=by
 obtain⟨h1,h2,h3,_⟩:=qax h;obtain⟨b1,b2⟩:=qhr N hN;have hbl:=p8 N hN;unfold dw at h ⊢;rw[qW (by simp[h1,h2]),qW]at h
 unfold ge;simp only;rw[qW (by simp[h1,h2]),qW (by rw[qM,wD];omega)]
 exact q1z (cy,bN N) (show dq cy=true by decide) (show cy.length<=20 by decide) (by simp only;omega) b2 m.2.2 [] h (by simpa using qof hb)
def zjp(m:cv)(N:Nat)(hN:N<1000000000000:=by omega):bp (ge m N)=bp m++([59,32]++cy++[61]++bN N):=by
 have hp:d5 (cy,bN N)=[59,32]++cy++[61]++bN N:=by unfold d5;rw[qX (qhr N hN).1]
 unfold bp ge;simp only[List.flatMap_append,List.flatMap_cons,List.flatMap_nil,hp,List.append_nil,qS]
def zp8{l:List al}{b:Bs}(h:y8 l b=0):∃m,il l=some m/\b=[]/\lk m.1 mpN=true/\(ez m.2.2 cy).2=false/\m.2.2.length<60/\d6 l bq=[bp m]/\(bp m).length<=2000:=by
 unfold y8 at h;split at h
 ·cases h
 ·rename_i m hm;split at h
  ·cases h
  ·rename_i hc;simp only[not_or]at hc;obtain⟨c1,c2,c3,c4,c5,c6⟩:=hc;refine⟨m,hm,List.eq_nil_of_length_eq_zero (by omega),by simpa using c2,by simpa using c3,by omega,?_,by omega⟩
   exact Classical.not_not.1 c5
def qh7{t:TP}{d:Int}(h:li t d=0):t.val.1.length<=60/\(∀x∈t.val.1,eh x)/\(0<t.kids.length->y8 t.val.1 t.val.2=0)/\(t.kids.length=0->t.val.2.length<=12000/\bs 0 t.val.2=0):=by
 unfold li at h;split at h
 ·rename_i h1;exact absurd h h1
 ·rename_i h1;obtain⟨_,q1,q2⟩:=ql9 (show(mv t.val.1).1=0 by omega)
  refine⟨q1,q2,fun hk=>by rw[qX hk]at h;exact h,fun hk => ?_⟩
  rw[qW]at h
  split at h
  ·cases h
  ·rename_i h2;split at h
   ·rename_i h3;exact absurd h h3
   ·rename_i h3;exact⟨by omega,by omega⟩
def wr(x:List al×Bs):Bs:=hbytes x.1++x.2
def cu(ps:List Bs)(N:Nat):Bs:=(ps.flatMap fun p=>dl N++[13,10]++p++[13,10])++(dl N++[45,45,13,10])
def au:Nat->TP->List al×Bs
 |0,t=>t.val|n+1,t=>if t.kids=[] then t.val else
  (eg t.val.1 (bp (ge ((il t.val.1).getD ([],([],[]))) (f5 (t.kids.map fun k=>wr (au n k))))),cu (t.kids.map fun k=>wr (au n k)) (f5 (t.kids.map fun k=>wr (au n k))))
def q5p:∀l:List al,(∀x∈l,eh x)->(ie l).length<=14100*l.length
 |[],_=>wF _|x::l,h=>by
  have:=q5p l fun y hy=>h y (qE _ hy)
  have hx:=h x qH;obtain⟨h1,h2,h3,_⟩:=qe3 hx;have h4:(cz x.1 x.2).flatten.length=x.1.length+2+x.2.length:=by unfold cz;rw[wi];simp[cm];omega
  have h5:=qml (cz x.1 x.2);unfold ie at this ⊢;rw[List.flatMap_cons,qM,qL];omega
def q9l{l:List al}(hl:l.length<=60)(h:∀x∈l,eh x):(hbytes l).length<=846002:=by
 have:=q5p l h;unfold hbytes;rw[qM];simp only[qL,qZ];omega
def qn2:∀(n:Nat)(s:Bs)(col:Nat),s.length<=n->bs col s=0->ce s
 |0,s,_,h,_=>by
  have:s=[]:=List.eq_nil_of_length_eq_zero (by omega)
  subst this;exact ce.no (by simp)
 |n+1,[],_,_,_=>ce.no (by simp)|n+1,c::r,col,h,hb=>by
  simp only[qL]at h;rw[xv]at hb;split at hb
  ·rename_i hc;obtain⟨rfl,r',rfl⟩:=qed hc;have:=qn2 n r' 0 (by simp only[qL]at h;omega) hb
   exact ce.app (a:=[13,10]) ce.crlf this
  ·split at hb
   ·cases hb
   ·rename_i hc;split at hb
    ·cases hb
    ·have:=qn2 n r _ (by omega) hb
     exact ce.app (a:=[c]) (ce.no (by simp;exact fun e=>hc (.inr e))) this
def za1:∀ls:List Bs,(∀s∈ls,∀x∈s,x≠10)->ce (bi ls)
 |[],_=>ce.no (by simp[bi])|s::ls,h=>by
  have e:bi (s::ls)=s++([13,10]++bi ls):=by simp[bi]
  rw[e];exact(ce.no (h s qH)).app (ce.crlf.app (za1 ls (fun q hq=>h q (qE _ hq))))
def ze7{x:al}(h:eh x):∀c∈cm x.1 x.2,c≠10:=by
 obtain⟨h1,_,h3⟩:=tj h.1;obtain⟨_,n2⟩:=qm2 h1;obtain⟨v1,_⟩:=qlu h3;intro c hc;unfold cm at hc;simp only[wA,wE,List.not_mem_nil,or_false]at hc;rcases hc with(q|q|q)|q
 ·exact(qbt c (n2 c q)).1.2.1
 ·rw[q];decide
 ·rw[q];decide
 ·exact(v1 c q).2.1
def qim:∀l:List al,(∀x∈l,eh x)->ce (hbytes l)
 |[],_=>ce.crlf|x::l,h=>by
  have e:hbytes (x::l)=bi (cz x.1 x.2)++hbytes l:=by simp[hbytes,ie]
  rw[e];refine(za1 _ fun s hs c hc => ?_).app (qim l (fun y hy=>h y (qE _ hy)))
  have:c∈(cz x.1 x.2).flatten:=List.mem_flatten.2 ⟨s,hs,hc⟩;unfold cz at this;rw[wi]at this;exact ze7 (h x qH) c this
def qu9(N:Nat):∀x∈dl N,x≠10:=by
 intro x hx;unfold dl bN at hx;simp only[wA,wE,List.not_mem_nil,or_false]at hx;rcases hx with(q|q)|q|q
 ·rw[q];decide
 ·rw[q];decide
 ·rw[q];decide
 ·intro e;subst e;have:=xq N 10 q;revert this;decide
def zaz(N:Nat):∀ps:List Bs,(∀p∈ps,ce p)->ce (cu ps N)
 |[],_=>by
  show ce (dl N++([45,45]++[13,10]));exact(ce.no (qu9 N)).app ((ce.no (by simp)).app ce.crlf)
 |p::ps,h=>by
  have e:cu (p::ps) N=dl N++([13,10]++(p++([13,10]++cu ps N))):=by unfold cu;rw[List.flatMap_cons];simp only[qS]
  rw[e];exact(ce.no (qu9 N)).app (ce.crlf.app ((h p qH).app (ce.crlf.app (zaz N ps (fun q hq=>h q (qE _ hq))))))
def q5c(N:Nat)(hN:N<1000000000000):∀ps:List Bs,(cu ps N).length<=ps.flatten.length+19*ps.length+19
 |[]=>by
  have:=p8 N hN;show(dl N++[45,45,13,10]).length<=_;unfold dl;simp only[qM,qL,qZ];omega
 |p::ps=>by
  have hb:=p8 N hN;have:=q5c N hN ps;have e:cu (p::ps) N=dl N++([13,10]++(p++([13,10]++cu ps N))):=by unfold cu;rw[List.flatMap_cons];simp only[qS]
  rw[e,List.flatten_cons];unfold dl;simp only[qM,qL,qZ];omega
end Go.Sym
namespace Go.Sym
def sq(n:Nat)(t:TP)(d:Int):Prop:=∀x∈ay n t d,li x.1 x.2=0/\sv x.1.val
def qha{n:Nat}{t:TP}{d:Int}(h:sq (n+1) t d):li t d=0/\sv t.val:=h (t,d) (by rw[ay];exact qH)
def tl{n:Nat}{t k:TP}{d:Int}(h:sq (n+1) t d)(hk:k∈t.kids):sq n k (d+1):=fun x hx=>h x (by
 rw[ay];exact qE _ (List.mem_flatMap.2 ⟨k,hk,hx⟩))
def qf9{n:Nat}{k:TP}{d:Int}:∀{l:List TP},k∈l->(ay n k d).length<=(l.flatMap fun k=>ay n k d).length
 |a::l,h=>by
  rw[List.flatMap_cons,qM];rcases List.mem_cons.1 h with e|e
  ·rw[e];omega
  ·have:=qf9 (n:=n) (d:=d) e;omega
def JP(n:Nat)(t:TP)(d:Int):Prop:=(au n t).1.length<=60/\(∀x∈(au n t).1,eh x)/\ce (au n t).2/\(hbytes (au n t).1).length+(au n t).2.length<=860000*(ay n t d).length
def q72(n:Nat)(d:Int)(hn:1<=n):∀l:List TP,(∀k∈l,JP n k d)->((l.map fun k=>wr (au n k)).flatten.length<=860000*(l.flatMap fun k=>ay n k d).length)/\l.length<=(l.flatMap fun k=>ay n k d).length
 |[],_=>by simp|k::l,h=>by
  obtain⟨h1,h2⟩:=q72 n d hn l (fun q hq=>h q (qE _ hq))
  obtain⟨_,_,_,h3⟩:=h k qH;have hf:1<=(ay n k d).length:=by
   obtain⟨n,rfl⟩:∃m,n=m+1:=⟨n-1,by omega⟩
   rw[ay];simp
  rw[List.map_cons,List.flatten_cons,List.flatMap_cons,qM,qM,qL,Nat.mul_add];have:(wr (au n k)).length=(hbytes (au n k).1).length+(au n k).2.length:=by unfold wr;rw[qM]
  omega
def zgu{l:List al}{m:cv}(hl:∀x∈l,eh x)(hm:(dw m).1=0)(h4:(bp m).length<=4000):∀x∈eg l (bp m),eh x:=by
 intro x hx;unfold eg at hx;obtain⟨y,hy,rfl⟩:=List.mem_map.1 hx;split
 ·exact zq1 (tj (hl y hy).1).1 hm h4
 ·exact hl y hy
def qkg{n:Nat}{t:TP}{d:Int}(hsz:ch t<=n+1)(hf:(ay (n+1) t d).length<=40)(hg:sq (n+1) t d)(hk:t.kids≠[])(hkid:∀k∈t.kids,JP n k (d+1)) :
  ∃m,il t.val.1=some m/\(dw m).1=0/\t.val.2=[]/\lk m.1 mpN=true/\(ez m.2.2 cy).2=false/\m.2.2.length<60/\d6 t.val.1 bq=[bp m]/\(bp m).length<=2000 /\
   (t.kids.map fun k=>wr (au n k)).flatten.length<=860000*39/\t.kids.length<=39/\(t.kids.map fun k=>wr (au n k)).flatten.length+860000<=860000*(ay (n+1) t d).length /\
   f5 (t.kids.map fun k=>wr (au n k))<1000000000/\fk (t.kids.map fun k=>wr (au n k)) (f5 (t.kids.map fun k=>wr (au n k)))=false/\(∀k,k<f5 (t.kids.map fun k=>wr (au n k))->fk (t.kids.map fun k=>wr (au n k)) k=true) /\
   (dw (ge m (f5 (t.kids.map fun k=>wr (au n k))))).1=0/\(bp (ge m (f5 (t.kids.map fun k=>wr (au n k))))).length<=2030:=by
 obtain⟨g1,g2⟩:=qha hg;obtain⟨f1,f2,f3,_⟩:=qh7 g1;have hkl:0<t.kids.length:=by cases hh:t.kids with|nil=>exact absurd hh hk|cons=>simp
 obtain⟨m,m1,m2,m3,m4,m5,m6,m7⟩:=zp8 (f3 hkl);have h0:=qjn m1;have hn:1<=n:=by
  cases hh:t.kids with|nil=>exact absurd hh hk|cons k l=>have:=jl (t:=t) (k:=k) (by rw[hh];simp);have:=oa k;omega
 obtain⟨j1,j2⟩:=q72 n (d+1) hn t.kids hkid;rw[ay,qL]at hf;have hN:=zhn (t.kids.map fun k=>wr (au n k))
 refine⟨m,m1,h0,m2,m3,m4,m5,m6,m7,by omega,by omega,?_,hN.1,hN.2.1,hN.2.2,zh0 h0 m4 m5 _,?_⟩
 ·rw[ay,qL];omega
 ·rw[zjp m _]
  have:=p8 (f5 (t.kids.map fun k=>wr (au n k)))
  simp only[qM,qL,qZ];omega
def qea:∀(n:Nat)(t:TP)(d:Int),ch t<=n->(ay n t d).length<=40->sq n t d->JP n t d
 |0,t,d,h,_,_=>by have:=oa t;omega|n+1,t,d,hsz,hf,hg=>by
  have hkid:∀k∈t.kids,JP n k (d+1):=fun k hk=>qea n k (d+1) (by have:=jl hk;omega) (by
   have:=qf9 (n:=n) (d:=d+1) hk;rw[ay,qL]at hf;omega) (tl hg hk)
  obtain⟨g1,g2⟩:=qha hg;obtain⟨f1,f2,f3,f4⟩:=qh7 g1;have hhb:=q9l f1 f2;by_cases hk:t.kids=[]
  ·obtain⟨b1,b2⟩:=f4 (by rw[hk];rfl)
   have e:au (n+1) t=t.val:=by rw[au,qX hk]
   unfold JP;rw[e];refine⟨f1,f2,qn2 _ _ 0 (wF _) b2,?_⟩;rw[ay,qL];omega
  ·obtain⟨m,m1,h0,m2,m3,m4,m5,m6,m7,m8,m9,m10,n1,n2,n3,n4,n5⟩:=qkg hsz hf hg hk hkid;have e:au (n+1) t=(eg t.val.1 (bp (ge m (f5 (t.kids.map fun k=>wr (au n k))))),cu (t.kids.map fun k=>wr (au n k)) (f5 (t.kids.map fun k=>wr (au n k)))):=by
    rw[au,qW hk,m1];rfl
   have r1:(eg t.val.1 (bp (ge m (f5 (t.kids.map fun k=>wr (au n k)))))).length<=60:=by unfold eg;rw[wC];exact f1
   have r2:=zgu (l:=t.val.1) f2 n4 (by omega)
   have hb2:=q9l r1 r2;have bl:=q5c (f5 (t.kids.map fun k=>wr (au n k))) (by omega) (t.kids.map fun k=>wr (au n k))
   rw[wC]at bl;unfold JP;rw[e];refine⟨r1,r2,zaz _ _ (fun p hp => ?_),by simp only;omega⟩
   obtain⟨k,hk2,rfl⟩:=List.mem_map.1 hp;obtain⟨_,q2,q3,_⟩:=hkid k hk2;exact(qim _ q2).app q3
def q11{n:Nat}{t:TP}{d:Int}(h:JP n t d)(hf:(ay n t d).length<=40):(wr (au n t)).length<=34400000:=by
 obtain⟨_,_,_,h4⟩:=h;unfold wr;rw[qM];omega
def zo7{fu n:Nat}{l:List TP}{d:Int}(hfu:90000000<=fu)(hl:l.length<=39)(hj:∀k∈l,JP n k d)(hf:∀k∈l,(ay n k d).length<=40):qiu fu (l.map fun k=>wr (au n k)):=by
 refine⟨by rw[wC];omega,fun p hp => ?_⟩
 obtain⟨k,hk,rfl⟩:=List.mem_map.1 hp;have:=q11 (hj k hk) (hf k hk);obtain⟨_,q2,q3,_⟩:=hj k hk;exact⟨by omega,by omega,(qim _ q2).app q3⟩
def znb(fu m n:Nat)(hfu:90000000<=fu)(rs:qj)(d:Int)(L:List TP)(hL:L.length<=1000)(hrs:∀k∈L,rs k=some (au n k)/\JP n k d/\(ay n k d).length<=40):∀(ab aa:List TP),L=ab++aa->aa.length<m ->
  qd8 rs fu m L (L.length:Int) (ab.length:Int) (ab.map fun k=>wr (au n k))=some (L.map fun k=>wr (au n k)):=by
 have hrm:=iq
 induction m with
 |zero=>intro ab aa _ h;omega|succ m ih=>
  intro ab aa hp h;have ac:L.length=ab.length+aa.length:=by rw[hp];simp
  rw[qd8,qux]
  cases aa with
  |nil=>rw[a6 (by simp only[qZ]at ac;omega),hp,List.append_nil]|cons k w=>
   simp only[qL]at h ac;have hx:aq L (ab.length:Int)=some k:=by rw[hp];exact da ab k w
   obtain⟨r1,r2,r3⟩:=hrs k (by rw[hp];simp)
   have hw:=q11 r2 r3;have st:=ih (ab++[k]) w (by rw[hp];simp) (by omega)
   rw[qM,wD,List.map_append,List.map_cons,List.map_nil]at st;have hb:(au n k).2.length<=100000000:=by unfold wr at hw;rw[qM]at hw;omega
   rw[aj,hx,qB,gy,qn1,gy,r1,qB,zrf fu hfu _ _ r2.1 r2.2.1 hb,qB,qB,aj,a8 _]
   exact st
def zim(fu m:Nat)(rs:qj)(N:Nat)(hN:N<1000000000000)(f:List al)(ps:List Bs)(hps:ps.length<=1000)(hsz:ps.flatten.length<=100000000):∀(ab aa:List Bs)(out:Bs),ps=ab++aa->aa.length<m->out.length+aa.flatten.length+19*aa.length<=200000000 ->
  zq rs fu m (bN N) (ps.length:Int) (ab.length:Int) f ps out=some (f,out++cu aa N):=by
 have hrm:=iq;have hb:=p8 N hN
 induction m with
 |zero=>intro ab aa out _ h;omega|succ m ih=>
  intro ab aa out hp h ho;have ac:ps.length=ab.length+aa.length:=by rw[hp];simp
  rw[zq,qxd]
  cases aa with
  |nil=>
   simp only[qZ]at ac ho;rw[a6,aj (by simp[bh];omega),aj (by simp[bh];omega),aj (by simp at ho ⊢;omega)]
   rfl
  |cons p w=>
   simp only[qL,List.flatten_cons,qM]at h ac ho;have hc:ps[((ab.length:Nat):Int).toNat]? = some p:=by rw[hp];exact ng ab p w
   have st:=ih (ab++[p]) w (((out++((([45,45]:Bs)++bN N)++[13,10]))++p)++[13,10]) (by rw[hp];simp) (by omega) (by simp only[qM,qL,qZ];omega)
   rw[qM,wD]at st;rw[aj,aj,hc,qB,aj (by simp[bh];omega),aj (by simp[bh];omega),aj (by simp only[qM,qL,qZ];omega),aj (by simp only[qM,qL,qZ];omega),aj (by simp only[qM,qL,qZ];omega),a8 _,st]
   unfold cu dl;rw[List.flatMap_cons];simp only[qS]
def q1h(fu:Nat)(hfu:1000000000000<=fu):∀(n:Nat)(t:TP)(d:Int),ch t<=n->(ay n t d).length<=40->sq n t d->tn fu n t=some (au n t)
 |0,t,d,h,_,_=>by have:=oa t;omega|n+1,t,d,hsz,hf,hg=>by
  have hrm:=iq;have hkf:∀k∈t.kids,(ay n k (d+1)).length<=40:=fun k hk=>by
   have:=qf9 (n:=n) (d:=d+1) hk;rw[ay,qL]at hf;omega
  have hkid:∀k∈t.kids,JP n k (d+1):=fun k hk=>qea n k (d+1) (by have:=jl hk;omega) (hkf k hk) (tl hg hk)
  rw[tn,qi2];by_cases hk:t.kids=[]
  ·rw[au,qX hk,hk,a7]
  ·obtain⟨m,m1,h0,m2,m3,m4,m5,m6,m7,m8,m9,m10,n1,n2,n3,n4,n5⟩:=qkg hsz hf hg hk hkid;have e:au (n+1) t=(eg t.val.1 (bp (ge m (f5 (t.kids.map fun k=>wr (au n k))))),cu (t.kids.map fun k=>wr (au n k)) (f5 (t.kids.map fun k=>wr (au n k)))):=by
    rw[au,qW hk,m1];rfl
   obtain⟨_,s2⟩:=qha hg;have hkl:t.kids.length≠0:=by cases hh:t.kids with|nil=>exact absurd hh hk|cons=>simp
   have hm:=znb fu fu n (by omega) (tn fu n) (d+1) t.kids (by omega) (fun k hk=>⟨q1h fu hfu n k (d+1) (by have:=jl hk;omega) (hkf k hk) (tl hg hk),hkid k hk,hkf k hk⟩) [] t.kids rfl (by omega)
   have hmp:qun (tn fu n) fu t.kids=some (t.kids.map fun k=>wr (au n k)):=hm
   rw[e];generalize hN:f5 (t.kids.map fun k=>wr (au n k))=N at *
   have hsp:=zo7 (fu:=fu) (by omega) m9 hkid hkf
   have hv:=xd h0;have hv4:=xd n4;have hpl:(t.kids.map fun k=>wr (au n k)).length<=39:=by rw[wC];exact m9
   generalize hps:(t.kids.map fun k=>wr (au n k))=ps at *
   have hfr:=zr6 fu hfu ps hsp N n1 n2 n3;obtain⟨R,t1,t2⟩:=qm4 fu (by omega) t.val.1 s2.2.2.1 s2.2.1
   rw[m1]at t2;obtain⟨ab,x,aa,e1,e2,e3,e4,e5,rfl⟩:=t2;have hc1:cd m.2.2=some m.2.2:=by unfold cd;rw[aj]
   have hc2:cd t.val.1=some t.val.1:=by unfold cd;rw[aj (by have:=s2.2.1;omega)]
   rw[bc (by simp;omega),hmp,qB,hfr,qB,t1,qB]
   simp only[cf];rw[hc1,qB,aj (by rw[qM,wD];omega),hc2,qB,show((m.1,(m.2.1,m.2.2++[(cy,bN N)])):cv)=ge m N from rfl,quu fu (by omega) (ge m N) hv4.smD,qB,qW (by simpa using n4),qW,aj (by rw[e1];simp)]
   have hg1:t.val.1[((ab.length:Nat):Int).toNat]? = some x:=by rw[e1];exact ng ab x aa
   have hset:List.set t.val.1 ((ab.length:Nat):Int).toNat (x.1,bp (ge m N))=ab++(x.1,bp (ge m N))::aa:=by rw[e1];exact tu ab x _ aa
   rw[hg1,qB,hset,q26 _ e1 e3 e4 e5];exact zim fu fu (tn fu n) N (by omega) _ ps (by omega) (by omega) [] ps [] rfl (by omega) (by simp only[qZ];omega)
open Go.Lib (decDigits)
def q0z:∀(L:List (TP×Int))(i:Nat),ir L i=none->∀x∈L,li x.1 x.2=0
 |[],_,_,x,hx=>by cases hx
 |y::L,i,h,x,hx=>by
  rw[ir]at h;split at h
  ·cases h
  ·rename_i hc;rcases List.mem_cons.1 hx with e|e
   ·rw[e];omega
   ·exact q0z L _ h x e
def qyj{fu:Nat}{t:TP}(hs:gd t)(h:(kq fu t).1=0):(ay fu t 0).length<=40/\sq fu t 0/\∀x∈ay fu t 0,x.2<=8:=by
 unfold kq at h;split at h
 ·cases h
 ·rename_i h1;split at h
  ·cases h
  ·rename_i h2;have hn:ir (ay fu t 0) 0=none:=by
    cases hr:ir (ay fu t 0) 0 with|none=>rfl|some f=>rw[hr]at h;exact absurd h (q3f _ _ f hr).1
   refine⟨by omega,fun x hx=>⟨q0z _ _ hn x hx,hs.2 fu 0 x hx⟩,fun x hx => ?_⟩
   have:¬(8<x.2):=fun q=>h2 (List.any_eq_true.2 ⟨x,hx,by simpa using q⟩)
   omega
end Go.Sym
namespace Go.Sym
def q5w:qik 1000000000000=some true:=by kernel_rfl
def qsx{fu:Nat}{t:TP}(hfu:1000000000000<=fu)(hs:gd t)(h:(kq fu t).1=0):JP fu t 0/\xf (au fu t)/\(au fu t).1.length<=60:=by
 obtain⟨h1,h2,_⟩:=qyj hs h;have hj:=qea fu t 0 (by have:=hs.1;omega) h1 h2
 obtain⟨j1,j2,j3,j4⟩:=hj;refine⟨⟨j1,j2,j3,j4⟩,⟨⟨by omega,fun x hx => ?_⟩,by omega⟩,j1⟩
 have:=qe3 (j2 x hx);omega
def nj(fu:Nat)(t:TP):(List al×Bs)×(Int×Int):=if(kq fu t).1≠0 then(([],[]),kq fu t) else if(fe (au fu t)).1≠0 then(([],[]),((fe (au fu t)).1,-3)) else(au fu t,(0,0))
def q1y(fu:Nat)(hfu:1000000000000<=fu)(t:TP)(hs:gd t):qbv fu t=some (nj fu t):=by
 have hrm:=iq;unfold qbv nj;simp only[gy];rw[q5i fu (by omega) t hs,qB,jx,qB,jg]
 by_cases h:(kq fu t).1=0
 ·rw[qW (by simpa using h),qW (by simpa using h)]
  obtain⟨h1,h2,_⟩:=qyj hs h;obtain⟨_,j2,j3⟩:=qsx hfu hs h;unfold q42;rw[q1h fu hfu fu t 0 (by have:=hs.1;omega) h1 h2,qB]
  have hc1:cd (au fu t).1=some (au fu t).1:=by unfold cd;rw[aj]
  have hc2:cd (au fu t).2=some (au fu t).2:=by unfold cd;rw[aj (by have:=j2.2;omega)]
  rw[hc1,qB,hc2,qB,show(((au fu t).1,(au fu t).2):List al×Bs)=au fu t from rfl,q3h fu (by omega) _ j2,qB,jx,qB,jg]
  by_cases hm:(fe (au fu t)).1≠0
  ·rw[qX hm,qX hm];rfl
  ·rw[qW hm,qW hm];rfl
 ·rw[qX h,qX h]
open Go.Lib (decDigits)
def cC(b r:Bs)(st:Option Bs)(out:List Bs):List Bs:=gx b (r.length+1) r st out
def qiy(b:Bs)(c:UInt8)(t:Bs)(st:Option Bs)(out:List Bs):cC b (c::t) st out=if gv (bm (c::t)) b=0 then cC b (bu (c::t)) st out else if gv (bm (c::t)) b=2 then jc st (c::t) out else cC b (bu (c::t)) (some (bu (c::t))) (jc st (c::t) out):=by
 have hn:=tr c t;unfold cC;rw[qL,gx];split
 ·exact qpp b _ _ _ _ (by omega)
 ·split
  ·rfl
  ·exact qpp b _ _ _ _ (by omega)
def q0v(q:Bs):∀p:Bs,bm (p++13::10::q)=bm p/\((p=bm p++13::10::bu p/\bu (p++13::10::q)=bu p++13::10::q)\/(bm p=p/\bu p=[]/\bu (p++13::10::q)=q))
 |[]=>⟨rfl,.inr ⟨rfl,rfl,rfl⟩⟩|c::t=>by
  have hi:d7 c (t++13::10::q)=d7 c t:=by
   cases t with
   |nil=>unfold d7;cases c==13<;>rfl
   |cons d t=>rfl
  obtain⟨h1,h2⟩:=q0v q t;have c1:bm (c::(t++13::10::q))=if d7 c t=true then[] else c::bm (t++13::10::q):=by rw[bm,hi]
  have c2:bu (c::(t++13::10::q))=if d7 c t=true then(t++13::10::q).tail else bu (t++13::10::q):=by rw[bu,hi]
  have c3:bm (c::t)=if d7 c t=true then[] else c::bm t:=by rw[bm]
  have c4:bu (c::t)=if d7 c t=true then t.tail else bu t:=by rw[bu]
  rw[wK,c1,c2,c3,c4];by_cases hc:d7 c t=true
  ·obtain⟨rfl,r',rfl⟩:=qed hc;simp only[qX hc];exact⟨trivial,.inl ⟨rfl,rfl⟩⟩
  ·simp only[qW hc,h1];refine⟨trivial,?_⟩;rcases h2 with⟨h3,h4⟩|⟨h3,h4,h5⟩
   ·exact .inl ⟨by rw[wK,← h3],h4⟩
   ·exact .inr ⟨by rw[h3],h4,h5⟩
def q41:∀s:Bs,ew s <+: s
 |[]=>List.prefix_refl _|c::s=>by
  rw[qrf];obtain⟨z,e⟩:=q41 s;split
  ·rename_i h;cases bl c
   ·exact⟨s,rfl⟩
   ·exact List.nil_prefix
  ·exact⟨z,by rw[wK,e]⟩
def q4a{N:Nat}{l:Bs}(h:(dl N).isPrefixOf l=false):gv l (bN N)=0:=by
 have hp:=q41 l;unfold gv qj4;rw[qW ?_,qW ?_]
 ·intro e;have:dl N <+: l:=((List.prefix_append (dl N) [45,45]).trans (by rw[e]at hp;exact hp))
  rw[List.isPrefixOf_iff_prefix.2 this]at h;cases h
 ·intro e;have:dl N <+: l:=by rw[e]at hp;exact hp
  rw[List.isPrefixOf_iff_prefix.2 this]at h;cases h
def z1u(N:Nat)(q s:Bs)(out:List Bs):∀(n:Nat)(p:Bs),p.length<=n->ce p->lb (dl N) true p=false->cC (bN N) (p++13::10::q) (some s) out=cC (bN N) q (some s) out:=by
 intro n
 induction n with
 |zero=>
  intro p hp _ _;have:p=[]:=List.eq_nil_of_length_eq_zero (by omega)
  subst this;rw[List.nil_append,qiy,show bm (13::10::q)=[] from rfl,qX (show gv [] (bN N)=0 from q4a rfl)]
  rfl
 |succ n ih=>
  intro p hp hok hno
  cases p with
  |nil=>exact ih [] (by simp) hok hno|cons c t=>
   have hh:nu (dl N) ((c::t).length+1) (c::t)=false:=by rw[qoa (dl N) (qt1 N) (y9 N) _ _ (by omega) hok];exact hno
   rw[nu,Bool.or_eq_false_iff]at hh;obtain⟨g1,g2⟩:=q0v q (c::t);rw[wK,qiy,← wK,g1,qX (q4a hh.1)];have hnl:=tr c t;simp only[qL]at hp;rcases g2 with⟨g3,g4⟩|⟨_,_,g5⟩
   ·have hok2:ce (bu (c::t)):=by rw[g3]at hok;exact hok.drop
    have h2:=hh.2;rw[qoa (dl N) (qt1 N) (y9 N) _ _ (by simp only[qL];omega) hok2]at h2
    rw[g4];exact ih _ (by omega) hok2 h2
   ·rw[g5]
def qpm:∀(u q:Bs),(∀x∈u,x≠13)->bm (u++13::10::q)=u/\bu (u++13::10::q)=q
 |[],q,_=>⟨rfl,rfl⟩|c::u,q,h=>by
  have hc:d7 c (u++13::10::q)=false:=by
   have:(c==13)=false:=by simpa using h c qH
   unfold d7;rw[this];rfl
  obtain⟨h1,h2⟩:=qpm u q (fun x hx=>h x (qE _ hx))
  rw[wK,bm,bu,qW (by rw[hc];decide),qW (by rw[hc];decide),h1,h2]
  exact⟨rfl,rfl⟩
def q6o{u:Bs}{e:UInt8}(h:bl e=false):ew (u++[e])=u++[e]:=by
 unfold ew;rw[List.reverse_append,List.reverse_singleton,wM,List.dropWhile_cons_of_neg (by rw[h];decide),List.reverse_cons,List.reverse_reverse]
def zu9(N:Nat):ew (dl N)=dl N:=by
 have h0:=qxg N;have e:dl N=([45,45,98]++(decDigits N).dropLast)++[(decDigits N).getLast h0]:=by
  rw[qS,List.dropLast_concat_getLast];rfl
 have hd:=xq N _ (List.getLast_mem h0);rw[e];refine q6o ?_;have:∀n:_root_.Fin 256,48<=(UInt8.ofNat n.val).toNat/\(UInt8.ofNat n.val).toNat<=57->bl (UInt8.ofNat n.val)=false:=by decide +kernel
 exact ig (fun c=>48<=c.toNat/\c.toNat<=57->bl c=false) this _ hd
def q2p(N:Nat):gv (dl N) (bN N)=1:=by unfold gv;rw[zu9];exact qX rfl
def za9(N:Nat):gv (dl N++[45,45]) (bN N)=2:=by
 unfold gv;rw[show dl N++[45,45]=(dl N++[45])++[45] by simp,q6o (by decide)]
 unfold qj4;rw[qW ?_,qX (by unfold dl;simp)]
 intro e;have:=congrArg List.length e;unfold dl at this;simp at this
def qwu(p:Bs)(ps:List Bs)(N:Nat):cu (p::ps) N=dl N++13::10::(p++13::10::cu ps N):=by
 unfold cu;rw[List.flatMap_cons];simp
def q0u(N:Nat):∀(ps:List Bs)(st:Option Bs)(out:List Bs),(∀p∈ps,ce p/\lb (dl N) true p=false)->cC (bN N) (cu ps N) st out=jc st (cu ps N) out++ps
 |[],st,out,_=>by
  have e:cu [] N=(dl N++[45,45])++13::10::[]:=by unfold cu;simp
  obtain⟨g1,_⟩:=qpm (dl N++[45,45]) [] (fun x hx=>by
   rcases List.mem_append.1 hx with q|q
   ·exact y9 N x q
   ·simp at q;rw[q];decide)
  rw[← e]at g1;have hne:cu [] N=45::(cu [] N).tail:=rfl;rw[hne,qiy,← hne,g1,qW (by rw[za9];decide),qX (za9 N),List.append_nil]
 |p::ps,st,out,h=>by
  obtain⟨p1,p2⟩:=h p qH;obtain⟨g1,g2⟩:=qpm (dl N) (p++13::10::cu ps N) (y9 N);rw[← qwu]at g1 g2;have hne:cu (p::ps) N=45::(cu (p::ps) N).tail:=rfl;rw[hne,qiy,← hne,g1,g2,qW (by rw[q2p];decide),qW (by rw[q2p];decide),z1u N _ _ _ p.length p (wF _) p1 p2,q0u N ps _ _ (fun q hq=>h q (qE _ hq))]
  have e:vy (p++13::10::cu ps N) (cu ps N)=p:=by
   unfold vy;rw[qM,qL,qL,show p.length+((cu ps N).length+1+1)-(cu ps N).length-2=p.length by omega,List.take_left]
  show((jc st (cu (p::ps) N) out)++[vy (p++13::10::cu ps N) (cu ps N)])++ps=_;rw[e];simp
def zl4(N:Nat)(ps:List Bs)(h:∀p∈ps,ce p/\lb (dl N) true p=false):ii (cu ps N) (bN N)=ps:=by
 have:=q0u N ps none [] h;exact this
def zgo{ps:List Bs}{N:Nat}(h:fk ps N=false):∀p∈ps,lb (dl N) true p=false:=by
 intro p hp;unfold fk at h;have:=(List.any_eq_false.1 h) p hp;simpa using this
def wu:∀(n:Nat)(p q:Bs)(col:Nat),p.length<=n->bs col p=0->bs 0 q=0->bs col (p++13::10::q)=0
 |_,[],q,col,_,_,hq=>by rw[List.nil_append,xv,show d7 13 (10::q)=true from rfl];exact hq|0,c::r,_,_,h,_,_=>by simp at h|n+1,c::r,q,col,h,hp,hq=>by
  simp only[qL]at h;rw[wK,xv];rw[xv]at hp;have hi:d7 c (r++13::10::q)=d7 c r:=by
   cases r with
   |nil=>unfold d7;cases c==13<;>rfl
   |cons d t=>rfl
  rw[hi];by_cases hc:d7 c r=true
  ·rw[qX hc]at hp ⊢;obtain⟨rfl,r',rfl⟩:=qed hc;exact wu n r' q 0 (by simp only[qL]at h;omega) hp hq
  ·rw[qW hc]at hp ⊢;by_cases h2:c=13\/c=10
   ·rw[qX h2]at hp;cases hp
   ·rw[qW h2]at hp ⊢;by_cases h3:998<=col
    ·rw[qX h3]at hp;cases hp
    ·rw[qW h3]at hp ⊢;exact wu n r q _ (by omega) hp hq
def qid:∀(u:Bs)(col:Nat),(∀x∈u,x≠13/\x≠10)->col+u.length<=998->bs col u=0
 |[],_,_,_=>qac _|c::u,col,h,hl=>by
  simp only[qL]at hl;have hc:=h c qH;rw[xv,qW (by unfold d7;simp[hc.1]),qW (by simp[hc.1,hc.2]),qW]
  exact qid u (col+1) (fun x hx=>h x (qE _ hx)) (by omega)
def tw(p:UInt8->Bool):∀(u r:Bs),(∀x∈u,p x=true)->(∀c t,r=c::t->p c=false)->(u++r).takeWhile p=u/\(u++r).dropWhile p=r
 |[],[],_,_=>⟨rfl,rfl⟩|[],c::t,_,h=>by
  have:=h c t rfl;rw[List.nil_append,List.takeWhile_cons,List.dropWhile_cons,this];exact⟨rfl,rfl⟩
 |c::u,r,hu,h=>by
  have hc:=hu c qH;obtain⟨h1,h2⟩:=tw p u r (fun x hx=>hu x (qE _ hx)) h
  rw[wK,List.takeWhile_cons,List.dropWhile_cons,hc];simp only[if_true];rw[h1,h2];exact⟨rfl,rfl⟩
def qi7{c:UInt8}{t:Bs}(h:bl c=false):du (c::t)=c::t:=by rw[ne,qW (by rw[h];decide)]
def zf2{u r:Bs}(h0:u≠[])(h:∀x∈u,bl x=false):du (u++r)=u++r:=by
 cases u with|nil=>exact absurd rfl h0|cons c u=>exact qi7 (h c qH)
def qnl(p:UInt8->Bool){u r:Bs}(h0:u≠[])(hb:∀x∈u,bl x=false)(hu:∀x∈u,p x=true)(hr:∀c t,r=c::t->p c=false):cq p (u++r)=(u,r):=by
 obtain⟨h1,h2⟩:=tw p u r hu hr;unfold cq;rw[zf2 h0 hb,h1,h2]
def qwv{c:UInt8}{t:Bs}(h:bl c=false):di c (c::t)=(true,t):=by unfold di;rw[qi7 h];exact qX rfl
def z0r{c d:UInt8}{t:Bs}(h:bl d=false)(hd:d≠c):di c (d::t)=(false,d::t):=by unfold di;rw[qi7 h];exact qW hd
def z0t:∀n:_root_.Fin 256,(tk (UInt8.ofNat n.val)=true->dn (UInt8.ofNat n.val)=true/\f8 (UInt8.ofNat n.val)=true/\UInt8.ofNat n.val≠42/\UInt8.ofNat n.val≠37)/\(dn (UInt8.ofNat n.val)=true->bl (UInt8.ofNat n.val)=false)/\(f8 (UInt8.ofNat n.val)=true->bl (UInt8.ofNat n.val)=false/\UInt8.ofNat n.val≠34):=by decide +kernel
def n9(c:UInt8):(tk c=true->dn c=true/\f8 c=true/\c≠42/\c≠37)/\(dn c=true->bl c=false)/\(f8 c=true->bl c=false/\c≠34):=
 ig (fun c=>(tk c=true->dn c=true/\f8 c=true/\c≠42/\c≠37)/\(dn c=true->bl c=false)/\(f8 c=true->bl c=false/\c≠34)) z0t c
def Rs(r:Bs):Prop:=r=[]\/∃t,r=59::t
def Rs.no{r:Bs}(h:Rs r)(p:UInt8->Bool)(hp:p 59=false):∀c t,r=c::t->p c=false:=by
 intro c t e;rcases h with h|⟨q,h⟩
 ·rw[h]at e;cases e
 ·rw[h]at e;cases e;exact hp
def qs9{nm:Bs}(h0:nm≠[])(hn:∀x∈nm,dn x=true)(q:Bs):jr (32::(nm++61::q))=(nt q).map fun x=>((nm,x.1),x.2):=by
 have ht:cq dn (32::(nm++61::q))=(nm,61::q):=by
  have e:cq dn (32::(nm++61::q))=cq dn (nm++61::q):=by unfold cq;rw[ne,qX (by decide)]
  rw[e];exact qnl dn h0 (fun x hx=>(n9 x).2.1 (hn x hx)) hn (fun c t e=>by cases e;decide)
 unfold jr;rw[ht];simp only;rw[qwv (by decide)]
 exact qX rfl
def za7{v r:Bs}(h0:v≠[])(hv:∀x∈v,f8 x=true)(hr:Rs r):nt (v++r)=some (v,r):=by
 have hs:di 34 (v++r)=(false,v++r):=by
  cases v with|nil=>exact absurd rfl h0|cons c v=>have:=(n9 c).2.2 (hv c qH);exact z0r this.1 this.2
 unfold nt;rw[hs];simp only;rw[qW (by decide),qnl f8 h0 (fun x hx=>((n9 x).2.2 (hv x hx)).1) hv (hr.no f8 (by decide))]
def qlp(r:Bs):∀(v out:Bs),qv out (quo v++34::r)=some (out++v,r)
 |[],out=>by
  show qv out (34::r)=_;rw[sk,qX rfl,List.append_nil]
 |c::v,out=>by
  have e:quo (c::v)=np 92 34 [92,92] [92,34] c++quo v:=rfl;rw[e];unfold np;by_cases h1:c=92
  ·subst h1;rw[qX rfl];show qv out (92::92::(quo v++34::r))=_;rw[sk,qW (by decide),qX rfl]
   simp only;rw[qlp r v];simp
  ·rw[qW h1];by_cases h2:c=34
   ·subst h2;rw[qX rfl];show qv out (92::34::(quo v++34::r))=_;rw[sk,qW (by decide),qX rfl]
    simp only;rw[qlp r v];simp
   ·rw[qW h2];show qv out (c::(quo v++34::r))=_;rw[sk,qW h2,qW h1,qlp r v];simp
def z2f(v r:Bs):nt (34::(quo v++34::r))=some (v,r):=by
 unfold nt;rw[qwv (by decide)]
 simp only;rw[qX trivial,qlp];rfl
def zlc(f:Bs->Bs->Option Pc)(n:Nat)(acc:List Pc){t r nm v:Bs}{p:Pc}(h:jr t=some ((nm,v),r))(hf:f nm v=some p):im f (n+1) acc (59::t)=im f n (acc++[p]) r:=by
 rw[im,qi7 (by decide)]
 simp only[if_true,h,hf]
def cP(acc:List Pc)(s:Bs):Option (List Pc):=im ep (s.length+1) acc s
def qp4{acc:List Pc}{t r nm v:Bs}{p:Pc}(h:jr t=some ((nm,v),r))(hf:ep nm v=some p)(hl:r.length<=t.length):cP acc (59::t)=cP (acc++[p]) r:=by
 unfold cP;rw[qL,zlc ep _ acc h hf];exact qkb ep _ _ _ (by omega)
def gu(nm:Bs):Nat->List Bs->List Pc|_,[]=>[]|n,x::xs=>(nm,(n:Int),true,x)::gu nm (n+1) xs
def gh(p:bt):List Pc:=if dq p.2=true\/(p.2.length<=60/\p.2.all fo=true) then[(p.1,-1,false,p.2)] else gu p.1 0 (dh d9 p.2)
def z7{s:Bs}(h:dq s=true):s≠[]/\∀x∈s,tk x=true:=by
 unfold dq at h;simp only[qA,List.all_eq_true]at h;exact⟨by intro e;subst e;simp at h,h.2⟩
def zaw{nm v:Bs}(h0:nm≠[])(h:∀x∈nm,tk x=true):ep nm v=some (nm,-1,false,v):=by
 unfold ep;rw[qqj 42 nm (fun x hx=>((n9 x).1 (h x hx)).2.2.1)]
 simp only;rw[qW h0]
def zgg{nm v:Bs}(h0:nm≠[])(h:∀x∈nm,tk x=true)(i:Nat)(hi:i<100000000:=by omega):ep (((nm++[42])++decDigits i)++[42]) v=some (nm,(i:Int),true,v):=by
 have e:((nm++[42])++decDigits i)++[42]=nm++42::(decDigits i++[42]):=by simp
 have es:ov (decDigits i++[42])=(decDigits i,true):=by unfold ov;rw[List.getLast?_concat,qX rfl,List.dropLast_concat]
 unfold ep;rw[e,qsi 42 nm _ (fun x hx=>((n9 x).1 (h x hx)).2.2.1)]
 simp only;rw[es,zdm i 1099511627776,qX ⟨h0,rfl⟩]
def zsk:∀n:_root_.Fin 256,(dp (UInt8.ofNat n.val)).all f8=true:=by decide +kernel
def q8l(c:UInt8):∀x∈dp c,f8 x=true:=fun x hx=>List.all_eq_true.1 (ig (fun c=>(dp c).all f8=true) zsk c) x hx
def qom:∀(t cur:Bs),cur≠[]->(∀x∈cur,f8 x=true)->∀p∈dh cur t,p≠[]/\∀x∈p,f8 x=true
 |[],cur,h0,h,p,hp=>by rw[dh,List.mem_singleton]at hp;rw[hp];exact⟨h0,h⟩|c::t,cur,h0,h,p,hp=>by
  have hu:=qny c;rw[dh]at hp;split at hp
  ·exact qom t _ (by simp[h0]) (fun x hx=>by
    rcases List.mem_append.1 hx with e|e
    ·exact h x e
    ·exact q8l c x e) p hp
  ·rcases List.mem_cons.1 hp with e|e
   ·rw[e];exact⟨h0,h⟩
   ·exact qom t _ (by intro e2;rw[e2]at hu;simp at hu) (q8l c) p e
def z2a{x:UInt8}(h:48<=x.toNat/\x.toNat<=57):dn x=true:=by
 have:∀n:_root_.Fin 256,48<=(UInt8.ofNat n.val).toNat/\(UInt8.ofNat n.val).toNat<=57->dn (UInt8.ofNat n.val)=true:=by decide +kernel
 exact ig (fun c=>48<=c.toNat/\c.toNat<=57->dn c=true) this x h
def zzw(nm r:Bs)(hr:Rs r):∀(n:Nat)(ps:List Bs),Rs (fw nm n ps++r)|_,[]=>hr|_,p::ps=>by rw[fw];exact .inr ⟨_,rfl⟩
def q61(nm r:Bs)(h0:nm≠[])(hn:∀x∈nm,tk x=true)(hr:Rs r):∀(ps:List Bs)(n:Nat)(acc:List Pc),n+ps.length<100000000->(∀p∈ps,p≠[]/\∀x∈p,f8 x=true)->cP acc (fw nm n ps++r)=cP (acc++gu nm n ps) r
 |[],_,acc,_,_=>by rw[fw,gu,List.nil_append,List.append_nil]|p::ps,n,acc,h,hp=>by
  simp only[qL]at h;obtain⟨p1,p2⟩:=hp p qH;have e:fw nm n (p::ps)++r=59::(32::((((nm++[42])++decDigits n)++[42])++61::(p++(fw nm (n+1) ps++r)))):=by rw[fw];simp
  have hl:jr (32::((((nm++[42])++decDigits n)++[42])++61::(p++(fw nm (n+1) ps++r))))=some (((((nm++[42])++decDigits n)++[42]),p),fw nm (n+1) ps++r):=by
   rw[qs9 (by simp) (fun x hx=>by
    simp only[wA,List.mem_singleton]at hx;rcases hx with((q|q)|q)|q
    ·exact((n9 x).1 (hn x q)).1
    ·rw[q];decide
    ·exact z2a (xq n x q)
    ·rw[q];decide),za7 p1 p2 (zzw nm r hr (n+1) ps)];rfl
  rw[e,qp4 hl (zgg h0 hn n) (by simp;omega),q61 nm r h0 hn hr ps (n+1) _ (by omega) (fun q hq=>hp q (qE _ hq)),gu]
  simp
def zp2(p:bt)(r:Bs)(hr:Rs r)(h1:dq p.1=true)(h3:p.2.length<=500)(acc:List Pc):cP acc (d5 p++r)=cP (acc++gh p) r:=by
 obtain⟨n0,n1⟩:=z7 h1;have nS:∀x∈p.1,dn x=true:=fun x hx=>((n9 x).1 (n1 x hx)).1
 unfold d5 gh;by_cases hv:dq p.2=true
 ·rw[qX hv,qX (.inl hv)];obtain⟨v0,v1⟩:=z7 hv;have e:(([59,32]++p.1)++[61])++p.2++r=59::(32::(p.1++61::(p.2++r))):=by simp
  have hl:jr (32::(p.1++61::(p.2++r)))=some ((p.1,p.2),r):=by
   rw[qs9 n0 nS,za7 v0 (fun x hx=>((n9 x).1 (v1 x hx)).2.1) hr];rfl
  rw[e,qp4 hl (zaw n0 n1) (by simp;omega)]
 ·rw[qW hv];by_cases hq:p.2.length<=60/\p.2.all fo=true
  ·rw[qX hq,qX (.inr hq)];have e:(((([59,32]++p.1)++[61,34])++quo p.2)++[34])++r=59::(32::(p.1++61::(34::(quo p.2++34::r)))):=by simp
   have hl:jr (32::(p.1++61::(34::(quo p.2++34::r))))=some ((p.1,p.2),r):=by
    rw[qs9 n0 nS,z2f];rfl
   rw[e,qp4 hl (zaw n0 n1) (by simp;omega)]
  ·rw[qW hq,qW (by simp only[not_or];exact⟨hv,hq⟩)]
   have hl:=uk p.2 d9;exact q61 p.1 r n0 n1 hr _ 0 acc (by omega) (qom _ _ (by decide) (by decide))
def zw2(p:bt)(r:Bs):d5 p++r≠[]->Rs (d5 p++r)\/d5 p=[]:=by
 intro _;unfold d5;split
 ·exact .inl (.inr ⟨_,rfl⟩)
 ·split
  ·exact .inl (.inr ⟨_,rfl⟩)
  ·cases hh:dh d9 p.2 with|nil=>exact .inr (by rw[fw])|cons x xs=>exact .inl (.inr ⟨_,by rw[fw];rfl⟩)
def qsl:∀l:List bt,Rs (l.flatMap d5)
 |[] => .inl rfl|p::l=>by
  rw[List.flatMap_cons];by_cases h:d5 p++l.flatMap d5=[]
  ·exact .inl h
  ·rcases zw2 p _ h with q|q
   ·exact q
   ·rw[q,List.nil_append];exact qsl l
def q1d:∀(l:List bt)(acc:List Pc),(∀p∈l,dq p.1=true/\p.2.length<=500)->cP acc (l.flatMap d5)=some (acc++l.flatMap gh)
 |[],acc,_=>by
  show im ep 1 acc []=_;rw[im];simp[du]
 |p::l,acc,h=>by
  obtain⟨h1,h2⟩:=h p qH;rw[List.flatMap_cons,List.flatMap_cons,zp2 p _ (qsl l) h1 h2,q1d l _ (fun q hq=>h q (qE _ hq)),qS]
def zzr{m:cv}(h:(dw m).1=0):qn ep (bp m)=some (m.1,m.2.1,m.2.2.flatMap gh):=by
 obtain⟨h1,h2,h3,h4⟩:=qax h;obtain⟨a0,a1⟩:=z7 h1;obtain⟨b0,b1⟩:=z7 h2;have nb:∀{c:UInt8},tk c=true->bl c=false:=fun{c} hc=>(n9 c).2.1 ((n9 c).1 hc).1
 have e:bp m=m.1++(47::(m.2.1++m.2.2.flatMap d5)):=by unfold bp;simp
 have t1:cq tk (bp m)=(m.1,47::(m.2.1++m.2.2.flatMap d5)):=by
  rw[e];exact qnl tk a0 (fun x hx=>nb (a1 x hx)) a1 (fun c t e=>by cases e;decide)
 have t2:di 47 (47::(m.2.1++m.2.2.flatMap d5))=(true,m.2.1++m.2.2.flatMap d5):=qwv (by decide)
 have t3:cq tk (m.2.1++m.2.2.flatMap d5)=(m.2.1,m.2.2.flatMap d5):=qnl tk b0 (fun x hx=>nb (b1 x hx)) b1 ((qsl _).no tk (by decide))
 unfold qn;simp only[t1,t2,t3];rw[qW (by simp[a0,b0])]
 have:=q1d m.2.2 [] (fun p hp=>⟨(h4 p hp).1,(h4 p hp).2.2.1⟩)
 unfold cP at this;have hl:(m.2.2.flatMap d5).length<(bp m).length+1:=by rw[e];simp;omega
 rw[qkb ep _ _ _ hl,this];rfl
end Go.Sym
namespace Go.Sym
open Go.Lib (decDigits validD)
def zpx:∀n:_root_.Fin 256,(two (UInt8.ofNat n.val)).length=2/\sr (two (UInt8.ofNat n.val))=some (UInt8.ofNat n.val):=by decide +kernel
def zr0(c:UInt8)(r:Bs):sr (two c++r)=some c:=by
 obtain⟨h1,h2⟩:=ig (fun c=>(two c).length=2/\sr (two c)=some c) zpx c
 match hh:two c,h1,h2 with|[a,b],_,h2=>exact h2
def qq1:∀(s r:Bs),fg (s.flatMap dp++r)=s++fg r
 |[],_=>rfl|c::s,r=>by
  rw[List.flatMap_cons,qS];unfold dp;split
  ·rename_i h;rw[wM,qr1 c _ ((n9 c).1 h).2.2.2];have:=qq1 s r;unfold dp at this;rw[this];rfl
  ·rw[wK,qvy,zr0];simp only;rw[List.drop_append_of_le_length (by rw[qpr];omega),List.drop_eq_nil_of_le (by rw[qpr];omega),List.nil_append]
   have:=qq1 s r;unfold dp at this;rw[this];rfl
def q2c(s:Bs):fg (s.flatMap dp)=s:=by
 have:=qq1 s [];rw[List.append_nil]at this;rw[this];simp[fg]
def qus:∀(t s ab:Bs),∃(s1:Bs)(L:List Bs),dh (ab++s.flatMap dp) t=(ab++s1.flatMap dp)::L.map (fun x:Bs=>x.flatMap dp)/\s1++L.flatten=s++t
 |[],s,ab=>⟨s,[],by rw[dh];rfl,by simp⟩|c::t,s,ab=>by
  rw[dh];split
  ·obtain⟨s1,L,h1,h2⟩:=qus t (s++[c]) ab;refine⟨s1,L,?_,by rw[h2];simp⟩
   rw[← h1,List.flatMap_append,List.flatMap_cons,List.flatMap_nil,List.append_nil,qS]
  ·obtain⟨s1,L,h1,h2⟩:=qus t [c] [];refine⟨s,s1::L,?_,by rw[List.flatten_cons,h2];rfl⟩
   rw[List.flatMap_cons,List.flatMap_nil,List.append_nil,List.nil_append]at h1;rw[h1];rfl
def zax(nm:Bs):∀(L:List Bs)(n:Nat),1<=n->(gu nm n (L.map fun x:Bs=>x.flatMap dp)).flatMap l8=L.flatten
 |[],_,_=>rfl|x::L,n,h=>by
  rw[List.map_cons,gu,List.flatMap_cons,zax nm L (n+1) (by omega),List.flatten_cons]
  have:l8 (nm,(n:Int),true,x.flatMap dp)=x:=by
   unfold l8 qgi;rw[qX rfl,qW (by simp only;omega)]
   exact q2c x
  rw[this]
def zo5(nm v:Bs):(gu nm 0 (dh d9 v)).flatMap l8=v:=by
 obtain⟨s1,L,h1,h2⟩:=qus v [] d9;rw[List.flatMap_nil,List.append_nil]at h1;rw[h1,gu,List.flatMap_cons,zax nm L 1 (by omega)]
 have:l8 (nm,((0:Nat):Int),true,d9++s1.flatMap dp)=s1:=by
  unfold l8 qgi;rw[qX rfl,qX ⟨rfl,by simp[d9],show lk (List.take 6 (d9++s1.flatMap dp)) d9=true from za d9⟩]
  show fg (List.drop 6 (d9++s1.flatMap dp))=s1;rw[show List.drop 6 (d9++s1.flatMap dp)=s1.flatMap dp from rfl];exact q2c s1
 rw[this,h2];rfl
def qk2(nm:Bs):∀(ps:List Bs)(n:Nat),∀x∈gu nm n ps,x.1=nm/\(n:Int)<=x.2.1/\x.2.1<(n:Int)+ps.length
 |[],_,x,hx=>by cases hx
 |p::ps,n,x,hx=>by
  rw[gu]at hx;rcases List.mem_cons.1 hx with e|e
  ·rw[e];exact⟨rfl,by simp only;omega,by simp only[qL];omega⟩
  ·obtain⟨h1,h2,h3⟩:=qk2 nm ps (n+1) x e;exact⟨h1,by omega,by simp only[qL];omega⟩
def q91(nm:Bs):∀(ps:List Bs)(n:Nat),(gu nm n ps).Pairwise (fun x y=>x.2.1<y.2.1)/\qmc (gu nm n ps) n
 |[],_=>⟨List.Pairwise.nil,trivial⟩|p::ps,n=>by
  obtain⟨h1,h2⟩:=q91 nm ps (n+1);rw[gu];refine⟨List.pairwise_cons.2 ⟨fun y hy => ?_,h1⟩,rfl,by simpa using h2⟩
  have:=(qk2 nm ps (n+1) y hy).2.1;simp only;omega
def q9v:∀(l1 l2:List Pc),l1.Perm l2->l1.Pairwise (fun x y=>x.2.1<=y.2.1)->l2.Pairwise (fun x y=>x.2.1<y.2.1)->l1=l2
 |[],l2,hp,_,_=>hp.nil_eq|a::l1,[],hp,_,_=>absurd hp.length_eq (by simp)|a::l1,b::l2,hp,h1,h2=>by
  rw[List.pairwise_cons]at h1 h2;have e:a=b:=by
   have ha:a∈b::l2:=hp.mem_iff.1 qH;have hb:b∈a::l1:=hp.mem_iff.2 qH;rcases List.mem_cons.1 ha with e|e
   ·exact e
   ·rcases List.mem_cons.1 hb with e2|e2
    ·exact e2.symm
    ·have q1:=h2.1 a e;have q2:=h1.1 b e2;omega
  subst e;rw[q9v l1 l2 ((List.perm_cons a).1 hp) h1.2 h2.2]
def zl2{p:bt}(hv:validD p.2=true)(h3:p.2.length<=500):y5 (gh p)=some p.2:=by
 unfold gh;split
 ·rw[qj5,qX (show(-1:Int)<0 by decide),qX rfl]
 ·have hl:=uk p.2 d9;have hso:=q91 p.1 (dh d9 p.2) 0;have ac:∀(ps:List Bs)(n:Nat),(gu p.1 n ps).length=ps.length:=by
   intro ps
   induction ps with|nil=>intro n;rfl|cons q ps ih=>intro n;rw[gu,qL,qL,ih]
  have hnb:∀x∈gu p.1 0 (dh d9 p.2),nb x:=fun x hx=>by
   obtain⟨_,q2,q3⟩:=qk2 p.1 _ 0 x hx;unfold nb;omega
  obtain⟨_,s2,s3⟩:=q8w (gu p.1 0 (dh d9 p.2)) hnb (by rw[ac];omega)
  have hs:=q9v _ _ s2 s3 hso.1;have hall:=zo5 p.1 p.2;have hnd:=hso.2
  cases hh:dh d9 p.2 with
  |nil=>rw[hh]at hl;simp at hl|cons x xs=>
   rw[hh]at hs hall hnd;rw[gu]at hs hall hnd ⊢;rw[qj5,qW,hs,show(0:Int)=((0:Nat):Int) from rfl,qpl _ _ _ hnd,hall]
   show some (vu [239,191,189] ([]++p.2).length false ([]++p.2))=some p.2;rw[List.nil_append,zhf _ p.2.length p.2 false (wF _) hv]
def qva(p:bt):(∀x∈gh p,x.1=p.1)/\gh p≠[]:=by
 unfold gh;split
 ·exact⟨fun x hx=>by rw[List.mem_singleton.1 hx],by simp⟩
 ·refine⟨fun x hx=>(qk2 p.1 _ 0 x hx).1,?_⟩
  have hl:=uk p.2 d9
  cases hh:dh d9 p.2 with|nil=>rw[hh]at hl;simp at hl|cons x xs=>rw[gu];simp
def q6e:∀(xs ab aa:List Pc)(out:List bt),(∀x∈xs,ab.any (fun y=>lk y.1 x.1)=true)->gl ab (xs++aa) out=gl (ab++xs) aa out
 |[],ab,aa,out,_=>by rw[List.nil_append,List.append_nil]|x::xs,ab,aa,out,h=>by
  rw[wK,gl,qX (h x qH),q6e xs (ab++[x]) aa out (fun y hy=>by rw[List.any_append,h y (qE _ hy)];rfl),qS,wM]
def q5f:∀(l ab:List bt),(ia ab l).1=0->∀l1 p l2,l=l1++p::l2->∀x∈ab++l1,lk x.1 p.1=false
 |[],_,_,l1,p,l2,e,_,_=>by cases l1<;>cases e
 |q::l,ab,h,l1,p,l2,e,x,hx=>by
  rw[ia]at h;split at h
  ·cases h
  ·split at h
   ·cases h
   ·rename_i g2;split at h
    ·cases h
    ·split at h
     ·cases h
     ·cases l1 with
      |nil=>
       rw[List.nil_append,List.cons.injEq]at e;obtain⟨rfl,_⟩:=e;rw[List.append_nil]at hx;cases hk:lk x.1 q.1
       ·rfl
       ·exact absurd (List.any_eq_true.2 ⟨x,hx,hk⟩) g2
      |cons a l1=>
       rw[wK,List.cons.injEq]at e;obtain⟨rfl,e⟩:=e;exact q5f l (ab++[q]) h l1 p l2 e x (by simpa using hx)
def qq7(p:bt):∀l:List bt,(∀x∈l,lk x.1 p.1=false)->ja p.1 (l.flatMap gh)=[]
 |[],_=>rfl|q::l,h=>by
  rw[List.flatMap_cons];unfold ja;rw[List.filter_append];have h1:(gh q).filter (fun x=>lk x.1 p.1)=[]:=List.filter_eq_nil_iff.2 (fun x hx=>by rw[(qva q).1 x hx,h q qH];decide)
  have h2:=qq7 p l (fun x hx=>h x (qE _ hx))
  unfold ja at h2;rw[h1,h2];rfl
def zaj(l:List bt)(hd:∀l1 p l2,l=l1++p::l2->∀x∈l1,lk x.1 p.1=false)(hv:∀p∈l,p.2.length<=500/\validD p.2=true):∀(aa ab:List bt),l=ab++aa->gl (ab.flatMap gh) (aa.flatMap gh) ab=(true,l)
 |[],ab,e=>by rw[List.append_nil]at e;rw[List.flatMap_nil,gl,e]|p::aa,ab,e=>by
  obtain⟨nm,hne⟩:=qva p;obtain⟨v1,v2⟩:=hv p (by rw[e];simp)
  have hp:=hd ab p aa e;have hs:∀x∈aa,lk x.1 p.1=false:=by
   intro x hx;obtain⟨a,b,e2⟩:=List.append_of_mem hx;have:=hd (ab++p::a) x b (by rw[e,e2];simp) p (by simp)
   rw[zsq];exact this
  have hnamed:ja p.1 ((ab.flatMap gh)++(gh p++aa.flatMap gh))=gh p:=by
   have h1:=qq7 p ab hp;have h2:=qq7 p aa hs;have h3:(gh p).filter (fun x=>lk x.1 p.1)=gh p:=List.filter_eq_self.2 (fun x hx=>by rw[nm x hx];exact za _)
   unfold ja at h1 h2 ⊢;rw[List.filter_append,List.filter_append,h1,h2,h3];simp
  have st:=zaj l hd hv aa (ab++[p]) (by rw[e];simp)
  rw[List.flatMap_append,List.flatMap_cons,List.flatMap_nil,List.append_nil]at st;rw[List.flatMap_cons]
  cases hh:gh p with
  |nil=>exact absurd hh hne|cons x xs=>
   rw[hh]at nm hnamed st;have hx:x.1=p.1:=nm x qH;have hno:(ab.flatMap gh).any (fun y=>lk y.1 x.1)=false:=by
    rw[List.any_eq_false];intro y hy;obtain⟨q,hq,hy⟩:=List.mem_flatMap.1 hy;rw[(qva q).1 y hy,hx,hp q hq];decide
   have hj:=zl2 v2 v1;rw[hh]at hj;rw[wK]at hnamed;rw[wK,gl,qW (by rw[hno];decide),hx,hnamed,hj]
   simp only;rw[q6e xs _ _ _ (fun y hy=>by
    rw[List.any_append,nm y (qE _ hy)];simp[hx,za]),qS,wM]
   exact st
def zz7{m:cv}(h:(dw m).1=0):uw (bp m)=some m:=by
 obtain⟨h1,h2,h3,h4⟩:=qax h;have hp:(ia [] m.2.2).1=0:=by
  unfold dw at h;rw[qW (by simp[h1,h2]),qW]at h;exact h
 have:=zaj m.2.2 (fun l1 p l2 e x hx=>q5f m.2.2 [] hp l1 p l2 e x (by simpa using hx)) (fun p hp=>⟨(h4 p hp).2.2.1,(h4 p hp).2.2.2⟩) m.2.2 [] rfl
 rw[List.flatMap_nil]at this;unfold uw;rw[zzr h];simp only;rw[this,qX rfl]
def zsm{m:cv}(h:(dw m).1=0)(hl:(bp m).length<=4000):p7 (bp m)=some m:=by
 unfold p7;rw[qW,zz7 h]
 simp only;rw[qW (by simpa using h)]
def q2f(T:Bs):∀l:List al,d6 (eg l T) bq=(d6 l bq).map fun _=>T
 |[]=>rfl|x::l=>by
  have ih:=q2f T l;unfold eg at ih ⊢;rw[List.map_cons,qr,qr,ih];by_cases h:lk x.1 bq=true
  ·rw[qX h,qX (show(x.1.map lo==bq.map lo)=true from h),qX (show(x.1.map lo==bq.map lo)=true from h)];rfl
  ·rw[qW h,qW (show ¬(x.1.map lo==bq.map lo)=true from h),qW (show ¬(x.1.map lo==bq.map lo)=true from h)]
def q17(A B:Bs):∀l:List al,eg (eg l A) B=eg l B
 |[]=>rfl|x::l=>by
  have ih:=q17 A B l;unfold eg at ih ⊢;rw[List.map_cons,List.map_cons,List.map_cons,ih];by_cases h:lk x.1 bq=true
  ·simp only[qX h]
  ·simp only[qW h]
def qw1(v:Bs):∀l:List al,(∀y∈d6 l bq,y=v)->eg l v=l
 |[],_=>rfl|x::l,h=>by
  rw[qr]at h;by_cases hk:lk x.1 bq=true
  ·rw[qX (show(x.1.map lo==bq.map lo)=true from hk)]at h
   have ih:=qw1 v l (fun y hy=>h y (qE _ hy))
   have hx:=h x.2 qH;unfold eg at ih ⊢;rw[List.map_cons,ih,qX hk,← hx]
  ·rw[qW (show ¬(x.1.map lo==bq.map lo)=true from hk)]at h
   have ih:=qw1 v l h;unfold eg at ih ⊢;rw[List.map_cons,ih,qW hk]
def zkf{m:cv}(hb:(ez m.2.2 cy).2=false)(N:Nat):ji (ge m N)=m:=by
 unfold ji ge;simp only;rw[List.filter_append];have h1:m.2.2.filter g7=m.2.2:=List.filter_eq_self.2 (fun x hx=>by unfold g7;rw[qof hb x hx];rfl)
 have h2:([(cy,bN N)]:List bt).filter g7=[]:=by
  rw[List.filter_cons,show g7 (cy,bN N)=false from by unfold g7;simp only;rw[za];rfl];rfl
 rw[h1,h2,List.append_nil]
def zm0{m:cv}(hb:(ez m.2.2 cy).2=false)(N:Nat):ez (ge m N).2.2 cy=(bN N,true):=by
 have:∀l:List bt,(∀x∈l,lk x.1 cy=false)->ez (l++[(cy,bN N)]) cy=(bN N,true):=by
  intro l
  induction l with
  |nil=>intro _;rw[List.nil_append,qdi,qX (za _)]|cons x l ih=>
   intro h;rw[wK,qdi,qW (by rw[h x qH];decide)]
   exact ih (fun y hy=>h y (qE _ hy))
 exact this m.2.2 (qof hb)
def zys(N:Nat)(hN:N<1000000000000:=by omega):bOk (bN N)=true:=by
 have hl:=p8 N hN;have hp:(bN N).all fo=true:=List.all_eq_true.2 (fun x hx=>qkk (qoy x ((z7 (qhr N hN).1).2 x hx)))
 have hlast:((bN N).getLast? == some 32)=false:=by
  rw[beq_eq_false_iff_ne];intro e;have hm:(32:UInt8)∈bN N:=List.mem_of_getLast? e;have:=(z7 (qhr N hN).1).2 32 hm;revert this;decide
 unfold bOk;rw[hp,hlast,decide_eq_true (by omega)]
 rfl
def q28(N:Nat):∀(ps:List Bs)(p:Bs),p∈ps->p.length<=(cu ps N).length
 |q::ps,p,h=>by
  rw[qwu];simp only[qM,qL];rcases List.mem_cons.1 h with e|e
  ·rw[e];omega
  ·have:=q28 N ps p e;omega
def q3u:∀(ls:List Bs)(i:Nat),oc i ls=none->∀x∈ls,x.length<=998
 |[],_,_,x,hx=>by cases hx
 |l::ls,i,h,x,hx=>by
  rw[oc]at h;split at h
  ·cases h
  ·rcases List.mem_cons.1 hx with e|e
   ·rw[e];omega
   ·exact q3u ls _ h x e
def zak(q:Bs)(hq:bs 0 q=0):∀ls:List Bs,(∀s∈ls,s.length<=998/\∀x∈s,x≠13/\x≠10)->bs 0 (bi ls++q)=0
 |[],_=>by rw[show bi []=[] from rfl,List.nil_append];exact hq|s::ls,h=>by
  obtain⟨h1,h2⟩:=h s qH;have e:bi (s::ls)++q=s++13::10::(bi ls++q):=by simp[bi]
  rw[e];exact wu s.length s _ 0 (wF _) (qid s 0 h2 (by omega)) (zak q hq ls (fun t ht=>h t (qE _ ht)))
def zd3{x:al}(h:eh x):∀c∈cm x.1 x.2,c≠13/\c≠10:=by
 obtain⟨h1,_,h3⟩:=tj h.1;obtain⟨_,n2⟩:=qm2 h1;obtain⟨v1,_⟩:=qlu h3;intro c hc;unfold cm at hc;simp only[wA,wE,List.not_mem_nil,or_false]at hc;rcases hc with(q|q|q)|q
 ·have:=(qbt c (n2 c q)).1;exact⟨this.1,this.2.1⟩
 ·rw[q];decide
 ·rw[q];decide
 ·have:=v1 c q;exact⟨this.1,this.2.1⟩
def q7x(b:Bs)(hb:bs 0 b=0):∀l:List al,(∀x∈l,eh x)->bs 0 (hbytes l++b)=0
 |[],_=>wu 0 [] b 0 (by simp) (qac _) hb|x::l,h=>by
  have e:hbytes (x::l)++b=bi (cz x.1 x.2)++(hbytes l++b):=by simp[hbytes,ie]
  rw[e];have hx:=h x qH;refine zak _ (q7x b hb l (fun y hy=>h y (qE _ hy))) _ (fun s hs=>⟨q3u _ 0 hx.2 s hs,fun c hc => ?_⟩)
  have:c∈(cz x.1 x.2).flatten:=List.mem_flatten.2 ⟨s,hs,hc⟩;unfold cz at this;rw[wi]at this;exact zd3 hx c this
def qzf(N:Nat):∀x∈dl N,x≠13/\x≠10:=fun x hx=>⟨y9 N x hx,qu9 N x hx⟩
def q3v(N:Nat)(hN:N<1000000000000):∀ps:List Bs,(∀p∈ps,bs 0 p=0)->bs 0 (cu ps N)=0
 |[],_=>by
  have e:cu [] N=(dl N++[45,45])++13::10::[]:=by unfold cu;simp
  have hl:=p8 N hN;rw[e];refine wu _ _ [] 0 (wF _) (qid _ 0 (fun x hx => ?_) (by unfold dl;simp;omega)) (qac _)
  rcases List.mem_append.1 hx with q|q
  ·exact qzf N x q
  ·simp at q;rw[q];decide
 |p::ps,h=>by
  have hl:=p8 N hN;rw[qwu];refine wu _ _ _ 0 (wF _) (qid _ 0 (qzf N) (by unfold dl;simp;omega)) ?_
  exact wu _ _ _ 0 (wF _) (h p qH) (q3v N hN ps (fun q hq=>h q (qE _ hq)))
def qzs:∀(n:Nat)(t:TP)(d:Int),ch t<=n->(ay n t d).length<=40->sq n t d->bs 0 (au n t).2=0
 |0,t,d,h,_,_=>by have:=oa t;omega|n+1,t,d,hsz,hf,hg=>by
  have hkf:∀k∈t.kids,(ay n k (d+1)).length<=40:=fun k hk=>by
   have:=qf9 (n:=n) (d:=d+1) hk;rw[ay,qL]at hf;omega
  have hkid:∀k∈t.kids,JP n k (d+1):=fun k hk=>qea n k (d+1) (by have:=jl hk;omega) (hkf k hk) (tl hg hk)
  obtain⟨g1,g2⟩:=qha hg;obtain⟨f1,f2,f3,f4⟩:=qh7 g1;by_cases hk:t.kids=[]
  ·rw[au,qX hk];exact(f4 (by rw[hk];rfl)).2
  ·obtain⟨m,m1,h0,m2,m3,m4,m5,m6,m7,m8,m9,m10,n1,n2,n3,n4,n5⟩:=qkg hsz hf hg hk hkid;rw[au,qW hk];refine q3v _ (by omega) _ (fun p hp => ?_)
   obtain⟨k,hk2,rfl⟩:=List.mem_map.1 hp;exact q7x _ (qzs n k (d+1) (by have:=jl hk2;omega) (hkf k hk2) (tl hg hk2)) _ (hkid k hk2).2.1
def zhd{x:List al×Bs}(h:(fe x).1=0)(rec:List al->Bs->Nat->(TP×Nat) ⊕ (Int×Int))(k:Nat)(hk:k<40:=by omega):rn rec (wr x) k=rec x.1 x.2 k:=by
 have hr:=z0z h;unfold rn wr;rw[hr];simp only;rw[qW,qW,show(((hbytes x.1).length:Int)).toNat=(hbytes x.1).length by omega,List.drop_left]
def q6b(m n:Nat)(f:List al)(d:Int):∀(ks:List TP)(k:Nat)(acc:List TP),k+(ks.flatMap fun t=>ay n t d).length<=40 ->
  (∀t∈ks,1<=(ay n t d).length/\(fe (au n t)).1=0/\∀k,k+(ay n t d).length<=40->fm m (au n t).1 (au n t).2 k = .inl (t,k+(ay n t d).length)) ->
  pp (fm m) f (ks.map fun t=>wr (au n t)) k acc = .inl (.node (f,[]) (acc++ks),k+(ks.flatMap fun t=>ay n t d).length)
 |[],k,acc,_,_=>by rw[List.map_nil,pp,List.append_nil];rfl|t::ks,k,acc,h,ht=>by
  rw[List.flatMap_cons,qM]at h ⊢;obtain⟨t1,t2,t3⟩:=ht t qH;rw[List.map_cons,pp,zhd t2 _ k,t3 k (by omega)]
  simp only;rw[q6b m n f d ks _ _ (by omega) (fun x hx=>ht x (qE _ hx)),qS,wM,Nat.add_assoc]
def q7o:∀(n:Nat)(t:TP)(d:Int)(k:Nat),ch t<=n->sq n t d->0<=d->(∀x∈ay n t d,x.2<=8)->k+(ay n t d).length<=40->(fe (au n t)).1=0 ->
  fm (8-d).toNat (au n t).1 (au n t).2 k = .inl (t,k+(ay n t d).length)
 |0,t,d,k,h,_,_,_,_,_=>by have:=oa t;omega|n+1,t,d,k,hsz,hg,hd,hdep,hk40,hm=>by
  have hf:(ay (n+1) t d).length<=40:=by omega
  have hkf:∀k∈t.kids,(ay n k (d+1)).length<=40:=fun k hk=>by
   have:=qf9 (n:=n) (d:=d+1) hk;rw[ay,qL]at hf;omega
  have hkid:∀k∈t.kids,JP n k (d+1):=fun k hk=>qea n k (d+1) (by have:=jl hk;omega) (hkf k hk) (tl hg hk)
  obtain⟨g1,g2⟩:=qha hg;obtain⟨f1,f2,f3,f4⟩:=qh7 g1;by_cases hk:t.kids=[]
  ·have e:au (n+1) t=t.val:=by rw[au,qX hk]
   have ef:(ay (n+1) t d).length=1:=by rw[ay,hk];rfl
   have et:Tree.node (t.val.1,t.val.2) []=t:=by cases t;simp only[Tree.kids]at hk;rw[hk];rfl
   rw[e,ef];have hno:∀m',(8-d).toNat=m'+1->oh t.val.1 t.val.2=none:=by
    intro m' hm';unfold oh
    cases hb:bnd t.val.1 with
    |none=>rfl|some bb=>
     have hc:ii t.val.2 bb=[]:=by
      obtain⟨q1,q2⟩:=f4 (by rw[hk];rfl)
      have hfz:=ql9 (l:=t.val.1);unfold li at g1;split at g1
      ·rename_i h1;exact absurd g1 h1
      ·rw[qW (by rw[hk];simp),qW,qW (by simpa using q2),hb]at g1
       simp only at g1;split at g1
       ·cases g1
       ·rename_i h2;have:¬0<(ii t.val.2 bb).length:=fun q=>h2 ⟨by omega,q⟩
        exact List.eq_nil_of_length_eq_zero (by omega)
     simp only;rw[qX hc]
   cases hm':(8-d).toNat with|zero=>rw[fm,et]|succ m'=>rw[fm,hno m' hm'];simp only;rw[et]
  ·obtain⟨m,m1,h0,m2,m3,m4,m5,m6,m7,m8,m9,m10,n1,n2,n3,n4,n5⟩:=qkg hsz hf hg hk hkid;have e:au (n+1) t=(eg t.val.1 (bp (ge m (f5 (t.kids.map fun k=>wr (au n k))))),cu (t.kids.map fun k=>wr (au n k)) (f5 (t.kids.map fun k=>wr (au n k)))):=by
    rw[au,qW hk,m1];rfl
   obtain⟨_,ms1,ms2,ms3,_⟩:=qpz hm;rw[e]at ms3 ⊢;simp only at ms3 ⊢;generalize hN:f5 (t.kids.map fun k=>wr (au n k))=N at *
   have hkmsg:∀x∈t.kids,(fe (au n x)).1=0:=by
    intro x hx;obtain⟨j1,j2,j3,j4⟩:=hkid x hx;have hb:=qzs n x (d+1) (by have:=jl hx;omega) (hkf x hx) (tl hg hx)
    have hge:=q28 N (t.kids.map fun k=>wr (au n k)) (wr (au n x)) (List.mem_map.2 ⟨x,hx,rfl⟩)
    have:(wr (au n x)).length=(hbytes (au n x).1).length+(au n x).2.length:=by unfold wr;rw[qM]
    rw[zco j1 j2 (by omega) hb]
   have hps:∀p∈(t.kids.map fun k=>wr (au n k)),ce p/\lb (dl N) true p=false:=fun p hp=>by
    refine⟨?_,zgo n2 p hp⟩;obtain⟨x,hx,rfl⟩:=List.mem_map.1 hp;obtain⟨_,q2,q3,_⟩:=hkid x hx;exact(qim _ q2).app q3
   have hcb:=zl4 N _ hps;have hty:il (eg t.val.1 (bp (ge m N)))=some (ge m N):=by
    unfold il;rw[q2f,m6];simp only[List.map_cons,List.map_nil];exact zsm n4 (by omega)
   have hbd:bnd (eg t.val.1 (bp (ge m N)))=some (bN N):=by
    unfold bnd;rw[hty];simp only;rw[zm0 m4 N,qX ⟨m3,rfl,zys N⟩]
   have hne:(t.kids.map fun k=>wr (au n k))≠[]:=by
    cases hh:t.kids with|nil=>exact absurd hh hk|cons=>simp
   have hko:oh (eg t.val.1 (bp (ge m N))) (cu (t.kids.map fun k=>wr (au n k)) N)=some (t.val.1,t.kids.map fun k=>wr (au n k)):=by
    unfold oh;rw[hbd];simp only;rw[hcb,qW hne,hty];simp only;rw[zkf m4 N,qW,q17,qw1 (bp m) t.val.1 (by rw[m6];simp)]
   have hd8:d+1<=8:=by
    cases hh:t.kids with
    |nil=>exact absurd hh hk|cons x xs=>
     have hx:x∈t.kids:=by rw[hh];simp
     have hn:1<=n:=by have:=jl hx;have:=oa x;omega
     obtain⟨n',rfl⟩:∃n',n=n'+1:=⟨n-1,by omega⟩
     have:=hdep (x,d+1) (by
      rw[ay];refine qE _ (List.mem_flatMap.2 ⟨x,hx,?_⟩);rw[ay];exact qH)
     exact this
   obtain⟨m',hm'⟩:∃m',(8-d).toNat=m'+1:=⟨(8-d).toNat-1,by omega⟩
   have hm2:(8-(d+1)).toNat=m':=by omega
   rw[hm',fm,hko];simp only;rw[ay,qL]at hk40 ⊢;have hkids:=q6b m' n t.val.1 (d+1) t.kids (k+1) [] (by omega) (fun x hx=>by
    have hn:1<=n:=by have:=jl hx;have:=oa x;omega
    refine⟨?_,hkmsg x hx,fun k' hk' => ?_⟩
    ·obtain⟨n',rfl⟩:∃n',n=n'+1:=⟨n-1,by omega⟩
     rw[ay];simp
    ·have:=q7o n x (d+1) k' (by have:=jl hx;omega) (tl hg hx) (by omega) (fun y hy=>hdep y (by
      rw[ay];exact qE _ (List.mem_flatMap.2 ⟨x,hx,hy⟩))) hk' (hkmsg x hx)
     rw[hm2]at this;exact this)
   rw[hkids,List.nil_append,← m2];have et:Tree.node (t.val.1,t.val.2) t.kids=t:=by cases t;rfl
   rw[et,Nat.add_assoc,Nat.add_comm 1]
end Go.Sym
namespace Go.Sym
def q36{fu:Nat}{t:TP}(hfu:1000000000000<=fu)(hs:gd t)(h:(kq fu t).1=0)(hm:(fe (au fu t)).1=0):lv fu (au fu t)=(t,(0,0)):=by
 obtain⟨h1,h2,h3⟩:=qyj hs h;have e:fm 8 (au fu t).1 (au fu t).2 0 = .inl (t,0+(ay fu t 0).length):=q7o fu t 0 0 (by have:=hs.1;omega) h2 (by omega) h3 (by omega) hm
 unfold lv;rw[qW (by simpa using hm),e]
 simp only;rw[qW (by simpa using h)]
def zqa{fu:Nat}{m:List al×Bs}(h:(lv fu m).2.1=0):(kq fu (lv fu m).1).1=0:=by
 unfold lv at h ⊢;split
 ·rename_i h0;rw[qX h0]at h;exact absurd h h0
 ·rename_i h0;rw[qW h0]at h
  cases hx:fm 8 m.1 m.2 0 with
  |inr e=>
   rw[hx]at h;have hok:=qdf 8 m.1 m.2 0 (qxx (by simpa using h0)) (by omega)
   rw[hx]at hok;exact absurd h hok
  |inl x=>
   rw[hx]at h;simp only at h ⊢;split
   ·rename_i h1;rw[qX h1]at h;exact absurd h h1
   ·rename_i h1;simpa using h1
def zoj(t:TP)(hs:gd t):qaz 1000000000000 t=some true:=by
 unfold qaz;simp only[gy];rw[q5w,qB,dd,q1y _ (by omega) t hs,qB,jg]
 have same:∀m:List al×Bs,m.1.length<=60->qfi 1000000000000 m m=some true:=fun m hm=>zvd _ m
 by_cases h:(kq 1000000000000 t).1=0
 ·by_cases hm:(fe (au 1000000000000 t)).1=0
  ·obtain⟨_,j2,j3⟩:=qsx (by omega) hs h
   have e:nj 1000000000000 t=(au 1000000000000 t,(0,0)):=by unfold nj;rw[qW (by simpa using h),qW (by simpa using hm)]
   rw[e,qW,qq3 _ (by omega) _ j2,qB,q36 (by omega) hs h hm,ke,qX rfl,qse _ (by omega) t hs];rfl
  ·have e:nj 1000000000000 t=(([],[]),((fe (au 1000000000000 t)).1,-3)):=by unfold nj;rw[qW (by simpa using h),qX hm]
   rw[e,qX (by simpa using hm),same _ (by simp)];rfl
 ·have e:nj 1000000000000 t=(([],[]),kq 1000000000000 t):=by unfold nj;rw[qX h]
  rw[e,qX (by simpa using h),same _ (by simp)];rfl
def zze(x:TP×Unit)(h:bks [.tree τP] x<=1048576):qaz 1000000000000 x.1=some true:=by
 obtain⟨t,_⟩:=x;have h:ch t+0<=1048576:=h;exact zoj t (q97)
def zu7(m:List al×Bs)(hs:xf m):qbl 1000000000000 m=some true:=by
 unfold qbl;rw[q5w,qB,dd,qq3 _ (by omega) m hs,qB,jg]
 simp only[gy];by_cases h:(lv 1000000000000 m).2.1=0
 ·have hg:=zrz 1000000000000 m;have hp:=zqa h;rw[qW (by simpa using h)]
  generalize (lv 1000000000000 m).1=t at *;rw[q1y _ (by omega) t hg,qB,jg]
  by_cases hm:(fe (au 1000000000000 t)).1=0
  ·obtain⟨_,j2,j3⟩:=qsx (by omega) hg hp
   have e:nj 1000000000000 t=(au 1000000000000 t,(0,0)):=by unfold nj;rw[qW (by simpa using hp),qW (by simpa using hm)]
   rw[e,qW,qq3 _ (by omega) _ j2,qB,q36 (by omega) hg hp hm,ke,qX rfl,qse _ (by omega) t hg];rfl
  ·have e:nj 1000000000000 t=(([],[]),((fe (au 1000000000000 t)).1,-3)):=by unfold nj;rw[qW (by simpa using hp),qX hm]
   rw[e,qX (by simpa using hm)];rfl
 ·have e:=zei h;rw[qX h,e,qse _ (by omega) emT qic];rfl
def zmt(x:(List al×Bs)×Unit)(h:bks [τP] x<=1048576):qbl 1000000000000 x.1=some true:=by
 obtain⟨m,_⟩:=x;have h:τP.bk m+0<=1048576:=h;exact zu7 m (q4k m (by exact h))
open Go.ChangeShapes Go.WideShapes Go.ChangeAt Go.RowKit
variable[LC]
def vv(a b:Int):Bool:=decide (a=b)
def zl:(τ:Ty)->τ.den->DataW Unit->Bool|.int k,x,.lit (.int k' n)=>decide (k'=k)&&vv n x|.byte,x,.lit (.int k' n)=>decide (k' = .u8)&&vv n x.toNat|.prod .byte .byte,x,.agg [.lit (.int _ a),.lit (.int _ b)]=>vv a x.1.toNat&&vv b x.2.toNat|_,_,_=>false
def zp(τ:Ty):List τ.den->List (DataW Unit)->Bool|[],[]=>true|x::l,d::ds=>zl τ x d&&zp τ l ds|_,_=>false
def qia(P:Program)(t:TypeId):Bool:=match P.underlying t with|some (.int .u8)=>Nat.beq (P.cellsOf t) 1|_=>false
def qkq(P:Program)(t:TypeId):Ty->Bool
 |.int k=>match P.underlying t with|some (.int k')=>decide (k'=k)|_=>false
 |.byte=>match P.underlying t with|some (.int .u8)=>true|_=>false
 |.prod .byte .byte=>match P.underlying t with
  |some (.struct fs)=>match fs.toList with|[f,g]=>Nat.beq f.offset 0&&Nat.beq g.offset 1&&qia P f.type&&qia P g.type&&Nat.beq (P.cellsOf t) 2|_=>false
  |_=>false
 |_=>false
section
variable{P:Program}{w:World}{base:Nat}{sp:Nat->Bool}
def zya{m:Nat}{τ:Ty}{t:TypeId}{cs:List Value}{y:DataW Unit×List MemPlace}{x:τ.den}(ht:qkq P t τ=true)(h:DataW.trod (fun _=>()) P w base sp false m t cs=some y)(hx:zl τ x y.1=true):ak (τ.enc x) (Gw w) cs/\∀v∈cs,v.oneCell'=true:=by
 unfold qkq at ht;split at ht
 ·rename_i k;split at ht
  ·rename_i k' hu;have hk:k'=k:=of_decide_eq_true ht;subst hk;obtain⟨n,rfl,rfl,_⟩:=DataW.trod_int hu h;simp only[zl,vv,qA,decide_eq_true_eq]at hx;obtain⟨_,rfl⟩:=hx;exact⟨⟨rfl,trivial⟩,fun v hv=>by rw[List.mem_singleton]at hv;subst hv;rfl⟩
  ·cases ht
 ·split at ht
  ·rename_i hu;obtain⟨n,rfl,rfl,_⟩:=DataW.trod_int hu h;simp only[zl,vv,qA,decide_eq_true_eq]at hx;obtain⟨_,rfl⟩:=hx;exact⟨⟨rfl,trivial⟩,fun v hv=>by rw[List.mem_singleton]at hv;subst hv;rfl⟩
  ·cases ht
 ·split at ht
  ·rename_i fs hu;split at ht
   ·rename_i f g hfs;simp only[qA]at ht;obtain⟨⟨⟨⟨o1,o2⟩,u1⟩,u2⟩,c2⟩:=ht;have o1:=qN o1;have o2:=qN o2;have c2:=qN c2;have key:∀t,qia P t=true->P.underlying t=some (.int .u8)/\P.cellsOf t=1:=fun t h=>by
     unfold qia at h;split at h
     ·rename_i hu;exact⟨hu,qN h⟩
     ·cases h
    obtain⟨k1,s1⟩:=key _ u1;obtain⟨k2,s2⟩:=key _ u2;obtain⟨xs,n,rfl,rfl,hl,hxl,hg⟩:=DataW.trod_struct hu h;have g0:=hg 0 f (by rw[← Array.getElem?_toList,hfs];rfl)
    have g1:=hg 1 g (by rw[← Array.getElem?_toList,hfs];rfl)
    have hsz:fs.size=2:=by rw[← Array.length_toList,hfs];rfl
    rw[hsz]at hxl;rw[c2]at hl
    match cs,hl with
    |[a,b],_=>
     match xs,hxl with
     |[p,q],_=>
      rw[o1,s1]at g0;rw[o2,s2]at g1;obtain⟨n1,e1,rfl,_⟩:=DataW.trod_int k1 g0;obtain⟨n2,e2,rfl,_⟩:=DataW.trod_int k2 g1;simp only[List.drop_zero,List.take_succ_cons,List.take_zero,List.cons.injEq,and_true]at e1;simp only[List.drop_succ_cons,List.drop_zero,List.take_succ_cons,List.take_zero,List.cons.injEq,and_true]at e2;subst e1 e2;simp only[List.map_cons,List.map_nil,zl,vv,qA,decide_eq_true_eq]at hx;obtain⟨rfl,rfl⟩:=hx;exact⟨⟨rfl,rfl,trivial⟩,fun v hv=>by
       rcases List.mem_cons.1 hv with rfl|hv
       ·rfl
       ·rw[List.mem_singleton]at hv;subst hv;rfl⟩
   ·cases ht
  ·cases ht
 ·cases ht
def q1f{τ:Ty}:∀{l:List τ.den}{ds:List (DataW Unit)},zp τ l ds=true->l.length=ds.length/\∀(j:Nat)(x:τ.den),l[j]? = some x->∃d,ds[j]? = some d/\zl τ x d=true
 |[],[],_=>⟨rfl,fun j x h=>by simp at h⟩
 |[],_::_,h=>by simp[zp]at h|_::_,[],h=>by simp[zp]at h|y::l,d::ds,h=>by
  simp only[zp,qA]at h;obtain⟨i1,i2⟩:=q1f h.2;refine⟨by simp[i1],fun j x hx => ?_⟩
  match j with|0=>simp only[List.getElem?_cons_zero,qI]at hx;subst hx;exact⟨d,rfl,h.1⟩|j+1=>exact i2 j x hx
def qh1(P:Program)(g:Nat)(τ:Ty)(l:List τ.den)(n:Nat)(d:DataW Unit):Bool:=match(P.globals[g]?).map (·.type) with
 |some t=>match P.underlying t,d with|some (.array _m E),.agg ds=>qkq P E τ&&(Nat.beq (P.cellsOf E) τ.sz&&(Nat.beq (P.cellsOf t) n&&zp τ l ds))|_,_=>false
 |none=>false
def zvq{g:Nat}{τ:Ty}{l:List τ.den}{n:Nat}{d:DataW Unit}(h:qh1 P g τ l n d=true){t:TypeId}{cs:Array Value}{fuel:Nat}{p:List MemPlace}(ht:(P.globals[g]?).map (·.type)=some t)
  (hc:∃u fr,w.heap[g]? = some (.cells cs u fr)) (hd:DataW.trod (fun _=>()) P w base sp false fuel t cs.toList=some (d,p)) :
  cs.size=n/\∀(j:Nat)(x:τ.den),l[j]? = some x->τ.At (Gw w).imm x g (j*τ.sz):=by
 unfold qh1 at h;rw[ht]at h;simp only at h;split at h
 ·rename_i m E ds hu;simp only[qA]at h;obtain⟨h1,h2,h3,h4⟩:=h;have h2:=qN h2;have h3:=qN h3;obtain⟨xs,m',rfl,e,hl,hxl,hg⟩:=DataW.trod_array hu hd;simp only[qP,DataW.agg.injEq]at e;obtain⟨rfl,rfl⟩:=e;obtain⟨dl,dg⟩:=q1f h4;refine⟨by rw[← Array.length_toList,hl,h3],fun j x hx => ?_⟩
  obtain⟨d,hd1,hd2⟩:=dg j x hx;rw[List.getElem?_map]at hd1;obtain⟨y,hy,rfl⟩:=Option.map_eq_some_iff.1 hd1;have hj:j<m:=by rw[← hxl];exact(List.getElem?_eq_some_iff.1 hy).1
  have:=hg j hj;rw[hy]at this;obtain⟨r1,r2⟩:=zya h1 this hd2;refine rt.1 (ak.cells _ _ _ r1 r2 fun i v hv => ?_)
  rw[h2,List.getElem?_take]at hv;split at hv
  ·rw[List.getElem?_drop]at hv;obtain⟨u,fr,hh⟩:=hc;simp only[World.cell?,hh];rw[← Array.getElem?_toList];exact hv
  ·cases hv
 ·cases h
def qwh{laid:List (String×DataW Unit)}{n:String}{d:DataW Unit}:∀{l:List (String×DataW Unit)}{ps:List MemPlace},DataW.LaidVars P w l ps->(n,d)∈l ->
  ∃g t cs fuel p,P.globalNamed n=some g/\(P.globals[g]?).map (·.type)=some t/\(∃u fr,w.heap[g]? = some (.cells cs u fr))/\DataW.trod (fun _=>()) P w 0 (fun _=>true) false fuel t cs.toList=some (d,p)
 |[],_,_,h=>by cases h
 |(n',d')::r,ps,hl,h=>by
  obtain⟨g,t,cs,fuel,p,q,h1,h2,h3,h4,h5,_⟩:=hl;rcases List.mem_cons.1 h with e|h
  ·simp only[qP]at e;obtain⟨rfl,rfl⟩:=e;refine⟨g,t,cs,fuel,p,h1,h2,?_,h4⟩;unfold World.var? at h3;rw[h1,qB]at h3;split at h3
   ·rename_i c u fr hh;have:=qJ h3;subst this;exact⟨u,fr,hh⟩
   ·cases h3
  ·exact qwh (laid:=laid) h5 h
end
def qst(P:Program)(laid:List (String×DataW Unit))(e:Nat×Nat):Bool:=match LC.glob e.1 with
 |some ⟨τ,l⟩=>Nat.blt 0 l.length&&laid.any fun x=>match P.globalNamed x.1 with|some g=>Nat.beq g e.1&&qh1 P e.1 τ l e.2 x.2|none=>false
 |none=>false
def zea(P:Program)(laid:List (String×DataW Unit))(g:Nat):Bool:=laid.any fun x=>match P.globalNamed x.1 with
 | some g'=>Nat.beq g' g&&(match(P.globals[g]?).map (·.type) with
  |some t=>match P.underlying t,x.2 with|some (.interface _),.iface _ _=>true|_,_=>false
  | none=>false)
 |none=>false
def q9m{P:Program}{laid:List (String×DataW Unit)}{W:World}(h:laidMetH P laid W)(hh:(laid.all fun x=>x.2.handleName?.isNone)=true)
  (hg:∀g τ l,LC.glob g=some ⟨τ,l⟩->∃n,(g,n)∈LC.sizes) (hs:LC.sizes.all (qst P laid)=true) (hi:LC.ifs.all (zea P laid)=true) (hn:∀g∈LC.ints,∃k,W.cell? ⟨g,0,none⟩=some (.int .i64 k)):LC.tab (Gw W).imm W:=by
 rw[MakeChecks.laidMetH_plain _ _ _ hh]at h;obtain⟨ps,hl,_⟩:=h;have key:∀e∈LC.sizes,∃τ l,LC.glob e.1=some ⟨τ,l⟩/\0<l.length/\∃(cs:Array Value)(u:TypeId)(fr:Nat×Nat),W.heap[e.1]? = some (.cells cs u fr)/\cs.size=e.2/\∀(j:Nat)(x:τ.den),l[j]? = some x->τ.At (Gw W).imm x e.1 (j*τ.sz):=fun e he=>by
  have h1:=List.all_eq_true.1 hs e he;unfold qst at h1;split at h1
  ·rename_i τ l hgl;rw[qA]at h1;obtain⟨x,hx,h2⟩:=List.any_eq_true.1 h1.2;split at h2
   ·rename_i g hgn;rw[qA]at h2;have:=qN h2.1;subst this;obtain⟨g',t,cs,fuel,p,k1,k2,⟨u,fr,k3⟩,k4⟩:=qwh (laid:=laid) hl (n:=x.1) (d:=x.2) hx;rw[hgn]at k1;have:=qJ k1;subst this;obtain⟨r1,r2⟩:=zvq h2.2 k2 ⟨u,fr,k3⟩ k4;exact⟨τ,l,hgl,Nat.le_of_ble_eq_true h1.1,cs,u,fr,k3,r1,r2⟩
   ·cases h2
  ·cases h1
 refine⟨fun g τ l hgl j x hx => ?_,fun g hgi => ?_,fun g hgi => ?_,fun e he => ?_⟩
 ·obtain⟨n,hn⟩:=hg g τ l hgl;obtain⟨τ',l',h1,_,cs,u,fr,_,_,h5⟩:=key _ hn;rw[hgl]at h1;cases h1
  exact h5 j x hx
 ·obtain⟨k,hk⟩:=hn g hgi;exact⟨k,qp9 hk rfl⟩
 ·have h1:=List.all_eq_true.1 hi g hgi;obtain⟨x,hx,h2⟩:=List.any_eq_true.1 h1;split at h2
  ·rename_i g' hgn;rw[qA]at h2;have:=qN h2.1;subst this;obtain⟨g2,t,cs,fuel,p,k1,k2,⟨u,fr,k3⟩,k4⟩:=qwh (laid:=laid) hl (n:=x.1) (d:=x.2) hx;rw[hgn]at k1;have:=qJ k1;subst this;have h3:=h2.2;rw[k2]at h3;simp only at h3;split at h3
   ·rename_i ms nm d hu hd;rw[hd]at k4;obtain⟨_,u',v,hcs,_,_⟩:=iface_of_trod hu k4;refine⟨u',v,qp9 ?_ rfl⟩;simp only[World.cell?,k3];rw[← Array.getElem?_toList,hcs];rfl
   ·cases h3
  ·cases h2
 ·obtain⟨τ,l,h1,h2,cs,u,fr,h3,h4,h5⟩:=key e he;refine⟨?_,cs,u,fr,h3,h4⟩;have h6:=h5 0 l[0] (by simp[h2])
  have:∃o v,(Gw W).imm e.1 o=some v:=by
   have hx:=List.all_eq_true.1 hs e he;unfold qst at hx;rw[h1]at hx;simp only[qA]at hx;obtain⟨x,_,hx⟩:=List.any_eq_true.1 hx.2;split at hx
   ·rw[qA]at hx;have hx:=hx.2;unfold qh1 at hx;split at hx
    ·split at hx
     ·simp only[qA]at hx;have hx:=hx.1;unfold qkq at hx;split at hx
      ·exact⟨_,_,h6⟩
      ·exact⟨_,_,h6⟩
      ·exact⟨_,_,h6.1⟩
      ·cases hx
     ·cases hx
    ·cases hx
   ·cases hx
  exact this
section
variable{H:Type}{enc:TypeId×Value->H}
def q0p{C:Checked}{os:Os}{f:FuncId}{fn:Func}{s:OpenSpec}{conds:List PathCond}{apart:Bool}{laid:List (String×DataW Unit)}(modest:Bool)(w0:World)(args:Array Value)(hos:w0.os=os)
  (hsh:(w0.forCall (fun _ _=>0) ⟨#[],args,[]⟩).Shaped C.prog) (hok:Input.okWideB C.prog (w0.forCall (fun _ _=>0) ⟨#[],args,[]⟩) f ⟨#[],args,[]⟩=true)
  (hrow:s.preRow enc C.prog fn conds apart laid (w0.forCall (fun _ _=>0) ⟨#[],args,[]⟩).memory args) :
  ∃(w:World)(tape:Tape)(i:Input),w.os=os/\(w.forCall tape i).Shaped C.prog/\i.vars=[]/\Input.okWide C.prog (w.forCall tape i) .any w.heap.size f i /\
   s.preRow enc C.prog fn conds apart laid (w.forCall tape i).memory i.args/\({ modest:=modest }:Assume).holds C.prog (lone (Frame.enter C.prog f i.args .normal) [] (w.forCall tape i)):=
 ⟨w0,fun _ _=>0,⟨#[],args,[]⟩,hos,hsh,(Input.okWide_of_okWideB (base:=0) hok).1,(Input.okWide_of_okWideB hok).2,hrow,by
  simp only[Assume.holds];exact⟨by simp,by simp,fun _=>Modest.zero,by simp,by simp⟩⟩
end
end Go.Sym
