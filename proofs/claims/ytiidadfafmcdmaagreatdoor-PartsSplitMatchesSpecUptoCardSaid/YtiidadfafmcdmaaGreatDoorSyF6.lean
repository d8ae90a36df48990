/- What the claim rests on, part 6: gathered texts. -/
import Derived.Test.YtiidadfafmcdmaaGreatDoorSyF5
set_option linter.defProp false
set_option linter.unusedSimpArgs false
set_option linter.unusedVariables false
namespace Go.Sym
abbrev TP:Type:=Tree (List (Bs×Bs)×Bs)
abbrev τP:Ty := .prod (.list (.prod .str .str)) (.list .byte)
def cg(t:TP):Nat:=(Ty.tree τP).bk t
def ux(x:List (Bs×Bs)×Bs)(l:List TP):cg (.node x l)=τP.bk x+(l.map cg).sum+2:=zgy τP.bk x l
def fa(t:TP):Tree.node t.val t.kids=t:=by cases t;rfl
def zwr(l:List TP)(k:TP)(h:k∈l):cg k<=(l.map cg).sum:=by
 obtain⟨a,b,rfl⟩:=List.append_of_mem h;simp;omega
def qew{t k:TP}(h:k∈t.kids):cg k+2<=cg t:=by
 cases t with
 |node x l=>
  rw[ux];have:=zwr l k h;omega
def zwq(l:List TP):l.length<=(l.map cg).sum:=by
 induction l with
 |nil=>simp|cons k l ih=>
  have:2<=cg k:=by cases k;rw[ux];omega
  simp only[qL,List.map_cons,List.sum_cons];omega
def qex(t:TP):t.kids.length+2<=cg t:=by
 cases t with|node x l=>rw[ux];have:=zwq l;show l.length+2<=_;omega
def qk7(t:TP):2<=cg t:=by cases t;rw[ux];omega
def zxh(t:TP):τP.bk t.val<=cg t:=by cases t;rw[ux];show τP.bk _<=_;simp only[Tree.val];omega
def q9(x:List (Bs×Bs)×Bs):Prop:=wd x/\x.1.length<=4000000/\(∀y∈x.1,y.1.length<=4000000/\y.2.length<=4000000)/\x.2.length<=4000000
def zv9(x:List (Bs×Bs)×Bs)(h:τP.bk x<=1048576):q9 x:=by
 refine⟨q83 x h,?_⟩;obtain⟨l,b⟩:=x;have h:((l.map od).sum+1)+((List.map (Ty.byte.bk:Ty.byte.den->Nat) b).sum+1)<=1048576:=h;rw[qr7]at h;obtain⟨h1,h2⟩:=zgj l od (fun x=>by unfold od;omega)
 exact⟨by simp only;omega,fun y hy=>by have:=h2 y hy;omega,by simp only;omega⟩
def qsj(l:List aq)(b:Bs):Int:=match gp l with|none=>5|some m=>if 0<b.length\/lk m.1 mpN=false\/(d5 m.2.2 dq).2=true\/60<=m.2.2.length\/du l bp≠[dz m]\/2000<(dz m).length then 5 else 0
def zx6(fu:Nat)(hfu:90000000<=fu)(t:TP)(hs:q9 t.val):qod fu t=some (qsj t.val.1 t.val.2):=by
 obtain⟨_,h1,h2,h3⟩:=hs;obtain⟨R,g1,g2⟩:=q34 fu hfu t.val.1 h2 h1;unfold qod qsj;rw[g1,qB];simp only[fa]
 cases ht:gp t.val.1 with
 |none=>
  rw[ht]at g2;obtain⟨k,rfl⟩:=g2;simp only[ck];by_cases hb:0<t.val.2.length
  ·rw[ag (by omega),o9,au rfl]
  ·rw[ap,cr,o9,au rfl]
 |some m=>
  rw[ht]at g2;obtain⟨ab,x,aa,e1,e2,e3,e4,e5,rfl⟩:=g2;have h0:=qey ht;have hv:=sq h0;simp only[ck];by_cases hb:0<t.val.2.length
  ·rw[ag (by omega),o9,au rfl,qX (.inl hb)]
  rw[ap,bn,qj fu hfu _ _ (by have:=hv.1;omega) (by simp),qB,o9,fa]
  cases hk:lk m.1 mpN
  ·rw[cr,qX (.inr (.inl rfl))]
  rw[bn,qxf,zdd fu hfu (m.1,(m.2.1,m.2.2)) dq (by simp) hv.smD,qB,qW (by simpa using h0),zee fu hfu (m.1,(m.2.1,m.2.2)) hv.smD,qB,qW (by simpa using h0)]
  rw[show((m.1,(m.2.1,m.2.2)):dw)=m from rfl]
  simp only;cases hp:(d5 m.2.2 dq).2
  ·rw[ax rfl];by_cases h60:60<=m.2.2.length
   ·rw[ag (by omega),qX (.inr (.inr (.inr (.inl h60))))]
   rw[ap]
   by_cases h4:4000<(dz m).length
   ·rw[qX h4,qX (by omega)];rfl
   ·have hx:am t.val.1 (ab.length:Int)=some x:=by rw[e1];exact bf ab x aa
    rw[qW h4];simp only[mw,qB];rw[ax (by rfl),hx,qB,q95,e2]
    by_cases he:dz m=x.2
    ·rw[qW (by rw[he];simp),bu]
     by_cases h2k:2000<(dz m).length
     ·rw[qX (by omega),qX (by omega)]
     ·rw[qW (by omega),qW (by
       rintro (q|q|q|q|q|q)
       ·exact hb q
       ·simp at q
       ·simp at q
       ·exact h60 q
       ·exact q (by rw[he])
       ·exact h2k q)]
    ·rw[qX (by simpa using he),qX (.inr (.inr (.inr (.inr (.inl (by simpa using fun q=>he q.symm))))))]
  ·rw[au rfl,qX (.inr (.inr (.inl rfl)))]
def qd(t:TP)(d:Int):Int:=if(mz t.val.1).1≠0 then(mz t.val.1).1 else if 0<t.kids.length then qsj t.val.1 t.val.2 else if 12000<t.val.2.length then 1
 else if bs 0 t.val.2≠0 then bs 0 t.val.2 else match bnd t.val.1 with|none=>0|some b=>if d<8/\0<(fj t.val.2 b).length then 5 else 0
def zm2(fu:Nat)(s:Bs)(h:s.length<fu:=by omega)(hb:s.length<100000000:=by omega):qcf fu s=some (bs 0 s):=by
 unfold qcf;have:=zac fu fu [] s 0 h (by simpa using hb) (by omega)
 exact this
def q1f(fu:Nat)(hfu:90000000<=fu)(l:List aq)(b:Bs)(d:Int)(hs:q9 (l,b)):zl fu l b d=some (match bnd l with|none=>[]|some bb=>if d<8 then fj b bb else[]):=by
 obtain⟨_,h1,h2,h3⟩:=hs;obtain⟨R,g1,g2⟩:=znd fu hfu l h2 h1;unfold zl;rw[g1,qB]
 cases hb:bnd l with
 |none=>rw[hb]at g2;simp only at g2;rw[g2,cr]|some bb=>
  rw[hb]at g2;simp only at g2;subst g2;rw[bn,bu];have:=qz3 hb;by_cases hd:d<8
  ·rw[qW (by omega)];simp only[qX hd];rw[zn4 fu hfu b bb h3 (by omega)];rfl
  ·rw[qX (by omega)];simp only[qW hd]
def znr(fu:Nat)(hfu:90000000<=fu)(t:TP)(d:Int)(hs:q9 t.val):qn1 fu (t,d)=some (qd t d):=by
 unfold qn1 qd;rw[zcg fu hfu _ hs.1.1,qB,mw,qB,fh];simp only[fa];by_cases h0:(mz t.val.1).1≠0
 ·rw[qX h0,qX h0]
 rw[qW h0,qW h0,bu];by_cases h1:0<t.kids.length
 ·rw[qX (by omega),qX h1,zx6 fu hfu t hs];rfl
 rw[qW (by omega),qW h1,bu]
 by_cases h2:12000<t.val.2.length
 ·rw[qX (by omega),qX h2]
 rw[qW (by omega),qW h2,zm2 fu _,qB,fh]
 by_cases h3:bs 0 t.val.2≠0
 ·rw[qX h3,qX h3]
 rw[qW h3,qW h3,q1f fu hfu t.val.1 t.val.2 d hs,qB]
 cases bnd t.val.1 with
 |none=>rfl|some b=>
  simp only;by_cases hd:d<8
  ·simp only[qX hd];rw[bu];by_cases hc:0<(fj t.val.2 b).length
   ·rw[qX (by omega),qX ⟨hd,hc⟩]
   ·rw[qW (by omega),qW (fun q=>hc q.2)]
  ·simp only[qW hd];rw[qW (fun q=>hd q.1)];rfl
def zsw(fu:Nat)(hfu:90000000<=fu)(t:TP)(d:Int)(hs:q9 t.val):qm4 fu t d=some (qd t d):=by
 unfold qm4 qd;rw[zfd fu hfu _ hs.1.1,qB,fh];simp only[fa];by_cases h0:(mz t.val.1).1≠0
 ·rw[qX h0,qX h0]
 rw[qW h0,qW h0,bu];by_cases h1:0<t.kids.length
 ·rw[qX (by omega),qX h1,q33 fu hfu _ hs.1.1,qB]
  unfold qsj
  cases ht:gp t.val.1 with
  |none=>
   simp only;rw[q3e fu hfu ([],([],[])) dq (by simp) ⟨by simp,by simp⟩,qB,cr,o6,au rfl]
  |some m=>
   have h0:=qey ht;have hv:=sq h0;simp only;rw[q3e fu hfu m dq (by simp) hv.smD.2.2,qB,bn]
   cases hp:(d5 m.2.2 dq).2
   ·rw[ax rfl,ub fu hfu _ _ (by have:=hv.1;omega) (by simp),qB]
    cases hk:lk m.1 mpN
    ·rw[cr,o6,au rfl,qX (.inr (.inl rfl))]
    rw[bn,bu];by_cases hb:0<t.val.2.length
    ·rw[qX (by omega),o6,au rfl,qX (.inl hb)]
    rw[qW (by omega),o6,bu]
    by_cases h60:60<=m.2.2.length
    ·rw[qX (by omega),qX (.inr (.inr (.inr (.inl h60))))]
    rw[qW (by omega),fa,qvf,zff fu hfu m hv,qB,bu]
    by_cases h2k:2000<(dz m).length
    ·rw[qX (by omega),qg2,au rfl,qX (by omega)]
    rw[qW (by omega),zhd fu hfu _ ctn (by simp) hs.1.1,qB,zhc]
    have hv1:∃v,du t.val.1 bp=[v]:=by
     unfold gp at ht;split at ht
     ·rename_i v hv2;exact⟨v,hv2⟩
     ·cases ht
    obtain⟨v,hv1⟩:=hv1;rw[hv1,ag (by simp),show([v]:List Bs)[(0:Int).toNat]? = some v from rfl,qB,qg2,q95]
    by_cases he:v=dz m
    ·rw[qW (by rw[he];simp),qW (by
      rintro (q|q|q|q|q|q)
      ·exact hb q
      ·simp at q
      ·simp at q
      ·exact h60 q
      ·exact q (by rw[he])
      ·exact h2k q)];rfl
    ·rw[qX (by simpa using he),qX (.inr (.inr (.inr (.inr (.inl (by simpa using he))))))]
   ·rw[au rfl,o6,au rfl,qX (.inr (.inr (.inl rfl)))]
 rw[qW (by omega),qW h1,bu]
 have hbl:=hs.2.2.2;by_cases h2:12000<t.val.2.length
 ·rw[qX (by omega),qX h2]
 rw[qW (by omega),qW h2,zem fu _,qB,fh]
 have hbv:(qdi (bs 0 t.val.2)).1=bs 0 t.val.2:=by
  rcases zaf t.val.2.length t.val.2 0 (wF _) with h|h|h<;>rw[h]<;>rfl
 rw[hbv];by_cases h3:bs 0 t.val.2≠0
 ·rw[qX h3,qX h3]
 rw[qW h3,qW h3];obtain⟨R,g1,g2⟩:=qzo fu hfu t.val.1 hs.1.1;rw[g1,qB]
 cases hb:bnd t.val.1 with
 |none=>rw[hb]at g2;simp only at g2;rw[g2];rfl|some b=>
  rw[hb]at g2;simp only at g2 ⊢;subst g2;have:=qz3 hb;rw[au rfl,bu];by_cases hd:d<8
  ·rw[qX hd,zen fu hfu t.val.2 b hbl,qB,bu]
   by_cases hc:0<(fj t.val.2 b).length
   ·rw[qX (by omega),qX ⟨hd,hc⟩]
   ·rw[qW (by omega),qW (fun q=>hc q.2)]
  ·rw[qW hd,qW (fun q=>hd q.1)]
def cy:Nat->TP->Int->List (TP×Int)|0,_,_=>[]|n+1,t,d=>(t,d)::t.kids.flatMap fun k=>cy n k (d+1)
def zbu:∀(n:Nat)(t:TP)(d:Int),(cy n t d).length<=cg t:=by
 intro n
 induction n with
 |zero=>intro t d;simp[cy]|succ n ih=>
  intro t d;have key:∀l:List TP,(l.flatMap fun k=>cy n k (d+1)).length<=(l.map cg).sum:=by
   intro l
   induction l with
   |nil=>simp|cons k l ih2=>
    have:=ih k (d+1);rw[List.flatMap_cons,qM,List.map_cons,List.sum_cons];omega
  cases t with
  |node x l=>
   have:=key l;rw[cy,qL,ux];show(l.flatMap _).length+1<=_;omega
def zph:∀(n:Nat)(t:TP)(d:Int),∀x∈cy n t d,cg x.1<=cg t:=by
 intro n
 induction n with
 |zero=>intro t d x hx;cases hx
 |succ n ih=>
  intro t d x hx;rw[cy]at hx;rcases List.mem_cons.1 hx with e|e
  ·rw[e];exact wF _
  ·obtain⟨k,hk,hx2⟩:=List.mem_flatMap.1 e;have:=ih k (d+1) x hx2;have:=qew hk;omega
def gd(t:TP):Prop:=cg t<=60000000/\∀n d,∀x∈cy n t d,q9 x.1.val
def zcb{t:TP}(h:gd t):q9 t.val:=h.2 1 0 (t,0) (by rw[cy];exact qH)
def zca{t k:TP}(h:gd t)(hk:k∈t.kids):gd k:=⟨by have:=qew hk;have:=h.1;omega,fun n d x hx=>h.2 (n+1) (d-1) x (by
 rw[cy];refine qE _ (List.mem_flatMap.2 ⟨k,hk,?_⟩);rw[show d-1+1=d by omega];exact hx)⟩
def zpp{t:TP}(h:cg t<=1048576):gd t:=⟨by omega,fun n d x hx=>zv9 _ (by have:=zph n t d x hx;have:=zxh x.1;omega)⟩
def ko:List (TP×Int)->Nat->Bool->Option (Nat×Bool)|[],i,fl=>some (i,fl)|x::L,i,fl=>if 40<=i then none else ko L (i+1) (fl||decide (8<x.2))
def zfo:∀(L M:List (TP×Int))(i:Nat)(fl:Bool),ko (L++M) i fl=(ko L i fl).bind fun x=>ko M x.1 x.2
 |[],_,_,_=>rfl|x::L,M,i,fl=>by
  rw[wK,ko,ko];by_cases h:40<=i
  ·rw[qX h,qX h];rfl
  ·rw[qW h,qW h,zfo L M]
def zfp:∀(L:List (TP×Int))(i:Nat)(fl:Bool)(x:Nat×Bool),i<=40->ko L i fl=some x->x.1<=40
 |[],_,_,_,h,e=>by cases e;exact h
 |y::L,i,fl,x,h,e=>by
  rw[ko]at e;by_cases h4:40<=i
  ·rw[qX h4]at e;cases e
  ·rw[qW h4]at e;exact zfp L _ _ x (by omega) e
def zfq:∀(L:List (TP×Int))(i:Nat)(fl:Bool),i<=40->ko L i fl=if 40<i+L.length then none else some (i+L.length,fl||L.any fun x=>decide (8<x.2))
 |[],i,fl,h=>by rw[ko,qW (by simp;omega)];simp|x::L,i,fl,h=>by
  rw[ko];by_cases h4:40<=i
  ·rw[qX h4,qX (by simp only[qL];omega)]
  ·rw[qW h4,zfq L _ _ (by omega)]
   by_cases h5:40<i+1+L.length
   ·rw[qX h5,qX (by simp only[qL];omega)]
   ·rw[qW h5,qW (by simp only[qL];omega),List.any_cons,Bool.or_assoc,qL,Nat.add_assoc,Nat.add_comm 1]
def zoz(fu:Nat)(hfu:90000000<=fu)(z:Int×Int):∀(n:Nat)(t:TP)(d i:Nat)(fl:Bool),cg t<=n->cg t+d<=70000000->i<=40 ->
  ∃R,qcy fu n t (d:Int) (i:Int) z fl=some R/\match ko (cy n t (d:Int)) i fl with
   |none=>∃a b,R = .inl (a,(((2:Int),(-1:Int)),b))|some x=>R = .inr ((x.1:Int),(z,x.2)):=by
 intro n
 induction n with
 |zero=>intro t d i fl h;have:=qk7 t;omega|succ n ih=>
  intro t d i fl hz hd hi;rw[qcy,qn5,qw0,cy,ko];by_cases h4:40<=i
  ·rw[ag (by omega),qX h4,qb];exact⟨_,rfl,_,_,rfl⟩
  rw[ap,qW h4]
  have hr0:(bif fl then some (.inr (z,true)) else some (.inr (z,decide ((8:Int)<(d:Int)))):Option q8w)=some (.inr (z,fl||decide ((8:Int)<(d:Int)))):=by cases fl<;>rfl
  rw[hr0,qB];simp only[ck];rw[aw i]
  have loop:∀(m:Nat)(ab aa:List TP)(i:Nat)(fl:Bool),t.kids=ab++aa->aa.length<m->i<=40 ->
    ∃R,qij (qcy fu n) fu m (d:Int) t.kids (t.kids.length:Int) (ab.length:Int) (i:Int) z fl=some R/\match ko (aa.flatMap fun k=>cy n k ((d:Int)+1)) i fl with
     |none=>∃a b,R = .inl (a,(((2:Int),(-1:Int)),b))|some x=>R = .inr ((x.1:Int),(z,x.2)):=by
   intro m
   induction m with
   |zero=>intro ab aa i fl _ h;omega|succ m ihm=>
    intro ab aa i fl hk h hi;have ac:t.kids.length=ab.length+aa.length:=by rw[hk];simp
    have hks:=qex t;rw[qij,qw3]
    cases aa with
    |nil=>rw[ap (by simp only[qZ]at ac;omega)];exact⟨_,rfl,rfl⟩|cons k aa=>
     simp only[qL]at h ac;have hkm:k∈t.kids:=by rw[hk];simp
     have hx:am t.kids (ab.length:Int)=some k:=by rw[hk];exact bf ab k aa
     have hkz:=qew hkm;rw[ag (by omega),hx,qB,fa,aw d,List.flatMap_cons,zfo]
     obtain⟨R,g1,g2⟩:=ih k (d+1) i fl (by omega) (by omega) hi
     rw[g1,qB];rw[show((d+1:Nat):Int)=(d:Int)+1 by omega]at g2
     cases hr:ko (cy n k ((d:Int)+1)) i fl with
     |none=>
      rw[hr]at g2;obtain⟨a,b,rfl⟩:=g2;exact⟨_,rfl,a,b,rfl⟩
     |some x=>
      rw[hr]at g2;simp only at g2;subst g2;simp only[ck,qB];rw[aw _]
      have:=ihm (ab++[k]) aa x.1 x.2 (by rw[hk];simp) (by omega) (zfp _ _ _ _ hi hr)
      rw[qM,wD]at this;exact this
  have hks:=qex t;exact loop fu [] t.kids (i+1) _ rfl (by omega) (by omega)
def iz:List (TP×Int)->Nat->Option (Int×Int)|[],_=>none|x::L,i=>if qd x.1 x.2≠0 then some (qd x.1 x.2,(i:Int)) else iz L (i+1)
def zfr:∀(L M:List (TP×Int))(i:Nat),iz (L++M) i=match iz L i with|some f=>some f|none=>iz M (i+L.length)
 |[],_,_=>rfl|x::L,M,i=>by
  rw[wK,iz,iz];by_cases h:qd x.1 x.2≠0
  ·rw[qX h,qX h]
  ·rw[qW h,qW h,zfr L M,qL,Nat.add_assoc,Nat.add_comm 1]
def zo0(fu:Nat)(hfu:90000000<=fu)(z:Int×Int):∀(n:Nat)(t:TP)(d i:Nat),cg t<=n->cg t+d<=70000000->gd t->i+cg t<=70000000 ->
  ∃R,qcz fu n t (d:Int) (i:Int) z=some R/\match iz (cy n t (d:Int)) i with
   |some f=>∃a,R = .inl (a,f)|none=>R = .inr (((i+(cy n t (d:Int)).length:Nat):Int),z):=by
 intro n
 induction n with
 |zero=>intro t d i h;have:=qk7 t;omega|succ n ih=>
  intro t d i hz hd hs hi;have htp:=qk7 t;rw[qcz,qn6,qw1];rw[show((t.val.1,t.val.2):List (Bs×Bs)×Bs)=t.val from rfl,fa,znr fu hfu t _ (zcb hs),qB,cy,iz,fh]
  by_cases hc:qd t (d:Int)≠0
  ·rw[qX hc,qX hc,qb];exact⟨_,rfl,_,rfl⟩
  rw[qW hc,qW hc,qB];simp only[ck];rw[aw i]
  have loop:∀(m:Nat)(ab aa:List TP)(i:Nat),t.kids=ab++aa->aa.length<m->i+(aa.map cg).sum<=70000000 ->
    ∃R,qik (qcz fu n) fu m (d:Int) t.kids (t.kids.length:Int) (ab.length:Int) (i:Int) z=some R/\match iz (aa.flatMap fun k=>cy n k ((d:Int)+1)) i with
     |some f=>∃a,R = .inl (a,f)|none=>R = .inr (((i+(aa.flatMap fun k=>cy n k ((d:Int)+1)).length:Nat):Int),z):=by
   intro m
   induction m with
   |zero=>intro ab aa i _ h;omega|succ m ihm=>
    intro ab aa i hk h hi;have ac:t.kids.length=ab.length+aa.length:=by rw[hk];simp
    have hks:=qex t;rw[qik,qw4]
    cases aa with
    |nil=>rw[ap (by simp only[qZ]at ac;omega)];exact⟨_,rfl,rfl⟩|cons k aa=>
     simp only[qL]at h ac;simp only[List.map_cons,List.sum_cons]at hi;have hkm:k∈t.kids:=by rw[hk];simp
     have hx:am t.kids (ab.length:Int)=some k:=by rw[hk];exact bf ab k aa
     have hkz:=qew hkm;have hfl:=zbu n k ((d:Int)+1);rw[ag (by omega),hx,qB,fa,aw d,List.flatMap_cons,zfr]
     obtain⟨R,g1,g2⟩:=ih k (d+1) i (by omega) (by omega) (zca hs hkm) (by omega)
     rw[g1,qB];rw[show((d+1:Nat):Int)=(d:Int)+1 by omega]at g2
     cases hr:iz (cy n k ((d:Int)+1)) i with
     |some f=>
      rw[hr]at g2;obtain⟨a,rfl⟩:=g2;exact⟨_,rfl,a,rfl⟩
     |none=>
      rw[hr]at g2;simp only at g2;subst g2;simp only[ck];rw[aw _]
      have:=ihm (ab++[k]) aa (i+(cy n k ((d:Int)+1)).length) (by rw[hk];simp) (by omega) (by omega)
      rw[qM,wD]at this;rw[qM,← Nat.add_assoc];exact this
  have hks:=qex t;have hsum:(t.kids.map cg).sum+2<=cg t:=by cases t;rw[ux];show(List.map cg _).sum+2<=_;simp only[Tree.kids];omega
  obtain⟨R,g1,g2⟩:=loop fu [] t.kids (i+1) rfl (by omega) (by omega)
  refine⟨R,g1,?_⟩;rw[qL,show i+((t.kids.flatMap fun k=>cy n k ((d:Int)+1)).length+1)=i+1+(t.kids.flatMap fun k=>cy n k ((d:Int)+1)).length by omega]
  exact g2
def qe(n:Nat)(t:TP):Int×Int:=if 40<(cy n t 0).length then(2,-1) else if(cy n t 0).any (fun x=>decide (8<x.2))=true then(2,-2) else(iz (cy n t 0) 0).getD (0,0)
def ztv(fu:Nat)(hfu:90000000<=fu)(t:TP)(hs:gd t):qcv fu t=some (qe fu t):=by
 have hz:=hs.1;unfold qcv qn3;simp only[fa,qB];obtain⟨R,g1,g2⟩:=zoz fu hfu (0,0) fu t 0 0 false (by omega) (by omega) (by omega)
 rw[show((0:Nat):Int)=0 from rfl,zfq _ _ _ (by omega),wO]at g2
 rw[show((0:Nat):Int)=0 from rfl]at g1
 have e1:qn4 fu t (0,0) false=R.elim (fun a2=>some (.inl (t,a2.2))) (fun b3=>some (.inr (t,b3.2))):=by
  unfold qn4 q7p;simp only[fa];rw[g1,qB];cases R<;>rfl
 rw[e1];unfold qe;by_cases h4:40<(cy fu t 0).length
 ·rw[qX h4]at g2;obtain⟨a,b,rfl⟩:=g2;rw[qX h4];rfl
 rw[qW h4]at g2;simp only at g2;subst g2;rw[qW h4];simp only[Sum.elim_inr,qB,ck,Bool.false_or];cases hany:(cy fu t 0).any fun x=>decide (8<x.2)
 ·rw[ax rfl,qW (by simp)]
  obtain⟨R2,q1,q2⟩:=zo0 fu hfu (0,0) fu t 0 0 (by omega) (by omega) hs (by omega)
  rw[show((0:Nat):Int)=0 from rfl]at q1 q2
  have e2:qn7 fu t (0,0)=R2.elim (fun a2=>some (.inl (t,a2.2))) (fun b3=>some (.inr (t,b3.2))):=by
   unfold qn7 q7q;simp only[fa];rw[q1,qB];cases R2<;>rfl
  rw[e2]
  cases hr:iz (cy fu t 0) 0 with
  |some f=>
   rw[hr]at q2;obtain⟨a,rfl⟩:=q2;rfl
  |none=>rw[hr]at q2;simp only at q2;subst q2;rfl
 ·rw[au rfl,qX rfl];rfl
def zpi(fu:Nat)(hfu:90000000<=fu):∀(n:Nat)(t:TP)(d:Nat),cg t<=n->cg t+d<=70000000->cg t<=60000000 ->
  qb9 fu n t (d:Int)=some ((cy n t (d:Int)).map (·.1),(cy n t (d:Int)).map (·.2)):=by
 have hrm:=gh;intro n
 induction n with
 |zero=>intro t d h;have:=qk7 t;omega|succ n ih=>
  intro t d hz hd hs;rw[qb9,qm2,cy];simp only[fa];have hks:=qex t;have hsum:(t.kids.map cg).sum+2<=cg t:=by cases t;rw[ux];show(List.map cg _).sum+2<=_;simp only[Tree.kids];omega
  have loop:∀(m:Nat)(ab aa:List TP)(o:List (TP×Int)),t.kids=ab++aa->aa.length<m->o.length+(aa.map cg).sum<=70000000 ->
    qg1 (qb9 fu n) fu m (d:Int) (ab.length:Int) t (o.map (·.1)) (o.map (·.2))=some ((o++aa.flatMap fun k=>cy n k ((d:Int)+1)).map (·.1),(o++aa.flatMap fun k=>cy n k ((d:Int)+1)).map (·.2)):=by
   intro m
   induction m with
   |zero=>intro ab aa o _ h;omega|succ m ihm=>
    intro ab aa o hk h ho;have ac:t.kids.length=ab.length+aa.length:=by rw[hk];simp
    rw[qg1,qvb]
    cases aa with
    |nil=>rw[ap (by simp only[qZ]at ac;omega)];simp|cons k aa=>
     simp only[qL]at h ac;simp only[List.map_cons,List.sum_cons]at ho;have hkm:k∈t.kids:=by rw[hk];simp
     have hx:am t.kids (ab.length:Int)=some k:=by rw[hk];exact bf ab k aa
     have hkz:=qew hkm;have hfl:=zbu n k ((d:Int)+1);rw[ag (by omega),hx,qB,fa,aw d,ih k (d+1) (by omega) (by omega) (by omega),qB,show((d+1:Nat):Int)=(d:Int)+1 by omega]
     simp only[fa];rw[ag (by simp;omega),ag (by simp;omega),aw _,← List.map_append,← List.map_append]
     have:=ihm (ab++[k]) aa (o++cy n k ((d:Int)+1)) (by rw[hk];simp) (by omega) (by rw[qM];omega)
     rw[qM,wD]at this;rw[List.flatMap_cons,← qS];exact this
  have:=loop fu [] t.kids [(t,(d:Int))] rfl (by omega) (by simp;omega)
  exact this
def zs4(fu n:Nat)(hfu:90000000<=fu)(L:List (TP×Int))(hL:L.length<=40)(hs:∀x∈L,q9 x.1.val)(z:Int×Int):∀(ab aa:List (TP×Int)),L=ab++aa->aa.length<n ->
  qg4 fu n (L.map (·.1)) (L.map (·.2)) (ab.length:Int) z=some ((iz aa ab.length).getD (0,0)):=by
 induction n with
 |zero=>intro ab aa _ h;omega|succ n ih=>
  intro ab aa hp h;have ac:L.length=ab.length+aa.length:=by rw[hp];simp
  rw[qg4,qvh]
  cases aa with
  |nil=>rw[ap (by rw[wC];simp only[qZ]at ac;omega)];rfl|cons x aa=>
   simp only[qL]at h ac
   have i1:am (L.map (·.1)) (ab.length:Int)=some x.1:=by
    have:=bf (ab.map (·.1)) x.1 (aa.map (·.1));rw[wC]at this;rw[hp,List.map_append,List.map_cons];exact this
   have i2:am (L.map (·.2)) (ab.length:Int)=some x.2:=by
    have:=bf (ab.map (·.2)) x.2 (aa.map (·.2));rw[wC]at this;rw[hp,List.map_append,List.map_cons];exact this
   have hx:=hs x (by rw[hp];simp)
   rw[ag (by rw[wC];omega),i1,qB,i2,qB,fa,zsw fu hfu x.1 x.2 hx,qB,fh,iz]
   by_cases hc:qd x.1 x.2≠0
   ·rw[qX hc,qX hc,w7];rfl
   ·rw[qW hc,qW hc,aw _]
    have:=ih (ab++[x]) aa (by rw[hp];simp) (by omega)
    rw[qM,wD]at this;exact this
def zs3(fu n:Nat)(hfu:90000000<=fu)(L:List (TP×Int))(hL:L.length<=40)(hs:∀x∈L,q9 x.1.val)(z:Int×Int):∀(ab aa:List (TP×Int)),L=ab++aa->aa.length<n ->
  qg3 fu n (L.map (·.1)) (L.map (·.2)) (ab.length:Int) z=some (if aa.any (fun x=>decide (8<x.2))=true then(2,-2) else(iz L 0).getD (0,0)):=by
 induction n with
 |zero=>intro ab aa _ h;omega|succ n ih=>
  intro ab aa hp h;have ac:L.length=ab.length+aa.length:=by rw[hp];simp
  rw[qg3,qvg]
  cases aa with
  |nil=>
   rw[ap (by rw[wC];simp only[qZ]at ac;omega)]
   exact zs4 fu fu hfu L hL hs z [] L rfl (by omega)
  |cons x aa=>
   simp only[qL]at h ac
   have i2:am (L.map (·.2)) (ab.length:Int)=some x.2:=by
    have:=bf (ab.map (·.2)) x.2 (aa.map (·.2));rw[wC]at this;rw[hp,List.map_append,List.map_cons];exact this
   rw[ag (by rw[wC];omega),i2,qB,bu,List.any_cons]
   by_cases hc:8<x.2
   ·rw[qX hc,w7,decide_eq_true hc,Bool.true_or,qX rfl];rfl
   ·rw[qW hc,decide_eq_false hc,Bool.false_or,aw _]
    have:=ih (ab++[x]) aa (by rw[hp];simp) (by omega)
    rw[qM,wD]at this;exact this
def zsx(fu:Nat)(hfu:90000000<=fu)(t:TP)(hs:gd t):qm5 fu t=some (qe fu t):=by
 unfold qm5 q69 qe;simp only[fa];have hz:=hs.1;have:=zpi fu hfu fu t 0 (by omega) (by omega) hs.1
 rw[show((0:Nat):Int)=0 from rfl]at this
 rw[this,qB];simp only;rw[bu,wC];by_cases h4:40<(cy fu t 0).length
 ·rw[qX (by omega),qX h4,w7];rfl
 ·rw[qW (by omega),qW h4]
  exact zs3 fu fu hfu _ (by omega) (fun x hx=>hs.2 fu 0 x hx) (0,0) [] _ rfl (by omega)
def zs2:qvs 100000000=some true:=by kernel_rfl
def zv0(fu:Nat)(l:List aq)(h:l.length<fu:=by omega)(hb:l.length<100000000:=by omega):qms fu l l=some true:=by
 unfold qms;have:=zv2 fu fu [] l h (by simpa using hb)
 rw[ax (by simp)]
 exact this
def zv1(fu:Nat)(hfu:90000000<=fu):∀(n:Nat)(t:TP),cg t<=n->gd t->qcc fu n t t=some true:=by
 intro n
 induction n with
 |zero=>intro t h;have:=qk7 t;omega|succ n ih=>
  intro t hz hs;obtain⟨_,h1,_,h3⟩:=zcb hs;have hgz:=hs.1;rw[qcc,qm8,zv0 fu _,qB,bn,show ql7 t.val.2 t.val.2=some true by unfold ql7;simp,qB,bn,qg5,ax (by simp),qvj]
  simp only[fa];have hks:=qex t;have loop:∀(m:Nat)(ab aa:List TP),t.kids=ab++aa->aa.length<m->qg6 (qcc fu n) fu m (ab.length:Int) t t=some true:=by
   intro m
   induction m with
   |zero=>intro ab aa _ h;omega|succ m ihm=>
    intro ab aa hk h;have ac:t.kids.length=ab.length+aa.length:=by rw[hk];simp
    rw[qg6,qvi]
    cases aa with
    |nil=>rw[ap (by simp only[qZ]at ac;omega)]|cons k aa=>
     simp only[qL]at h ac;have hkm:k∈t.kids:=by rw[hk];simp
     have hx:am t.kids (ab.length:Int)=some k:=by rw[hk];exact bf ab k aa
     have hkz:=qew hkm;rw[ag (by omega),hx,qB,qB,fa,ih k (by omega) (zca hs hkm),qB,bn,aw _]
     simp only[fa];have:=ihm (ab++[k]) aa (by rw[hk];simp) (by omega)
     rw[qM,wD]at this;exact this
  exact loop fu [] t.kids rfl (by omega)
def zf2(fu:Nat)(hfu:90000000<=fu)(t:TP)(hs:gd t):qm7 fu t t=some true:=zv1 fu hfu fu t (by have:=hs.1;omega) hs
abbrev emT:TP:=Tree.node ([],[]) []
section sec
variable(fu:Nat)(hfu:90000000<=fu)(path:List Int)(hp:path.length<=2000000)(z:Int×Int)
include hfu hp
end sec
def zfs:∀(L:List (TP×Int))(i:Nat)(f:Int×Int),iz L i=some f->f.1≠0/\∃x∈L,f.1=qd x.1 x.2
 |[],_,_,h=>by cases h
 |x::L,i,f,h=>by
  rw[iz]at h;by_cases hc:qd x.1 x.2≠0
  ·rw[qX hc]at h;cases h;exact⟨hc,x,qH,rfl⟩
  ·rw[qW hc]at h;obtain⟨h1,y,h2,h3⟩:=zfs L _ _ h;exact⟨h1,y,qE _ h2,h3⟩
def zs6{fu:Nat}{t:TP}(h:(qe fu t).1=0):qe fu t=(0,0):=by
 unfold qe at h ⊢;split at h
 ·cases h
 ·split at h
  ·cases h
  ·rename_i h1 h2;rw[qW h1,qW h2]
   cases hr:iz (cy fu t 0) 0 with|none=>rfl|some f=>rw[hr]at h;exact absurd h (zfs _ _ _ hr).1
def qqq:gd emT:=zpp (by show 4<=_;omega)
def ij(x:bt):Bool := !(lk x.1 dq)
def zqt(fu n:Nat)(hfu:90000000<=fu):∀(ab aa:List bt),aa.length<n->ab.length+aa.length<100000000->(∀x∈aa,x.1.length<=4000000) ->
  (aa.all ij=true->qc0 fu n (ab++aa) ((ab.length+aa.length:Nat):Int) (ab.length:Int)=some (-1)) /\
  (∀u y w,aa=u++y::w->u.all ij=true->ij y=false->qc0 fu n (ab++aa) ((ab.length+aa.length:Nat):Int) (ab.length:Int)=some ((ab.length+u.length:Nat):Int)):=by
 induction n with
 |zero=>intro ab aa h;omega|succ n ih=>
  intro ab aa h hb hs;rw[qc0,qxm]
  cases aa with
  |nil=>exact⟨fun _=>by rw[ap],fun u y w e=>by simp at e⟩
  |cons d t=>
   simp only[qL]at h hb;obtain⟨s1,s2⟩:=ih (ab++[d]) t (by omega) (by simp;omega) (fun x hx=>hs x (qE _ hx))
   simp only[qM,qL,qZ,qS,wM,wO]at s1 s2;rw[ag (by simp only[qL];omega),bf,qB,qcw,qj fu hfu _ _ (hs d qH) (by simp),qB,qB,aw _,show(ab.length+(d::t).length:Nat)=ab.length+1+t.length by simp only[qL];omega,List.all_cons]
   have hk:ij d = !(lk d.1 dq):=rfl;rw[hk];cases hd:lk d.1 dq
   ·rw[ax rfl];refine⟨fun e=>s1 (by simpa using e),fun u y w e hu hy => ?_⟩
    cases u with
    |nil=>rw[List.nil_append,List.cons.injEq]at e;obtain⟨rfl,_⟩:=e;rw[hk,hd]at hy;cases hy
    |cons z u=>
     rw[wK,List.cons.injEq]at e;obtain⟨rfl,e⟩:=e;rw[List.all_cons,qA]at hu;have:=s2 u y w e hu.2 hy;rw[show(ab.length+(d::u).length:Nat)=ab.length+1+u.length by simp only[qL];omega]
     exact this
   ·rw[au rfl];refine⟨fun e=>by simp at e,fun u y w e hu hy => ?_⟩
    cases u with
    |nil=>rfl|cons z u=>
     rw[wK,List.cons.injEq]at e;obtain⟨rfl,e⟩:=e;rw[List.all_cons,hk,hd]at hu;simp at hu
def zoh(fu n:Nat)(hfu:90000000<=fu):∀(aa kept junk:List bt),junk≠[]->aa.length<n->kept.length+junk.length+aa.length<100000000->(∀x∈aa,x.1.length<=4000000) ->
  qim fu n (kept.length:Int) ((kept.length+junk.length:Nat):Int) (kept++junk++aa)=some (kept++aa.filter ij):=by
 induction n with
 |zero=>intro aa kept junk _ h;omega|succ n ih=>
  intro aa kept junk hj h hb hs;rw[qim,qxj];have ac:(kept++junk++aa).length=kept.length+junk.length+aa.length:=by simp only[qM]
  have hj1:1<=junk.length:=by cases junk with|nil=>exact absurd rfl hj|cons=>simp
  cases aa with
  |nil=>
   simp only[qZ]at ac;rw[ap (by rw[ac];omega),ag (by rw[ac];omega),ag (by rw[qM,List.length_take,List.length_replicate,ac];omega)]
   have e:List.take ((kept.length:Nat):Int).toNat (List.take ((kept.length:Nat):Int).toNat (kept++junk++[])++List.replicate ((kept++junk++[]).length-((kept.length:Nat):Int).toNat) (([]:Bs),([]:Bs)))=kept:=by
    rw[List.append_nil,qm];simp
   rw[e];simp
  |cons y t=>
   simp only[qL]at h hb;have g:(kept++junk++y::t)[(((kept.length+junk.length:Nat):Int)).toNat]? = some y:=by
    rw[show(((kept.length+junk.length:Nat):Int)).toNat=(kept++junk).length by simp;omega];simp
   simp only[qL]at ac;rw[ag (by rw[ac];omega),ag (by rw[ac];omega),g,qB,qcw,qj fu hfu _ _ (hs y qH) (by simp),qB,qB,aw (kept.length+junk.length),List.filter_cons]
   have hk:ij y = !(lk y.1 dq):=rfl;rw[hk];have hs':∀x∈t,x.1.length<=4000000:=fun x hx=>hs x (qE _ hx)
   cases hd:lk y.1 dq
   ·obtain⟨j,js,rfl⟩:∃j js,junk=j::js:=by cases junk with|nil=>exact absurd rfl hj|cons j js=>exact⟨j,js,rfl⟩
    have g2:(kept++j::js++y::t)[((kept.length:Nat):Int).toNat]? = some j:=by rw[qS];exact ii kept j _
    rw[cr,ag (by rw[ac];simp only[qL]at *;omega),g2,qB,aw _,qS,wK,qk]
    have:=ih t (kept++[y]) (js++[y]) (by simp) (by omega) (by simp at hb ⊢;omega) hs'
    simp only[qM,qL,qZ,wO,qS,wM,wK,List.nil_append]at this;rw[show(kept.length+(j::js).length+1:Nat)=kept.length+1+(js.length+1) by simp only[qL];omega]
    simpa using this
   ·rw[bn];have:=ih t kept (junk++[y]) (by simp) (by omega) (by simp;omega) hs'
    simp only[qM,qL,qZ,wO,qS,wM]at this;rw[show(kept.length+junk.length+1:Nat)=kept.length+(junk.length+1) by omega]
    simpa using this
def zoi(fu:Nat)(hfu:90000000<=fu)(l:List bt)(hs:ml l):qog fu l=some (l.filter ij):=by
 have hl:=hs.1;obtain⟨h1,h2⟩:=zqt fu fu hfu [] l (by omega) (by simp;omega) (fun x hx=>(hs.2 x hx).1)
 simp only[List.nil_append,qZ,wO]at h1 h2;unfold qog qoh;rw[show((0:Nat):Int)=0 from rfl]at h1 h2
 have hd:l.all ij=true\/∃u y w,l=u++y::w/\u.all ij=true/\ij y=false:=by
  clear h1 h2 hs hl
  induction l with
  |nil=>exact .inl rfl|cons y t ih=>
   cases hk:ij y
   ·exact .inr ⟨[],y,t,rfl,rfl,hk⟩
   ·rcases ih with g|⟨u,x,w,e,g1,g2⟩
    ·exact .inl (by rw[List.all_cons,hk,g];rfl)
    ·exact .inr ⟨y::u,x,w,by rw[e];rfl,by rw[List.all_cons,hk,g1];rfl,g2⟩
 rcases hd with g|⟨u,y,w,rfl,g1,g2⟩
 ·rw[h1 g,qB,au,List.filter_eq_self.2 (fun x hx=>List.all_eq_true.1 g x hx)]
 ·simp only[qM,qL]at hl;rw[h2 u y w rfl g1 g2,qB,gv,qW (by omega),aw _]
  have:=zoh fu fu hfu w u [y] (by simp) (by omega) (by simp;omega) (fun x hx=>(hs.2 x (by simp[hx])).1)
  simp only[qL,qZ,wO,qS,wM]at this;rw[this,List.filter_append,List.filter_cons,g2,List.filter_eq_self.2 (fun x hx=>List.all_eq_true.1 g1 x hx)];rfl
def fg(m:dw):dw:=(m.1,(m.2.1,m.2.2.filter ij))
def q2o(f:bt->Bool):∀(l ab pre':List bt),(∀x∈pre',x∈ab)->(l5 ab l).1=0->(l5 pre' (l.filter f)).1=0
 |[],_,_,_,_=>rfl|p::l,ab,pre',hp,h=>by
  rw[l5]at h;split at h
  ·cases h
  ·split at h
   ·cases h
   ·split at h
    ·cases h
    ·split at h
     ·cases h
     ·rename_i g1 g2 g3 g4;rw[List.filter_cons];split
      ·rw[l5,qW g1,qW (by
        intro q;obtain⟨x,hx,hk⟩:=List.any_eq_true.1 q;exact g2 (List.any_eq_true.2 ⟨x,hp x hx,hk⟩)),qW g3,qW g4]
       exact q2o f l _ _ (fun x hx=>by
        rcases List.mem_append.1 hx with e|e
        ·exact List.mem_append_left _ (hp x e)
        ·exact List.mem_append_right _ e) h
      ·exact q2o f l _ _ (fun x hx=>List.mem_append_left _ (hp x hx)) h
def q93{m:dw}(h:(f8 m).1=0):(f8 (fg m)).1=0:=by
 obtain⟨h1,h2,h3,_⟩:=zc6 h;unfold f8 at h ⊢;rw[qW (by simp[h1,h2]),qW (by omega)]at h
 unfold fg;have:=List.length_filter_le ij m.2.2;simp only;rw[qW (by simp[h1,h2]),qW (by omega)]
 exact q2o ij m.2.2 [] [] (by simp) h
def iy(l:List aq)(t:Bs):List aq:=l.map fun x=>if lk x.1 bp=true then(x.1,t) else x
def zuo{l ab aa:List aq}{x:aq}(t:Bs)(e:l=ab++x::aa)(hx:lk x.1 bp=true)(h1:du ab bp=[])(h2:du aa bp=[]):iy l t=ab++(x.1,t)::aa:=by
 have idm:∀l:List aq,du l bp=[]->(l.map fun x=>if lk x.1 bp=true then(x.1,t) else x)=l:=by
  intro l
  induction l with
  |nil=>intro _;rfl|cons y l ih=>
   intro h;rw[xu]at h;by_cases hk:(y.1.map lo==bp.map lo)=true
   ·rw[qX hk]at h;cases h
   ·rw[qW hk]at h;rw[List.map_cons,ih h,qW (show ¬lk y.1 bp=true from hk)]
 subst e;unfold iy;rw[List.map_append,List.map_cons,idm ab h1,idm aa h2,qX hx]
def zm1(fu:Nat)(hfu:90000000<=fu)(l:List aq)(hs:∀x∈l,x.1.length<=4000000/\x.2.length<=4000000)(hl:l.length<=4000000)(m:dw)(hm:gp l=some m) :
  qih fu l=some (if 4000<(dz (fg m)).length then(false,[]) else(true,iy l (dz (fg m)))):=by
 have hrm:=gh;obtain⟨R,g1,g2⟩:=q34 fu hfu l hs hl;rw[hm]at g2;obtain⟨ab,x,aa,e1,e2,e3,e4,e5,rfl⟩:=g2;have h0:=qey hm;have hv:=sq h0;have hb:=q93 h0;unfold qih;rw[g1,qB];simp only[ck];rw[zoi fu hfu m.2.2 hv.smD.2.2,qB,show((m.1,(m.2.1,m.2.2.filter ij)):dw)=fg m from rfl,zee fu hfu (fg m) (sq hb).smD,qB,qW (by simpa using hb)]
 by_cases h4:4000<(dz (fg m)).length
 ·rw[qX h4,qX h4];rfl
 ·rw[qW h4,qW h4];simp only[mw,qB];have hc:cz l=some l:=by unfold cz;rw[ag (by omega)]
  rw[ax (by rfl),hc,qB,ag (by rw[e1];simp)]
  have hg:l[((ab.length:Nat):Int).toNat]? = some x:=by rw[e1];exact ii ab x aa
  rw[hg,qB,zuo _ e1 e3 e4 e5];have hset:List.set l ((ab.length:Nat):Int).toNat (x.1,dz (fg m))=ab++(x.1,dz (fg m))::aa:=by rw[e1];exact qk ab x _ aa
  rw[hset]
def zuq(fu n:Nat)(hfu:90000000<=fu)(l:List aq)(hs:∀x∈l,x.1.length<=4000000)(hl:l.length<=4000000)(t:Bs):∀(ab aa:List aq),l=ab++aa->aa.length<n ->
  qhc fu n l t (ab.length:Int) (iy ab t)=some (iy l t):=by
 have hrm:=gh
 induction n with
 |zero=>intro ab aa _ h;omega|succ n ih=>
  intro ab aa hp h;have ac:l.length=ab.length+aa.length:=by rw[hp];simp
  have hrl:(iy ab t).length=ab.length:=by unfold iy;simp
  rw[qhc,qvq]
  cases aa with
  |nil=>rw[ap (by simp only[qZ]at ac;omega),hp,List.append_nil]|cons y w=>
   simp only[qL]at h ac;have hx:am l (ab.length:Int)=some y:=by rw[hp];exact bf ab y w
   have st:=ih (ab++[y]) w (by rw[hp];simp) (by omega)
   rw[qM,wD]at st;have hr:iy (ab++[y]) t=iy ab t++[if lk y.1 bp=true then(y.1,t) else y]:=by unfold iy;rw[List.map_append];rfl
   rw[ag (by omega),hx,qB,ub fu hfu _ _ (hs y (by rw[hp];simp)) (by simp),qB,aw _]
   rw[hr]at st;have hck:lk y.1 ctn=lk y.1 bp:=rfl;show(bif lk y.1 ctn then _ else _)=_
   rw[hck];cases hk:lk y.1 bp
   ·rw[ax rfl,ag (by simp;omega)];rw[hk]at st;simpa using st
   ·rw[au rfl,ag (by simp;omega)];rw[hk]at st;simpa using st
def zup(fu:Nat)(hfu:90000000<=fu)(l:List aq)(hs:∀x∈l,x.1.length<=4000000)(hl:l.length<=4000000)(t:Bs):qvp fu l t=some (iy l t):=
 zuq fu fu hfu l hs hl t [] l rfl (by omega)
def sh(l:List aq)(b:Bs):Option (List aq×List Bs):=match bnd l with
 |none=>none|some bb=>if fj b bb=[] then none else match gp l with|none=>none|some m=>if 4000<(dz (fg m)).length then none else some (iy l (dz (fg m)),fj b bb)
def uv(rec:List aq->Bs->Nat->(TP×Nat) ⊕ (Int×Int))(c:Bs)(k:Nat):(TP×Nat) ⊕ (Int×Int):=
 if(dm c).2.1.1≠0 then .inr ((dm c).2.1.1,-8) else if 40<=k then .inr (2,-7) else rec (dm c).2.2 (c.drop (dm c).1.toNat) k
def ql(rec:List aq->Bs->Nat->(TP×Nat) ⊕ (Int×Int))(f:List aq):List Bs->Nat->List TP->(TP×Nat) ⊕ (Int×Int)
 |[],k,acc => .inl (.node (f,[]) acc,k)|c::cs,k,acc=>match uv rec c k with|.inr e => .inr e|.inl x=>ql rec f cs x.2 (acc++[x.1])
def gc:Nat->List aq->Bs->Nat->(TP×Nat) ⊕ (Int×Int)
 |0,l,b,k => .inl (.node (l,b) [],k+1)|n+1,l,b,k=>match sh l b with|none => .inl (.node (l,b) [],k+1)|some x=>ql (gc n) x.1 x.2 (k+1) []
def Mo(l:List aq)(b:Bs):Prop:=l.length<=60/\(∀y∈l,y.1.length<=12000/\y.2.length<=12000)/\b.length<=12000
def Mo.smT{l:List aq}{b:Bs}(h:Mo l b):q9 (l,b):=⟨⟨⟨by have:=h.1;simp only;omega,fun x hx=>by have:=h.2.1 x hx;omega⟩,by have:=h.2.2;simp only;omega⟩,by have:=h.1;simp only;omega,fun x hx=>by have:=h.2.1 x hx;omega,by have:=h.2.2;simp only;omega⟩
def qrs{c:Bs}(h:(dm c).2.1.1=0):Mo (dm c).2.2 (c.drop (dm c).1.toNat)/\0<=(dm c).1/\(dm c).1<=(c.length:Int):=by
 obtain⟨h1,h2,h3,_⟩:=zt7 h;refine⟨⟨?_,?_,?_⟩,by rw[h2];omega,by rw[h2];omega⟩
 ·unfold dm at h ⊢;rw[qW (by omega)]at h ⊢
  unfold jt at h ⊢;split at h
  ·cases h
  ·rename_i h60;rw[qW h60];unfold nd at h ⊢
   cases hv:u5 ([]:List aq).length (hd c.length c 0 []).2 with
   |some i=>rw[hv]at h;cases h
   |none=>simp;omega
 ·obtain⟨q1,q2,q3⟩:=qqu c.length c 0 [] ⟨wF _,fun x hx=>by cases hx⟩
  unfold dm at h ⊢;rw[qW (by omega)]at h ⊢
  unfold jt at h ⊢;split at h
  ·cases h
  ·rename_i h60;rw[qW h60];unfold nd at h ⊢
   cases hv:u5 ([]:List aq).length (hd c.length c 0 []).2 with
   |some i=>rw[hv]at h;cases h
   |none=>
    simp only[List.nil_append];intro y hy;obtain⟨x,hx,rfl⟩:=List.mem_map.1 hy;have:=q3.2 x hx;have hc:=za1 x.2;exact⟨by show x.1.length<=_;omega,by show(lm x.2).length<=_;omega⟩
 ·rw[List.length_drop];omega
def zn2(b:Bs):∀(n:Nat)(r:Bs)(st:Option Bs)(out:List Bs)(M:Nat),r.length<=M->(∀s,st=some s->s.length<=M)->(∀x∈out,x.length<=M)->∀x∈fy b n r st out,x.length<=M:=by
 intro n
 induction n with
 |zero=>intro r st out M _ _ h;exact h|succ n ih=>
  intro r st out M hr hst ho;have hadd:∀r',∀x∈je st r' out,x.length<=M:=by
   intro r' x hx;unfold je at hx
   cases st with
   |none=>exact ho x hx|some s=>
    rcases List.mem_append.1 hx with e|e
    ·exact ho x e
    ·rw[List.mem_singleton.1 e];unfold qpy;rw[List.length_take];have:=hst s rfl;omega
  cases r with
  |nil=>
   intro x hx
   cases st with
   |none=>exact ho x hx|some s=>
    rcases List.mem_append.1 hx with e|e
    ·exact ho x e
    ·rw[List.mem_singleton.1 e];exact hst s rfl
  |cons c t=>
   have hn:=qkl c t;simp only[qL]at hr;rw[fy];split
   ·exact ih _ _ _ M (by omega) hst ho
   ·split
    ·exact hadd _
    ·exact ih _ _ _ M (by omega) (fun s hs=>by cases hs;omega) (hadd _)
def zcs{l:List aq}{b:Bs}{x:List aq×List Bs}(h:sh l b=some x)(hm:Mo l b):Mo x.1 []/\(∀c∈x.2,c.length<=12000)/\0<x.2.length:=by
 unfold sh at h;split at h
 ·cases h
 ·rename_i bb hb;split at h
  ·cases h
  ·rename_i hne;split at h
   ·cases h
   ·split at h
    ·cases h
    ·rename_i h4;cases h
     refine⟨⟨by unfold iy;rw[wC];exact hm.1,fun y hy => ?_,by simp⟩,?_,by cases hh:fj b bb with|nil=>exact absurd hh hne|cons=>simp⟩
     ·unfold iy at hy;obtain⟨z,hz,rfl⟩:=List.mem_map.1 hy;have:=hm.2.1 z hz;split
      ·exact⟨this.1,by simp only;omega⟩
      ·exact this
     ·exact zn2 bb _ b none [] 12000 hm.2.2 (by simp) (by simp)
def qjj(t:TP):Prop:=∀n d,∀x∈cy n t d,Mo x.1.val.1 x.1.val.2
def q9n{f:List aq}{b:Bs}{l:List TP}(h:Mo f b)(hl:∀t∈l,qjj t):qjj (.node (f,b) l):=by
 intro n d x hx
 cases n with
 |zero=>cases hx
 |succ n=>
  rw[cy]at hx;rcases List.mem_cons.1 hx with e|e
  ·rw[e];exact h
  ·obtain⟨k,hk,hx2⟩:=List.mem_flatMap.1 e;exact hl k hk _ _ _ hx2
abbrev mp:Nat:=1452200
def zb7(M:Nat):∀l:List aq,(∀y∈l,y.1.length<=M/\y.2.length<=M)->(l.map od).sum<=(2*M+2)*l.length
 |[],_=>by simp|x::l,h=>by
  have h1:=h x qH;have:=zb7 M l (fun y hy=>h y (qE _ hy))
  rw[List.map_cons,List.sum_cons,qL,Nat.mul_succ];unfold od at this ⊢;omega
def bkP(f:List aq)(b:Bs):τP.bk (f,b)=((f.map od).sum+1)+(b.length+1):=by
 have:=qr7 b;show((f.map od).sum+1)+((List.map (Ty.byte.bk:Ty.byte.den->Nat) b).sum+1)=_;rw[this]
def Mo.sz{f:List aq}{b:Bs}(h:Mo f b)(l:List TP):cg (.node (f,b) l)<=mp+(l.map cg).sum:=by
 have e:cg (.node (f,b) l)=((f.map od).sum+1)+(b.length+1)+(l.map cg).sum+2:=(ux (f,b) l).trans (congrArg (fun z=>z+(l.map cg).sum+2) (bkP f b))
 rw[e];have h1:=zb7 12000 f h.2.1;have h2:(2*12000+2)*f.length<=(2*12000+2)*60:=Nat.mul_le_mul_left _ h.1;have:=h.2.2;show _<=1452200+_;omega
def okS(k:Nat)(s:(TP×Nat) ⊕ (Int×Int)):Prop:=match s with|.inl x=>k<x.2/\x.2<=40/\cg x.1<=mp*(x.2-k)/\qjj x.1|.inr e=>e.1≠0
def q24(rec:List aq->Bs->Nat->(TP×Nat) ⊕ (Int×Int))(hr:∀l b k,Mo l b->k<40->okS k (rec l b k))(c:Bs)(k:Nat):okS k (uv rec c k):=by
 unfold uv;by_cases h:(dm c).2.1.1=0
 ·rw[qW (by simpa using h)]
  by_cases h4:40<=k
  ·rw[qX h4];show(2:Int)≠0;decide
  ·rw[qW h4];exact hr _ _ _ (qrs h).1 (by omega)
 ·rw[qX h];exact h
def zgb(rec:List aq->Bs->Nat->(TP×Nat) ⊕ (Int×Int))(hr:∀l b k,Mo l b->k<40->okS k (rec l b k))(f:List aq)(hf:Mo f [])(k0:Nat):∀(cs:List Bs)(k:Nat)(acc:List TP),k0<k->k<=40->(acc.map cg).sum<=mp*(k-(k0+1))->(∀t∈acc,qjj t)->okS k0 (ql rec f cs k acc)
 |[],k,acc,h1,h2,h3,h4=>by
  rw[ql];refine⟨h1,h2,?_,q9n hf h4⟩;have:=hf.sz acc;have e:mp*(k-k0)=mp*(k-(k0+1))+mp:=by rw[← Nat.mul_succ];congr 1;omega
  show cg (.node (f,[]) acc)<=mp*(k-k0);omega
 |c::cs,k,acc,h1,h2,h3,h4=>by
  rw[ql];have:=q24 rec hr c k
  cases hc:uv rec c k with
  |inr e=>rw[hc]at this;exact this|inl x=>
   rw[hc]at this;obtain⟨g1,g2,g3,g4⟩:=this;refine zgb rec hr f hf k0 cs x.2 _ (by omega) g2 ?_ ?_
   ·rw[List.map_append,List.sum_append];have e:mp*(x.2-(k0+1))=mp*(k-(k0+1))+mp*(x.2-k):=by rw[← Nat.mul_add];congr 1;omega
    simp only[List.map_cons,List.map_nil,List.sum_cons,List.sum_nil];omega
   ·intro t ht;rcases List.mem_append.1 ht with e|e
    ·exact h4 t e
    ·rw[List.mem_singleton.1 e];exact g4
def qer:∀(n:Nat)(l:List aq)(b:Bs)(k:Nat),Mo l b->k<40->okS k (gc n l b k)
 |0,l,b,k,hm,hk=>by
  refine⟨by simp only;omega,by simp only;omega,?_,q9n hm (by simp)⟩
  have:=hm.sz [];simp only[List.map_nil,List.sum_nil]at this;show cg (.node (l,b) [])<=mp*(k+1-k);rw[show k+1-k=1 by omega];omega
 |n+1,l,b,k,hm,hk=>by
  rw[gc]
  cases hx:sh l b with
  |none=>exact qer 0 l b k hm hk|some x=>
   obtain⟨h1,h2,h3⟩:=zcs hx hm;exact zgb (gc n) (fun l b k=>qer n l b k) x.1 h1 k x.2 (k+1) [] (by omega) (by omega) (by simp) (by simp)
def zpq{t:TP}{k:Nat}(hk:k<=40)(h1:cg t<=mp*k)(h2:qjj t):gd t:=⟨by
 have:mp*k<=1452200*40:=Nat.mul_le_mul_left _ hk;omega,fun n d x hx=>(h2 n d x hx).smT⟩
def zn1(b:Bs):∀(n:Nat)(r:Bs)(st:Option Bs)(out:List Bs),(fy b n r st out).length<=out.length+r.length+1:=by
 intro n
 induction n with
 |zero=>intro r st out;show out.length<=_;omega|succ n ih=>
  intro r st out
  cases r with
  |nil=>cases st with|none=>show out.length<=_;omega|some s=>show(out++[s]).length<=_;simp
  |cons c t=>
   have hn:=qkl c t;have ha:=qzg st (c::t) out;rw[fy];simp only[qL];split
   ·have:=ih (dj (c::t)) st out;omega
   ·split
    ·omega
    ·have:=ih (dj (c::t)) (some (dj (c::t))) (je st (c::t) out);omega
def zau(body b:Bs):(fj body b).length<=body.length+1:=by have:=zn1 b (body.length+1) body none [];simpa [fj] using this
def okR(R:qo3)(s:(TP×Nat) ⊕ (Int×Int)):Prop:=match s with|.inl x=>R=(x.1,(true,((x.2:Int),(0,0))))|.inr e=>R.2.1=false/\R.2.2.2=e
def zsz(fu m:Nat)(rs:qe9)(d:Int)(n:Nat)(f:List aq)(cs:List Bs)(hcs:cs.length<=4000000)(hf:Mo f [])
  (hrs:∀c∈cs,∀k:Nat,k<=40->∃R,rs c (af (d+1)) ((k:Int),(0,0))=some R/\okR R (uv (gc n) c k)) :
  ∀(ab aa:List Bs)(k:Nat)(acc:List TP),cs=ab++aa->aa.length<m->k<=40->acc.length<=k ->
  ∃R,zn rs fu m d (cs.length:Int) (ab.length:Int) ((k:Int),(0,0)) cs f acc=some R/\okR R (ql (gc n) f aa k acc):=by
 have hrm:=gh
 induction m with
 |zero=>intro ab aa k acc _ h;omega|succ m ih=>
  intro ab aa k acc hp h hk ha;have ac:cs.length=ab.length+aa.length:=by rw[hp];simp
  rw[zn,qxe]
  cases aa with
  |nil=>
   rw[ap (by simp only[qZ]at ac;omega)]
   exact⟨_,rfl,by rw[ql];rfl⟩
  |cons c aa=>
   simp only[qL]at h ac;have hc:cs[((ab.length:Nat):Int).toNat]? = some c:=by rw[hp];exact ii ab c aa
   obtain⟨R,g1,g2⟩:=hrs c (by rw[hp];simp) k hk
   rw[ag (by omega),ag (by omega),hc,qB,g1,qB]
   rw[ql];have hok:=q24 (gc n) (fun l b k=>qer n l b k) c k
   cases hr:uv (gc n) c k with
   |inr e=>
    rw[hr]at g2;obtain⟨q1,q2⟩:=g2;rw[q1,cr];exact⟨_,rfl,rfl,q2⟩
   |inl x=>
    rw[hr]at g2 hok;have g2:R=(x.1,(true,((x.2:Int),(0,0)))):=g2;subst g2;obtain⟨o1,o2,_,_⟩:=hok;simp only[fa];rw[bn,ag (by simp;omega),aw _]
    have:=ih (ab++[c]) aa x.2 (acc++[x.1]) (by rw[hp];simp) (by omega) o2 (by simp;omega)
    rw[qM,wD]at this;exact this
def zsy(fu:Nat)(hfu:90000000<=fu):∀(n m:Nat)(l:List aq)(b:Bs)(d:Int)(k:Nat),d+n=8->0<=d->n<=m->Mo l b->k<40 ->
  ∃R,vy (tv fu m) fu b d ((k:Int),(0,0)) l=some R/\okR R (gc n l b k):=by
 intro n
 induction n with
 |zero=>
  intro m l b d k hd h0 hm hmo hk;have hs:=hmo.smT;unfold vy;have hc1:cz l=some l:=by unfold cz;rw[ag (by have:=hmo.1;have:=gh;omega)]
  have hc2:cz b=some b:=by unfold cz;rw[ag (by have:=hmo.2.2;have:=gh;omega)]
  have hin:zl fu l b d=some []:=by
   rw[q1f fu hfu l b d hs]
   cases bnd l with|none=>rfl|some bb=>exact congrArg some (qW (by omega))
  rw[hc1,hc2,hin];simp only[qB];rw[au,aw _]
  exact⟨_,rfl,rfl⟩
 |succ n ih=>
  intro m l b d k hd h0 hm hmo hk;have hs:=hmo.smT;have hrm:=gh;unfold vy;have hc1:cz l=some l:=by unfold cz;rw[ag (by have:=hmo.1;omega)]
  have hc2:cz b=some b:=by unfold cz;rw[ag (by have:=hmo.2.2;omega)]
  rw[hc1,hc2,q1f fu hfu l b d hs];simp only[qB];rw[gc,aw _]
  unfold sh
  cases hb:bnd l with
  |none=>simp only[];rw[au];exact⟨_,rfl,rfl⟩|some bb=>
   simp only[];rw[qX (show d<8 by omega)]
   by_cases hc:fj b bb=[]
   ·rw[qX hc,hc,au];exact⟨_,rfl,rfl⟩
   ·rw[qW hc];have hcl:(fj b bb).length≠0:=by cases hh:fj b bb with|nil=>exact absurd hh hc|cons=>simp
    rw[ax (by simp;omega)]
    have ht:∃mt,gp l=some mt:=by
     cases ht:gp l with
     |none=>unfold bnd at hb;rw[ht]at hb;cases hb
     |some mt=>exact⟨mt,rfl⟩
    obtain⟨mt,ht⟩:=ht;rw[zm1 fu hfu l (fun x hx=>by have:=hmo.2.1 x hx;omega) (by have:=hmo.1;omega) mt ht,ht,qB]
    simp only[];have hkid:sh l b=if 4000<(dz (fg mt)).length then none else some (iy l (dz (fg mt)),fj b bb):=by
     unfold sh;rw[hb];simp only[];rw[qW hc,ht]
    by_cases h4:4000<(dz (fg mt)).length
    ·rw[qX h4,qX h4,cr];exact⟨_,rfl,rfl⟩
    ·rw[qW h4]at hkid;rw[qW h4,qW h4,bn];obtain⟨q1,q2,q3⟩:=zcs hkid hmo;have hcon:=zau b bb;have hb12:=hmo.2.2;have:=zsz fu fu (tv fu m) d n (iy l (dz (fg mt))) (fj b bb) (by omega) q1 (by
      intro c hc' k' hk';obtain⟨m',rfl⟩:∃m',m=m'+1:=⟨m-1,by omega⟩
      rw[tv,qoc,zt8 fu hfu c];simp only[qB,mw];unfold uv;by_cases hr:(dm c).2.1.1=0
      ·rw[ax (by simpa using hr),qW (by simpa using hr)]
       obtain⟨p1,p2,p3⟩:=qrs hr;by_cases h40:40<=k'
       ·rw[qX h40,au (by simp;omega)]
        exact⟨_,rfl,rfl,rfl⟩
       ·rw[qW h40,ax (by simp;omega),ag ⟨p2,p3⟩]
        have hw:af (d+1)=d+1:=by rw[show d=((d.toNat:Nat):Int) by omega];exact aw _
        obtain⟨R,r1,r2⟩:=ih m' (dm c).2.2 (c.drop (dm c).1.toNat) (af (d+1)) k' (by rw[hw];omega) (by rw[hw];omega) (by omega) p1 (by omega)
        rw[r1,qB];refine⟨_,rfl,?_⟩;rw[fa];exact r2
      ·rw[au (by simpa using hr),qX hr]
       exact⟨_,rfl,rfl,rfl⟩) [] (fj b bb) (k+1) [] rfl (by omega) (by omega) (by simp)
     exact this
def zsv(fu:Nat):qob fu=fun l b d x=>vy (tv fu fu) fu b d x l:=by
 have hp:∀n,qil fu n=zn (tv fu fu) fu n:=by
  intro n
  induction n with|zero=>rfl|succ n ih=>rw[qil,zn,ih];rfl
 funext l b d x;unfold qob vy;rw[hp]
def okD(R:pa)(s:(TP×Nat) ⊕ (Int×Int)):Prop:=match s with|.inl x=>R=(x.1,((x.2:Int),(0,0)))|.inr e=>R.2.2=e
def qdy(n:Nat)(l:List aq)(b:Bs)(k:Nat):(TP×Nat) ⊕ (Int×Int):=if 40<=k then .inr (2,-7) else gc n l b k
def zoo(fu m:Nat)(hfu:90000000<=fu)(rs:nu)(d:Int)(n:Nat)(z:Int×Int)(l:List aq)(b:Bs)(f:List aq)(cs:List Bs)(hcs:cs.length<=4000000)
  (hrs:∀c∈cs,(dm c).2.1.1=0->∀k:Nat,k<=40->∃R,rs (dm c).2.2 (c.drop (dm c).1.toNat) (af (d+1)) (k:Int)=some R/\okD R (qdy n (dm c).2.2 (c.drop (dm c).1.toNat) k)) :
  ∀(ab aa:List Bs)(k:Nat)(acc:List TP),cs=ab++aa->aa.length<m->k<=40->acc.length<=k ->
  ∃R,qhb rs fu m d (k:Int) (ab.length:Int) z l b cs f acc=some R/\okD R (ql (gc n) f aa k acc):=by
 have hrm:=gh
 induction m with
 |zero=>intro ab aa k acc _ h;omega|succ m ih=>
  intro ab aa k acc hp h hk ha;have ac:cs.length=ab.length+aa.length:=by rw[hp];simp
  rw[qhb,qvm]
  cases aa with
  |nil=>
   rw[ap (by simp only[qZ]at ac;omega)]
   exact⟨_,rfl,by rw[ql];rfl⟩
  |cons c aa=>
   simp only[qL]at h ac;have hc:cs[((ab.length:Nat):Int).toNat]? = some c:=by rw[hp];exact ii ab c aa
   rw[ag (by omega),ag (by omega),hc,qB,zve fu hfu c,qB,ql]
   have hok:=q24 (gc n) (fun l b k=>qer n l b k) c k
   have hrd:uv (gc n) c k=if(dm c).2.1.1≠0 then .inr ((dm c).2.1.1,-8) else qdy n (dm c).2.2 (c.drop (dm c).1.toNat) k:=rfl
   by_cases hr:(dm c).2.1.1=0
   ·rw[qW (by simpa using hr)]at hrd
    obtain⟨p1,p2,p3⟩:=qrs hr;obtain⟨R,g1,g2⟩:=hrs c (by rw[hp];simp) hr k hk
    rw[ax (by simpa using hr),ag (by omega),qB,ag ⟨p2,p3⟩,g1,qB]
    rw[← hrd]at g2
    cases hx:uv (gc n) c k with
    |inr e=>
     rw[hx]at g2 hok;have g2:R.2.2=e:=g2;have hok:e.1≠0:=hok;rw[au (by rw[g2];simpa using hok)]
     exact⟨_,rfl,g2⟩
    |inl x=>
     rw[hx]at g2 hok;have g2:R=(x.1,((x.2:Int),(0,0))):=g2;subst g2;obtain⟨o1,o2,_,_⟩:=hok;simp only[fa];rw[ax (by rfl),ag (by simp;omega),aw _]
     have:=ih (ab++[c]) aa x.2 (acc++[x.1]) (by rw[hp];simp) (by omega) o2 (by simp;omega)
     rw[qM,wD]at this;exact this
   ·rw[qX hr]at hrd;rw[hrd,au (by simpa using hr)]
    exact⟨_,rfl,rfl⟩
def zon(fu m:Nat)(hfu:90000000<=fu)(rs:nu)(d k:Int)(z:Int×Int)(l:List aq)(b:Bs)(cs:List Bs)(M:dw)(hM:(f8 M).1=0):∀(ab aa:List bt),M.2.2=ab++aa->aa.length<m ->
  qg8 rs fu m l d k (ab.length:Int) z l b cs M M.1 M.2.1 (ab.filter ij)=qha rs fu l d k (dz (fg M)) (decide (cs=[])||decide (4000<(dz (fg M)).length)) z l b cs:=by
 have hrm:=gh;obtain⟨v1,v2,v3,v4⟩:=sq hM
 induction m with
 |zero=>intro ab aa _ h;omega|succ m ih=>
  intro ab aa hp h;have ac:M.2.2.length=ab.length+aa.length:=by rw[hp];simp
  rw[qg8,qvl]
  cases aa with
  |nil=>
   have e:ab=M.2.2:=by rw[hp,List.append_nil]
   rw[ap (by simp only[qZ]at ac;omega),e,show((M.1,(M.2.1,M.2.2.filter ij)):dw)=fg M from rfl,zff fu hfu _ (sq (q93 hM)),qB]
   cases cs with
   |nil=>rw[au];rfl|cons c cs=>
    have e2:decide ((4000:Int)<((dz (fg M)).length:Int))=(decide (c::cs=[])||decide (4000<(dz (fg M)).length)):=by
     rw[decide_eq_false (by simp:¬c::cs=[]),Bool.false_or];exact decide_eq_decide.2 (by omega)
    rw[ax (by simp;omega),e2]
  |cons y w=>
   simp only[qL]at h ac;have hx:am M.2.2 (ab.length:Int)=some y:=by rw[hp];exact bf ab y w
   have st:=ih (ab++[y]) w (by rw[hp];simp) (by omega)
   rw[qM,wD,List.filter_append,List.filter_cons]at st;have hy:=v4 y (by rw[hp];simp)
   have hfl:=List.length_filter_le ij ab;rw[ag (by omega),hx,qB,ub fu hfu _ _ (by omega) (by simp),qB]
   have hk:ij y = !(lk y.1 dq):=rfl;rw[hk]at st;cases hd:lk y.1 dq
   ·rw[hd]at st;rw[cr,qB,ag (by simp;omega),qg9,aw _]
    simpa using st
   ·rw[hd]at st;rw[bn,qg9,aw _]
    simpa using st
def zop(fu:Nat)(hfu:90000000<=fu):∀(n m:Nat)(l:List aq)(b:Bs)(d:Int)(k:Nat),d+n=8->0<=d->n<m->Mo l b->k<=40 ->
  ∃R,nw fu m l b d (k:Int)=some R/\okD R (qdy n l b k):=by
 intro n
 induction n with
 |zero=>
  intro m l b d k hd h0 hm hmo hk;have hs:=hmo.smT;obtain⟨m,rfl⟩:∃m',m=m'+1:=⟨m-1,by omega⟩
  rw[nw,qg7];unfold qdy;by_cases h4:40<=k
  ·rw[qX h4,ag (by omega)];exact⟨_,rfl,rfl⟩
  ·rw[qW h4,ap]
   obtain⟨R,g1,g2⟩:=qzo fu hfu l hs.1.1;rw[g1,qB];have:∃fl,(bif !R.2 then tp (nw fu m) fu l b d (k:Int) R.1 true ((0:Int),(0:Int)) l b else tp (nw fu m) fu l b d (k:Int) R.1 (d==(8:Int)) ((0:Int),(0:Int)) l b)=tp (nw fu m) fu l b d (k:Int) R.1 fl ((0:Int),(0:Int)) l b/\fl=true:=by
    cases R.2
    ·exact⟨_,rfl,rfl⟩
    ·exact⟨_,rfl,by simp;omega⟩
   obtain⟨fl,e1,rfl⟩:=this;rw[e1,tp,au rfl,aw _]
   exact⟨_,rfl,rfl⟩
 |succ n ih=>
  intro m l b d k hd h0 hm hmo hk;have hs:=hmo.smT;obtain⟨m,rfl⟩:∃m',m=m'+1:=⟨m-1,by omega⟩
  rw[nw,qg7];unfold qdy;by_cases h4:40<=k
  ·rw[qX h4,ag (by omega)];exact⟨_,rfl,rfl⟩
  ·rw[qW h4,ap]
   obtain⟨R,g1,g2⟩:=qzo fu hfu l hs.1.1;rw[g1,qB,gc];unfold sh
   cases hb:bnd l with
   |none=>
    rw[hb]at g2;simp only at g2;rw[g2,cr,tp,au rfl,aw _]
    exact⟨_,rfl,rfl⟩
   |some bb=>
    rw[hb]at g2;simp only at g2;subst g2;simp only[];have ht:∃mt,gp l=some mt:=by
     cases ht:gp l with
     |none=>unfold bnd at hb;rw[ht]at hb;cases hb
     |some mt=>exact⟨mt,rfl⟩
    obtain⟨mt,ht⟩:=ht;have h0':=qey ht;have hbl:=qz3 hb;rw[bn,tp,ax (by simp;omega),qvn,zen fu hfu b bb hs.2.2.2,qB,q33 fu hfu l hs.1.1,ht,qB]
    simp only[];have hv3:=(sq h0').2.2.1;have st:=zon fu fu hfu (nw fu m) d (k:Int) (0,0) l b (fj b bb) mt h0' [] mt.2.2 rfl (by omega)
    rw[List.filter_nil,qZ]at st;rw[show((0:Int))=((0:Nat):Int) from rfl]at *
    rw[st,qha];have hkid:sh l b=if fj b bb=[] then none else if 4000<(dz (fg mt)).length then none else some (iy l (dz (fg mt)),fj b bb):=by
     unfold sh;rw[hb];simp only[];rw[ht]
    by_cases hc:fj b bb=[]
    ·rw[qX hc,au (by simp[hc]),aw _];exact⟨_,rfl,rfl⟩
    ·rw[qW hc]at hkid ⊢;by_cases h5:4000<(dz (fg mt)).length
     ·rw[qX h5,au (by simp[h5]),aw _];exact⟨_,rfl,rfl⟩
     ·rw[qW h5]at hkid ⊢;rw[ax (by simp[h5,hc]),qvo,zup fu hfu l (fun x hx=>(hs.2.2.1 x hx).1) hs.2.1,qB,aw _]
      have hcon:=zau b bb;have hb12:=hmo.2.2;exact zoo fu fu hfu (nw fu m) d n (0,0) l b (iy l (dz (fg mt))) (fj b bb) (by omega) (by
       intro c _ hr k' hk';have hw:af (d+1)=d+1:=by rw[show d=((d.toNat:Nat):Int) by omega];exact aw _
       exact ih m (dm c).2.2 (c.drop (dm c).1.toNat) (af (d+1)) k' (by rw[hw];omega) (by rw[hw];omega) (by omega) (qrs hr).1 hk') [] (fj b bb) (k+1) [] rfl (by omega) (by omega) (by simp)
def sy(fu:Nat)(m:List aq×Bs):TP×(Int×Int):=if(ol m).1≠0 then(emT,ol m) else match gc 8 m.1 m.2 0 with|.inr e=>(emT,e)|.inl x=>if(qe fu x.1).1≠0 then(emT,((qe fu x.1).1,-9)) else(x.1,(0,0))
def q13{m:List aq×Bs}(h:(ol m).1=0):Mo m.1 m.2:=by
 obtain⟨_,h1,h2,h3,_⟩:=zrs h;refine⟨h1,fun y hy => ?_,by omega⟩
 obtain⟨g1,g2,_,_⟩:=qri (h2 y hy);omega
def q3p{l:List aq}{b:Bs}{x:TP×Nat}(hm:Mo l b)(h:gc 8 l b 0 = .inl x):gd x.1:=by
 have:=qer 8 l b 0 hm (by omega)
 rw[h]at this;obtain⟨_,h2,h3,h4⟩:=this;exact zpq h2 h3 h4
def zwf(fu:Nat)(hfu:90000000<=fu)(m:List aq×Bs)(hs:wd m):qig fu m=some (sy fu m):=by
 unfold qig sy;rw[zxv fu hfu m hs,qB,mw,qB,fh];by_cases h:(ol m).1=0
 ·rw[qW (by simpa using h),qW (by simpa using h)]
  have hm:=q13 h;obtain⟨R,g1,g2⟩:=zsy fu hfu 8 fu m.1 m.2 0 0 (by omega) (by omega) (by omega) hm (by omega)
  rw[zsv];show(vy (tv fu fu) fu m.2 0 (((0:Nat):Int),(0,0)) m.1).bind _=_;rw[g1,qB]
  cases hx:gc 8 m.1 m.2 0 with
  |inr e=>
   rw[hx]at g2;obtain⟨q1,q2⟩:=g2;rw[q1,cr,q2]
  |inl x=>
   rw[hx]at g2;have g2:R=(x.1,(true,((x.2:Int),(0,0)))):=g2;subst g2;have hg:=q3p hm hx;simp only[fa];rw[bn,ztv fu hfu x.1 hg,qB,mw,qB,fh];by_cases hp:(qe fu x.1).1≠0
   ·rw[qX hp,qX hp];rfl
   ·rw[qW hp,qW hp];rfl
 ·rw[qX h,qX h]
def zs0(fu:Nat)(hfu:90000000<=fu)(m:List aq×Bs)(hs:wd m):qm6 fu m=some (sy fu m):=by
 unfold qm6 sy;rw[zo9 fu hfu m hs,qB,fh];by_cases h:(ol m).1=0
 ·rw[qW (by simpa using h),qW (by simpa using h)]
  have hm:=q13 h;obtain⟨R,g1,g2⟩:=zop fu hfu 8 fu m.1 m.2 0 0 (by omega) (by omega) (by omega) hm (by omega)
  unfold q7b;show(nw fu fu m.1 m.2 0 ((0:Nat):Int)).bind _=_;rw[g1,qB];unfold qdy at g2;rw[qW (by omega)]at g2
  have hok:=qer 8 m.1 m.2 0 hm (by omega)
  cases hx:gc 8 m.1 m.2 0 with
  |inr e=>
   rw[hx]at g2 hok;have g2:R.2.2=e:=g2;have hok:e.1≠0:=hok;rw[g2,fh,qX hok]
  |inl x=>
   rw[hx]at g2;have g2:R=(x.1,((x.2:Int),(0,0))):=g2;subst g2;have hg:=q3p hm hx;simp only[fa];rw[ax (by rfl),zsx fu hfu x.1 hg,qB,fh]
   by_cases hp:(qe fu x.1).1≠0
   ·rw[qX hp,qX hp];rfl
   ·rw[qW hp,qW hp,zs6 (by simpa using hp)]
 ·rw[qX h,qX h]
def zwd{fu:Nat}{m:List aq×Bs}(h:(sy fu m).2.1≠0):(sy fu m).1=emT:=by
 unfold sy at h ⊢;split
 ·rfl
 ·rename_i h0;rw[qW h0]at h
  cases hx:gc 8 m.1 m.2 0 with
  |inr e=>rfl|inl x=>
   rw[hx]at h;simp only at h ⊢;split
   ·rfl
   ·rename_i h1;rw[qW h1]at h;exact absurd rfl h
def zwe(fu:Nat)(m:List aq×Bs):gd (sy fu m).1:=by
 unfold sy;split
 ·exact qqq
 ·rename_i h0
  cases hx:gc 8 m.1 m.2 0 with
  |inr e=>exact qqq|inl x=>
   simp only;split
   ·exact qqq
   ·exact q3p (q13 (by simpa using h0)) hx
def zq4(m:List aq×Bs)(hs:wd m):qce 100000000 m=some true:=by
 unfold qce;rw[zs2,qB,bn,zwf _ (by omega) m hs,qB,zs0 _ (by omega) m hs,qB,fh]
 simp only[fa];by_cases h:(sy 100000000 m).2.1=0
 ·rw[qW (by simpa using h),gv,qX h,zf2 _ (by omega) _ (zwe _ m)];rfl
 ·have e:=zwd h;rw[qX h,au,e,zf2 _ (by omega) emT qqq];rfl
def zq5(x:(List aq×Bs)×Unit)(h:bks [τP] x<=1048576):qce 100000000 x.1=some true:=by
 obtain⟨m,_⟩:=x;have h:τP.bk m+0<=1048576:=h;exact zq4 m (q83 m (by exact h))
end Go.Sym
