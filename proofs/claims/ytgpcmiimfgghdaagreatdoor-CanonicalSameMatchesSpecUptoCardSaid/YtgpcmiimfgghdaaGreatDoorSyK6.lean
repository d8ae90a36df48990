/- What the claim rests on, part 6: gathered texts. -/
import Derived.Test.YtgpcmiimfgghdaaGreatDoorSyK5
set_option maxRecDepth 100000
set_option linter.defProp false
set_option linter.unusedSimpArgs false
set_option linter.unusedVariables false
namespace Go.Sym
def zrn(l:List aq)(b:List UInt8)(h:((l.map qh).sum+1)+(b.length+1)<=1048576):ot (l,b):=by
 obtain⟨h1,h2⟩:=zmh l qh (fun x=>by unfold qh;omega)
 refine⟨⟨oJ,fun x hx => ?_⟩,oJ⟩
 have:=h2 x hx;omega
def qtz(m:List aq×List UInt8)(h:(Ty.prod (.list (.prod .str .str)) (.list .byte)).bk m<=1048576):ot m:=by
 obtain⟨l,b⟩:=m;have h:((l.map qh).sum+1)+((List.map (Ty.byte.bk:Ty.byte.den->Nat) b).sum+1)<=1048576:=h;rw[qxl]at h;exact zrn l b h
abbrev TP:Type:=Tree (List (Bs×Bs)×Bs)
abbrev τP:Ty := .prod (.list (.prod .str .str)) (.list .byte)
def cf(t:TP):Nat:=(Ty.tree τP).bk t
def vv(x:List (Bs×Bs)×Bs)(l:List TP):cf (.node x l)=τP.bk x+(l.map cf).sum+2:=zmw τP.bk x l
def dc(t:TP):Tree.node t.val t.kids=t:=by cases t;rfl
def z4f(l:List TP)(k:TP)(h:k∈l):cf k<=(l.map cf).sum:=by
 obtain⟨a,b,rfl⟩:=List.append_of_mem h;simp;omega
def qh2{t k:TP}(h:k∈t.kids):cf k+2<=cf t:=by
 cases t with
 |node x l=>
  rw[vv];have:=z4f l k h;omega
def z4e(l:List TP):l.length<=(l.map cf).sum:=by
 induction l with
 |nil=>simp|cons k l ih=>
  have:2<=cf k:=by cases k;rw[vv];omega
  simp only[qL,List.map_cons,List.sum_cons];omega
def vt(t:TP):t.kids.length+2<=cf t:=by
 cases t with|node x l=>rw[vv];have:=z4e l;show l.length+2<=_;omega
def qh3(t:TP):2<=cf t:=by cases t;rw[vv];omega
def z47(t:TP):τP.bk t.val<=cf t:=by cases t;rw[vv];show τP.bk _<=_;simp only[Tree.val];omega
def um(x:List (Bs×Bs)×Bs):Prop:=ot x/\x.1.length<=4000000/\(∀y∈x.1,y.1.length<=4000000/\y.2.length<=4000000)/\x.2.length<=4000000
def z3v(x:List (Bs×Bs)×Bs)(h:τP.bk x<=1048576):um x:=by
 refine⟨qtz x h,?_⟩;obtain⟨l,b⟩:=x;have h:((l.map qh).sum+1)+((List.map (Ty.byte.bk:Ty.byte.den->Nat) b).sum+1)<=1048576:=h;rw[qxl]at h;obtain⟨h1,h2⟩:=zmh l qh (fun x=>by unfold qh;omega)
 exact⟨oJ,fun y hy=>by have:=h2 y hy;omega,oJ⟩
def qxx(l:List aq)(b:Bs):Int:=match iv l with|none=>5|some m=>if 0<b.length\/lk m.1 mpN=false\/(ep m.2.2 dy).2=true\/60<=m.2.2.length\/cg l bu≠[ej m]\/2000<(ej m).length then 5 else 0
def z5y(fu:Nat)(hfu:90000000<=fu)(t:TP)(hs:um t.val):qs5 fu t=some (qxx t.val.1 t.val.2):=by
 obtain⟨_,h1,h2,h3⟩:=hs;obtain⟨R,g1,g2⟩:=q99 fu hfu t.val.1 h2 h1;unfold qs5 qxx;rw[g1,qB];simp only[dc]
 cases ht:iv t.val.1 with
 |none=>
  rw[ht]at g2;obtain⟨k,rfl⟩:=g2;simp only[bz];by_cases hb:0<t.val.2.length
  ·rw[af oA,rz,au rfl]
  ·rw[ao,cu,rz,au rfl]
 |some m=>
  rw[ht]at g2;obtain⟨ab,x,aa,e1,e2,e3,e4,e5,rfl⟩:=g2;have h0:=qh4 ht;have hv:=vi h0;simp only[bz];by_cases hb:0<t.val.2.length
  ·rw[af oA,rz,au rfl,qX (.inl hb)]
  rw[ao,bq,nz fu hfu _ _ (by have:=hv.1;omega) oC,qB,rz,dc]
  cases hk:lk m.1 mpN
  ·rw[cu,qX (.inr (.inl rfl))]
  rw[bq,q26,zi2 fu hfu (m.1,(m.2.1,m.2.2)) dy oC hv.smD,qB,qW (by simpa using h0),zj2 fu hfu (m.1,(m.2.1,m.2.2)) hv.smD,qB,qW (by simpa using h0)]
  rw[show((m.1,(m.2.1,m.2.2)):eg)=m from rfl]
  simp only;cases hp:(ep m.2.2 dy).2
  ·rw[aw rfl];by_cases h60:60<=m.2.2.length
   ·rw[af oA,qX (.inr (.inr (.inr (.inl h60))))]
   rw[ao]
   by_cases h4:4000<(ej m).length
   ·rw[qX h4,qX oA];rfl
   ·have hx:ai t.val.1 (ab.length:Int)=some x:=by rw[e1];exact a6 ab x aa
    rw[qW h4];simp only[ji,qB];rw[aw (by rfl),hx,qB,zfb,e2]
    by_cases he:ej m=x.2
    ·rw[qW (by rw[he];simp),bp]
     by_cases h2k:2000<(ej m).length
     ·rw[qX oA,qX oA]
     ·rw[qW oA,qW (by
       rintro (q|q|q|q|q|q)
       ·exact hb q
       ·simp at q
       ·simp at q
       ·exact h60 q
       ·exact q (by rw[he])
       ·exact h2k q)]
    ·rw[qX (by simpa using he),qX (.inr (.inr (.inr (.inr (.inl (by simpa using fun q=>he q.symm))))))]
  ·rw[au rfl,qX (.inr (.inr (.inl rfl)))]
def l5(t:TP)(d:Int):Int:=if(o8 t.val.1).1≠0 then(o8 t.val.1).1 else if 0<t.kids.length then qxx t.val.1 t.val.2 else if 12000<t.val.2.length then 1
 else if bs 0 t.val.2≠0 then bs 0 t.val.2 else match bnd t.val.1 with|none=>0|some b=>if d<8/\0<(gn t.val.2 b).length then 5 else 0
def zs9(fu:Nat)(s:Bs)(h:s.length<fu:=by omega)(hb:s.length<100000000:=by omega):qfg fu s=some (bs 0 s):=by
 unfold qfg;have:=zfm fu fu [] s 0 h (by simpa using hb) oA
 exact this
def q66(fu:Nat)(hfu:90000000<=fu)(l:List aq)(b:Bs)(d:Int)(hs:um (l,b)):qce fu l b d=some (match bnd l with|none=>[]|some bb=>if d<8 then gn b bb else[]):=by
 obtain⟨_,h1,h2,h3⟩:=hs;obtain⟨R,g1,g2⟩:=ztm fu hfu l h2 h1;unfold qce;rw[g1,qB]
 cases hb:bnd l with
 |none=>rw[hb]at g2;simp only at g2;rw[g2,cu]|some bb=>
  rw[hb]at g2;simp only at g2;subst g2;rw[bq,bp];have:=q5n hb;by_cases hd:d<8
  ·rw[qW oA];simp only[qX hd];rw[zue fu hfu b bb h3 oA];rfl
  ·rw[qX oA];simp only[qW hd]
def zt3(fu:Nat)(hfu:90000000<=fu)(t:TP)(d:Int)(hs:um t.val):qsv fu (t,d)=some (l5 t d):=by
 unfold qsv l5;rw[zh2 fu hfu _ hs.1.1,qB,ji,qB,dz];simp only[dc];by_cases h0:(o8 t.val.1).1≠0
 ·rw[qX h0,qX h0]
 rw[qW h0,qW h0,bp];by_cases h1:0<t.kids.length
 ·rw[qX oA,qX h1,z5y fu hfu t hs];rfl
 rw[qW oA,qW h1,bp]
 by_cases h2:12000<t.val.2.length
 ·rw[qX oA,qX h2]
 rw[qW oA,qW h2,zs9 fu _,qB,dz]
 by_cases h3:bs 0 t.val.2≠0
 ·rw[qX h3,qX h3]
 rw[qW h3,qW h3,q66 fu hfu t.val.1 t.val.2 d hs,qB]
 cases bnd t.val.1 with
 |none=>rfl|some b=>
  simp only;by_cases hd:d<8
  ·simp only[qX hd];rw[bp];by_cases hc:0<(gn t.val.2 b).length
   ·rw[qX oA,qX ⟨hd,hc⟩]
   ·rw[qW oA,qW (fun q=>hc q.2)]
  ·simp only[qW hd];rw[qW (fun q=>hd q.1)];rfl
def zz1(fu:Nat)(hfu:90000000<=fu)(t:TP)(d:Int)(hs:um t.val):qro fu t d=some (l5 t d):=by
 unfold qro l5;rw[zk6 fu hfu _ hs.1.1,qB,dz];simp only[dc];by_cases h0:(o8 t.val.1).1≠0
 ·rw[qX h0,qX h0]
 rw[qW h0,qW h0,bp];by_cases h1:0<t.kids.length
 ·rw[qX oA,qX h1,q98 fu hfu _ hs.1.1,qB]
  unfold qxx
  cases ht:iv t.val.1 with
  |none=>
   simp only;rw[q9d fu hfu ([],([],[])) dy oC ⟨oC,oC⟩,qB,cu,rt,au rfl]
  |some m=>
   have h0:=qh4 ht;have hv:=vi h0;simp only;rw[q9d fu hfu m dy oC hv.smD.2.2,qB,bq]
   cases hp:(ep m.2.2 dy).2
   ·rw[aw rfl,se fu hfu _ _ (by have:=hv.1;omega) oC,qB]
    cases hk:lk m.1 mpN
    ·rw[cu,rt,au rfl,qX (.inr (.inl rfl))]
    rw[bq,bp];by_cases hb:0<t.val.2.length
    ·rw[qX oA,rt,au rfl,qX (.inl hb)]
    rw[qW oA,rt,bp]
    by_cases h60:60<=m.2.2.length
    ·rw[qX oA,qX (.inr (.inr (.inr (.inl h60))))]
    rw[qW oA,dc,q0x,zk8 fu hfu m hv,qB,bp]
    by_cases h2k:2000<(ej m).length
    ·rw[qX oA,qk5,au rfl,qX oA]
    rw[qW oA,zab fu hfu _ ctn oC hs.1.1,qB,zm9]
    have hv1:∃v,cg t.val.1 bu=[v]:=by
     unfold iv at ht;split at ht
     ·rename_i v hv2;exact⟨v,hv2⟩
     ·cases ht
    obtain⟨v,hv1⟩:=hv1;rw[hv1,af oC,show([v]:List Bs)[(0:Int).toNat]? = some v from rfl,qB,qk5,zfb]
    by_cases he:v=ej m
    ·rw[qW (by rw[he];simp),qW (by
      rintro (q|q|q|q|q|q)
      ·exact hb q
      ·simp at q
      ·simp at q
      ·exact h60 q
      ·exact q (by rw[he])
      ·exact h2k q)];rfl
    ·rw[qX (by simpa using he),qX (.inr (.inr (.inr (.inr (.inl (by simpa using he))))))]
   ·rw[au rfl,rt,au rfl,qX (.inr (.inr (.inl rfl)))]
 rw[qW oA,qW h1,bp]
 have hbl:=hs.2.2.2;by_cases h2:12000<t.val.2.length
 ·rw[qX oA,qX h2]
 rw[qW oA,qW h2,zkc fu _,qB,dz]
 have hbv:(qgq (bs 0 t.val.2)).1=bs 0 t.val.2:=by
  rcases zfp t.val.2.length t.val.2 0 (wF _) with h|h|h<;>rw[h]<;>rfl
 rw[hbv];by_cases h3:bs 0 t.val.2≠0
 ·rw[qX h3,qX h3]
 rw[qW h3,qW h3];obtain⟨R,g1,g2⟩:=q45 fu hfu t.val.1 hs.1.1;rw[g1,qB]
 cases hb:bnd t.val.1 with
 |none=>rw[hb]at g2;simp only at g2;rw[g2];rfl|some b=>
  rw[hb]at g2;simp only at g2 ⊢;subst g2;have:=q5n hb;rw[au rfl,bp];by_cases hd:d<8
  ·rw[qX hd,zkd fu hfu t.val.2 b hbl,qB,bp]
   by_cases hc:0<(gn t.val.2 b).length
   ·rw[qX oA,qX ⟨hd,hc⟩]
   ·rw[qW oA,qW (fun q=>hc q.2)]
  ·rw[qW hd,qW (fun q=>hd q.1)]
def bj:Nat->TP->Int->List (TP×Int)|0,_,_=>[]|n+1,t,d=>(t,d)::t.kids.flatMap fun k=>bj n k (d+1)
def q6s:∀(n:Nat)(t:TP)(d:Int),(bj n t d).length<=cf t:=by
 intro n
 induction n with
 |zero=>intro t d;simp[bj]|succ n ih=>
  intro t d;have key:∀l:List TP,(l.flatMap fun k=>bj n k (d+1)).length<=(l.map cf).sum:=by
   intro l
   induction l with
   |nil=>simp|cons k l ih2=>
    have:=ih k (d+1);rw[List.flatMap_cons,qM,List.map_cons,List.sum_cons];omega
  cases t with
  |node x l=>
   have:=key l;rw[bj,qL,vv];show(l.flatMap _).length+1<=_;omega
def qvq:∀(n:Nat)(t:TP)(d:Int),∀x∈bj n t d,cf x.1<=cf t:=by
 intro n
 induction n with
 |zero=>intro t d x hx;cases hx
 |succ n ih=>
  intro t d x hx;rw[bj]at hx;rcases List.mem_cons.1 hx with e|e
  ·rw[e];exact wF _
  ·obtain⟨k,hk,hx2⟩:=List.mem_flatMap.1 e;have:=ih k (d+1) x hx2;have:=qh2 hk;omega
def gd(t:TP):Prop:=cf t<=60000000/\∀n d,∀x∈bj n t d,um x.1.val
def zwc{t:TP}(h:gd t):um t.val:=h.2 1 0 (t,0) (by rw[bj];exact qH)
def zwa{t k:TP}(h:gd t)(hk:k∈t.kids):gd k:=⟨by have:=qh2 hk;have:=h.1;omega,fun n d x hx=>h.2 (n+1) (d-1) x (by
 rw[bj];refine qE _ (List.mem_flatMap.2 ⟨k,hk,?_⟩);rw[show d-1+1=d by omega];exact hx)⟩
def zv9{t:TP}(h:cf t<=1048576):gd t:=⟨oA,fun n d x hx=>z3v _ (by have:=qvq n t d x hx;have:=z47 x.1;omega)⟩
def mj:List (TP×Int)->Nat->Bool->Option (Nat×Bool)|[],i,fl=>some (i,fl)|x::L,i,fl=>if 40<=i then none else mj L (i+1) (fl||decide (8<x.2))
def zlk:∀(L M:List (TP×Int))(i:Nat)(fl:Bool),mj (L++M) i fl=(mj L i fl).bind fun x=>mj M x.1 x.2
 |[],_,_,_=>rfl|x::L,M,i,fl=>by
  rw[wK,mj,mj];by_cases h:40<=i
  ·rw[qX h,qX h];rfl
  ·rw[qW h,qW h,zlk L M]
def zll:∀(L:List (TP×Int))(i:Nat)(fl:Bool)(x:Nat×Bool),i<=40->mj L i fl=some x->x.1<=40
 |[],_,_,_,h,e=>by cases e;exact h
 |y::L,i,fl,x,h,e=>by
  rw[mj]at e;by_cases h4:40<=i
  ·rw[qX h4]at e;cases e
  ·rw[qW h4]at e;exact zll L _ _ x oA e
def zlm:∀(L:List (TP×Int))(i:Nat)(fl:Bool),i<=40->mj L i fl=if 40<i+L.length then none else some (i+L.length,fl||L.any fun x=>decide (8<x.2))
 |[],i,fl,h=>by rw[mj,qW oB];simp|x::L,i,fl,h=>by
  rw[mj];by_cases h4:40<=i
  ·rw[qX h4,qX oG]
  ·rw[qW h4,zlm L _ _ oA]
   by_cases h5:40<i+1+L.length
   ·rw[qX h5,qX oG]
   ·rw[qW h5,qW oG,List.any_cons,Bool.or_assoc,qL,Nat.add_assoc,Nat.add_comm 1]
def zvf(fu:Nat)(hfu:90000000<=fu)(z:Int×Int):∀(n:Nat)(t:TP)(d i:Nat)(fl:Bool),cf t<=n->cf t+d<=70000000->i<=40 ->
  ∃R,qf3 fu n t (d:Int) (i:Int) z fl=some R/\match mj (bj n t (d:Int)) i fl with
   |none=>∃a b,R = .inl (a,(((2:Int),(-1:Int)),b))|some x=>R = .inr ((x.1:Int),(z,x.2)):=by
 intro n
 induction n with
 |zero=>intro t d i fl h;have:=qh3 t;omega|succ n ih=>
  intro t d i fl hz hd hi;rw[qf3,qsy,q2u,bj,mj];by_cases h4:40<=i
  ·rw[af oA,qX h4,ql];exact⟨_,rfl,_,_,rfl⟩
  rw[ao,qW h4]
  have hr0:(bif fl then some (.inr (z,true)) else some (.inr (z,decide ((8:Int)<(d:Int)))):Option zd3)=some (.inr (z,fl||decide ((8:Int)<(d:Int)))):=by cases fl<;>rfl
  rw[hr0,qB];simp only[bz];rw[ar i]
  have loop:∀(m:Nat)(ab aa:List TP)(i:Nat)(fl:Bool),t.kids=ab++aa->aa.length<m->i<=40 ->
    ∃R,qmr (qf3 fu n) fu m (d:Int) t.kids (t.kids.length:Int) (ab.length:Int) (i:Int) z fl=some R/\match mj (aa.flatMap fun k=>bj n k ((d:Int)+1)) i fl with
     |none=>∃a b,R = .inl (a,(((2:Int),(-1:Int)),b))|some x=>R = .inr ((x.1:Int),(z,x.2)):=by
   intro m
   induction m with
   |zero=>intro ab aa i fl _ h;omega|succ m ihm=>
    intro ab aa i fl hk h hi;have ac:t.kids.length=ab.length+aa.length:=by rw[hk];simp
    have hks:=vt t;rw[qmr,q2x]
    cases aa with
    |nil=>rw[ao (by simp only[qZ]at ac;omega)];exact⟨_,rfl,rfl⟩|cons k aa=>
     simp only[qL]at h ac;have hkm:k∈t.kids:=by rw[hk];simp
     have hx:ai t.kids (ab.length:Int)=some k:=by rw[hk];exact a6 ab k aa
     have hkz:=qh2 hkm;rw[af oA,hx,qB,dc,ar d,List.flatMap_cons,zlk]
     obtain⟨R,g1,g2⟩:=ih k (d+1) i fl oA oA hi
     rw[g1,qB];rw[show((d+1:Nat):Int)=(d:Int)+1 by omega]at g2
     cases hr:mj (bj n k ((d:Int)+1)) i fl with
     |none=>
      rw[hr]at g2;obtain⟨a,b,rfl⟩:=g2;exact⟨_,rfl,a,b,rfl⟩
     |some x=>
      rw[hr]at g2;simp only at g2;subst g2;simp only[bz,qB];rw[ar _]
      have:=ihm (ab++[k]) aa x.1 x.2 (by rw[hk];simp) oA (zll _ _ _ _ hi hr)
      rw[qM,wD]at this;exact this
  have hks:=vt t;exact loop fu [] t.kids (i+1) _ rfl oA oA
def ij:List (TP×Int)->Nat->Option (Int×Int)|[],_=>none|x::L,i=>if l5 x.1 x.2≠0 then some (l5 x.1 x.2,(i:Int)) else ij L (i+1)
def zln:∀(L M:List (TP×Int))(i:Nat),ij (L++M) i=match ij L i with|some f=>some f|none=>ij M (i+L.length)
 |[],_,_=>rfl|x::L,M,i=>by
  rw[wK,ij,ij];by_cases h:l5 x.1 x.2≠0
  ·rw[qX h,qX h]
  ·rw[qW h,qW h,zln L M,qL,Nat.add_assoc,Nat.add_comm 1]
def zvg(fu:Nat)(hfu:90000000<=fu)(z:Int×Int):∀(n:Nat)(t:TP)(d i:Nat),cf t<=n->cf t+d<=70000000->gd t->i+cf t<=70000000 ->
  ∃R,qf4 fu n t (d:Int) (i:Int) z=some R/\match ij (bj n t (d:Int)) i with
   |some f=>∃a,R = .inl (a,f)|none=>R = .inr (((i+(bj n t (d:Int)).length:Nat):Int),z):=by
 intro n
 induction n with
 |zero=>intro t d i h;have:=qh3 t;omega|succ n ih=>
  intro t d i hz hd hs hi;have htp:=qh3 t;rw[qf4,qsz,q2v];rw[show((t.val.1,t.val.2):List (Bs×Bs)×Bs)=t.val from rfl,dc,zt3 fu hfu t _ (zwc hs),qB,bj,ij,dz]
  by_cases hc:l5 t (d:Int)≠0
  ·rw[qX hc,qX hc,ql];exact⟨_,rfl,_,rfl⟩
  rw[qW hc,qW hc,qB];simp only[bz];rw[ar i]
  have loop:∀(m:Nat)(ab aa:List TP)(i:Nat),t.kids=ab++aa->aa.length<m->i+(aa.map cf).sum<=70000000 ->
    ∃R,qms (qf4 fu n) fu m (d:Int) t.kids (t.kids.length:Int) (ab.length:Int) (i:Int) z=some R/\match ij (aa.flatMap fun k=>bj n k ((d:Int)+1)) i with
     |some f=>∃a,R = .inl (a,f)|none=>R = .inr (((i+(aa.flatMap fun k=>bj n k ((d:Int)+1)).length:Nat):Int),z):=by
   intro m
   induction m with
   |zero=>intro ab aa i _ h;omega|succ m ihm=>
    intro ab aa i hk h hi;have ac:t.kids.length=ab.length+aa.length:=by rw[hk];simp
    have hks:=vt t;rw[qms,q2y]
    cases aa with
    |nil=>rw[ao (by simp only[qZ]at ac;omega)];exact⟨_,rfl,rfl⟩|cons k aa=>
     simp only[qL]at h ac;simp only[List.map_cons,List.sum_cons]at hi;have hkm:k∈t.kids:=by rw[hk];simp
     have hx:ai t.kids (ab.length:Int)=some k:=by rw[hk];exact a6 ab k aa
     have hkz:=qh2 hkm;have hfl:=q6s n k ((d:Int)+1);rw[af oA,hx,qB,dc,ar d,List.flatMap_cons,zln]
     obtain⟨R,g1,g2⟩:=ih k (d+1) i oA oA (zwa hs hkm) oA
     rw[g1,qB];rw[show((d+1:Nat):Int)=(d:Int)+1 by omega]at g2
     cases hr:ij (bj n k ((d:Int)+1)) i with
     |some f=>
      rw[hr]at g2;obtain⟨a,rfl⟩:=g2;exact⟨_,rfl,a,rfl⟩
     |none=>
      rw[hr]at g2;simp only at g2;subst g2;simp only[bz];rw[ar _]
      have:=ihm (ab++[k]) aa (i+(bj n k ((d:Int)+1)).length) (by rw[hk];simp) oA oA
      rw[qM,wD]at this;rw[qM,← Nat.add_assoc];exact this
  have hks:=vt t;have hsum:(t.kids.map cf).sum+2<=cf t:=by cases t;rw[vv];show(List.map cf _).sum+2<=_;simp only[Tree.kids];omega
  obtain⟨R,g1,g2⟩:=loop fu [] t.kids (i+1) rfl oA oA
  refine⟨R,g1,?_⟩;rw[qL,show i+((t.kids.flatMap fun k=>bj n k ((d:Int)+1)).length+1)=i+1+(t.kids.flatMap fun k=>bj n k ((d:Int)+1)).length by omega]
  exact g2
def kh(n:Nat)(t:TP):Int×Int:=if 40<(bj n t 0).length then(2,-1) else if(bj n t 0).any (fun x=>decide (8<x.2))=true then(2,-2) else(ij (bj n t 0) 0).getD (0,0)
def z02(fu:Nat)(hfu:90000000<=fu)(t:TP)(hs:gd t):qst fu t=some (kh fu t):=by
 have hz:=hs.1;unfold qst qf2;simp only[dc,qB];obtain⟨R,g1,g2⟩:=zvf fu hfu (0,0) fu t 0 0 false oA oA oA
 rw[show((0:Nat):Int)=0 from rfl,zlm _ _ _ oA,wO]at g2
 rw[show((0:Nat):Int)=0 from rfl]at g1
 have e1:qsx fu t (0,0) false=R.elim (fun a2=>some (.inl (t,a2.2))) (fun b3=>some (.inr (t,b3.2))):=by
  unfold qsx zdk;simp only[dc];rw[g1,qB];cases R<;>rfl
 rw[e1];unfold kh;by_cases h4:40<(bj fu t 0).length
 ·rw[qX h4]at g2;obtain⟨a,b,rfl⟩:=g2;rw[qX h4];rfl
 rw[qW h4]at g2;simp only at g2;subst g2;rw[qW h4];simp only[Sum.elim_inr,qB,bz,Bool.false_or];cases hany:(bj fu t 0).any fun x=>decide (8<x.2)
 ·rw[aw rfl,qW oC]
  obtain⟨R2,q1,q2⟩:=zvg fu hfu (0,0) fu t 0 0 oA oA hs oA
  rw[show((0:Nat):Int)=0 from rfl]at q1 q2
  have e2:qs1 fu t (0,0)=R2.elim (fun a2=>some (.inl (t,a2.2))) (fun b3=>some (.inr (t,b3.2))):=by
   unfold qs1 zdl;simp only[dc];rw[q1,qB];cases R2<;>rfl
  rw[e2]
  cases hr:ij (bj fu t 0) 0 with
  |some f=>
   rw[hr]at q2;obtain⟨a,rfl⟩:=q2;rfl
  |none=>rw[hr]at q2;simp only at q2;subst q2;rfl
 ·rw[au rfl,qX rfl];rfl
def zhg(fu:Nat)(hfu:90000000<=fu):∀(n:Nat)(t:TP)(d:Nat),cf t<=n->cf t+d<=70000000->cf t<=60000000 ->
  qe7 fu n t (d:Int)=some ((bj n t (d:Int)).map (·.1),(bj n t (d:Int)).map (·.2)):=by
 have hrm:=iq;intro n
 induction n with
 |zero=>intro t d h;have:=qh3 t;omega|succ n ih=>
  intro t d hz hd hs;rw[qe7,qrm,bj];simp only[dc];have hks:=vt t;have hsum:(t.kids.map cf).sum+2<=cf t:=by cases t;rw[vv];show(List.map cf _).sum+2<=_;simp only[Tree.kids];omega
  have loop:∀(m:Nat)(ab aa:List TP)(o:List (TP×Int)),t.kids=ab++aa->aa.length<m->o.length+(aa.map cf).sum<=70000000 ->
    qk1 (qe7 fu n) fu m (d:Int) (ab.length:Int) t (o.map (·.1)) (o.map (·.2))=some ((o++aa.flatMap fun k=>bj n k ((d:Int)+1)).map (·.1),(o++aa.flatMap fun k=>bj n k ((d:Int)+1)).map (·.2)):=by
   intro m
   induction m with
   |zero=>intro ab aa o _ h;omega|succ m ihm=>
    intro ab aa o hk h ho;have ac:t.kids.length=ab.length+aa.length:=by rw[hk];simp
    rw[qk1,q0p]
    cases aa with
    |nil=>rw[ao (by simp only[qZ]at ac;omega)];simp|cons k aa=>
     simp only[qL]at h ac;simp only[List.map_cons,List.sum_cons]at ho;have hkm:k∈t.kids:=by rw[hk];simp
     have hx:ai t.kids (ab.length:Int)=some k:=by rw[hk];exact a6 ab k aa
     have hkz:=qh2 hkm;have hfl:=q6s n k ((d:Int)+1);rw[af oA,hx,qB,dc,ar d,ih k (d+1) oA oA oA,qB,show((d+1:Nat):Int)=(d:Int)+1 by omega]
     simp only[dc];rw[af oB,af oB,ar _,← List.map_append,← List.map_append]
     have:=ihm (ab++[k]) aa (o++bj n k ((d:Int)+1)) (by rw[hk];simp) oA oN
     rw[qM,wD]at this;rw[List.flatMap_cons,← qS];exact this
  have:=loop fu [] t.kids [(t,(d:Int))] rfl oA oB
  exact this
def zz7(fu n:Nat)(hfu:90000000<=fu)(L:List (TP×Int))(hL:L.length<=40)(hs:∀x∈L,um x.1.val)(z:Int×Int):∀(ab aa:List (TP×Int)),L=ab++aa->aa.length<n ->
  qk7 fu n (L.map (·.1)) (L.map (·.2)) (ab.length:Int) z=some ((ij aa ab.length).getD (0,0)):=by
 induction n with
 |zero=>intro ab aa _ h;omega|succ n ih=>
  intro ab aa hp h;have ac:L.length=ab.length+aa.length:=by rw[hp];simp
  rw[qk7,q0z]
  cases aa with
  |nil=>rw[ao (by rw[wC];simp only[qZ]at ac;omega)];rfl|cons x aa=>
   simp only[qL]at h ac
   have i1:ai (L.map (·.1)) (ab.length:Int)=some x.1:=by
    have:=a6 (ab.map (·.1)) x.1 (aa.map (·.1));rw[wC]at this;rw[hp,List.map_append,List.map_cons];exact this
   have i2:ai (L.map (·.2)) (ab.length:Int)=some x.2:=by
    have:=a6 (ab.map (·.2)) x.2 (aa.map (·.2));rw[wC]at this;rw[hp,List.map_append,List.map_cons];exact this
   have hx:=hs x (by rw[hp];simp)
   rw[af oP,i1,qB,i2,qB,dc,zz1 fu hfu x.1 x.2 hx,qB,dz,ij]
   by_cases hc:l5 x.1 x.2≠0
   ·rw[qX hc,qX hc,xu];rfl
   ·rw[qW hc,qW hc,ar _]
    have:=ih (ab++[x]) aa (by rw[hp];simp) oA
    rw[qM,wD]at this;exact this
def zz6(fu n:Nat)(hfu:90000000<=fu)(L:List (TP×Int))(hL:L.length<=40)(hs:∀x∈L,um x.1.val)(z:Int×Int):∀(ab aa:List (TP×Int)),L=ab++aa->aa.length<n ->
  qk6 fu n (L.map (·.1)) (L.map (·.2)) (ab.length:Int) z=some (if aa.any (fun x=>decide (8<x.2))=true then(2,-2) else(ij L 0).getD (0,0)):=by
 induction n with
 |zero=>intro ab aa _ h;omega|succ n ih=>
  intro ab aa hp h;have ac:L.length=ab.length+aa.length:=by rw[hp];simp
  rw[qk6,q0y]
  cases aa with
  |nil=>
   rw[ao (by rw[wC];simp only[qZ]at ac;omega)]
   exact zz7 fu fu hfu L hL hs z [] L rfl oA
  |cons x aa=>
   simp only[qL]at h ac
   have i2:ai (L.map (·.2)) (ab.length:Int)=some x.2:=by
    have:=a6 (ab.map (·.2)) x.2 (aa.map (·.2));rw[wC]at this;rw[hp,List.map_append,List.map_cons];exact this
   rw[af oP,i2,qB,bp,List.any_cons]
   by_cases hc:8<x.2
   ·rw[qX hc,xu,decide_eq_true hc,Bool.true_or,qX rfl];rfl
   ·rw[qW hc,decide_eq_false hc,Bool.false_or,ar _]
    have:=ih (ab++[x]) aa (by rw[hp];simp) oA
    rw[qM,wD]at this;exact this
def zz2(fu:Nat)(hfu:90000000<=fu)(t:TP)(hs:gd t):qrp fu t=some (kh fu t):=by
 unfold qrp qrl kh;simp only[dc];have hz:=hs.1;have:=zhg fu hfu fu t 0 oA oA hs.1
 rw[show((0:Nat):Int)=0 from rfl]at this
 rw[this,qB];simp only;rw[bp,wC];by_cases h4:40<(bj fu t 0).length
 ·rw[qX oA,qX h4,xu];rfl
 ·rw[qW oA,qW h4]
  exact zz6 fu fu hfu _ oA (fun x hx=>hs.2 fu 0 x hx) (0,0) [] _ rfl oA

abbrev emT:TP:=Tree.node ([],[]) []
section sec
variable(fu:Nat)(hfu:90000000<=fu)(path:List Int)(hp:path.length<=2000000)(z:Int×Int)
include hfu hp
end sec
def q9g:∀(L:List (TP×Int))(i:Nat)(f:Int×Int),ij L i=some f->f.1≠0/\∃x∈L,f.1=l5 x.1 x.2
 |[],_,_,h=>by cases h
 |x::L,i,f,h=>by
  rw[ij]at h;by_cases hc:l5 x.1 x.2≠0
  ·rw[qX hc]at h;cases h;exact⟨hc,x,qH,rfl⟩
  ·rw[qW hc]at h;obtain⟨h1,y,h2,h3⟩:=q9g L _ _ h;exact⟨h1,y,qE _ h2,h3⟩
def zz9{fu:Nat}{t:TP}(h:(kh fu t).1=0):kh fu t=(0,0):=by
 unfold kh at h ⊢;split at h
 ·cases h
 ·split at h
  ·cases h
  ·rename_i h1 h2;rw[qW h1,qW h2]
   cases hr:ij (bj fu t 0) 0 with|none=>rfl|some f=>rw[hr]at h;exact absurd h (q9g _ _ _ hr).1
def q61:gd emT:=zv9 (by show 4<=_;omega)
def jj(x:ce):Bool := !(lk x.1 dy)
def zxg(fu n:Nat)(hfu:90000000<=fu):∀(ab aa:List ce),aa.length<n->ab.length+aa.length<100000000->(∀x∈aa,x.1.length<=4000000) ->
  (aa.all jj=true->qf6 fu n (ab++aa) ((ab.length+aa.length:Nat):Int) (ab.length:Int)=some (-1)) /\
  (∀u y w,aa=u++y::w->u.all jj=true->jj y=false->qf6 fu n (ab++aa) ((ab.length+aa.length:Nat):Int) (ab.length:Int)=some ((ab.length+u.length:Nat):Int)):=by
 induction n with
 |zero=>intro ab aa h;omega|succ n ih=>
  intro ab aa h hb hs;rw[qf6,q3d]
  cases aa with
  |nil=>exact⟨fun _=>by rw[ao],fun u y w e=>by simp at e⟩
  |cons d t=>
   simp only[qL]at h hb;obtain⟨s1,s2⟩:=ih (ab++[d]) t oA oB (fun x hx=>hs x (qE _ hx))
   simp only[qM,qL,qZ,qS,wM,wO]at s1 s2;rw[af oG,a6,qB,qf0,nz fu hfu _ _ (hs d qH) oC,qB,qB,ar _,show(ab.length+(d::t).length:Nat)=ab.length+1+t.length by simp only[qL];omega,List.all_cons]
   have hk:jj d = !(lk d.1 dy):=rfl;rw[hk];cases hd:lk d.1 dy
   ·rw[aw rfl];refine⟨fun e=>s1 (by simpa using e),fun u y w e hu hy => ?_⟩
    cases u with
    |nil=>rw[List.nil_append,List.cons.injEq]at e;obtain⟨rfl,_⟩:=e;rw[hk,hd]at hy;cases hy
    |cons z u=>
     rw[wK,List.cons.injEq]at e;obtain⟨rfl,e⟩:=e;rw[List.all_cons,qA]at hu;have:=s2 u y w e hu.2 hy;rw[show(ab.length+(d::u).length:Nat)=ab.length+1+u.length by simp only[qL];omega]
     exact this
   ·rw[au rfl];refine⟨fun e=>by simp at e,fun u y w e hu hy => ?_⟩
    cases u with
    |nil=>rfl|cons z u=>
     rw[wK,List.cons.injEq]at e;obtain⟨rfl,e⟩:=e;rw[List.all_cons,hk,hd]at hu;simp at hu
def zuw(fu n:Nat)(hfu:90000000<=fu):∀(aa kept junk:List ce),junk≠[]->aa.length<n->kept.length+junk.length+aa.length<100000000->(∀x∈aa,x.1.length<=4000000) ->
  qmy fu n (kept.length:Int) ((kept.length+junk.length:Nat):Int) (kept++junk++aa)=some (kept++aa.filter jj):=by
 induction n with
 |zero=>intro aa kept junk _ h;omega|succ n ih=>
  intro aa kept junk hj h hb hs;rw[qmy,q3a];have ac:(kept++junk++aa).length=kept.length+junk.length+aa.length:=by simp only[qM]
  have hj1:1<=junk.length:=by cases junk with|nil=>exact absurd rfl hj|cons=>simp
  cases aa with
  |nil=>
   simp only[qZ]at ac;rw[ao (by rw[ac];omega),af (by rw[ac];omega),af (by rw[qM,List.length_take,List.length_replicate,ac];omega)]
   have e:List.take ((kept.length:Nat):Int).toNat (List.take ((kept.length:Nat):Int).toNat (kept++junk++[])++List.replicate ((kept++junk++[]).length-((kept.length:Nat):Int).toNat) (([]:Bs),([]:Bs)))=kept:=by
    rw[List.append_nil,t7];simp
   rw[e];simp
  |cons y t=>
   simp only[qL]at h hb;have g:(kept++junk++y::t)[(((kept.length+junk.length:Nat):Int)).toNat]? = some y:=by
    rw[show(((kept.length+junk.length:Nat):Int)).toNat=(kept++junk).length by simp;omega];simp
   simp only[qL]at ac;rw[af (by rw[ac];omega),af (by rw[ac];omega),g,qB,qf0,nz fu hfu _ _ (hs y qH) oC,qB,qB,ar (kept.length+junk.length),List.filter_cons]
   have hk:jj y = !(lk y.1 dy):=rfl;rw[hk];have hs':∀x∈t,x.1.length<=4000000:=fun x hx=>hs x (qE _ hx)
   cases hd:lk y.1 dy
   ·obtain⟨j,js,rfl⟩:∃j js,junk=j::js:=by cases junk with|nil=>exact absurd rfl hj|cons j js=>exact⟨j,js,rfl⟩
    have g2:(kept++j::js++y::t)[((kept.length:Nat):Int).toNat]? = some j:=by rw[qS];exact ic kept j _
    rw[cu,af (by rw[ac];simp only[qL]at *;omega),g2,qB,ar _,qS,wK,pm]
    have:=ih t (kept++[y]) (js++[y]) oC oA (by simp at hb ⊢;omega) hs'
    simp only[qM,qL,qZ,wO,qS,wM,wK,List.nil_append]at this;rw[show(kept.length+(j::js).length+1:Nat)=kept.length+1+(js.length+1) by simp only[qL];omega]
    simpa using this
   ·rw[bq];have:=ih t kept (junk++[y]) oC oA oB hs'
    simp only[qM,qL,qZ,wO,qS,wM]at this;rw[show(kept.length+junk.length+1:Nat)=kept.length+(junk.length+1) by omega]
    simpa using this
def zux(fu:Nat)(hfu:90000000<=fu)(l:List ce)(hs:ou l):qta fu l=some (l.filter jj):=by
 have hl:=hs.1;obtain⟨h1,h2⟩:=zxg fu fu hfu [] l oA oB (fun x hx=>(hs.2 x hx).1)
 simp only[List.nil_append,qZ,wO]at h1 h2;unfold qta qtb;rw[show((0:Nat):Int)=0 from rfl]at h1 h2
 have hd:l.all jj=true\/∃u y w,l=u++y::w/\u.all jj=true/\jj y=false:=by
  clear h1 h2 hs hl
  induction l with
  |nil=>exact .inl rfl|cons y t ih=>
   cases hk:jj y
   ·exact .inr ⟨[],y,t,rfl,rfl,hk⟩
   ·rcases ih with g|⟨u,x,w,e,g1,g2⟩
    ·exact .inl (by rw[List.all_cons,hk,g];rfl)
    ·exact .inr ⟨y::u,x,w,by rw[e];rfl,by rw[List.all_cons,hk,g1];rfl,g2⟩
 rcases hd with g|⟨u,y,w,rfl,g1,g2⟩
 ·rw[h1 g,qB,au,List.filter_eq_self.2 (fun x hx=>List.all_eq_true.1 g x hx)]
 ·simp only[qM,qL]at hl;rw[h2 u y w rfl g1 g2,qB,d6,qW oA,ar _]
  have:=zuw fu fu hfu w u [y] oC oA oB (fun x hx=>(hs.2 x (by simp[hx])).1)
  simp only[qL,qZ,wO,qS,wM]at this;rw[this,List.filter_append,List.filter_cons,g2,List.filter_eq_self.2 (fun x hx=>List.all_eq_true.1 g1 x hx)];rfl
def gm(m:eg):eg:=(m.1,(m.2.1,m.2.2.filter jj))
def q8k(f:ce->Bool):∀(l ab pre':List ce),(∀x∈pre',x∈ab)->(nu ab l).1=0->(nu pre' (l.filter f)).1=0
 |[],_,_,_,_=>rfl|p::l,ab,pre',hp,h=>by
  rw[nu]at h;split at h
  ·cases h
  ·split at h
   ·cases h
   ·split at h
    ·cases h
    ·split at h
     ·cases h
     ·rename_i g1 g2 g3 g4;rw[List.filter_cons];split
      ·rw[nu,qW g1,qW (by
        intro q;obtain⟨x,hx,hk⟩:=List.any_eq_true.1 q;exact g2 (List.any_eq_true.2 ⟨x,hp x hx,hk⟩)),qW g3,qW g4]
       exact q8k f l _ _ (fun x hx=>by
        rcases List.mem_append.1 hx with e|e
        ·exact List.mem_append_left _ (hp x e)
        ·exact List.mem_append_right _ e) h
      ·exact q8k f l _ _ (fun x hx=>List.mem_append_left _ (hp x hx)) h
def ze8{m:eg}(h:(ig m).1=0):(ig (gm m)).1=0:=by
 obtain⟨h1,h2,h3,_⟩:=ziv h;unfold ig at h ⊢;rw[qW (by simp[h1,h2]),qW oA]at h
 unfold gm;have:=List.length_filter_le jj m.2.2;simp only;rw[qW (by simp[h1,h2]),qW oA]
 exact q8k jj m.2.2 [] [] oC h
def kj(l:List aq)(t:Bs):List aq:=l.map fun x=>if lk x.1 bu=true then(x.1,t) else x
def z10{l ab aa:List aq}{x:aq}(t:Bs)(e:l=ab++x::aa)(hx:lk x.1 bu=true)(h1:cg ab bu=[])(h2:cg aa bu=[]):kj l t=ab++(x.1,t)::aa:=by
 have idm:∀l:List aq,cg l bu=[]->(l.map fun x=>if lk x.1 bu=true then(x.1,t) else x)=l:=by
  intro l
  induction l with
  |nil=>intro _;rfl|cons y l ih=>
   intro h;rw[yj]at h;by_cases hk:(y.1.map lo==bu.map lo)=true
   ·rw[qX hk]at h;cases h
   ·rw[qW hk]at h;rw[List.map_cons,ih h,qW (show ¬lk y.1 bu=true from hk)]
 subst e;unfold kj;rw[List.map_append,List.map_cons,idm ab h1,idm aa h2,qX hx]
def zs8(fu:Nat)(hfu:90000000<=fu)(l:List aq)(hs:∀x∈l,x.1.length<=4000000/\x.2.length<=4000000)(hl:l.length<=4000000)(m:eg)(hm:iv l=some m) :
  qmp fu l=some (if 4000<(ej (gm m)).length then(false,[]) else(true,kj l (ej (gm m)))):=by
 have hrm:=iq;obtain⟨R,g1,g2⟩:=q99 fu hfu l hs hl;rw[hm]at g2;obtain⟨ab,x,aa,e1,e2,e3,e4,e5,rfl⟩:=g2;have h0:=qh4 hm;have hv:=vi h0;have hb:=ze8 h0;unfold qmp;rw[g1,qB];simp only[bz];rw[zux fu hfu m.2.2 hv.smD.2.2,qB,show((m.1,(m.2.1,m.2.2.filter jj)):eg)=gm m from rfl,zj2 fu hfu (gm m) (vi hb).smD,qB,qW (by simpa using hb)]
 by_cases h4:4000<(ej (gm m)).length
 ·rw[qX h4,qX h4];rfl
 ·rw[qW h4,qW h4];simp only[ji,qB];have hc:gv l=some l:=by unfold gv;rw[af oA]
  rw[aw (by rfl),hc,qB,af (by rw[e1];simp)]
  have hg:l[((ab.length:Nat):Int).toNat]? = some x:=by rw[e1];exact ic ab x aa
  rw[hg,qB,z10 _ e1 e3 e4 e5];have hset:List.set l ((ab.length:Nat):Int).toNat (x.1,ej (gm m))=ab++(x.1,ej (gm m))::aa:=by rw[e1];exact pm ab x _ aa
  rw[hset]
def z13(fu n:Nat)(hfu:90000000<=fu)(l:List aq)(hs:∀x∈l,x.1.length<=4000000)(hl:l.length<=4000000)(t:Bs):∀(ab aa:List aq),l=ab++aa->aa.length<n ->
  qlg fu n l t (ab.length:Int) (kj ab t)=some (kj l t):=by
 have hrm:=iq
 induction n with
 |zero=>intro ab aa _ h;omega|succ n ih=>
  intro ab aa hp h;have ac:l.length=ab.length+aa.length:=by rw[hp];simp
  have hrl:(kj ab t).length=ab.length:=by unfold kj;simp
  rw[qlg,q06]
  cases aa with
  |nil=>rw[ao (by simp only[qZ]at ac;omega),hp,List.append_nil]|cons y w=>
   simp only[qL]at h ac;have hx:ai l (ab.length:Int)=some y:=by rw[hp];exact a6 ab y w
   have st:=ih (ab++[y]) w (by rw[hp];simp) oA
   rw[qM,wD]at st;have hr:kj (ab++[y]) t=kj ab t++[if lk y.1 bu=true then(y.1,t) else y]:=by unfold kj;rw[List.map_append];rfl
   rw[af oA,hx,qB,se fu hfu _ _ (hs y (by rw[hp];simp)) oC,qB,ar _]
   rw[hr]at st;have hck:lk y.1 ctn=lk y.1 bu:=rfl;show(bif lk y.1 ctn then _ else _)=_
   rw[hck];cases hk:lk y.1 bu
   ·rw[aw rfl,af oB];rw[hk]at st;simpa using st
   ·rw[au rfl,af oB];rw[hk]at st;simpa using st
def z11(fu:Nat)(hfu:90000000<=fu)(l:List aq)(hs:∀x∈l,x.1.length<=4000000)(hl:l.length<=4000000)(t:Bs):q05 fu l t=some (kj l t):=
 z13 fu fu hfu l hs hl t [] l rfl oA
def vf(l:List aq)(b:Bs):Option (List aq×List Bs):=match bnd l with
 |none=>none|some bb=>if gn b bb=[] then none else match iv l with|none=>none|some m=>if 4000<(ej (gm m)).length then none else some (kj l (ej (gm m)),gn b bb)
def yd(rec:List aq->Bs->Nat->(TP×Nat) ⊕ (Int×Int))(c:Bs)(k:Nat):(TP×Nat) ⊕ (Int×Int):=
 if(du c).2.1.1≠0 then .inr ((du c).2.1.1,-8) else if 40<=k then .inr (2,-7) else rec (du c).2.2 (c.drop (du c).1.toNat) k
def tz(rec:List aq->Bs->Nat->(TP×Nat) ⊕ (Int×Int))(f:List aq):List Bs->Nat->List TP->(TP×Nat) ⊕ (Int×Int)
 |[],k,acc => .inl (.node (f,[]) acc,k)|c::cs,k,acc=>match yd rec c k with|.inr e => .inr e|.inl x=>tz rec f cs x.2 (acc++[x.1])
def ik:Nat->List aq->Bs->Nat->(TP×Nat) ⊕ (Int×Int)
 |0,l,b,k => .inl (.node (l,b) [],k+1)|n+1,l,b,k=>match vf l b with|none => .inl (.node (l,b) [],k+1)|some x=>tz (ik n) x.1 x.2 (k+1) []
def Mo(l:List aq)(b:Bs):Prop:=l.length<=60/\(∀y∈l,y.1.length<=12000/\y.2.length<=12000)/\b.length<=12000
def Mo.smT{l:List aq}{b:Bs}(h:Mo l b):um (l,b):=⟨⟨⟨by have:=h.1;simp only;omega,fun x hx=>by have:=h.2.1 x hx;omega⟩,by have:=h.2.2;simp only;omega⟩,by have:=h.1;simp only;omega,fun x hx=>by have:=h.2.1 x hx;omega,by have:=h.2.2;simp only;omega⟩
def qw1{c:Bs}(h:(du c).2.1.1=0):Mo (du c).2.2 (c.drop (du c).1.toNat)/\0<=(du c).1/\(du c).1<=(c.length:Int):=by
 obtain⟨h1,h2,h3,_⟩:=z1i h;refine⟨⟨?_,?_,?_⟩,by rw[h2];omega,by rw[h2];omega⟩
 ·unfold du at h ⊢;rw[qW oA]at h ⊢
  unfold lu at h ⊢;split at h
  ·cases h
  ·rename_i h60;rw[qW h60];unfold o9 at h ⊢
   cases hv:ym ([]:List aq).length (hd c.length c 0 []).2 with
   |some i=>rw[hv]at h;cases h
   |none=>simp;omega
 ·obtain⟨q1,q2,q3⟩:=qv0 c.length c 0 [] ⟨wF _,fun x hx=>by cases hx⟩
  unfold du at h ⊢;rw[qW oA]at h ⊢
  unfold lu at h ⊢;split at h
  ·cases h
  ·rename_i h60;rw[qW h60];unfold o9 at h ⊢
   cases hv:ym ([]:List aq).length (hd c.length c 0 []).2 with
   |some i=>rw[hv]at h;cases h
   |none=>
    simp only[List.nil_append];intro y hy;obtain⟨x,hx,rfl⟩:=List.mem_map.1 hy;have:=q3.2 x hx;have hc:=zgf x.2;exact⟨by show x.1.length<=_;omega,by show(ne x.2).length<=_;omega⟩
 ·rw[List.length_drop];omega
def zuc(b:Bs):∀(n:Nat)(r:Bs)(st:Option Bs)(out:List Bs)(M:Nat),r.length<=M->(∀s,st=some s->s.length<=M)->(∀x∈out,x.length<=M)->∀x∈g9 b n r st out,x.length<=M:=by
 intro n
 induction n with
 |zero=>intro r st out M _ _ h;exact h|succ n ih=>
  intro r st out M hr hst ho;have hadd:∀r',∀x∈ku st r' out,x.length<=M:=by
   intro r' x hx;unfold ku at hx
   cases st with
   |none=>exact ho x hx|some s=>
    rcases List.mem_append.1 hx with e|e
    ·exact ho x e
    ·rw[List.mem_singleton.1 e];unfold quy;rw[List.length_take];have:=hst s rfl;omega
  cases r with
  |nil=>
   intro x hx
   cases st with
   |none=>exact ho x hx|some s=>
    rcases List.mem_append.1 hx with e|e
    ·exact ho x e
    ·rw[List.mem_singleton.1 e];exact hst s rfl
  |cons c t=>
   have hn:=qo5 c t;simp only[qL]at hr;rw[g9];split
   ·exact ih _ _ _ M oA hst ho
   ·split
    ·exact hadd _
    ·exact ih _ _ _ M oA (fun s hs=>by cases hs;omega) (hadd _)
def zif{l:List aq}{b:Bs}{x:List aq×List Bs}(h:vf l b=some x)(hm:Mo l b):Mo x.1 []/\(∀c∈x.2,c.length<=12000)/\0<x.2.length:=by
 unfold vf at h;split at h
 ·cases h
 ·rename_i bb hb;split at h
  ·cases h
  ·rename_i hne;split at h
   ·cases h
   ·split at h
    ·cases h
    ·rename_i h4;cases h
     refine⟨⟨by unfold kj;rw[wC];exact hm.1,fun y hy => ?_,oC⟩,?_,by cases hh:gn b bb with|nil=>exact absurd hh hne|cons=>simp⟩
     ·unfold kj at hy;obtain⟨z,hz,rfl⟩:=List.mem_map.1 hy;have:=hm.2.1 z hz;split
      ·exact⟨this.1,oJ⟩
      ·exact this
     ·exact zuc bb _ b none [] 12000 hm.2.2 oC oC
def qn0(t:TP):Prop:=∀n d,∀x∈bj n t d,Mo x.1.val.1 x.1.val.2
def zes{f:List aq}{b:Bs}{l:List TP}(h:Mo f b)(hl:∀t∈l,qn0 t):qn0 (.node (f,b) l):=by
 intro n d x hx
 cases n with
 |zero=>cases hx
 |succ n=>
  rw[bj]at hx;rcases List.mem_cons.1 hx with e|e
  ·rw[e];exact h
  ·obtain⟨k,hk,hx2⟩:=List.mem_flatMap.1 e;exact hl k hk _ _ _ hx2
abbrev oy:Nat:=1452200
def zht(M:Nat):∀l:List aq,(∀y∈l,y.1.length<=M/\y.2.length<=M)->(l.map qh).sum<=(2*M+2)*l.length
 |[],_=>by simp|x::l,h=>by
  have h1:=h x qH;have:=zht M l (fun y hy=>h y (qE _ hy))
  rw[List.map_cons,List.sum_cons,qL,Nat.mul_succ];unfold qh at this ⊢;omega
def bkP(f:List aq)(b:Bs):τP.bk (f,b)=((f.map qh).sum+1)+(b.length+1):=by
 have:=qxl b;show((f.map qh).sum+1)+((List.map (Ty.byte.bk:Ty.byte.den->Nat) b).sum+1)=_;rw[this]
def Mo.sz{f:List aq}{b:Bs}(h:Mo f b)(l:List TP):cf (.node (f,b) l)<=oy+(l.map cf).sum:=by
 have e:cf (.node (f,b) l)=((f.map qh).sum+1)+(b.length+1)+(l.map cf).sum+2:=(vv (f,b) l).trans (congrArg (fun z=>z+(l.map cf).sum+2) (bkP f b))
 rw[e];have h1:=zht 12000 f h.2.1;have h2:(2*12000+2)*f.length<=(2*12000+2)*60:=Nat.mul_le_mul_left _ h.1;have:=h.2.2;show _<=1452200+_;omega
def okS(k:Nat)(s:(TP×Nat) ⊕ (Int×Int)):Prop:=match s with|.inl x=>k<x.2/\x.2<=40/\cf x.1<=oy*(x.2-k)/\qn0 x.1|.inr e=>e.1≠0
def q83(rec:List aq->Bs->Nat->(TP×Nat) ⊕ (Int×Int))(hr:∀l b k,Mo l b->k<40->okS k (rec l b k))(c:Bs)(k:Nat):okS k (yd rec c k):=by
 unfold yd;by_cases h:(du c).2.1.1=0
 ·rw[qW (by simpa using h)]
  by_cases h4:40<=k
  ·rw[qX h4];show(2:Int)≠0;decide
  ·rw[qW h4];exact hr _ _ _ (qw1 h).1 oA
 ·rw[qX h];exact h
def zl7(rec:List aq->Bs->Nat->(TP×Nat) ⊕ (Int×Int))(hr:∀l b k,Mo l b->k<40->okS k (rec l b k))(f:List aq)(hf:Mo f [])(k0:Nat):∀(cs:List Bs)(k:Nat)(acc:List TP),k0<k->k<=40->(acc.map cf).sum<=oy*(k-(k0+1))->(∀t∈acc,qn0 t)->okS k0 (tz rec f cs k acc)
 |[],k,acc,h1,h2,h3,h4=>by
  rw[tz];refine⟨h1,h2,?_,zes hf h4⟩;have:=hf.sz acc;have e:oy*(k-k0)=oy*(k-(k0+1))+oy:=by rw[← Nat.mul_succ];congr 1;omega
  show cf (.node (f,[]) acc)<=oy*(k-k0);omega
 |c::cs,k,acc,h1,h2,h3,h4=>by
  rw[tz];have:=q83 rec hr c k
  cases hc:yd rec c k with
  |inr e=>rw[hc]at this;exact this|inl x=>
   rw[hc]at this;obtain⟨g1,g2,g3,g4⟩:=this;refine zl7 rec hr f hf k0 cs x.2 _ oA g2 ?_ ?_
   ·rw[List.map_append,List.sum_append];have e:oy*(x.2-(k0+1))=oy*(k-(k0+1))+oy*(x.2-k):=by rw[← Nat.mul_add];congr 1;omega
    simp only[List.map_cons,List.map_nil,List.sum_cons,List.sum_nil];omega
   ·intro t ht;rcases List.mem_append.1 ht with e|e
    ·exact h4 t e
    ·rw[List.mem_singleton.1 e];exact g4
def qdu:∀(n:Nat)(l:List aq)(b:Bs)(k:Nat),Mo l b->k<40->okS k (ik n l b k)
 |0,l,b,k,hm,hk=>by
  refine⟨oJ,oJ,?_,zes hm oC⟩
  have:=hm.sz [];simp only[List.map_nil,List.sum_nil]at this;show cf (.node (l,b) [])<=oy*(k+1-k);rw[show k+1-k=1 by omega];omega
 |n+1,l,b,k,hm,hk=>by
  rw[ik]
  cases hx:vf l b with
  |none=>exact qdu 0 l b k hm hk|some x=>
   obtain⟨h1,h2,h3⟩:=zif hx hm;exact zl7 (ik n) (fun l b k=>qdu n l b k) x.1 h1 k x.2 (k+1) [] oA oA oC oC
def zwb{t:TP}{k:Nat}(hk:k<=40)(h1:cf t<=oy*k)(h2:qn0 t):gd t:=⟨by
 have:oy*k<=1452200*40:=Nat.mul_le_mul_left _ hk;omega,fun n d x hx=>(h2 n d x hx).smT⟩
def zub(b:Bs):∀(n:Nat)(r:Bs)(st:Option Bs)(out:List Bs),(g9 b n r st out).length<=out.length+r.length+1:=by
 intro n
 induction n with
 |zero=>intro r st out;show out.length<=_;omega|succ n ih=>
  intro r st out
  cases r with
  |nil=>cases st with|none=>show out.length<=_;omega|some s=>show(out++[s]).length<=_;simp
  |cons c t=>
   have hn:=qo5 c t;have ha:=q4x st (c::t) out;rw[g9];simp only[qL];split
   ·have:=ih (dt (c::t)) st out;omega
   ·split
    ·omega
    ·have:=ih (dt (c::t)) (some (dt (c::t))) (ku st (c::t) out);omega
def zf7(body b:Bs):(gn body b).length<=body.length+1:=by have:=zub b (body.length+1) body none [];simpa [gn] using this
def okR(R:qnn)(s:(TP×Nat) ⊕ (Int×Int)):Prop:=match s with|.inl x=>R=(x.1,(true,((x.2:Int),(0,0))))|.inr e=>R.2.1=false/\R.2.2.2=e
def zz4(fu m:Nat)(rs:(Bs->Int->(Int×Int×Int)->Option qnn))(d:Int)(n:Nat)(f:List aq)(cs:List Bs)(hcs:cs.length<=4000000)(hf:Mo f [])
  (hrs:∀c∈cs,∀k:Nat,k<=40->∃R,rs c (ae (d+1)) ((k:Int),(0,0))=some R/\okR R (yd (ik n) c k)) :
  ∀(ab aa:List Bs)(k:Nat)(acc:List TP),cs=ab++aa->aa.length<m->k<=40->acc.length<=k ->
  ∃R,qcg rs fu m d (cs.length:Int) (ab.length:Int) ((k:Int),(0,0)) cs f acc=some R/\okR R (tz (ik n) f aa k acc):=by
 have hrm:=iq
 induction m with
 |zero=>intro ab aa k acc _ h;omega|succ m ih=>
  intro ab aa k acc hp h hk ha;have ac:cs.length=ab.length+aa.length:=by rw[hp];simp
  rw[qcg,q25]
  cases aa with
  |nil=>
   rw[ao (by simp only[qZ]at ac;omega)]
   exact⟨_,rfl,by rw[tz];rfl⟩
  |cons c aa=>
   simp only[qL]at h ac;have hc:cs[((ab.length:Nat):Int).toNat]? = some c:=by rw[hp];exact ic ab c aa
   obtain⟨R,g1,g2⟩:=hrs c (by rw[hp];simp) k hk
   rw[af oA,af oA,hc,qB,g1,qB]
   rw[tz];have hok:=q83 (ik n) (fun l b k=>qdu n l b k) c k
   cases hr:yd (ik n) c k with
   |inr e=>
    rw[hr]at g2;obtain⟨q1,q2⟩:=g2;rw[q1,cu];exact⟨_,rfl,rfl,q2⟩
   |inl x=>
    rw[hr]at g2 hok;have g2:R=(x.1,(true,((x.2:Int),(0,0)))):=g2;subst g2;obtain⟨o1,o2,_,_⟩:=hok;simp only[dc];rw[bq,af oB,ar _]
    have:=ih (ab++[c]) aa x.2 (acc++[x.1]) (by rw[hp];simp) oA o2 oB
    rw[qM,wD]at this;exact this
def zz3(fu:Nat)(hfu:90000000<=fu):∀(n m:Nat)(l:List aq)(b:Bs)(d:Int)(k:Nat),d+n=8->0<=d->n<=m->Mo l b->k<40 ->
  ∃R,zt (ww fu m) fu b d ((k:Int),(0,0)) l=some R/\okR R (ik n l b k):=by
 intro n
 induction n with
 |zero=>
  intro m l b d k hd h0 hm hmo hk;have hs:=hmo.smT;unfold zt;have hc1:gv l=some l:=by unfold gv;rw[af (by have:=hmo.1;have:=iq;omega)]
  have hc2:gv b=some b:=by unfold gv;rw[af (by have:=hmo.2.2;have:=iq;omega)]
  have hin:qce fu l b d=some []:=by
   rw[q66 fu hfu l b d hs]
   cases bnd l with|none=>rfl|some bb=>exact congrArg some (qW oA)
  rw[hc1,hc2,hin];simp only[qB];rw[au,ar _]
  exact⟨_,rfl,rfl⟩
 |succ n ih=>
  intro m l b d k hd h0 hm hmo hk;have hs:=hmo.smT;have hrm:=iq;unfold zt;have hc1:gv l=some l:=by unfold gv;rw[af (by have:=hmo.1;omega)]
  have hc2:gv b=some b:=by unfold gv;rw[af (by have:=hmo.2.2;omega)]
  rw[hc1,hc2,q66 fu hfu l b d hs];simp only[qB];rw[ik,ar _]
  unfold vf
  cases hb:bnd l with
  |none=>simp only[];rw[au];exact⟨_,rfl,rfl⟩|some bb=>
   simp only[];rw[qX (show d<8 by omega)]
   by_cases hc:gn b bb=[]
   ·rw[qX hc,hc,au];exact⟨_,rfl,rfl⟩
   ·rw[qW hc];have hcl:(gn b bb).length≠0:=by cases hh:gn b bb with|nil=>exact absurd hh hc|cons=>simp
    rw[aw oB]
    have ht:∃mt,iv l=some mt:=by
     cases ht:iv l with
     |none=>unfold bnd at hb;rw[ht]at hb;cases hb
     |some mt=>exact⟨mt,rfl⟩
    obtain⟨mt,ht⟩:=ht;rw[zs8 fu hfu l (fun x hx=>by have:=hmo.2.1 x hx;omega) (by have:=hmo.1;omega) mt ht,ht,qB]
    simp only[];have hkid:vf l b=if 4000<(ej (gm mt)).length then none else some (kj l (ej (gm mt)),gn b bb):=by
     unfold vf;rw[hb];simp only[];rw[qW hc,ht]
    by_cases h4:4000<(ej (gm mt)).length
    ·rw[qX h4,qX h4,cu];exact⟨_,rfl,rfl⟩
    ·rw[qW h4]at hkid;rw[qW h4,qW h4,bq];obtain⟨q1,q2,q3⟩:=zif hkid hmo;have hcon:=zf7 b bb;have hb12:=hmo.2.2;have:=zz4 fu fu (ww fu m) d n (kj l (ej (gm mt))) (gn b bb) oA q1 (by
      intro c hc' k' hk';obtain⟨m',rfl⟩:∃m',m=m'+1:=⟨m-1,oA⟩
      rw[ww,qs4,z1j fu hfu c];simp only[qB,ji];unfold yd;by_cases hr:(du c).2.1.1=0
      ·rw[aw (by simpa using hr),qW (by simpa using hr)]
       obtain⟨p1,p2,p3⟩:=qw1 hr;by_cases h40:40<=k'
       ·rw[qX h40,au oB]
        exact⟨_,rfl,rfl,rfl⟩
       ·rw[qW h40,aw oB,af ⟨p2,p3⟩]
        have hw:ae (d+1)=d+1:=by rw[show d=((d.toNat:Nat):Int) by omega];exact ar _
        obtain⟨R,r1,r2⟩:=ih m' (du c).2.2 (c.drop (du c).1.toNat) (ae (d+1)) k' (by rw[hw];omega) (by rw[hw];omega) oA p1 oA
        rw[r1,qB];refine⟨_,rfl,?_⟩;rw[dc];exact r2
      ·rw[au (by simpa using hr),qX hr]
       exact⟨_,rfl,rfl,rfl⟩) [] (gn b bb) (k+1) [] rfl oA oA oC
     exact this
def zz0(fu:Nat):qs3 fu=fun l b d x=>zt (ww fu fu) fu b d x l:=by
 have hp:∀n,qmu fu n=qcg (ww fu fu) fu n:=by
  intro n
  induction n with|zero=>rfl|succ n ih=>rw[qmu,qcg,ih];rfl
 funext l b d x;unfold qs3 zt;rw[hp]
def okD(R:p9)(s:(TP×Nat) ⊕ (Int×Int)):Prop:=match s with|.inl x=>R=(x.1,((x.2:Int),(0,0)))|.inr e=>R.2.2=e
def qg5(n:Nat)(l:List aq)(b:Bs)(k:Nat):(TP×Nat) ⊕ (Int×Int):=if 40<=k then .inr (2,-7) else ik n l b k
def zu3(fu m:Nat)(hfu:90000000<=fu)(rs:((List (Bs×Bs))->Bs->Int->Int->Option p9))(d:Int)(n:Nat)(z:Int×Int)(l:List aq)(b:Bs)(f:List aq)(cs:List Bs)(hcs:cs.length<=4000000)
  (hrs:∀c∈cs,(du c).2.1.1=0->∀k:Nat,k<=40->∃R,rs (du c).2.2 (c.drop (du c).1.toNat) (ae (d+1)) (k:Int)=some R/\okD R (qg5 n (du c).2.2 (c.drop (du c).1.toNat) k)) :
  ∀(ab aa:List Bs)(k:Nat)(acc:List TP),cs=ab++aa->aa.length<m->k<=40->acc.length<=k ->
  ∃R,qlf rs fu m d (k:Int) (ab.length:Int) z l b cs f acc=some R/\okD R (tz (ik n) f aa k acc):=by
 have hrm:=iq
 induction m with
 |zero=>intro ab aa k acc _ h;omega|succ m ih=>
  intro ab aa k acc hp h hk ha;have ac:cs.length=ab.length+aa.length:=by rw[hp];simp
  rw[qlf,q02]
  cases aa with
  |nil=>
   rw[ao (by simp only[qZ]at ac;omega)]
   exact⟨_,rfl,by rw[tz];rfl⟩
  |cons c aa=>
   simp only[qL]at h ac;have hc:cs[((ab.length:Nat):Int).toNat]? = some c:=by rw[hp];exact ic ab c aa
   rw[af oA,af oA,hc,qB,z2v fu hfu c,qB,tz]
   have hok:=q83 (ik n) (fun l b k=>qdu n l b k) c k
   have hrd:yd (ik n) c k=if(du c).2.1.1≠0 then .inr ((du c).2.1.1,-8) else qg5 n (du c).2.2 (c.drop (du c).1.toNat) k:=rfl
   by_cases hr:(du c).2.1.1=0
   ·rw[qW (by simpa using hr)]at hrd
    obtain⟨p1,p2,p3⟩:=qw1 hr;obtain⟨R,g1,g2⟩:=hrs c (by rw[hp];simp) hr k hk
    rw[aw (by simpa using hr),af oA,qB,af ⟨p2,p3⟩,g1,qB]
    rw[← hrd]at g2
    cases hx:yd (ik n) c k with
    |inr e=>
     rw[hx]at g2 hok;have g2:R.2.2=e:=g2;have hok:e.1≠0:=hok;rw[au (by rw[g2];simpa using hok)]
     exact⟨_,rfl,g2⟩
    |inl x=>
     rw[hx]at g2 hok;have g2:R=(x.1,((x.2:Int),(0,0))):=g2;subst g2;obtain⟨o1,o2,_,_⟩:=hok;simp only[dc];rw[aw (by rfl),af oB,ar _]
     have:=ih (ab++[c]) aa x.2 (acc++[x.1]) (by rw[hp];simp) oA o2 oB
     rw[qM,wD]at this;exact this
   ·rw[qX hr]at hrd;rw[hrd,au (by simpa using hr)]
    exact⟨_,rfl,rfl⟩
def zu2(fu m:Nat)(hfu:90000000<=fu)(rs:((List (Bs×Bs))->Bs->Int->Int->Option p9))(d k:Int)(z:Int×Int)(l:List aq)(b:Bs)(cs:List Bs)(M:eg)(hM:(ig M).1=0):∀(ab aa:List ce),M.2.2=ab++aa->aa.length<m ->
  qlc rs fu m l d k (ab.length:Int) z l b cs M M.1 M.2.1 (ab.filter jj)=qle rs fu l d k (ej (gm M)) (decide (cs=[])||decide (4000<(ej (gm M)).length)) z l b cs:=by
 have hrm:=iq;obtain⟨v1,v2,v3,v4⟩:=vi hM
 induction m with
 |zero=>intro ab aa _ h;omega|succ m ih=>
  intro ab aa hp h;have ac:M.2.2.length=ab.length+aa.length:=by rw[hp];simp
  rw[qlc,q01]
  cases aa with
  |nil=>
   have e:ab=M.2.2:=by rw[hp,List.append_nil]
   rw[ao (by simp only[qZ]at ac;omega),e,show((M.1,(M.2.1,M.2.2.filter jj)):eg)=gm M from rfl,zk8 fu hfu _ (vi (ze8 hM)),qB]
   cases cs with
   |nil=>rw[au];rfl|cons c cs=>
    have e2:decide ((4000:Int)<((ej (gm M)).length:Int))=(decide (c::cs=[])||decide (4000<(ej (gm M)).length)):=by
     rw[decide_eq_false (by simp:¬c::cs=[]),Bool.false_or];exact decide_eq_decide.2 oA
    rw[aw oB,e2]
  |cons y w=>
   simp only[qL]at h ac;have hx:ai M.2.2 (ab.length:Int)=some y:=by rw[hp];exact a6 ab y w
   have st:=ih (ab++[y]) w (by rw[hp];simp) oA
   rw[qM,wD,List.filter_append,List.filter_cons]at st;have hy:=v4 y (by rw[hp];simp)
   have hfl:=List.length_filter_le jj ab;rw[af oA,hx,qB,se fu hfu _ _ oA oC,qB]
   have hk:jj y = !(lk y.1 dy):=rfl;rw[hk]at st;cases hd:lk y.1 dy
   ·rw[hd]at st;rw[cu,qB,af oB,qld,ar _]
    simpa using st
   ·rw[hd]at st;rw[bq,qld,ar _]
    simpa using st
def zu4(fu:Nat)(hfu:90000000<=fu):∀(n m:Nat)(l:List aq)(b:Bs)(d:Int)(k:Nat),d+n=8->0<=d->n<m->Mo l b->k<=40 ->
  ∃R,pz fu m l b d (k:Int)=some R/\okD R (qg5 n l b k):=by
 intro n
 induction n with
 |zero=>
  intro m l b d k hd h0 hm hmo hk;have hs:=hmo.smT;obtain⟨m,rfl⟩:∃m',m=m'+1:=⟨m-1,oA⟩
  rw[pz,qlb];unfold qg5;by_cases h4:40<=k
  ·rw[qX h4,af oA];exact⟨_,rfl,rfl⟩
  ·rw[qW h4,ao]
   obtain⟨R,g1,g2⟩:=q45 fu hfu l hs.1.1;rw[g1,qB];have:∃fl,(bif !R.2 then wo (pz fu m) fu l b d (k:Int) R.1 true ((0:Int),(0:Int)) l b else wo (pz fu m) fu l b d (k:Int) R.1 (d==(8:Int)) ((0:Int),(0:Int)) l b)=wo (pz fu m) fu l b d (k:Int) R.1 fl ((0:Int),(0:Int)) l b/\fl=true:=by
    cases R.2
    ·exact⟨_,rfl,rfl⟩
    ·exact⟨_,rfl,oB⟩
   obtain⟨fl,e1,rfl⟩:=this;rw[e1,wo,au rfl,ar _]
   exact⟨_,rfl,rfl⟩
 |succ n ih=>
  intro m l b d k hd h0 hm hmo hk;have hs:=hmo.smT;obtain⟨m,rfl⟩:∃m',m=m'+1:=⟨m-1,oA⟩
  rw[pz,qlb];unfold qg5;by_cases h4:40<=k
  ·rw[qX h4,af oA];exact⟨_,rfl,rfl⟩
  ·rw[qW h4,ao]
   obtain⟨R,g1,g2⟩:=q45 fu hfu l hs.1.1;rw[g1,qB,ik];unfold vf
   cases hb:bnd l with
   |none=>
    rw[hb]at g2;simp only at g2;rw[g2,cu,wo,au rfl,ar _]
    exact⟨_,rfl,rfl⟩
   |some bb=>
    rw[hb]at g2;simp only at g2;subst g2;simp only[];have ht:∃mt,iv l=some mt:=by
     cases ht:iv l with
     |none=>unfold bnd at hb;rw[ht]at hb;cases hb
     |some mt=>exact⟨mt,rfl⟩
    obtain⟨mt,ht⟩:=ht;have h0':=qh4 ht;have hbl:=q5n hb;rw[bq,wo,aw oB,q03,zkd fu hfu b bb hs.2.2.2,qB,q98 fu hfu l hs.1.1,ht,qB]
    simp only[];have hv3:=(vi h0').2.2.1;have st:=zu2 fu fu hfu (pz fu m) d (k:Int) (0,0) l b (gn b bb) mt h0' [] mt.2.2 rfl oA
    rw[List.filter_nil,qZ]at st;rw[show((0:Int))=((0:Nat):Int) from rfl]at *
    rw[st,qle];have hkid:vf l b=if gn b bb=[] then none else if 4000<(ej (gm mt)).length then none else some (kj l (ej (gm mt)),gn b bb):=by
     unfold vf;rw[hb];simp only[];rw[ht]
    by_cases hc:gn b bb=[]
    ·rw[qX hc,au (by simp[hc]),ar _];exact⟨_,rfl,rfl⟩
    ·rw[qW hc]at hkid ⊢;by_cases h5:4000<(ej (gm mt)).length
     ·rw[qX h5,au (by simp[h5]),ar _];exact⟨_,rfl,rfl⟩
     ·rw[qW h5]at hkid ⊢;rw[aw (by simp[h5,hc]),q04,z11 fu hfu l (fun x hx=>(hs.2.2.1 x hx).1) hs.2.1,qB,ar _]
      have hcon:=zf7 b bb;have hb12:=hmo.2.2;exact zu3 fu fu hfu (pz fu m) d n (0,0) l b (kj l (ej (gm mt))) (gn b bb) oA (by
       intro c _ hr k' hk';have hw:ae (d+1)=d+1:=by rw[show d=((d.toNat:Nat):Int) by omega];exact ar _
       exact ih m (du c).2.2 (c.drop (du c).1.toNat) (ae (d+1)) k' (by rw[hw];omega) (by rw[hw];omega) oA (qw1 hr).1 hk') [] (gn b bb) (k+1) [] rfl oA oA oC
def eq(fu:Nat)(m:List aq×Bs):TP×(Int×Int):=if(qn m).1≠0 then(emT,qn m) else match ik 8 m.1 m.2 0 with|.inr e=>(emT,e)|.inl x=>if(kh fu x.1).1≠0 then(emT,((kh fu x.1).1,-9)) else(x.1,(0,0))
def qwm{m:List aq×Bs}(h:(qn m).1=0):Mo m.1 m.2:=by
 obtain⟨_,h1,h2,h3,_⟩:=zyw h;refine⟨h1,fun y hy => ?_,oA⟩
 obtain⟨g1,g2,_,_⟩:=qhq (h2 y hy);omega
def q9l{l:List aq}{b:Bs}{x:TP×Nat}(hm:Mo l b)(h:ik 8 l b 0 = .inl x):gd x.1:=by
 have:=qdu 8 l b 0 hm oA
 rw[h]at this;obtain⟨_,h2,h3,h4⟩:=this;exact zwb h2 h3 h4
def z3z(fu:Nat)(hfu:90000000<=fu)(m:List aq×Bs)(hs:ot m):qsr fu m=some (eq fu m):=by
 unfold qsr eq;rw[z5l fu hfu m hs,qB,ji,qB,dz];by_cases h:(qn m).1=0
 ·rw[qW (by simpa using h),qW (by simpa using h)]
  have hm:=qwm h;obtain⟨R,g1,g2⟩:=zz3 fu hfu 8 fu m.1 m.2 0 0 oA oA oA hm oA
  rw[zz0];show(zt (ww fu fu) fu m.2 0 (((0:Nat):Int),(0,0)) m.1).bind _=_;rw[g1,qB]
  cases hx:ik 8 m.1 m.2 0 with
  |inr e=>
   rw[hx]at g2;obtain⟨q1,q2⟩:=g2;rw[q1,cu,q2]
  |inl x=>
   rw[hx]at g2;have g2:R=(x.1,(true,((x.2:Int),(0,0)))):=g2;subst g2;have hg:=q9l hm hx;simp only[dc];rw[bq,z02 fu hfu x.1 hg,qB,ji,qB,dz];by_cases hp:(kh fu x.1).1≠0
   ·rw[qX hp,qX hp];rfl
   ·rw[qW hp,qW hp];rfl
 ·rw[qX h,qX h]
def q8l(fu:Nat)(hfu:90000000<=fu)(m:List aq×Bs)(hs:ot m):qfc fu m=some (eq fu m):=by
 unfold qfc eq;rw[zvr fu hfu m hs,qB,dz];by_cases h:(qn m).1=0
 ·rw[qW (by simpa using h),qW (by simpa using h)]
  have hm:=qwm h;obtain⟨R,g1,g2⟩:=zu4 fu hfu 8 fu m.1 m.2 0 0 oA oA oA hm oA
  unfold zc2;show(pz fu fu m.1 m.2 0 ((0:Nat):Int)).bind _=_;rw[g1,qB];unfold qg5 at g2;rw[qW oA]at g2
  have hok:=qdu 8 m.1 m.2 0 hm oA
  cases hx:ik 8 m.1 m.2 0 with
  |inr e=>
   rw[hx]at g2 hok;have g2:R.2.2=e:=g2;have hok:e.1≠0:=hok;rw[g2,dz,qX hok]
  |inl x=>
   rw[hx]at g2;have g2:R=(x.1,((x.2:Int),(0,0))):=g2;subst g2;have hg:=q9l hm hx;simp only[dc];rw[aw (by rfl),zz2 fu hfu x.1 hg,qB,dz]
   by_cases hp:(kh fu x.1).1≠0
   ·rw[qX hp,qX hp];rfl
   ·rw[qW hp,qW hp,zz9 (by simpa using hp)]
 ·rw[qX h,qX h]
def qxh(fu:Nat)(m:List aq×Bs):gd (eq fu m).1:=by
 unfold eq;split
 ·exact q61
 ·rename_i h0
  cases hx:ik 8 m.1 m.2 0 with
  |inr e=>exact q61|inl x=>
   simp only;split
   ·exact q61
   ·exact q9l (qwm (by simpa using h0)) hx
def zlo:∀(L:List (TP×Int))(i:Nat),ij L i=none->∀x∈L,l5 x.1 x.2=0
 |[],_,_,x,hx=>by cases hx
 |y::L,i,h,x,hx=>by
  rw[ij]at h;split at h
  ·cases h
  ·rename_i hc;rcases List.mem_cons.1 hx with e|e
   ·rw[e];omega
   ·exact zlo L _ h x e
def q8p{fu:Nat}{t:TP}(h:(kh fu t).1=0):(bj fu t 0).length<=40/\(∀x∈bj fu t 0,l5 x.1 x.2=0)/\∀x∈bj fu t 0,x.2<=8:=by
 unfold kh at h;split at h
 ·cases h
 ·rename_i h1;split at h
  ·cases h
  ·rename_i h2;have hn:ij (bj fu t 0) 0=none:=by
    cases hr:ij (bj fu t 0) 0 with|none=>rfl|some f=>rw[hr]at h;exact absurd h (q9g _ _ f hr).1
   refine⟨oA,fun x hx=>zlo _ _ hn x hx,fun x hx => ?_⟩
   have:¬(8<x.2):=fun q=>h2 (List.any_eq_true.2 ⟨x,hx,by simpa using q⟩)
   omega
def q8m{t:TP}{d:Int}(h:l5 t d=0):t.val.1.length<=60/\(∀x∈t.val.1,x.1.length<=60/\x.2.length<=4000)/\(t.kids.length=0->t.val.2.length<=12000):=by
 unfold l5 at h;split at h
 ·rename_i q;exact absurd h q
 ·rename_i q;obtain⟨_,h1,h2⟩:=qvk (l:=t.val.1) (by simpa using q)
  refine⟨h1,fun x hx=>⟨(qhq (h2 x hx)).1,(qhq (h2 x hx)).2.1⟩,fun h0 => ?_⟩
  rw[qW oA]at h
  split at h
  ·cases h
  ·omega
def Ins(x:aq)(l l':List aq):Prop:=∃ab aa,l=ab++aa/\l'=ab++x::aa
def Ins.len{x:aq}{l l':List aq}(h:Ins x l l'):l'.length=l.length+1:=by
 obtain⟨p,s,rfl,rfl⟩:=h;simp;omega
def Ins.mem{x y:aq}{l l':List aq}(h:Ins x l l')(hy:y∈l'):y=x\/y∈l:=by
 obtain⟨p,s,rfl,rfl⟩:=h;simp at hy ⊢;rcases hy with q|q|q
 ·exact .inr (.inl q)
 ·exact .inl q
 ·exact .inr (.inr q)
section
variable{x:aq}{l l':List aq}(h:Ins x l l')(hx:lk x.1 bu=false)
include h hx
end
def qxi{fu:Nat}{m:List aq×Bs}(h:(eq fu m).2.1=0):(kh fu (eq fu m).1).1=0:=by
 unfold eq at h ⊢;split
 ·rename_i h0;rw[qX h0]at h;exact absurd h h0
 ·rename_i h0;rw[qW h0]at h
  cases hx:ik 8 m.1 m.2 0 with
  |inr e=>
   rw[hx]at h;have hok:=qdu 8 m.1 m.2 0 (qwm (by simpa using h0)) oA
   rw[hx]at hok;exact absurd h hok
  |inl x=>
   rw[hx]at h;simp only at h ⊢;split
   ·rename_i h1;rw[qX h1]at h;exact absurd h h1
   ·rename_i h1;simpa using h1
end Go.Sym
namespace Go.Sym
def sq:Bool->Bs->Bs|_,[]=>[]|p,c::r=>if bl c then(if p then sq true r else 32::sq true r) else c::sq false r
def vq(l:Bs):Bs:=if l.getLast? = some 32 then l.dropLast else l
def il(s:Bs):Bs:=vq (sq false s)
def qxj:∀(p:Bool)(s:Bs),(sq p s).length<=s.length
 |_,[]=>wF _|p,c::r=>by
  unfold sq;split
  ·split
   ·have:=qxj true r;simp only[qL];omega
   ·have:=qxj true r;simp only[qL];omega
  ·have:=qxj false r;simp only[qL];omega
def z44(l:Bs):(vq l).length<=l.length:=by unfold vq;split<;>simp
def qdv(s:Bs):(il s).length<=s.length:=Nat.le_trans (z44 _) (qxj _ _)
def zm0(t:Bs)(c:UInt8):vq (t++[c])=if c=32 then t else t++[c]:=by
 unfold vq;simp
def qwc(l:Bs):l=[]\/∃t c,l=t++[c]:=by
 rcases List.eq_nil_or_concat l with h|⟨t,c,h⟩
 ·exact .inl h
 ·exact .inr ⟨t,c,by rw[h,List.concat_eq_append]⟩
def zfg{c:UInt8}(h:bl c=false):c≠32:=by rintro rfl;cases h
def qo3:Bs->Bool|[]=>true|c::r => !(c==13&&r.head? == some 10)&&qo3 r
def bi:Bs->Bs×Option Bs|[]=>([],none)|c::r=>if c=13/\r.head? = some 10 then([],some r.tail) else(c::(bi r).1,(bi r).2)
def qgw:∀(s r:Bs),(bi s).2=some r->r.length+2+(bi s).1.length=s.length
 |[],_,h=>by cases h
 |c::s,r,h=>by
  unfold bi at h ⊢;split at h
  ·rename_i hc;rw[qX hc];simp only[qI]at h;subst h
   cases s with
   |nil=>cases hc.2
   |cons d s=>simp
  ·rename_i hc;rw[qW hc];have:=qgw s r h;simp only[qL];omega
def qu0:∀(s:Bs),(bi s).2=none->(bi s).1=s/\qo3 s=true
 |[],_=>⟨rfl,rfl⟩|c::s,h=>by
  unfold bi at h ⊢;split at h
  ·cases h
  ·rename_i hc;rw[qW hc];obtain⟨h1,h2⟩:=qu0 s h;refine⟨by rw[h1],?_⟩
   simp only[qo3,h2,Bool.and_true,Bool.not_eq_true',Bool.and_eq_false_iff,beq_eq_false_iff_ne];by_cases h13:c=13
   ·exact .inr fun k=>hc ⟨h13,k⟩
   ·exact .inl h13
def q55:∀(s r:Bs),(bi s).2=some r->s=(bi s).1++[13,10]++r/\qo3 ((bi s).1++[13])=true
 |[],_,h=>by cases h
 |c::s,r,h=>by
  unfold bi at h ⊢;split at h
  ·rename_i hc;rw[qX hc];simp only[qI]at h;subst h
   cases s with
   |nil=>cases hc.2
   |cons d s=>
    have:d=10:=by simpa using hc.2
    rw[hc.1,this];exact⟨rfl,rfl⟩
  ·rename_i hc;rw[qW hc];obtain⟨h1,h2⟩:=q55 s r h;refine⟨congrArg (List.cons c) h1,?_⟩;simp only[wK,qo3,h2,Bool.and_true,Bool.not_eq_true',Bool.and_eq_false_iff,beq_eq_false_iff_ne];by_cases h13:c=13
   ·refine .inr fun k=>hc ⟨h13,?_⟩
    rw[h1]
    cases hq:(bi s).1 with|nil=>rw[hq]at k;simp at k|cons d q=>rw[hq]at k;simpa using k
   ·exact .inl h13
def qj:Nat->Bs->List Bs
 |0,_=>[]|n+1,s=>match(bi s).2 with|none=>[s]|some r=>(bi s).1::qj n r
def ny:Nat->Bs|0=>[]|n+1=>13::10::ny n
def lr:List Bs->Nat->Bs|[],_=>[]|l::r,e=>if il l=[] then lr r (e+1) else ny e++il l++[13,10]++lr r 0
def xf(b:Bs):Bs:=lr (qj (b.length+1) b) 0
def q7o:∀(n m:Nat)(s:Bs),s.length<n->s.length<m->qj n s=qj m s
 |0,_,_,h,_=>by omega|_,0,_,_,h=>by omega|n+1,m+1,s,h1,h2=>by
  unfold qj;split
  ·rfl
  ·rename_i r hr;have:=qgw s r hr;rw[q7o n m r oA oA]
def q5i:∀(ls:List Bs)(e:Nat),(lr ls e).length<=2*e+(ls.map fun l=>l.length+2).sum
 |[],e=>by simp[lr]|l::r,e=>by
  unfold lr;have hr2:∀k,(ny k).length=2*k:=by
   intro k
   induction k with|zero=>rfl|succ k ih=>simp only[ny,qL,ih];omega
  split
  ·have:=q5i r (e+1);simp only[List.map_cons,List.sum_cons];omega
  ·have:=q5i r 0;have h3:=qdv l;simp only[List.map_cons,List.sum_cons,qM,hr2,qL,qZ];omega
end Go.Sym
namespace Go.Sym.Tr
def lo(c:UInt8):UInt8:=if 65<=c/\c<=90 then c+32 else c
def q7p(c:UInt8):(c+97)-65=c+32:=by
 rw[UInt8.sub_eq_add_neg,UInt8.add_assoc];rfl
def qow(fu:Nat):∀(n:Nat)(ab aa:List UInt8),aa.length<n->ab.length+aa.length<=9223372036854775807 ->
  ws fu n ((ab.length+aa.length:Nat):Int) (ab.length:Int) (ab++aa)=some (ab++aa.map lo)
 |0,_,_,h,_=>absurd h oA|n+1,ab,[],_,_=>by simp[ws,qfi]|n+1,ab,c::aa,h,hb=>by
  simp only[qL]at h hb;have ih:=fun d=>qow fu n (ab++[d]) aa oA oB
  simp only[qM,qL,qZ,qS,wM,wO]at ih;have e:((ab.length+(c::aa).length:Nat):Int)=((ab.length+1+aa.length:Nat):Int):=by simp only[qL];omega
  have hl:0<=(ab.length:Int)/\(ab.length:Int).toNat<(ab++c::aa).length:=oC
  rw[e];simp only[ws,qfi];rw[af oA,af hl,ic,qB,pm,ar _,bp,bp,ih,ih,af hl,qB]
  unfold lo;simp only[List.map_cons,q7p];by_cases h1:(65:UInt8)<=c
  ·by_cases h2:c<=90
   ·simp[h1,h2]
   ·simp[h1,h2]
  ·simp[h1]
def qhl(fu:Nat)(s:List UInt8)(h:s.length<fu)(hb:s.length<=maxLen):zh fu s=some (s.map lo):=by
 unfold zh;rw[af hb];have:=qow fu fu [] s h (by simpa [maxLen] using hb)
 simpa using this
def mi(x a b:Int):gg x a b=some (decide (a<=x/\x<=b)):=by
 unfold gg;by_cases h:a<=x<;>simp[h]
def qpr(a b:UInt8):((a.toNat:Int)<=(b.toNat:Int))↔a<=b:=by rw[UInt8.le_iff_toNat_le];omega
def qpb(fu:Nat):∀(n:Nat)(ab aa:List UInt8),aa.length<n->ab.length+aa.length<=9223372036854775807 ->
  wl fu n (ab.length:Int) (ab++aa)=some (ab++aa.map lo)
 |0,_,_,h,_=>absurd h oA|n+1,ab,[],_,_=>by simp[wl,qek]|n+1,ab,c::aa,h,hb=>by
  simp only[qL]at h hb;have ih:=fun d=>qpb fu n (ab++[d]) aa oA oB
  simp only[qM,qL,qZ,qS,wM,wO]at ih;have hl:0<=(ab.length:Int)/\(ab.length:Int).toNat<(ab++c::aa).length:=oC
  simp only[wl,qek];rw[af oB,af hl,ic,qB,mi,qB,ar _,bp,af hl,qB,af hl,qB,pm,ih,ih]
  unfold lo;simp only[List.map_cons];have e1:=qpr 65 c;have e2:=qpr c 90;have q1:((65:UInt8).toNat:Int)=65:=rfl;have q2:((90:UInt8).toNat:Int)=90:=rfl;rw[q1]at e1;rw[q2]at e2;by_cases h1:(65:UInt8)<=c/\c<=90
  ·rw[qX ⟨e1.2 h1.1,e2.2 h1.2⟩,qX h1]
  ·rw[qW (fun q=>h1 ⟨e1.1 q.1,e2.1 q.2⟩),qW h1]
def ya(fu:Nat)(s:List UInt8)(h:s.length<fu)(hb:s.length<=maxLen):rq fu s=some (s.map lo):=by
 unfold rq;rw[af hb];have:=qpb fu fu [] s h (by simpa [maxLen] using hb)
 simpa using this
def z3n(fu:Nat)(a b:List UInt8)(ha:a.length<fu)(hb:b.length<fu)(ha':a.length<=maxLen)(hb':b.length<=maxLen):fw fu a b=some (a.map lo==b.map lo):=by
 unfold fw;rw[d6,qhl fu a ha ha',qhl fu b hb hb'];by_cases h:(a.length:Int)=b.length
 ·rw[qX h];rfl
 ·rw[qW h];have:(a.map lo==b.map lo)=false:=by
   rw[beq_eq_false_iff_ne];intro q;apply h;have:=congrArg List.length q;simp only[wC]at this;omega
  rw[this]
def qt8(fu:Nat)(a b:List UInt8)(ha:a.length<fu)(hb:b.length<fu)(ha':a.length<=maxLen)(hb':b.length<=maxLen):fg fu a b=some (a.map lo==b.map lo):=by
 unfold fg;rw[ya fu a ha ha',ya fu b hb hb'];rfl
abbrev n7:List UInt8:=[55,98,105,116]
abbrev n8:List UInt8:=[56,98,105,116]
abbrev nk:List UInt8:=[98,97,115,101,54,52]
abbrev nq:List UInt8:=[113,117,111,116,101,100,45,112,114,105,110,116,97,98,108,101]
def cod(s:List UInt8):Int:=if n7.map lo=s.map lo then 0 else if n8.map lo=s.map lo then 1 else if nk.map lo=s.map lo then 2 else if nq.map lo=s.map lo then 3 else -1
def zfa{α:Type}{a b:List UInt8}{x y:α}:(bif a==b then x else y)=if a=b then x else y:=by
 by_cases h:a=b
 ·rw[au (by simp[h]),qX h]
 ·rw[aw (by simp[h]),qW h]
def coding_eq(fu:Nat)(s:List UInt8)(hf:20<=fu)(h:s.length<fu)(hb:s.length<=maxLen):qkw fu s=some (cod s):=by
 unfold qkw;have A:∀a:List UInt8,a.length<=16->fg fu a s=some (a.map lo==s.map lo):=fun a ha=>qt8 fu a s oA h oM hb
 simp only[af (show 0<=(0:Int)/\(0:Int).toNat<List.length [n7,n8,nk,nq] by decide),af (show 0<=(1:Int)/\(1:Int).toNat<List.length [n7,n8,nk,nq] by decide),af (show 0<=(2:Int)/\(2:Int).toNat<List.length [n7,n8,nk,nq] by decide),af (show 0<=(3:Int)/\(3:Int).toNat<List.length [n7,n8,nk,nq] by decide)]
 simp only[show([n7,n8,nk,nq])[(0:Int).toNat]? = some n7 from rfl,show([n7,n8,nk,nq])[(1:Int).toNat]? = some n8 from rfl,show([n7,n8,nk,nq])[(2:Int).toNat]? = some nk from rfl,show([n7,n8,nk,nq])[(3:Int).toNat]? = some nq from rfl,qB]
 rw[A n7 oF,A n8 oF,A nk oF,A nq oF]
 simp only[qB,zfa];unfold cod;simp only[qxg]
def zvu(fu:Nat)(s:List UInt8)(hf:20<=fu)(h:s.length<fu)(hb:s.length<=maxLen):qts fu s=some (if cod s=0 then .inl (n7,(true,127)) else if cod s=1 then .inl (n8,(true,255)) else if cod s=2 then .inr (.inl (nk,true)) else if cod s=3 then .inr (.inr (.inl (nq,true))) else .inr (.inr (.inr ([],false)))):=by
 unfold qts qtt;have A:∀a:List UInt8,a.length<=16->fw fu a s=some (a.map lo==s.map lo):=fun a ha=>z3n fu a s oA h oM hb
 simp only[qB];rw[A n7 oF,A n8 oF,A nk oF,A nq oF]
 simp only[qB,zfa];unfold cod;by_cases h0:n7.map lo=s.map lo
 ·simp only[qX h0];rfl
 ·by_cases h1:n8.map lo=s.map lo
  ·simp only[qW h0,qX h1];rfl
  ·by_cases h2:nk.map lo=s.map lo
   ·simp only[qW h0,qW h1,qX h2];rfl
   ·by_cases h3:nq.map lo=s.map lo
    ·simp only[qW h0,qW h1,qW h2,qX h3];rfl
    ·simp only[qW h0,qW h1,qW h2,qW h3];rfl
end Go.Sym.Tr
namespace Go.Sym.Tr
def wr(m:UInt8)(col i:Nat):List UInt8->Int|[] => -1|c::r=>if(c==13&&r.head? == some 10)=true then wr m 0 (i+2) r.tail else if c=0\/c=13\/c=10\/m<c\/col=998 then(i:Int) else wr m (col+1) (i+1) r
termination_by l=>l.length
decreasing_by all_goals (simp only[qL,List.length_tail];omega)
end Go.Sym.Tr
namespace Go.Sym.Tr
def qua:List UInt8:=[65,66,67,68,69,70,71,72,73,74,75,76,77,78,79,80,81,82,83,84,85,86,87,88,89,90,97,98,99,100,101,102,103,104,105,106,107,108,109,110,111,112,113,114,115,116,117,118,119,120,121,122,48,49,50,51,52,53,54,55,56,57,43,47]
def al(k:Nat):UInt8:=qua.getD k 0
def c0(x:Nat):UInt8:=al (x/262144%64)
def c1(x:Nat):UInt8:=al (x/4096%64)
def c2(x:Nat):UInt8:=al (x/64%64)
def c3(x:Nat):UInt8:=al (x%64)
def qwr(x:Nat)(h:x<18446744073709551616:=by omega):(BitVec.ofInt 64 (x:Int)).toNat=x:=by
 rw[BitVec.toNat_ofInt];omega
end Go.Sym.Tr
namespace Go.Sym.Tr
end Go.Sym.Tr
namespace Go.Sym.Tr
def zy3(c:UInt8):List Nat:=[c.toNat/128%2,c.toNat/64%2,c.toNat/32%2,c.toNat/16%2,c.toNat/8%2,c.toNat/4%2,c.toNat/2%2,c.toNat%2]
def bits(b:List UInt8):List Nat:=b.flatMap zy3
abbrev kz(l:List Nat):List Int:=l.map Int.ofNat
def ztf(x k:Nat)(p:Int)(hp:p=(k:Int))(hk:k<=30):Int.tmod (Int.fdiv (x:Int) (2 ^ min p.toNat 64)) 2=((x/2 ^ k%2:Nat):Int):=by
 subst hp;have e1:min (k:Int).toNat 64=k:=oA
 have e2:Int.fdiv (x:Int) (2 ^ k)=((x/2 ^ k:Nat):Int):=by
  rw[Int.fdiv_eq_ediv_of_nonneg _ (by exact Int.le_of_lt (Int.pow_pos oF))]
  simp
 rw[e1,e2,Int.tmod_eq_emod_of_nonneg (Int.natCast_nonneg _)];generalize x/2 ^ k=y;omega
def dv(a:Nat):List Nat->Nat|[]=>a|x::l=>dv (2*a+x) l
def q9u(fu n:Nat):∀(ab aa:List Nat)(a:Nat),aa.length<n->ab.length+aa.length<9223372036854775807->(∀x∈aa,x<=1)->(a+1)*2 ^ aa.length<=1099511627776 ->
  qe3 fu n (kz (ab++aa)) (a:Int) (ab.length:Int)=some ((dv a aa:Nat):Int):=by
 induction n with
 |zero=>intro ab aa a h;omega|succ n ih=>
  intro ab aa a h hb h1 ho
  cases aa with
  |nil=>rw[qe3,qrd,ao];rfl|cons c aa=>
   simp only[qL]at h hb ho;have hc:=h1 c qH;have hidx:ai (kz (ab++c::aa)) (ab.length:Int)=some (c:Int):=by
    have:=a6 (kz ab) (c:Int) (kz aa);simpa [kz] using this
   have hp:2 ^ (aa.length+1)=2*2 ^ aa.length:=by rw[Nat.pow_succ];omega
   have hpos:1<=2 ^ aa.length:=Nat.one_le_two_pow;have hle:(2*a+c+1)*2 ^ aa.length<=1099511627776:=by
    refine Nat.le_trans ?_ ho;rw[hp,← Nat.mul_assoc];exact Nat.mul_le_mul_right _ oA
   have ha:a+1<=1099511627776:=by
    refine Nat.le_trans ?_ ho;exact Nat.le_mul_of_pos_right _ (by rw[hp];omega)
   rw[qe3,qrd,af oB,hidx,qB,ar _]
   have e:ae (ae (2*(a:Int))+(c:Int))=((2*a+c:Nat):Int):=by
    rw[bt (x:=2*(a:Int)) oA oA,bt];omega
   rw[e];have:=ih (ab++[c]) aa (2*a+c) oA oB (fun x hx=>h1 x (qE _ hx)) hle
   simp only[qM,qL,qZ,wO,qS,wM]at this;rw[this];rfl
def q9t(fu:Nat)(l:List Nat)(h:8<fu)(hl:l.length<=8)(h1:∀x∈l,x<=1):q0a fu (kz l)=some ((dv 0 l:Nat):Int):=by
 have:=q9u fu fu [] l 0 oA oB h1 (by
  have:2 ^ l.length<=2 ^ 8:=Nat.pow_le_pow_right oA hl
  omega)
 exact this
def q9s:∀(l:List Nat)(a:Nat),(∀x∈l,x<=1)->dv a l+1<=(a+1)*2 ^ l.length
 |[],a,_=>by simp[dv]|x::l,a,h=>by
  have:=q9s l (2*a+x) (fun y hy=>h y (qE _ hy))
  have hx:=h x qH;unfold dv;refine Nat.le_trans this ?_;rw[qL,Nat.pow_succ,Nat.mul_comm (2 ^ l.length) 2,← Nat.mul_assoc];exact Nat.mul_le_mul_right _ oA
def n6(a:Nat)(h:a<256):2*(2*(2*(2*(2*(2*0+a/128%2)+a/64%2)+a/32%2)+a/16%2)+a/8%2)+a/4%2=a/4:=oA
def n2(a:Nat):2*(2*0+a/2%2)+a%2=a%4:=oA
def n4(t b:Nat)(h:b<256):2*(2*(2*(2*t+b/128%2)+b/64%2)+b/32%2)+b/16%2=16*t+b/16:=oA
def x0(a b c:Nat)(h:a<256)(hb:b<256)(hc:c<256):(a*65536+b*256+c)/262144%64=a/4:=oA
def x1(a b c:Nat)(h:a<256)(hb:b<256)(hc:c<256):(a*65536+b*256+c)/4096%64=16*(a%4)+b/16:=oA
def x2(a b c:Nat)(h:a<256)(hb:b<256)(hc:c<256):(a*65536+b*256+c)/64%64=4*(b%16)+c/64:=oA
def x3(a b c:Nat)(h:a<256)(hb:b<256)(hc:c<256):(a*65536+b*256+c)%64=c%64:=oA
end Go.Sym.Tr
namespace Go.Sym.Tr
def jh(P:UInt8->Prop)(h:∀n:_root_.Fin 256,P (UInt8.ofNat n.val))(c:UInt8):P c:=by
 have:=h ⟨c.toNat,c.toNat_lt⟩;simpa using this
def isL:List UInt8->Bool|a::b::_=>a==13&&b==10|_=>false
def la{α:Type}(ab:List α)(aa:List α):List.drop ((ab.length:Nat):Int).toNat (ab++aa)=aa:=oC
def qab{α:Type}(ab:List α)(c:α)(aa:List α):List.drop ((ab.length+1:Nat):Int).toNat (ab++c::aa)=aa:=by
 rw[show((ab.length+1:Nat):Int).toNat=(ab++[c]).length by simp,show ab++c::aa=(ab++[c])++aa by simp]
 simp
end Go.Sym.Tr
namespace Go.Sym.Tr
def two(c:UInt8):List UInt8:=(uh c).getD []
def qxr:∀n:_root_.Fin 256,uh (UInt8.ofNat n.val)=some (two (UInt8.ofNat n.val))/\(two (UInt8.ofNat n.val)).length=2:=by decide +kernel
def zm1(c:UInt8):uh c=some (two c):=(jh (fun c=>uh c=some (two c)/\(two c).length=2) qxr c).1
def q95(c:UInt8):(two c).length=2:=(jh (fun c=>uh c=some (two c)/\(two c).length=2) qxr c).2
def blB(c:UInt8):Bool:=bif c==32 then true else c==9
def yc(c:UInt8):iw c=some (blB c):=by unfold iw blB;cases c==32<;>rfl
end Go.Sym.Tr
namespace Go.Sym.Tr
def sp:List UInt8->List UInt8×List UInt8|[]=>([],[])|c::r=>if isL (c::r) then([],c::r) else(c::(sp r).1,(sp r).2)
end Go.Sym.Tr
namespace Go.Sym.Tr
def cod_cases(s:List UInt8):cod s=0\/cod s=1\/cod s=2\/cod s=3\/cod s = -1:=by
 unfold cod;split
 ·exact .inl rfl
 ·split
  ·exact .inr (.inl rfl)
  ·split
   ·exact .inr (.inr (.inl rfl))
   ·split
    ·exact .inr (.inr (.inr (.inl rfl)))
    ·exact .inr (.inr (.inr (.inr rfl)))
def zf9(b:List UInt8)(h:b.length<=12000:=by omega):qtr b=some ((0,0),b):=by
 unfold qtr dh;rw[af (by simp only[az];omega)];rfl
end Go.Sym.Tr
namespace Go.Sym.Tr
def jo(c:UInt8):Int:=Lib.indexByte qua c
def z5i:∀n:_root_.Fin 256,jo (UInt8.ofNat n.val) = -1\/(0<=jo (UInt8.ofNat n.val)/\jo (UInt8.ofNat n.val)<64):=by decide +kernel
def zm7(c:UInt8):jo c = -1\/(0<=jo c/\jo c<64):=jh (fun c=>jo c = -1\/(0<=jo c/\jo c<64)) z5i c
def zna(fu fu':Nat)(c:UInt8):∀(n m:Nat)(k r:Int),n<=m->zd fu n c k=some r->zd fu' m c k=some r
 |0,_,_,_,_,h=>by cases h
 |n+1,0,_,_,hm,_=>absurd hm oA|n+1,m+1,k,r,hm,h=>by
  have ih:=fun k=>zna fu fu' c n m k r oA
  rw[zd,q0d]at h ⊢;rw[bp]at h ⊢;split at h
  ·rename_i q;rw[qX q];revert h
   cases hi:ai ([65,66,67,68,69,70,71,72,73,74,75,76,77,78,79,80,81,82,83,84,85,86,87,88,89,90,97,98,99,100,101,102,103,104,105,106,107,108,109,110,111,112,113,114,115,116,117,118,119,120,121,122,48,49,50,51,52,53,54,55,56,57,43,47]:List UInt8) k with
   |none=>intro h;cases h
   |some y=>
    simp only[qB];cases y==c
    ·exact ih _
    ·exact id
  ·rename_i q;rw[qW q];exact h
def z5o:∀n:_root_.Fin 256,zd 0 66 (UInt8.ofNat n.val) 0=some (jo (UInt8.ofNat n.val)):=by decide +kernel
def z5p(fu:Nat)(c:UInt8)(h:66<=fu:=by omega):q0c fu c=some (jo c):=
 zna 0 fu c 66 fu 0 _ h (jh (fun c=>zd 0 66 c 0=some (jo c)) z5o c)
def six(v:Nat):List Nat:=[v/32%2,v/16%2,v/8%2,v/4%2,v/2%2,v%2]
def dbits:List UInt8->List Nat|[]=>[]|c::r=>if c=61 then[] else if jo c<0 then dbits r else six (jo c).toNat++dbits r
def by8:List Nat->List UInt8|a::b::c::d::e::f::g::h::r=>d9 ((dv 0 [a,b,c,d,e,f,g,h]:Nat):Int)::by8 r|_=>[]
def q9r:∀(l:List Nat)(a:Nat),dv a l=a*2 ^ l.length+dv 0 l
 |[],a=>by simp[dv]|x::l,a=>by
  rw[dv,dv,q9r l (2*a+x),q9r l (2*0+x),qL,Nat.pow_succ,Nat.add_mul,Nat.add_mul];have:2*a*2 ^ l.length=a*(2 ^ l.length*2):=by rw[Nat.mul_comm 2 a,Nat.mul_assoc,Nat.mul_comm 2]
  omega
def q9q:∀(l m:List Nat)(a:Nat),dv a (l++m)=dv (dv a l) m|[],_,_=>rfl|x::l,m,a=>q9q l m (2*a+x)
def z3q(a v:Nat)(h:v<64):dv a (six v)=64*a+v:=by
 simp only[six,dv];omega
def zl2(v:Nat):∀x∈six v,x<=1:=by
 intro x hx;simp only[six,wE,List.not_mem_nil,or_false]at hx;omega
def zfu(q r:List Nat)(h:8<=q.length:=by omega):by8 (q++r)=d9 ((dv 0 (q.take 8):Nat):Int)::by8 (q.drop 8++r):=by
 match q,h with|a::b::c::d::e::f::g::i::t,_=>simp[by8]
def by8_short(q:List Nat)(h:q.length<8):by8 q=[]:=by
 match q,h with|[],_=>rfl|[_],_=>rfl|[_,_],_=>rfl|[_,_,_],_=>rfl|[_,_,_,_],_=>rfl|[_,_,_,_,_],_=>rfl|[_,_,_,_,_,_],_=>rfl|[_,_,_,_,_,_,_],_=>rfl|_::_::_::_::_::_::_::_::_,h=>simp at h;omega
def or6(x v:Nat)(h:x<1099511627776)(hv:v<64):ae (((BitVec.ofInt 64 (ae ((x:Int)*2 ^ min (6:Int).toNat 64))|||BitVec.ofInt 64 (v:Int)).toNat:Int))=((64*x+v:Nat):Int):=by
 have e:ae ((x:Int)*2 ^ min (6:Int).toNat 64)=((64*x:Nat):Int):=by
  rw[show(2:Int) ^ min (6:Int).toNat 64=64 by decide,bt];omega
 rw[e,BitVec.toNat_or,qwr _,qwr _]
 have:=Nat.two_pow_add_eq_or_of_lt (i:=6) (b:=v) (by simpa using hv) x
 rw[← show 2 ^ 6*x+v=64*x|||v from this]
 rw[bt]
def zsg(x k:Nat)(h:x<1099511627776:=by omega)(hk:k<=20:=by omega):ae (((BitVec.ofInt 64 (x:Int)&&&BitVec.ofInt 64 (ae ((ae ((1:Int)*2 ^ min (k:Int).toNat 64))-(1:Int)))).toNat:Int))=((x%2 ^ k:Nat):Int):=by
 have e1:min (k:Int).toNat 64=k:=oA
 have hp:2 ^ k<=2 ^ 20:=Nat.pow_le_pow_right oA hk
 have hp1:1<=2 ^ k:=Nat.one_le_two_pow;have e2:ae ((1:Int)*2 ^ k)=((2 ^ k:Nat):Int):=by
  have:((2:Int) ^ k)=((2 ^ k:Nat):Int):=oC
  rw[this,bt];omega
 have e3:ae (((2 ^ k:Nat):Int)-1)=((2 ^ k-1:Nat):Int):=by rw[bt];omega
 have hm:x%2 ^ k<=x:=Nat.mod_le _ _;rw[e1,e2,e3,BitVec.toNat_and,qwr _,qwr _,Nat.and_two_pow_sub_one_eq_mod,bt]
end Go.Sym.Tr
namespace Go.Sym.Tr
def z4d(q:List Nat)(k:Nat)(h1:∀x∈q,x<=1):dv 0 (q.take k)=dv 0 q/2 ^ (q.length-k)/\dv 0 (q.drop k)=dv 0 q%2 ^ (q.length-k):=by
 have e:dv 0 q=dv 0 (q.take k)*2 ^ (q.drop k).length+dv 0 (q.drop k):=by
  rw[← q9r,← q9q,List.take_append_drop]
 have hd:=q9s (q.drop k) 0 (fun x hx=>h1 x (List.mem_of_mem_drop hx))
 rw[List.length_drop]at e hd;have hlt:dv 0 (q.drop k)<2 ^ (q.length-k):=oA
 rw[e,Nat.mul_comm,Nat.mul_add_div oA,Nat.mul_add_mod,Nat.div_eq_of_lt hlt,Nat.mod_eq_of_lt hlt]
 simp
def zx4(fu n:Nat)(m16:Int×Int):∀(ab aa:List UInt8)(p:List Nat)(out:List UInt8),aa.length<n->ab.length+aa.length<100000000->p.length<8->(∀x∈p,x<=1)->out.length+aa.length<=1000000000 ->
  qb1 fu n ((dv 0 p:Nat):Int) (p.length:Int) (ab++aa) ((ab.length+aa.length:Nat):Int) (ab.length:Int) m16 out=some ((0,0),out++by8 (p++dbits aa)):=by
 induction n with
 |zero=>intro ab aa p out h;omega|succ n ih=>
  intro ab aa p out h hb hp h1 ho
  cases aa with
  |nil=>
   rw[qb1,qrv,ao]
   simp[dh,dbits,by8_short p hp]
  |cons c aa=>
   simp only[qL]at h hb ho;have nxt:∀(p:List Nat)(out:List UInt8),p.length<8->(∀x∈p,x<=1)->out.length+aa.length<=1000000000->qb1 fu n ((dv 0 p:Nat):Int) (p.length:Int) (ab++c::aa) ((ab.length+(aa.length+1):Nat):Int) ((ab.length+1:Nat):Int) m16 out=some ((0,0),out++by8 (p++dbits aa)):=by
    intro p out h2 h3 h4;have:=ih (ab++[c]) aa p out oA oB h2 h3 h4
    simp only[qM,qL,qZ,wO,qS,wK,List.nil_append]at this;rw[show ab.length+(aa.length+1)=ab.length+1+aa.length by omega]
    exact this
   rw[qb1,qrv,af oB,a6,qB,gy]
   simp only[qL];by_cases k:c=61
   ·rw[qX k];simp[dh,dbits,k,by8_short p hp]
   ·rw[qW k,af oF]
    rw[show([65,66,67,68,69,70,71,72,73,74,75,76,77,78,79,80,81,82,83,84,85,86,87,88,89,90,97,98,99,100,101,102,103,104,105,106,107,108,109,110,111,112,113,114,115,116,117,118,119,120,121,122,48,49,50,51,52,53,54,55,56,57,43,47]:List UInt8)=qua from rfl,show wu qua c=some (jo c) from rfl,qB,ar _,bp]
    rcases zm7 c with hv|⟨hv,hv2⟩
    ·rw[hv,qX oF,nxt p out hp h1 oA]
     simp[dbits,k,hv]
    ·obtain⟨v,hvv⟩:∃v:Nat,jo c=(v:Int):=⟨(jo c).toNat,oA⟩
     have hv64:v<64:=oA
     have hd:dbits (c::aa)=six v++dbits aa:=by
      rw[dbits,qW k,qW oA,hvv];rfl
     have hq:dv 0 (p++six v)=64*dv 0 p+v:=by rw[q9q,z3q _ _ hv64]
     have hpl:=q9s p 0 h1;have hp2:2 ^ p.length<=2 ^ 7:=Nat.pow_le_pow_right oA oA
     have hql:(p++six v).length=p.length+6:=by simp[six]
     have hq1:∀x∈p++six v,x<=1:=fun x hx=>by
      rcases List.mem_append.1 hx with hx|hx
      ·exact h1 x hx
      ·exact zl2 v x hx
     rw[hvv,qW oA,or6 _ _ oA hv64,← hq,hd,← qS]
     have e6:ae ((p.length:Int)+6)=((p.length+6:Nat):Int):=by rw[bt];omega
     rw[e6,bp];by_cases h8:8<=p.length+6
     ·have e8:ae (((p.length+6:Nat):Int)-8)=((p.length+6-8:Nat):Int):=by rw[bt];omega
      rw[qX oA,e8,af oA,af oK,af oA]
      rw[zsg _ _]
      obtain⟨s1,s2⟩:=z4d (p++six v) 8 hq1;rw[hql]at s1 s2;rw[← s2,zfu _ _]
      have e9:Int.fdiv ((dv 0 (p++six v):Nat):Int) (2 ^ min (((p.length+6-8:Nat):Int)).toNat 64)=((dv 0 ((p++six v).take 8):Nat):Int):=by
       rw[s1,show min (((p.length+6-8:Nat):Int)).toNat 64=p.length+6-8 by omega,Int.fdiv_eq_ediv_of_nonneg _ (by exact Int.le_of_lt (Int.pow_pos oF))]
       simp
      rw[e9];have:=nxt ((p++six v).drop 8) (out++[d9 ((dv 0 ((p++six v).take 8):Nat):Int)]) (by simp[six];omega) (fun x hx=>hq1 x (List.mem_of_mem_drop hx)) oB
      rw[List.length_drop,hql]at this;rw[this];simp
     ·rw[qW oA]
      have:=nxt (p++six v) out oA hq1 oA
      rw[hql]at this;exact this
end Go.Sym.Tr
namespace Go.Sym.Tr
def qhg(fu:Nat)(r0:List UInt8->Int->List Int->Option (List UInt8))(n:Nat)(s0:List UInt8)(s4:Int)(v k:Nat)(m:List Int)(hk:k<=5:=by omega)(hm:m.length<1000000000:=by omega) :
  rp fu r0 (n+1) s0 s4 (v:Int) (k:Int) m=rp fu r0 n s0 s4 (v:Int) ((k:Int)-1) (m++[((v/2 ^ k%2:Nat):Int)]):=by
 rw[rp,qjk,af oA]
 unfold qqv;rw[af oA]
 unfold qy2;have e:IntKind.u64.wrap (k:Int)=(k:Int):=by
  unfold IntKind.wrap;simp[IntKind.signed,IntKind.bits];omega
 rw[e,af oA,ztf v k _ rfl oA,af oK,bt]
def zxu(fu:Nat)(r0:List UInt8->Int->List Int->Option (List UInt8))(n:Nat)(s0:List UInt8)(s4 v:Int)(m:List Int):rp fu r0 (n+1) s0 s4 v (-1) m=r0 s0 (ae (s4+1)) m:=by
 rw[rp,qjk,ao oF];rfl
def zxv(fu:Nat)(r0:List UInt8->Int->List Int->Option (List UInt8))(n:Nat)(s0:List UInt8)(s4:Int)(m:List Int):rp fu r0 (n+1) s0 s4 (-1) 5 m=r0 s0 (ae (s4+1)) m:=by
 rw[rp,qjk,af oF,decide_eq_false oF];rfl
def zxt(fu:Nat)(r0:List UInt8->Int->List Int->Option (List UInt8))(n:Nat)(s0:List UInt8)(s4:Int)(v:Nat)(m:List Int)(hm:m.length<100000000) :
  rp fu r0 (n+7) s0 s4 (v:Int) 5 m=r0 s0 (ae (s4+1)) (m++kz (six v)):=by
 rw[show(5:Int)=((5:Nat):Int) from rfl,qhg fu r0 (n+6) s0 s4 v 5 m]
 rw[show((5:Nat):Int)-1=((4:Nat):Int) from rfl,qhg fu r0 (n+5) s0 s4 v 4 _ oA oB]
 rw[show((4:Nat):Int)-1=((3:Nat):Int) from rfl,qhg fu r0 (n+4) s0 s4 v 3 _ oA oB]
 rw[show((3:Nat):Int)-1=((2:Nat):Int) from rfl,qhg fu r0 (n+3) s0 s4 v 2 _ oA oB]
 rw[show((2:Nat):Int)-1=((1:Nat):Int) from rfl,qhg fu r0 (n+2) s0 s4 v 1 _ oA oB]
 rw[show((1:Nat):Int)-1=((0:Nat):Int) from rfl,qhg fu r0 (n+1) s0 s4 v 0 _ oA oB]
 rw[show((0:Nat):Int)-1 = -1 from rfl,zxu]
 congr 1;simp[six,kz]
end Go.Sym.Tr
namespace Go.Sym.Tr
def zxs(fu n:Nat)(hfu:8<fu):∀(ab aa:List Nat)(out:List UInt8),aa.length<n->ab.length+aa.length<1000000000->(∀x∈aa,x<=1)->out.length+aa.length<=2000000000 ->
  qeh fu n (kz (ab++aa)) (ab.length:Int) out=some (out++by8 aa):=by
 induction n with
 |zero=>intro ab aa out h;omega|succ n ih=>
  intro ab aa out h hb h1 ho;have e8:ae ((ab.length:Int)+8)=((ab.length+8:Nat):Int):=by rw[bt];omega
  rw[qeh,qy0,e8];by_cases c:aa.length<8
  ·rw[ao,by8_short aa c];simp
  ·have et:List.take (((ab.length+8:Nat):Int).toNat-(ab.length:Int).toNat) (List.drop (ab.length:Int).toNat (kz (ab++aa)))=kz (aa.take 8):=by
    rw[show((ab.length+8:Nat):Int).toNat-(ab.length:Int).toNat=8 by omega,show(ab.length:Int).toNat=ab.length by omega]
    simp[kz]
   rw[af oB,af oB,et,q9t fu _ hfu oB (fun x hx=>h1 x (List.mem_of_mem_take hx)),qB,af oK]
   have:=ih (ab++aa.take 8) (aa.drop 8) (out++[d9 ((dv 0 (aa.take 8):Nat):Int)]) oB oB (fun x hx=>h1 x (List.mem_of_mem_drop hx)) oB
   rw[qS,List.take_append_drop,qM,List.length_take,Nat.min_eq_left oA]at this
   rw[this];have q:=zfu aa []
   rw[List.append_nil,List.append_nil]at q;rw[q];simp
end Go.Sym.Tr
namespace Go.Sym.Tr
def zxp(fu n:Nat)(hfu:200<fu):∀(ab aa:List UInt8)(acc:List Nat),aa.length<n->ab.length+aa.length<10000000->(∀x∈acc,x<=1)->acc.length+6*aa.length<fu->acc.length+6*aa.length<90000000 ->
  qeg fu n (ab++aa) (ab.length:Int) (kz acc)=some (by8 (acc++dbits aa)):=by
 induction n with
 |zero=>intro ab aa acc h;omega|succ n ih=>
  intro ab aa acc h hb h1 hf hm;have fin:qeh fu fu (kz acc) (0:Int) []=some (by8 acc):=by
   have:=zxs fu fu oA [] acc [] oA oB h1 oB
   exact this
  cases aa with
  |nil=>
   rw[qeg,qqu,ao]
   unfold qjl;rw[aw rfl,fin];simp[dbits]
  |cons c aa=>
   simp only[qL]at h hb hf hm;rw[qeg,qqu,af oB,a6,qB]
   unfold qjl;rw[uu];by_cases k:c=61
   ·rw[qW (by simp[k]),fin];simp[dbits,k]
   ·rw[qX k];unfold qy1;rw[a6,qB,z5p fu c,qB]
    obtain⟨m,rfl⟩:∃m,fu=m+7:=⟨fu-7,oA⟩
    have nxt:=fun acc=>ih (ab++[c]) aa acc oA oB
    simp only[qM,qL,qZ,wO,qS,wK,List.nil_append]at nxt;rcases zm7 c with hv|⟨hv,hv2⟩
    ·rw[hv,zxv,ar _,nxt acc h1 oA oA]
     simp[dbits,k,hv]
    ·obtain⟨v,hvv⟩:∃v:Nat,jo c=(v:Int):=⟨(jo c).toNat,oA⟩
     rw[hvv,zxt _ _ _ _ _ _ _ oB,ar _]
     have e:kz acc++kz (six v)=kz (acc++six v):=oC
     rw[e,nxt (acc++six v) (fun x hx=>by
      rcases List.mem_append.1 hx with hx|hx
      ·exact h1 x hx
      ·exact zl2 v x hx) (by simp[six];omega) (by simp[six];omega)]
     rw[dbits,qW k,qW oA,hvv]
     simp
end Go.Sym.Tr
namespace Go.Sym.Tr
def rloose_eq(fu:Nat)(b:List UInt8)(hb:b.length<=24000)(hf:6*b.length+300<fu):qyz fu b=some (by8 (dbits b)):=by
 have:=zxp fu fu oA [] b [] oA oB (fun _ h=>by cases h) oB oB
 exact this
def zx3(fu:Nat)(b:List UInt8)(hb:b.length<=24000:=by omega)(hf:b.length<fu:=by omega):qru fu b=some ((0,0),by8 (dbits b)):=by
 unfold qru;rw[ao]
 have:=zx4 fu fu (0,0) [] b [] [] hf oB oC (fun _ h=>by cases h) oB
 simpa [dv] using this
end Go.Sym.Tr
namespace Go.Sym.Tr
end Go.Sym.Tr
namespace Go.Sym.Tr
def prt(x:UInt8):Prop:=x≠0/\x≠13/\x≠10/\¬(127:UInt8)<x
inductive OkL:Nat->List UInt8->Prop
 |nil (c:Nat):OkL c []
 |crlf (c:Nat) (r:List UInt8):OkL 0 r->OkL c (13::10::r)
 |chr (c:Nat) (x:UInt8) (r:List UInt8):prt x->c<998->OkL (c+1) r->OkL c (x::r)
end Go.Sym.Tr
namespace Go.Sym.Tr
def hv(c:UInt8):Option UInt8:=if 48<=c/\c<=57 then some (c-48) else if 65<=c/\c<=70 then some (c-65+10) else if 97<=c/\c<=102 then some (c-97+10) else none
def hx(a b:UInt8):Option UInt8:=(hv a).bind fun x=>(hv b).map fun y=>16*x+y
def dq:List UInt8->List UInt8|[]=>[]|[c]=>[c]|[c,d]=>[c,d]|c::a::b::r=>if c=61 then(match hx a b with|some x=>x::dq r|none=>c::dq (a::b::r)) else c::dq (a::b::r)
def q6a(c:UInt8)(r:List UInt8)(h:c≠61):dq (c::r)=c::dq r:=by
 match r with|[]=>rfl|[_]=>rfl|_::_::_=>rw[dq,qW h]
def zu6(a b x:UInt8)(r:List UInt8)(h:hx a b=some x):dq (61::a::b::r)=x::dq r:=by
 rw[dq,qX rfl,h]
def bl(c:UInt8):Bool:=c==32||c==9
def ch(l:List UInt8):List UInt8:=(l.reverse.dropWhile bl).reverse
def lnE(t:List UInt8)(nl:Bool):List UInt8×List UInt8:=if nl then(if t.getLast? = some 13 then(t.dropLast,[13,10]) else(t,[10])) else(t,[])
def lnT(u e:List UInt8):List UInt8:=if u.getLast? = some 61 then dq u.dropLast else dq u++e
def ni(t:List UInt8)(nl:Bool):List UInt8:=lnT (ch (lnE t nl).1) (lnE t nl).2
def qm(acc:List UInt8):List UInt8->List UInt8|[]=>ni acc false|c::r=>if c=10 then ni acc true++qm [] r else qm (acc++[c]) r
def zj7(u:List UInt8):∀(acc r:List UInt8),(∀x∈u,x≠10)->qm acc (u++r)=qm (acc++u) r:=by
 induction u with
 |nil=>intro acc r _;simp|cons x u ih=>
  intro acc r h;rw[wK,qm,qW (h x qH),ih _ _ (fun y hy=>h y (qE _ hy))]
  simp
structure Un(acc out:List UInt8)(sp:Bool):Prop where
 dec:∀rest,dq (acc++rest)=out++dq rest
 no:acc.getLast? ≠ some 61
 nb:sp=false->∀c,acc.getLast? = some c->bl c=false
end Go.Sym.Tr
namespace Go.Sym.Tr
def q5j:∀n:_root_.Fin 256,wq (UInt8.ofNat n.val)=some ((hv (UInt8.ofNat n.val)).getD 0,(hv (UInt8.ofNat n.val)).isSome):=by decide +kernel
def q5k(c:UInt8):wq c=some ((hv c).getD 0,(hv c).isSome):=jh (fun c=>wq c=some ((hv c).getD 0,(hv c).isSome)) q5j c
def ie(c:UInt8):Int:=match hv c with|some x=>(x.toNat:Int)|none => -1
def f8:List UInt8:=[48,49,50,51,52,53,54,55,56,57,65,66,67,68,69,70]
def tg(c:UInt8):Nat->Nat->Int|0,_ => -1|m+1,k=>if f8.getD k 0=c then(k:Int) else if(f8.map lo).getD k 0=c then(k:Int) else tg c m (k+1)
def q64:∀n:_root_.Fin 256,tg (UInt8.ofNat n.val) 16 0=ie (UInt8.ofNat n.val):=by decide +kernel
def q9a(fu:Nat)(hfu:16<fu)(c:UInt8):∀(m k n:Nat),m+k=16->m<n->wj fu n c (k:Int)=some (tg c m k):=by
 intro m
 induction m with
 |zero=>
  intro k n hk hn;obtain⟨n,rfl⟩:∃j,n=j+1:=⟨n-1,oA⟩
  rw[wj,qef,ao];rfl
 |succ m ih=>
  intro k n hk hn;obtain⟨n,rfl⟩:∃j,n=j+1:=⟨n-1,oA⟩
  have h1:k<f8.length:=by show k<16;omega
  have h2:k<(f8.map lo).length:=by show k<16;omega
  have i1:ai f8 (k:Int)=some (f8.getD k 0):=by rw[vc _ _ h1];exact congrArg some (List.getElem_eq_getD 0)
  have i2:ai (f8.map lo) (k:Int)=some ((f8.map lo).getD k 0):=by rw[vc _ _ h2];exact congrArg some (List.getElem_eq_getD 0)
  rw[wj,qef,af oA]
  rw[show([48,49,50,51,52,53,54,55,56,57,65,66,67,68,69,70]:List UInt8)=f8 from rfl]
  rw[i1,qB,gy,tg];by_cases q:f8.getD k 0=c
  ·rw[qX q,qX q]
  ·rw[qW q,qW q,ya fu f8 (by show 16<fu;omega) oF,qB,i2,qB,gy]
   by_cases q2:(f8.map lo).getD k 0=c
   ·rw[qX q2,qX q2]
   ·rw[qW q2,qW q2,ar _,ih (k+1) n oA oA]
def vl(fu:Nat)(hfu:17<fu)(c:UInt8):oh fu c=some (ie c):=by
 have:=q9a fu oA c 16 0 fu rfl oA
 unfold oh;rw[show(0:Int)=((0:Nat):Int) from rfl,this,jh (fun c=>tg c 16 0=ie c) q64 c]
def q65:∀n:_root_.Fin 256,(hv (UInt8.ofNat n.val)).all (fun x=>decide (x.toNat<16))=true:=by decide +kernel
def xm(c x:UInt8)(h:hv c=some x):x.toNat<16:=by
 have:=jh (fun c=>(hv c).all (fun x=>decide (x.toNat<16))=true) q65 c
 rw[h]at this;simpa using this
def q96:∀x y:_root_.Fin 16,(oc (UInt8.ofNat x.val) (min (4:Int).toNat 8))|||UInt8.ofNat y.val=16*UInt8.ofNat x.val+UInt8.ofNat y.val/\d9 (ae ((ae ((16:Int)*((UInt8.ofNat x.val).toNat:Int)))+((UInt8.ofNat y.val).toNat:Int)))=16*UInt8.ofNat x.val+UInt8.ofNat y.val:=by decide +kernel
def qpv(x y:UInt8)(hx1:x.toNat<16)(hy1:y.toNat<16):(oc x (min (4:Int).toNat 8))|||y=16*x+y/\d9 (ae ((ae ((16:Int)*(x.toNat:Int)))+(y.toNat:Int)))=16*x+y:=by
 have:=q96 ⟨x.toNat,hx1⟩ ⟨y.toNat,hy1⟩;simpa using this
def nt:List UInt8->Option UInt8|a::b::_=>hx a b|_=>none
def qu4(r:List UInt8):dq (61::r)=match nt r with|some x=>x::dq (r.drop 2)|none=>61::dq r:=by
 match r with
 |[]=>rfl|[_]=>rfl|a::b::t=>
  rw[dq,qX rfl];show _=match hx a b with|some x=>x::dq t|none=>61::dq (a::b::t)
  cases hx a b<;>rfl
def q8h(r:List UInt8):∃v,wt (r.take 2)=some (v,(nt r).isSome)/\∀x,nt r=some x->v=x:=by
 match r with
 |[]=>exact⟨0,rfl,fun x h=>by cases h⟩
 |[_]=>exact⟨0,rfl,fun x h=>by cases h⟩
 |a::b::t=>
  have e:wt ((a::b::t).take 2)=some ((oc ((hv a).getD 0) (min (4:Int).toNat 8))|||(hv b).getD 0,(hv a).isSome&&(hv b).isSome):=by
   unfold wt;rw[ao,show(a::b::t).take 2=[a,b] from rfl,show ai [a,b] 0=some a from rfl,show ai [a,b] 1=some b from rfl]
   simp only[qB,q5k];cases (hv a).isSome<;>rfl
  rw[e,show nt (a::b::t)=hx a b from rfl]
  unfold hx
  cases ha:hv a with
  |none=>exact⟨_,rfl,fun x h=>by cases h⟩
  |some x=>
   cases hb:hv b with
   |none=>exact⟨_,rfl,fun x h=>by cases h⟩
   |some y=>
    refine⟨_,rfl,fun z h => ?_⟩
    have hz:16*x+y=z:=by simpa using h
    rw[← hz];exact(qpv x y (xm a x ha) (xm b y hb)).1
def z4m(ab:List UInt8)(c:UInt8)(r:List UInt8)(hb:ab.length+r.length<1000000000:=by omega) :
  List.take ((if(List.length (ab++c::r):Int)<ae ((ab.length:Int)+(3:Int)) then(List.length (ab++c::r):Int) else ae ((ab.length:Int)+(3:Int))).toNat-(((ab.length+1:Nat):Int)).toNat) (List.drop (((ab.length+1:Nat):Int)).toNat (ab++c::r))=r.take 2:=by
 rw[qab,bt]
 have hl:((ab++c::r).length:Int)=(ab.length:Int)+1+(r.length:Int):=by simp;omega
 rw[hl];by_cases q:(ab.length:Int)+1+(r.length:Int)<(ab.length:Int)+3
 ·rw[qX q,List.take_of_length_le oA,List.take_of_length_le oA]
 ·rw[qW q,show((ab.length:Int)+3).toNat-(((ab.length+1:Nat):Int)).toNat=2 by omega]
def z0g(fu n:Nat):∀(ab aa out:List UInt8),aa.length<n->ab.length+aa.length<1000000000->out.length+aa.length<=2000000000 ->
  qci fu n (ab++aa) (ab.length:Int) out=some (out++dq aa):=by
 induction n with
 |zero=>intro ab aa out h;omega|succ n ih=>
  intro ab aa out h hb ho
  cases aa with
  |nil=>rw[qci,qs7,ao];simp[dq]|cons c r=>
   simp only[qL]at h hb ho;have one:qci fu n (ab++c::r) ((ab.length+1:Nat):Int) (out++[c])=some (out++c::dq r):=by
    have:=ih (ab++[c]) r (out++[c]) oA oB oB
    simpa using this
   rw[qci,qs7,af oB,a6]
   simp only[qB];rw[ar _,gy]
   by_cases q:c=61
   ·subst q;have hl:((ab++61::r).length:Int)=(ab.length:Int)+1+(r.length:Int):=by simp;omega
    have e3:ae ((ab.length:Int)+3)=(ab.length:Int)+3:=bt
    rw[qX rfl,z4m _ _ _,af (by rw[hl,e3];split<;>omega)]
    obtain⟨v,h1,h2⟩:=q8h r;rw[h1,qB,qu4,zte]
    cases hp:nt r with
    |none=>
     rw[qW oC,af oK]
     exact one
    |some x=>
     have hv:=h2 x hp;subst hv
     match r,hp with
     |a::b::t,hp=>
      simp only[qL]at h hb ho;have e2:ae (ae ((ab.length:Int)+2)+1)=((ab.length+3:Nat):Int):=by rw[bt (x:=(ab.length:Int)+2) oA oA,bt];omega
      rw[qX (show(v,(some v).isSome).snd=true from rfl),af oK,e2]
      have:=ih (ab++[61,a,b]) t (out++[v]) oA oB oB
      simpa using this
   ·rw[qW q,af oK,one,q6a _ _ q]
def z0f(fu:Nat)(s:List UInt8)(h:s.length<fu:=by omega)(hb:s.length<1000000000:=by omega):q28 fu s=some (dq s):=by
 have:=z0g fu fu [] s [] h (by simpa using hb) oB
 rw[List.nil_append,List.nil_append]at this;exact this
end Go.Sym.Tr
namespace Go.Sym.Tr
def ft(n:Nat)(h:n<1000000000):ae (((n+1:Nat):Int)-1)=(n:Int):=by rw[bt];omega
def th{α:Type}(t:List α)(c:α):ai (t++[c]) (t.length:Int)=some c:=a6 t c []
def t6{α:Type}(t:List α)(c:α):List.take ((t.length:Nat):Int).toNat (t++[c])=t:=oC
def fk{α:Type}(t:List α)(c:α):((t++[c]).length:Int)=((t.length+1:Nat):Int):=oC
def yf(t:List UInt8)(c:UInt8):ch (t++[c])=if bl c then ch t else t++[c]:=by
 unfold ch;rw[List.reverse_append,List.reverse_singleton,wM,List.dropWhile];cases bl c
 ·simp
 ·simp
def qc1:List Bool:=((List.replicate 256 false).set 32 true).set 9 true
def zs0(n:Nat):q1i (n+3) [32,9]=some (qc1,true):=oD
def zug:∀n:_root_.Fin 256,qc1[(UInt8.ofNat n.val).toNat]? = some (bl (UInt8.ofNat n.val)):=by decide +kernel
def qn8(c:UInt8):qr2 c qc1=some (bl c,qc1):=by
 unfold qr2;rw[jh (fun c=>qc1[c.toNat]? = some (bl c)) zug c,qB]
def qxq(fu n:Nat):∀(s:List UInt8),s.length<n->s.length<1000000000->qln fu n s qc1=some (ch s,qc1):=by
 induction n with
 |zero=>intro s h;omega|succ n ih=>
  intro s h hb;rw[qln,q1p];rcases List.eq_nil_or_concat s with rfl|⟨t,c,rfl⟩
  ·rw[ao];rfl
  ·rw[List.concat_eq_append]at *;simp only[qM,qL,qZ]at h hb;rw[fk,af oA,ft _ oA,th,qB,qn8,qB,t6,af oA,ih t oA oA,yf]
   cases bl c<;>rfl
def qpt(fu:Nat)(hfu:3<=fu)(s:List UInt8)(h:s.length<fu)(hb:s.length<1000000000):qrz fu s [32,9]=some (ch s):=by
 unfold qrz;rw[d6]
 cases s with
 |nil=>rfl|cons c s=>
  rw[qW oB]
  unfold qr0;rw[aw oF]
  unfold q1g;rw[aw oF]
  unfold qr1;rw[aw rfl];unfold q1h;obtain⟨n,rfl⟩:∃n,fu=n+3:=⟨fu-3,oA⟩
  rw[zs0 n,qB,au (by decide +kernel),au rfl]
  unfold q1o;rw[qxq _ _ _ h hb];rfl
def zhy(s:List UInt8)(k:UInt8)(hb:s.length<1000000000:=by omega):qfj s [k]=some (decide (s.getLast? = some k)):=by
 unfold qfj qll;rcases List.eq_nil_or_concat s with rfl|⟨t,c,rfl⟩
 ·rw[ao];rfl
 ·rw[List.concat_eq_append]at *;simp only[qM,qL,qZ]at hb;rw[fk,show(([k]:List UInt8).length:Int)=1 from rfl,ft _ oA,af oA,af oA,qB]
  have e:List.drop ((t.length:Nat):Int).toNat (t++[c])=[c]:=la t [c];rw[e,List.getLast?_concat];congr 1;rw[Bool.eq_iff_iff];simp
def qpu(s:List UInt8)(k:UInt8)(hb:s.length<1000000000):zj s [k]=some (if s.getLast? = some k then s.dropLast else s):=by
 unfold zj;rw[zhy s k hb,qB,bp];by_cases q:s.getLast? = some k
 ·rw[qX q,qX q];rcases List.eq_nil_or_concat s with rfl|⟨t,c,rfl⟩
  ·cases q
  ·rw[List.concat_eq_append]at *;simp only[qM,qL,qZ]at hb;rw[fk,show(([k]:List UInt8).length:Int)=1 from rfl,ft _ oA,af oA,t6,List.dropLast_concat]
 ·rw[qW q,qW q]
def va(t r:List UInt8)(h:∀x∈t,x≠10):Lib.indexByte (t++10::r) 10=(t.length:Int):=by
 induction t with
 |nil=>rfl|cons c t ih=>
  have hc:=h c qH;rw[wK,Lib.indexByte,ih (fun x hx=>h x (qE _ hx)),qW (by simpa using hc),qW (by simp<;>omega)]
  simp
def vb(t:List UInt8)(h:∀x∈t,x≠10):Lib.indexByte t 10 = -1:=by
 induction t with
 |nil=>rfl|cons c t ih=>
  have hc:=h c qH;rw[Lib.indexByte,ih (fun x hx=>h x (qE _ hx)),qW (by simpa using hc),qX oF]
def q9n:∀(s:List UInt8),(∃t r,s=t++10::r/\∀x∈t,x≠10)\/∀x∈s,x≠10
 |[] => .inr (fun _ h=>by cases h)
 |c::s=>by
  by_cases k:c=10
  ·exact .inl ⟨[],s,by rw[k];rfl,fun _ h=>by cases h⟩
  ·rcases q9n s with⟨t,r,rfl,h⟩|h
   ·exact .inl ⟨c::t,r,rfl,fun x hx=>by
     rcases List.mem_cons.1 hx with rfl|hx
     ·exact k
     ·exact h x hx⟩
   ·exact .inr (fun x hx=>by
     rcases List.mem_cons.1 hx with rfl|hx
     ·exact k
     ·exact h x hx)
def zj9(t r:List UInt8)(h:∀x∈t,x≠10):qm [] (t++10::r)=ni t true++qm [] r:=by
 rw[zj7 t [] _ h,List.nil_append,qm,qX rfl]
def zj8(t:List UInt8)(h:∀x∈t,x≠10):qm [] t=ni t false:=by
 have:=zj7 t [] [] h;rw[List.append_nil,List.nil_append]at this;rw[this];rfl
def qu5:∀(n:Nat)(s:List UInt8),s.length<=n->(dq s).length<=s.length:=by
 intro n
 induction n with
 |zero=>intro s h;have:s=[]:=List.eq_nil_of_length_eq_zero oA;subst this;exact wF _|succ n ih=>
  intro s h
  match s with
  |[]=>exact wF _|c::r=>
   simp only[qL]at h;have h1:=ih r oA
   by_cases k:c=61
   ·subst k;rw[qu4]
    cases nt r with
    |none=>simp only[qL];omega|some x=>
     have h2:=ih (r.drop 2) oB
     simp only[qL,List.length_drop]at h2 ⊢;omega
   ·rw[q6a _ _ k];simp only[qL];omega
def vn(s:List UInt8):(ch s).length<=s.length:=by
 unfold ch;rw[List.length_reverse];have:=(List.dropWhile_sublist bl (l:=s.reverse)).length_le;simpa using this
def q7m(fu:Nat)(hfu:3<=fu)(r0:List UInt8->(Int×Int)->List UInt8->Option ((Int×Int)×List UInt8))(u e r:List UInt8)(m16:Int×Int)(out:List UInt8)(h:u.length<fu)(hb:u.length+e.length+r.length<1000000000)(ho:out.length+u.length+e.length<=2000000000) :
  qmw fu r0 (u++e++r) ((u.length+e.length:Nat):Int) u m16 out=r0 r m16 (out++lnT (ch u) e):=by
 unfold qmw;have hl:=vn u;have p3:∀v e',v.length<=u.length->e'.length<=e.length->qmx fu r0 (u++e++r) ((u.length+e.length:Nat):Int) v e' m16 out=r0 r m16 (out++(dq v++e')):=by
  intro v e' hv he;have hd:=qu5 _ v (wF _);unfold qmx;rw[z0f fu v,qB,af oK,af oK,af oB]
  have ed:List.drop ((u.length+e.length:Nat):Int).toNat (u++e++r)=r:=by
   have:=la (u++e) r;rw[qM]at this;exact this
  rw[ed,qS]
 rw[af oB,qpt fu hfu u h oA,qB,af oC,zhy _ _,qB,bp]
 unfold lnT;by_cases q:(ch u).getLast? = some 61
 ·rw[qX q,qX q];revert hl q;rcases List.eq_nil_or_concat (ch u) with e0|⟨t,c,e0⟩
  ·intro _ q;rw[e0]at q;cases q
  ·rw[e0,List.concat_eq_append];intro hl q;simp only[qM,qL,qZ]at hl;rw[fk,ft _ oA,af oA,t6,List.dropLast_concat,p3 t [] oA oC,List.append_nil]
 ·rw[qW q,qW q];have et:List.take (((u.length+e.length:Nat):Int).toNat-(u.length:Int).toNat) (List.drop (u.length:Int).toNat (u++e++r))=e:=by
   rw[qS,la,show((u.length+e.length:Nat):Int).toNat-(u.length:Int).toNat=e.length by omega]
   simp
  rw[et,p3 (ch u) e hl (wF _)]
def zyb(fu:Nat)(hfu:3<=fu)(r0:List UInt8->(Int×Int)->List UInt8->Option ((Int×Int)×List UInt8))(t r:List UInt8)(m16:Int×Int)(out:List UInt8)(h:t.length<fu:=by omega)(hb:t.length+r.length+2<1000000000:=by omega)(ho:out.length+t.length+2<=2000000000:=by omega) :
  qch fu r0 (t++10::r) ((t.length+1:Nat):Int) m16 out=r0 r m16 (out++ni t true):=by
 unfold qch;have et:List.take ((t.length+1:Nat):Int).toNat (t++10::r)=t++[10]:=by
  rw[show t++10::r=(t++[10])++r by simp,show((t.length+1:Nat):Int).toNat=(t++[10]).length by simp,List.take_left]
 rw[af oB,af oC,et,qpu _ _ oB,qB,qX oC,List.dropLast_concat,af oA,af oC,qpu _ _ oA,qB]
 unfold ni lnE;rw[qX rfl];by_cases q:t.getLast? = some 13
 ·rw[qX q,qX q];revert q h hb ho;rcases List.eq_nil_or_concat t with rfl|⟨u,c,rfl⟩
  ·intro _ _ _ q;cases q
  ·rw[List.concat_eq_append];intro h hb ho q;have:c=13:=by simpa using q
   subst this;simp only[qM,qL,qZ]at h hb ho;rw[List.dropLast_concat];have:=q7m fu hfu r0 u [13,10] r m16 out oA oB oB
   have e1:(u++[(13:UInt8)]).length+1=u.length+([13,10]:List UInt8).length:=oC
   have e2:u++[(13:UInt8)]++10::r=u++[13,10]++r:=oC
   rw[e1,e2];exact this
 ·rw[qW q,qW q];have:=q7m fu hfu r0 t [10] r m16 out oA oB oB
  simpa using this
def zya(fu:Nat)(hfu:3<=fu)(r0:List UInt8->(Int×Int)->List UInt8->Option ((Int×Int)×List UInt8))(t:List UInt8)(h10:∀x∈t,x≠10)(m16:Int×Int)(out:List UInt8)(h:t.length<fu)(hb:t.length<1000000000)(ho:out.length+t.length<=2000000000) :
  qch fu r0 t (t.length:Int) m16 out=r0 [] m16 (out++ni t false):=by
 unfold qch;have e1:List.take (t.length:Int).toNat t=t:=oC
 have hn:t.getLast? ≠ some 10:=by
  intro q;exact h10 10 (List.mem_of_getLast? q) rfl
 rw[af oA,af oC,e1,qpu _ _ hb,qB,qW hn,ao]
 have:=q7m fu hfu r0 t [] [] m16 out h oB oB
 simpa [ni,lnE] using this
def lnO_len(t:List UInt8)(nl:Bool):(ni t nl).length<=t.length+nl.toNat:=by
 unfold ni lnT lnE;have key:∀u e:List UInt8,(if(ch u).getLast? = some 61 then dq (ch u).dropLast else dq (ch u)++e).length<=u.length+e.length:=by
  intro u e;have h1:=vn u;split
  ·have:=qu5 _ (ch u).dropLast (wF _);rw[List.length_dropLast]at this;omega
  ·have:=qu5 _ (ch u) (wF _);rw[qM];omega
 refine Nat.le_trans (key _ _) ?_
 cases nl with
 |false=>simp|true=>
  rw[qX rfl];by_cases q:t.getLast? = some 13
  ·rw[qX q];have:0<t.length:=by
    cases t with
    |nil=>cases q
    |cons _ _=>simp
   simp;omega
  ·rw[qW q];simp
def z04(fu n:Nat)(hfu:3<=fu)(m16:Int×Int):∀(s out:List UInt8),s.length<n->s.length<fu->s.length<100000000->out.length+s.length<=1000000000 ->
  qmv fu n s m16 out=some ((0,0),out++qm [] s):=by
 induction n with
 |zero=>intro s out h;omega|succ n ih=>
  intro s out h hf hb ho;rw[qmv,q27];rcases q9n s with⟨t,r,rfl,h10⟩|h10
  ·simp only[qM,qL]at h hf hb ho;have ac:=lnO_len t true;simp only[Bool.toNat_true]at ac;rw[af oB,show wu (t++10::r) 10=some (Lib.indexByte (t++10::r) 10) from rfl,qB,va t r h10,ar _,d6,qW oA]
   rw[zyb fu hfu _ t r m16 out,ih r _ oA oA oA oN,zj9 t r h10,qS]
  ·cases s with
   |nil=>rw[ao];simp[dh,show qm [] []=[] from rfl]|cons c s=>
    have ac:=lnO_len (c::s) false;simp only[Bool.toNat_false]at ac;rw[af (by simp<;>omega),show wu (c::s) 10=some (Lib.indexByte (c::s) 10) from rfl,qB,vb _ h10,d6,qX oF]
    rw[zya fu hfu _ (c::s) h10 m16 out hf oA oA]
    have hn:0<n:=by simp only[qL]at h;omega
    rw[ih [] _ (by simpa using hn) oB oC (by rw[qM];simp only[qZ];omega),zj8 _ h10]
    have:qm [] []=[]:=rfl;rw[this,List.append_nil]
def z03(fu:Nat)(s:List UInt8)(hf:s.length+3<fu:=by omega)(hb:s.length<=48000:=by omega):qs6 fu s=some ((0,0),qm [] s):=by
 unfold qs6;rw[ao]
 have:=z04 fu fu oA (0,0) s [] oA oA oA oB
 rw[List.nil_append]at this;exact this
end Go.Sym.Tr
namespace Go.Sym.Tr
def zyj(c:UInt8):iw c=some (bl c):=by
 unfold iw bl;cases h:c==32<;>rfl
def zws(a b:UInt8):hx a b=none\/∃x y:UInt8,ie a=(x.toNat:Int)/\ie b=(y.toNat:Int)/\x.toNat<16/\y.toNat<16/\hx a b=some (16*x+y):=by
 unfold hx ie
 cases ha:hv a with
 |none=>exact .inl rfl|some x=>
  cases hb:hv b with|none=>exact .inl rfl|some y=>exact .inr ⟨x,y,rfl,rfl,xm a x ha,xm b y hb,rfl⟩
def zwr(a b:UInt8)(h:hx a b=none):¬(0<=ie a/\0<=ie b):=by
 unfold hx at h;unfold ie
 cases ha:hv a with
 |none=>intro q;have:=q.1;simp at this|some x=>
  cases hb:hv b with|none=>intro q;have:=q.2;simp at this|some y=>rw[ha,hb]at h;cases h
def q7v(fu:Nat)(r0:List UInt8->Int->List UInt8->Option (List UInt8))(r11:List UInt8->Int->Int->Int->Bool->Int->List UInt8->Option (List UInt8))(s0:List UInt8)(s5 s6 s7:Int)(s8:Bool)(i:Nat)(c:UInt8)(out:List UInt8)(hi:ai s0 (i:Int)=some c)(hl:i<1000000000:=by omega)(ho:out.length<2000000000:=by omega) :
  wk fu r0 r11 s0 s5 s6 s7 s8 (i:Int) false out=r11 s0 s5 s6 s7 s8 ((i+1:Nat):Int) (out++[c]):=by
 unfold wk;rw[aw rfl,hi,qB,af oK]
 unfold qjn;rw[ar _]
def zh4(ab:List UInt8)(c a b:UInt8)(r:List UInt8):ai (ab++c::a::b::r) ((ab.length+1:Nat):Int)=some a/\ai (ab++c::a::b::r) ((ab.length+2:Nat):Int)=some b:=by
 constructor
 ·have:=a6 (ab++[c]) a (b::r);simpa using this
 ·have:=a6 (ab++[c,a]) b r;simpa using this
def zye(fu:Nat)(hfu:17<fu)(r0:List UInt8->Int->List UInt8->Option (List UInt8))(s5 s6:Int)(s8:Bool)(tlz:List UInt8):∀(n:Nat)(ab y out:List UInt8),y.length<n->ab.length+y.length<100000000->out.length+y.length<1000000000 ->
  ∃m,px fu r0 n (ab++(y++tlz)) s5 s6 ((ab.length+y.length:Nat):Int) s8 (ab.length:Int) out=px fu r0 (m+1) (ab++(y++tlz)) s5 s6 ((ab.length+y.length:Nat):Int) s8 ((ab.length+y.length:Nat):Int) (out++dq y):=by
 intro n
 induction n with
 |zero=>intro ab y out h;omega|succ n ih=>
  intro ab y out h hb ho
  cases y with
  |nil=>exact⟨n,by simp[dq]⟩|cons c y=>
   simp only[qL]at h hb ho ⊢;have hi:ai (ab++((c::y)++tlz)) (ab.length:Int)=some c:=a6 ab c (y++tlz);have one:∃m,px fu r0 n (ab++(c::y++tlz)) s5 s6 ((ab.length+(y.length+1):Nat):Int) s8 ((ab.length+1:Nat):Int) (out++[c])=px fu r0 (m+1) (ab++(c::y++tlz)) s5 s6 ((ab.length+(y.length+1):Nat):Int) s8 ((ab.length+(y.length+1):Nat):Int) (out++c::dq y):=by
    obtain⟨m,hm⟩:=ih (ab++[c]) y (out++[c]) oA oB oB
    refine⟨m,?_⟩;simp only[qM,qL,qZ,wO,qS,wK,List.nil_append]at hm ⊢;rw[show ab.length+(y.length+1)=ab.length+1+y.length by omega]
    exact hm
   have e1:ae ((ab.length:Int)+1)=((ab.length+1:Nat):Int):=ar _
   have e2:ae ((ab.length:Int)+2)=((ab.length+2:Nat):Int):=by rw[bt];omega
   rw[px,qqx,af oA,hi,qB,gy,e1,e2]
   by_cases q:c=61
   ·subst q;rw[qX rfl,bp];by_cases k:ab.length+2<ab.length+(y.length+1)
    ·rw[qX oA]
     obtain⟨a,b,y,rfl⟩:∃a b z,y=a::b::z:=by
      match y,k with|[],k=>exact absurd k oC|[_],k=>exact absurd k oC|a::b::z,_=>exact⟨a,b,z,rfl⟩
     have h1:=(zh4 ab 61 a b (y++tlz)).1;have h2:=(zh4 ab 61 a b (y++tlz)).2;have e0:ab++(61::a::b::y++tlz)=ab++61::a::b::(y++tlz):=rfl;rw[e0,h1,qB,vl fu hfu,qB,bp];simp only[qL]at h hb ho one ⊢;rcases zws a b with hn|⟨x,z,ha,hz,hx16,hz16,hs⟩
     ·have hnn:=zwr a b hn;have ed:dq (61::a::b::y)=61::dq (a::b::y):=by rw[qu4,show nt (a::b::y)=hx a b from rfl,hn]
      rw[ed];have fin:∃m,wk fu r0 (px fu r0 n) (ab++61::a::b::(y++tlz)) s5 s6 ((ab.length+(y.length+1+1+1):Nat):Int) s8 (ab.length:Int) false out=px fu r0 (m+1) (ab++61::a::b::(y++tlz)) s5 s6 ((ab.length+(y.length+1+1+1):Nat):Int) s8 ((ab.length+(y.length+1+1+1):Nat):Int) (out++61::dq (a::b::y)):=by
       rw[q7v fu r0 _ _ _ _ _ _ _ _ _ (show ai (ab++61::a::b::(y++tlz)) (ab.length:Int)=some 61 from hi)]
       exact one
      by_cases ka:0<=ie a
      ·rw[qX ka,h2,qB,vl fu hfu,qB,decide_eq_false (fun kb=>hnn ⟨ka,kb⟩)]
       exact fin
      ·rw[qW ka];exact fin
     ·have ed:dq (61::a::b::y)=(16*x+z)::dq y:=zu6 _ _ _ _ hs;rw[ed,qX oA,h2,qB,vl fu hfu,qB,decide_eq_true oA]
      unfold wk;rw[au rfl,e1,e2,h1,qB,vl fu hfu,qB,h2,qB,vl fu hfu,qB,ha,hz,(qpv x z hx16 hz16).2,af oK]
      unfold qjn;rw[ar _]
      obtain⟨m,hm⟩:=ih (ab++[61,a,b]) y (out++[16*x+z]) oA oB oB
      refine⟨m,?_⟩;simp only[qM,qL,qZ,wO,qS,wK,List.nil_append]at hm ⊢;rw[show ab.length+(y.length+1+1+1)=ab.length+(1+1+1)+y.length by omega]
      exact hm
    ·rw[qW oA,q7v fu r0 _ _ _ _ _ _ _ _ _ hi]
     have ed:dq (61::y)=61::dq y:=by
      rw[qu4]
      match y,k with|[],_=>rfl|[_],_=>rfl|_::_::_,k=>exact absurd oG k
     rw[ed];exact one
   ·rw[qW q,q7v fu r0 _ _ _ _ _ _ _ _ _ hi,q6a _ _ q]
    exact one
def zyg(fu:Nat)(r0:List UInt8->Int->List UInt8->Option (List UInt8))(ab u e r:List UInt8)(nl:Bool)(stop:Nat)(hs:stop+nl.toNat=ab.length+u.length+e.length)(hn:nl=false->e=[]/\r=[])(m:Nat)(s7:Int)(s8:Bool)(out:List UInt8)(hb:ab.length+u.length+e.length<100000000)(ho:out.length+e.length<1000000000) :
  px fu r0 (m+1) (ab++(u++(e++r))) (stop:Int) ((ab.length+u.length:Nat):Int) s7 s8 s7 out=r0 (ab++(u++(e++r))) ((stop+1:Nat):Int) (out++if s8 then[] else e):=by
 rw[px,qqx,ao]
 have ac:((ab++(u++(e++r))).length:Int)=(ab.length:Int)+u.length+e.length+r.length:=by simp;omega
 cases nl with
 |false=>
  obtain⟨rfl,rfl⟩:=hn rfl;simp only[qZ,Nat.add_zero,Bool.toNat_false]at hs;rw[ao (by rw[ac];simp;omega),ar _]
  cases s8<;>simp
 |true=>
  simp only[Bool.toNat_true]at hs;rw[af (by rw[ac];omega),ar _]
  cases s8 with
  |true=>rw[aw (show(!true)=false from rfl)];simp|false=>
   have et:List.take (((stop+1:Nat):Int).toNat-((ab.length+u.length:Nat):Int).toNat) (List.drop ((ab.length+u.length:Nat):Int).toNat (ab++(u++(e++r))))=e:=by
    have:=la (ab++u) (e++r);rw[qM,qS]at this;rw[this,show((stop+1:Nat):Int).toNat-((ab.length+u.length:Nat):Int).toNat=e.length by omega,List.take_left]
   rw[au (show(!false)=true from rfl),et,af (by rw[ac];omega),af oK];rfl
def zyf(fu:Nat)(r0:List UInt8->Int->List UInt8->Option (List UInt8))(ab:List UInt8)(s5 s6:Int)(out:List UInt8):∀(n:Nat)(v tlz:List UInt8),v.length<n->ab.length+v.length<100000000 ->
  qjp fu r0 n (ab++(v++tlz)) (ab.length:Int) s5 s6 ((ab.length+v.length:Nat):Int) out=qej fu r0 (fun _ _ _ _ _ _=>none) (ab++(v++tlz)) (ab.length:Int) s5 s6 ((ab.length+(ch v).length:Nat):Int) false out:=by
 intro n
 induction n with
 |zero=>intro v tlz h;omega|succ n ih=>
  intro v tlz h hb;rw[qjp,qy5];rcases List.eq_nil_or_concat v with rfl|⟨t,c,rfl⟩
  ·rw[ao];rfl
  ·rw[List.concat_eq_append]at *;simp only[qM,qL,qZ]at h hb ⊢;have hi:ai (ab++(t++[c]++tlz)) ((ab.length+t.length:Nat):Int)=some c:=by
    have:=a6 (ab++t) c tlz;simpa using this
   have ew:ae (((ab.length+(t.length+(0+1)):Nat):Int)-1)=((ab.length+t.length:Nat):Int):=by rw[bt];omega
   rw[af oA,ew,hi,qB,zyj,qB,yf]
   cases hbl:bl c with
   |false=>
    simp only[wJ,if_false,qM,qL,qZ];rfl
   |true=>
    rw[qX rfl];unfold qej;rw[au rfl];unfold qy7;rw[ew];have:=ih t ([c]++tlz) oA oA
    rw[← qS t]at this;rw[this];rfl
def z24(u:List UInt8):∃w,u=ch u++w:=by
 unfold ch;refine⟨(u.reverse.takeWhile bl).reverse,?_⟩;rw[← List.reverse_append,List.takeWhile_append_dropWhile,List.reverse_reverse]
def q7w(fu:Nat)(hfu:17<fu)(r0:List UInt8->Int->List UInt8->Option (List UInt8))(ab u e r:List UInt8)(nl:Bool)(stop:Nat)(hs:stop+nl.toNat=ab.length+u.length+e.length)(hn:nl=false->e=[]/\r=[])(out:List UInt8)(hf:u.length<fu)(hb:ab.length+u.length+e.length<100000000)(ho:out.length+u.length+e.length<1000000000) :
  qjo fu r0 (ab++(u++(e++r))) (ab.length:Int) (stop:Int) ((ab.length+u.length:Nat):Int) out=r0 (ab++(u++(e++r))) ((stop+1:Nat):Int) (out++lnT (ch u) e):=by
 unfold qjo;rw[zyf fu r0 ab _ _ out fu u (e++r) hf oA]
 have hrl:=vn u;have text:∀y w s8,u=y++w->qjm fu r0 (ab++(u++(e++r))) (ab.length:Int) (stop:Int) ((ab.length+u.length:Nat):Int) ((ab.length+y.length:Nat):Int) s8 out=r0 (ab++(u++(e++r))) ((stop+1:Nat):Int) (out++dq y++if s8 then[] else e):=by
  intro y w s8 hu;have hyl:y.length<=u.length:=by rw[hu];simp
  have hdl:=qu5 _ y (wF _);unfold qjm;obtain⟨m,hm⟩:=zye fu hfu r0 (stop:Int) ((ab.length+u.length:Nat):Int) s8 (w++(e++r)) fu ab y out oA oA oA
  rw[← qS y,← hu]at hm;rw[hm,zyg fu r0 ab u e r nl stop hs hn m _ s8 (out++dq y) hb oN]
 obtain⟨w,hw⟩:=z24 u;unfold qej lnT;rw[aw rfl];revert hw hrl;generalize ch u=v;intro hvl hw;rcases List.eq_nil_or_concat v with rfl|⟨t,c,rfl⟩
 ·rw[ao,qW oC]
  unfold qjq;rw[aw rfl,text [] w false hw];simp
 ·rw[List.concat_eq_append]at *;simp only[qM,qL,qZ]at hvl ⊢;have hi:ai (ab++(u++(e++r))) ((ab.length+t.length:Nat):Int)=some c:=by
   have:=a6 (ab++t) c (w++(e++r));rw[hw];simpa using this
  have ew:ae (((ab.length+(t.length+(0+1)):Nat):Int)-1)=((ab.length+t.length:Nat):Int):=by rw[bt];omega
  rw[af oA,ew,hi,qB,List.getLast?_concat]
  unfold qjq;by_cases q:c=61
  ·subst q;rw[au,qX rfl,List.dropLast_concat,ew]
   have:=text t ([61]++w) true (by rw[hw];simp)
   rw[show((61:UInt8)==61)=true from rfl,this];simp
  ·have qb:(c==61)=false:=by simp[q]
   rw[qb,aw rfl,qW (by simpa using q)]
   have:=text (t++[c]) w false hw;rw[qM]at this;simp only[qL,qZ]at this;rw[this];simp
def ziq(fu:Nat)(r0:List UInt8->Int->List UInt8->Option (List UInt8))(pos:Int)(out tlz:List UInt8)(ht:tlz=[]\/∃r,tlz=10::r):∀(n:Nat)(ab t:List UInt8),t.length<n->ab.length+t.length<100000000->(∀x∈t,x≠10) ->
  qbh fu r0 n (ab++(t++tlz)) pos (ab.length:Int) out=qbi fu r0 (fun _ _ _ _=>none) (ab++(t++tlz)) pos ((ab.length+t.length:Nat):Int) false out:=by
 intro n
 induction n with
 |zero=>intro ab t h;omega|succ n ih=>
  intro ab t h hb h10;rw[qbh,qy4]
  cases t with
  |nil=>
   rcases ht with rfl|⟨r,rfl⟩
   ·rw[ao];rfl
   ·rw[af oB,List.nil_append,a6,qB];rfl
  |cons c t=>
   have hc:=h10 c qH;simp only[qL]at h hb ⊢;have hi:ai (ab++(c::t++tlz)) (ab.length:Int)=some c:=a6 ab c (t++tlz);rw[af oB,hi,qB]
   have hcb:(c != 10)=true:=by simpa using hc
   rw[hcb]
   conv=>lhs;unfold qbi
   rw[au rfl];unfold qy6;rw[ar _]
   have:=ih (ab++[c]) t oA oB (fun x hx=>h10 x (qE _ hx))
   simp only[qM,qL,qZ,wO,qS,wK,List.nil_append]at this ⊢;rw[this,show ab.length+1+t.length=ab.length+(t.length+1) by omega]
def zyi(fu:Nat)(hfu:17<fu)(r0:List UInt8->Int->List UInt8->Option (List UInt8))(ab t r:List UInt8)(out:List UInt8)(h10:∀x∈t,x≠10)(hf:t.length<fu:=by omega)(hb:ab.length+t.length+2<100000000:=by omega)(ho:out.length+t.length+2<1000000000:=by omega) :
  qbh fu r0 fu (ab++(t++10::r)) (ab.length:Int) (ab.length:Int) out=r0 (ab++(t++10::r)) ((ab.length+t.length+1:Nat):Int) (out++ni t true):=by
 rw[ziq fu r0 _ out (10::r) (.inr ⟨r,rfl⟩) fu ab t hf oA h10]
 unfold qbi;rw[aw rfl,af oB]
 unfold ni lnE;rw[qX rfl];have plainE:=q7w fu hfu r0 ab t [10] r true (ab.length+t.length) oC (fun q=>by cases q) out hf oB oB
 rcases List.eq_nil_or_concat t with rfl|⟨u,c,rfl⟩
 ·rw[ao,qW oC]
  unfold qbj;rw[aw rfl];exact plainE
 ·rw[List.concat_eq_append]at *;have hi:ai (ab++(u++[c]++10::r)) ((ab.length+u.length:Nat):Int)=some c:=by
   have:=a6 (ab++u) c (10::r);simpa using this
  simp only[qM,qL,qZ]at hf hb ho plainE ⊢;have ew:ae (((ab.length+(u.length+(0+1)):Nat):Int)-1)=((ab.length+u.length:Nat):Int):=by rw[bt];omega
  rw[af oA,ew,hi,qB,List.getLast?_concat]
  unfold qbj;by_cases q:c=13
  ·subst q;rw[au,qX rfl,List.dropLast_concat,ew]
   have:=q7w fu hfu r0 ab u [13,10] r true (ab.length+(u.length+(0+1))) oB (fun q=>by cases q) out oA oB oB
   simpa using this
  ·have qb:(c==13)=false:=by simp[q]
   rw[qb,aw rfl,qW (by simpa using q)]
   exact plainE
def zyh(fu:Nat)(hfu:17<fu)(r0:List UInt8->Int->List UInt8->Option (List UInt8))(ab t:List UInt8)(out:List UInt8)(h10:∀x∈t,x≠10)(hf:t.length<fu)(hb:ab.length+t.length+2<100000000)(ho:out.length+t.length+2<1000000000) :
  qbh fu r0 fu (ab++t) (ab.length:Int) (ab.length:Int) out=r0 (ab++t) ((ab.length+t.length+1:Nat):Int) (out++ni t false):=by
 have h1:=ziq fu r0 (ab.length:Int) out [] (.inl rfl) fu ab t hf oA h10
 rw[List.append_nil]at h1;rw[h1];unfold qbi;rw[aw rfl,ao]
 unfold qbj;rw[aw rfl];have:=q7w fu hfu r0 ab t [] [] false (ab.length+t.length) oC (fun q=>⟨rfl,rfl⟩) out hf oB oB
 rw[List.append_nil,List.append_nil]at this;rw[this];rfl
def zyd(fu n:Nat)(hfu:17<fu):∀(ab aa out:List UInt8),aa.length<n->aa.length<fu->ab.length+aa.length+2<100000000->out.length+aa.length+2<1000000000 ->
  qei fu n (ab++aa) (ab.length:Int) out=some (out++qm [] aa):=by
 induction n with
 |zero=>intro ab aa out h;omega|succ n ih=>
  intro ab aa out h hf hb ho;rw[qei,qqw];rcases q9n aa with⟨t,r,rfl,h10⟩|h10
  ·simp only[qM,qL]at h hf hb ho;have ac:=lnO_len t true;simp only[Bool.toNat_true]at ac;rw[af oB,zyi fu hfu _ ab t r out h10]
   have:=ih (ab++t++[10]) r (out++ni t true) oA oA oB oN
   simp only[qM,qL,qZ,wO,qS,wK,List.nil_append]at this;rw[← Nat.add_assoc]at this;rw[this,zj9 t r h10]
  ·cases aa with
   |nil=>rw[ao];simp;rfl|cons c s=>
    have hn:∃k,n=k+1:=⟨n-1,by simp only[qL]at h;omega⟩
    obtain⟨k,rfl⟩:=hn;rw[af oB,zyh fu hfu _ ab (c::s) out h10 hf oA oA,zj8 _ h10,qei,qqw,ao]
def rlq_eq(fu:Nat)(s:List UInt8)(hf:s.length+20<fu)(hb:s.length<=48000):qy3 fu s=some (qm [] s):=by
 have:=zyd fu fu oA [] s [] oA oA oB oB
 rw[List.nil_append,List.nil_append]at this;exact this
end Go.Sym.Tr
namespace Go.Sym.Tr
def decR(b name:List UInt8):(Int×Int)×List UInt8:=
 if cod name = -1 then((18,-3),[]) else if 12000<b.length then((1,-1),[]) else
 if cod name=0 then((0,0),b) else if cod name=1 then((0,0),b) else
 if cod name=2 then((0,0),by8 (dbits b)) else((0,0),qm [] b)
def decode_eq(fu:Nat)(b name:List UInt8)(hf:100000+name.length<fu)(hn:name.length<=maxLen):qnh fu b name=some (decR b name):=by
 unfold qnh q39;rw[zvu fu name oA oA hn]
 simp only[qB,cd,dh,ef];unfold decR;rcases cod_cases name with h|h|h|h|h<;>rw[h]
 ·by_cases hl:12000<b.length
  ·have hi:(12000:Int)<(b.length:Int):=oA
   simp[bz,hl,hi]
  ·have hi:¬(12000:Int)<(b.length:Int):=oA
   simp[bz,hl,hi,zf9 b]
 ·by_cases hl:12000<b.length
  ·have hi:(12000:Int)<(b.length:Int):=oA
   simp[bz,hl,hi]
  ·have hi:¬(12000:Int)<(b.length:Int):=oA
   simp[bz,hl,hi,zf9 b]
 ·by_cases hl:12000<b.length
  ·have hi:(12000:Int)<(b.length:Int):=oA
   simp[bz,hl,hi]
  ·have hi:¬(12000:Int)<(b.length:Int):=oA
   simp[bz,hl,hi,zx3 fu b]
 ·by_cases hl:12000<b.length
  ·have hi:(12000:Int)<(b.length:Int):=oA
   simp[bz,hl,hi]
  ·have hi:¬(12000:Int)<(b.length:Int):=oA
   simp[bz,hl,hi,z03 fu b]
 ·simp[bz]
end Go.Sym.Tr
namespace Go.Sym
abbrev g8:Bs:=[67,111,110,116,101,110,116,45,84,114,97,110,115,102,101,114,45,69,110,99,111,100,105,110,103]
abbrev qql:Type:=Bs->Bs->(Int×Int)×Bs
def ma(dec:qql):List Bs->Bs->Bs|[],b=>(dec b [55,98,105,116]).2|v::vs,b=>if(dec b v).1.1≠18 then(dec b v).2 else ma dec vs b
-- lengths
def ztw:∀(n:Nat)(l:List Nat),l.length<=n->(Tr.by8 l).length<=l.length:=by
 intro n
 induction n with
 |zero=>intro l h;have:l=[]:=List.eq_nil_of_length_eq_zero oA;subst this;simp[Tr.by8]|succ n ih=>
  intro l h;by_cases h8:l.length<8
  ·rw[Tr.by8_short l h8];simp
  ·match l,h,h8 with
   |a::b::c::d::e::f::g::k::r,h,_=>
    rw[Tr.by8];have:=ih r (by simp only[qL]at h;omega)
    simp only[qL];omega
   |[],_,h8=>exact absurd oC h8|[_],_,h8=>exact absurd oC h8|[_,_],_,h8=>exact absurd oC h8|[_,_,_],_,h8=>exact absurd oC h8|[_,_,_,_],_,h8=>exact absurd oC h8|[_,_,_,_,_],_,h8=>exact absurd oC h8|[_,_,_,_,_,_],_,h8=>exact absurd oC h8|[_,_,_,_,_,_,_],_,h8=>exact absurd oC h8
def zgj:∀l:Bs,(Tr.dbits l).length<=6*l.length
 |[]=>by simp[Tr.dbits]|c::r=>by
  have:=zgj r;rw[Tr.dbits];split
  ·simp
  ·split
   ·simp only[qL];omega
   ·have h6:∀v,(Tr.six v).length=6:=fun v=>rfl
    rw[qM,h6,qL];omega
def q80:∀(l acc:Bs),(Tr.qm acc l).length<=acc.length+l.length
 |[],acc=>by rw[Tr.qm];have:=Tr.lnO_len acc false;simp only[Bool.toNat_false]at this;simp only[qZ];omega|c::r,acc=>by
  rw[Tr.qm];split
  ·have h1:=Tr.lnO_len acc true;have h2:=q80 r [];simp only[Bool.toNat_true]at h1;simp only[qZ]at h2;rw[qM,qL];omega
  ·have:=q80 r (acc++[c]);rw[qM,wD]at this;rw[qL];omega
def zgp(b name:Bs)(h:b.length<=12000):(Tr.decR b name).2.length<=72000:=by
 unfold Tr.decR;split
 ·simp
 ·split
  ·simp
  ·split
   ·simp only;omega
   ·split
    ·simp only;omega
    ·split
     ·have h1:=ztw _ (Tr.dbits b) (wF _);have h2:=zgj b;simp only;omega
     ·have:=q80 b [];simp only[qZ]at this;simp only;omega
def qux(b:Bs)(h:b.length<=12000):∀vs:List Bs,(ma Tr.decR vs b).length<=72000
 |[]=>zgp b _ h|v::vs=>by
  rw[ma];split
  ·exact zgp b _ h
  ·exact qux b h vs
-- the content of a part
def zuj(fu n:Nat)(hfu:90000000<=fu)(t:TP):∀(ab aa:List aq),aa.length<n->ab.length+aa.length<100000000->(∀x∈aa,x.1.length<=4000000/\x.2.length<=4000000) ->
  qni fu n (ab++aa) ((ab.length+aa.length:Nat):Int) (ab.length:Int) t=some (ma Tr.decR (cg aa g8) t.val.2):=by
 induction n with
 |zero=>intro ab aa h;omega|succ n ih=>
  intro ab aa h hb hs;rw[qni,q4a];simp only[dc]
  cases aa with
  |nil=>
   rw[ao,Tr.decode_eq fu t.val.2 _ oB (by simp[maxLen]),qB]
   rfl
  |cons y aa=>
   simp only[qL]at h hb;obtain⟨y1,y2⟩:=hs y qH;rw[af oG,a6,qB,nz fu hfu _ _ y1 oC,qB,ar _,yj]
   have ih:=ih (ab++[y]) aa oA oB (fun x hx=>hs x (qE _ hx))
   simp only[qM,qL,qZ,qS,wM,wO]at ih;rw[show ab.length+(y::aa).length=ab.length+1+aa.length by simp only[qL];omega]
   cases e:lk y.1 g8
   ·rw[cu,qW (by show ¬lk y.1 g8=true;rw[e];simp)]
    exact ih
   ·rw[bq,qX (show(y.1.map lo==g8.map lo)=true from e),Tr.decode_eq fu t.val.2 y.2 oA oM,qB,dz,ma]
    by_cases h18:(Tr.decR t.val.2 y.2).1.1≠18
    ·rw[qX h18,qX h18]
    ·rw[qW h18,qW h18];exact ih
def zui(fu:Nat)(hfu:90000000<=fu)(t:TP)(hl:t.val.1.length<=4000000)(hs:∀x∈t.val.1,x.1.length<=4000000/\x.2.length<=4000000):qtv fu t=some (ma Tr.decR (cg t.val.1 g8) t.val.2):=by
 unfold qtv;simp only[dc];have:=zuj fu fu hfu t [] t.val.1 oA oB hs
 simpa using this
end Go.Sym
namespace Go.Sym
abbrev rvN:Bs:=[82,101,99,101,105,118,101,100]
def qaj(x:aq):Bool := !lk x.1 rvN && !lk x.1 g8
def u6(x:aq):Bs:=x.1.map lo++[58]++il x.2++[13,10]
def ffl(l:List aq):Bs:=(l.filter qaj).flatMap u6
def ez(dec:qql)(q:TP):Bs:=if q.kids.length=0 then xf (ma dec (cg q.val.1 g8) q.val.2) else[]
def pc(dec:qql)(q:TP):Bs:=(Lib.decDigits q.kids.length++[32]++Lib.decDigits (ffl q.val.1).length++[32]++Lib.decDigits (ez dec q).length++[13,10])++ffl q.val.1++ez dec q
def qc9(dec:qql)(n:Nat)(t:TP):Bs:=(bj n t 0).flatMap fun x=>pc dec x.1

def zth(c:UInt8):ru c=some (bl c):=by unfold ru bl;cases c==32<;>rfl
def zfi(c:UInt8):iw c=some (bl c):=by unfold iw bl;cases c==32<;>rfl
def z41(m:Bs)(hb:m.length<1000000000):qto m [32]=some (vq m):=by
 unfold qto q15 qb8;rcases qwc m with rfl|⟨t,c,rfl⟩
 ·rfl
 ·simp only[qM,wD]at hb;rw[zm0];have e:ae (((t++[c]).length:Int)-(([32]:Bs).length:Int))=(t.length:Int):=by
   rw[bt (by simp<;>omega) (by simp<;>omega)];simp
  have g1:(1:Int)<=(t.length:Int)+1:=oA
  have g2:(t.length:Int)<=(t.length:Int)+1:=oA
  rw[e];by_cases hc:c=32
  ·subst hc;simp[g1,g2]
  ·have hcb:(c==32)=false:=beq_false_of_ne hc;simp[hc,g1,g2,hcb]
def z30(fu n:Nat):∀(ab aa out:Bs)(p:Bool),aa.length<n->ab.length+aa.length<100000000->out.length+aa.length<1000000000->(p=true↔out.getLast? = some 32) ->
  qb5 fu n (ab++aa) ((ab.length+aa.length:Nat):Int) (ab.length:Int) out=some (vq (out++sq p aa)):=by
 induction n with
 |zero=>intro _ _ _ _ h;omega|succ n ih=>
  intro ab aa out p h hb ho hp
  cases aa with
  |nil=>
   simp only[qb5,qr6];rw[ao,z41 out (by simp at ho;omega)]
   simp[sq]
  |cons c r=>
   simp only[qL]at h hb ho;have nx:ae ((ab.length:Int)+1)=((ab.length+1:Nat):Int):=ar _
   have ih':=fun(o:Bs)(q:Bool)(h1:o.length<=out.length+1)(h2:q=true↔o.getLast? = some 32)=>ih (ab++[c]) r o q oA oB oA h2
   simp only[qM,wD,qS,wM]at ih';have e:((ab.length+(c::r).length:Nat):Int)=((ab.length+1+r.length:Nat):Int):=by simp;omega
   have rm:∀d:UInt8,(out++[d]).length<=az:=fun d=>by simp[az];omega
   simp only[qb5,qr6];rw[e,af oB,a6,qB,zth,qB,nx]
   unfold sq;cases hbl:bl c
   ·simp only[qF,wJ,if_false];rw[af (rm c),ih' (out++[c]) false oC (by simp[zfg hbl])]
    simp
   ·simp only[qT,if_true];have app:qb5 fu n (ab++c::r) ((ab.length+1+r.length:Nat):Int) ((ab.length+1:Nat):Int) (out++[32])=some (vq (out++32::sq true r)):=by
     rw[ih' (out++[32]) true oC oC];simp
    rcases qwc out with rfl|⟨t,d,rfl⟩
    ·have hp0:p=false:=by cases p;rfl;simp at hp
     subst hp0;rw[ao,af (rm 32),app];simp
    ·have w1:ae (((t++[d]).length:Int)-1)=(t.length:Int):=by
      rw[fk];exact ft _ (by simp at ho;omega)
     rw[af (by simp<;>omega),w1,af oC,ic,qB,gy]
     have hd:(p=true)↔d=32:=by rw[hp];simp
     by_cases hd32:d=32
     ·have hpt:p=true:=hd.2 hd32;rw[qX hd32,ih' (t++[d]) true oC (by simp[hd32]),qX hpt]
     ·have hpf:¬p=true:=fun q=>hd32 (hd.1 q)
      rw[qW hd32,af (rm 32),app,qW hpf]
def zma(fu:Nat)(s:Bs)(h:s.length<fu:=by omega)(hb:s.length<100000000:=by omega):qlu fu s=some (il s):=by
 have:=z30 fu fu [] s [] false h (by simpa using hb) oB oC
 simpa [qlu,il] using this
def z2y(fu n:Nat):∀(ab aa out:Bs)(p:Bool),aa.length<n->ab.length+aa.length<100000000->out.length+aa.length<1000000000->(p=true↔out.getLast? = some 32) ->
  (p=true->∃q b,ab=q++[b]/\bl b=true) ->
  qb0 fu n (ab++aa) out (ab.length:Int)=some (vq (out++sq p aa)):=by
 induction n with
 |zero=>intro _ _ _ _ h;omega|succ n ih=>
  intro ab aa out p h hb ho hp hq
  cases aa with
  |nil=>
   simp only[qb0,qrq,sq,List.append_nil];rw[ao]
   simp only[qZ,Nat.add_zero]at ho;rcases qwc out with rfl|⟨t,d,rfl⟩
   ·rfl
   ·have w1:ae (((t++[d]).length:Int)-1)=(t.length:Int):=by
     rw[fk];exact ft _ (by simp at ho;omega)
    rw[show(!((t++[d])==([]:Bs)))=true by simp,w1,th,qB]
    simp only[qT];rw[gy,af oB,zm0,t6]
    split<;>simp
  |cons c r=>
   simp only[qL]at h hb ho;have nx:ae ((ab.length:Int)+1)=((ab.length+1:Nat):Int):=ar _
   have ih':=fun(o:Bs)(q:Bool)(h1:o.length<=out.length+1)(h2:q=true↔o.getLast? = some 32)(h3:q=true->bl c=true)=>ih (ab++[c]) r o q oA oB oA h2 (fun hq=>⟨ab,c,rfl,h3 hq⟩)
   simp only[qM,wD,qS,wM]at ih';have sm:∀d:Bs,d.length<=1->out.length+d.length<=ap:=fun d hd=>by simp only[ap];omega
   simp only[qb0,qrq,qk9,qla];rw[af oB,a6,qB,zfi,qB,nx]
   unfold sq;cases hbl:bl c
   ·have tk:List.take (((ab.length+1:Nat):Int).toNat-(ab.length:Int).toNat) (List.drop (ab.length:Int).toNat (ab++c::r))=[c]:=by
     rw[la];simp
    rw[cu,af ⟨oA,oA,oB⟩,tk,af (sm [c] oC),ih' (out++[c]) false oC (by simp[zfg hbl]) (fun h=>by cases h)]
    simp
   ·have app:qb0 fu n (ab++c::r) (out++[32]) ((ab.length+1:Nat):Int)=some (vq (out++32::sq true r)):=by
     rw[ih' (out++[32]) true oC oC (fun _=>hbl)];simp
    rw[bq];simp only[qT,if_true];rcases qwc out with rfl|⟨t,d,rfl⟩
    ·have hp0:p=false:=by cases p;rfl;simp at hp
     subst hp0;rw[show(([]:Bs)==([]:Bs))=true from rfl]
     simp only[qT];rw[af (sm [32] oC),app];simp
    ·have w1:ae (((t++[d]).length:Int)-1)=(t.length:Int):=by
      rw[fk];exact ft _ (by simp at ho;omega)
     rw[show((t++[d])==([]:Bs))=false by simp]
     simp only[qF];rw[w1,th,qB,uu];have hd:(p=true)↔d=32:=by rw[hp];simp
     by_cases hd32:d=32
     ·have hpt:p=true:=hd.2 hd32;obtain⟨q,b,hpre,hbb⟩:=hq hpt;subst hpre;have w2:ae (((q++[b]).length:Int)-1)=(q.length:Int):=by rw[fk];exact ft _ (by simp at hb;omega)
      rw[qW (by simp[hd32]),w2,show q++[b]++c::r=q++b::c::r by simp,a6,qB,zfi,qB,hbb,bq]
      rw[show q++b::c::r=q++[b]++c::r by simp,ih' (t++[d]) true oC (by simp[hd32]) (fun _=>hbl),qX hpt]
     ·have hpf:¬p=true:=fun q=>hd32 (hd.1 q)
      rw[qX hd32,af (sm [32] oC),app,qW hpf]
def zlg(fu:Nat)(s:Bs)(h:s.length<fu:=by omega)(hb:s.length<100000000:=by omega):qk8 fu s=some (il s):=by
 have:=z2y fu fu [] s [] false h (by simpa using hb) oB oC (fun h=>by cases h)
 simpa [qk8,il] using this
def zh7:∀s:Bs,Lib.index s [13,10]=match(bi s).2 with|none => -1|some _=>((bi s).1.length:Int)
 |[]=>rfl|c::s=>by
  unfold Lib.index bi;by_cases h:c=13/\s.head? = some 10
  ·rw[qX h];obtain⟨rfl,h2⟩:=h
   cases s with
   |nil=>cases h2
   |cons d s=>
    have:d=10:=by simpa using h2
    subst this;rfl
  ·rw[qW h];have hp:List.isPrefixOf [13,10] (c::s)=false:=by
    cases s with
    |nil=>simp[List.isPrefixOf]|cons d s=>
     simp only[List.isPrefixOf,Bool.and_true,Bool.and_eq_false_iff,beq_eq_false_iff_ne];by_cases h13:c=13
     ·exact .inr fun e=>h ⟨h13,by rw[← e];rfl⟩
     ·exact .inl fun e=>h13 e.symm
   rw[hp,zh7 s]
   cases hq:(bi s).2 with
   |none=>simp|some r=>
    simp only[wJ,if_false];rw[qW oC,qL];omega
def q93:∀s:Bs,s.take (bi s).1.length=(bi s).1
 |[]=>rfl|c::s=>by
  unfold bi;split
  ·rfl
  ·simp[q93 s]
def zgt:∀(s r:Bs),(bi s).2=some r->s.drop ((bi s).1.length+2)=r
 |[],_,h=>by cases h
 |c::s,r,h=>by
  unfold bi at h ⊢;split at h
  ·rename_i hc;rw[qX hc];simp only[qI]at h;subst h;simp
  ·rename_i hc;rw[qW hc];have:=zgt s r h;simpa [Nat.add_right_comm] using this
def qht:∀k,(ny k).length=2*k|0=>rfl|k+1=>by simp only[ny,qL,qht k];omega
def zku:∀k,Lib.repeatL [13,10] k=ny k|0=>rfl|k+1=>by rw[Lib.repeatL,zku k];rfl
def zla(fu:Nat)(l out:Bs)(e:Nat)(h:l.length<fu:=by omega)(hl:l.length<100000000:=by omega)(he:e<100000000:=by omega)(ho:out.length<100000000:=by omega) :
  qls fu l (e:Int) out=some (if il l=[] then(((e+1:Nat):Int),out) else((0:Int),out++(ny e++il l++[13,10]))):=by
 have hz:=qdv l;unfold qls;rw[zma fu l h hl,qB];by_cases h0:il l=[]
 ·rw[qX h0,h0,ar _];rfl
 ·rw[qW h0];have hb:(il l==([]:Bs))=false:=by simpa using h0
  rw[hb,qF];unfold qf7;rw[af oU,qB,qY,zku]
  rw[af (by rw[qht];simp only[ap];omega),af (by rw[qM,qht];simp only[ap,qL,qZ];omega),
   af (by simp only[qM,qht,az,qL,qZ];omega)]
def z3p(fu n:Nat):∀(s out:Bs)(e:Nat),s.length<n->s.length<fu->out.length+2*e+3*s.length<10000000 ->
  ∃m2 e',qlm fu n [13,10] s 0 (e:Int) out=some ([13,10],(m2,(0,(e',out++lr (qj n s) e)))):=by
 induction n with
 |zero=>intro s _ _ h;omega|succ n ih=>
  intro s out e h hf hb;simp only[qlm,q1m];unfold uj;rw[af (by simp only[qL,qZ,maxLen];omega),qB,zh7]
  unfold qj
  cases hc:(bi s).2 with
  |none=>
   simp only;rw[af oA,af oA]
   simp only[qY,Int.toNat_zero,Nat.sub_zero,List.drop_zero,List.take_length];rw[zla fu s out e,qB]
   refine⟨s,if il s=[] then((e+1:Nat):Int) else 0,?_⟩
   by_cases h0:il s=[]
   ·simp[lr,h0]
   ·simp[lr,h0]
  |some r=>
   have hl:=qgw s r hc;obtain⟨hs,_⟩:=q55 s r hc;simp only;have w1:ae (((bi s).1.length:Int)+0)=((bi s).1.length:Int):=by rw[bt];omega
   have w2:ae (((bi s).1.length:Int)+(([13,10]:Bs).length:Int))=(((bi s).1.length+2:Nat):Int):=by
    rw[bt oU oU];simp only[qL,qZ];omega
   rw[ao,w1,af oA]
   have tk:List.take ((bi s).1.length:Int).toNat s=(bi s).1:=by rw[qY,q93]
   rw[tk,af oA]
   simp only[qY,Int.toNat_zero,Nat.sub_zero,List.drop_zero,List.take_length];rw[zla fu (bi s).1 out e,qB,w2,af oA]
   have dr:List.drop (((bi s).1.length+2:Nat):Int).toNat s=r:=by rw[qY,zgt s r hc]
   rw[dr];have hz:=qdv (bi s).1;by_cases h0:il (bi s).1=[]
   ·rw[qX h0];obtain⟨m2,e',hk⟩:=ih r out (e+1) oA oA oA
    exact⟨m2,e',by rw[hk,lr,qX h0]⟩
   ·rw[qW h0];obtain⟨m2,e',hk⟩:=ih r (out++(ny e++il (bi s).1++[13,10])) 0 oA oA (by simp only[qM,qht,qL,qZ];omega)
    exact⟨m2,e',by rw[show((0:Int))=((0:Nat):Int) from rfl]at hk ⊢;rw[hk,lr,qW h0];simp⟩
def ztz(fu:Nat)(b:Bs)(hf:b.length+10<fu:=by omega)(hb:b.length<1000000:=by omega):qlr fu b=some (xf b):=by
 unfold qlr q1f q1k;rw[af oF,qB,qB]
 simp only;unfold q1l;rw[aw (by rfl)]
 obtain⟨m2,e',hk⟩:=z3p fu fu b [] 0 oA oA oB
 rw[show((0:Nat):Int)=0 from rfl]at hk
 rw[hk,qB,List.nil_append];unfold xf;rw[q7o fu (b.length+1) b oA oA]
def zuk(ab aa:Bs)(hb:ab.length+aa.length<100000000):ue (ab++aa) (ab.length:Int)=some (decide (aa.head? = some 13/\aa.tail.head? = some 10)):=by
 unfold ue;rw[ar _,qM]
 cases aa with
 |nil=>rw[ao (by simp<;>omega)];rfl|cons c r=>
  cases r with
  |nil=>rw[ao];simp|cons d r=>
   rw[af oG,a6,qB]
   have e:ai (ab++c::d::r) ((ab.length+1:Nat):Int)=some d:=by
    have:=a6 (ab++[c]) d r;simpa using this
   rw[e,qB,gy];by_cases hc:c=13
   ·rw[qX hc];by_cases hd:d=10
    ·simp[hc,hd]
    ·simp[hd]
   ·rw[qW hc];simp[hc]
def zvl(fu:Nat)(r0:Bs->Bs->Int->Int->Option Bs)(out:Bs)(e:Int)(n:Nat):∀(ab done aa:Bs),aa.length<n->ab.length+done.length+aa.length<100000000 ->
  qku fu r0 n (ab++(done++aa)) out e (ab.length:Int) ((ab.length+done.length:Nat):Int) =
   ze fu r0 (fun _ _ _ _ _=>none) (ab++(done++aa)) out e (ab.length:Int) ((ab.length+(done.length+(bi aa).1.length):Nat):Int) false:=by
 induction n with
 |zero=>intro _ _ aa h;omega|succ n ih=>
  intro ab done aa h hb;simp only[qku,q0i];have ac:(ab++(done++aa)).length=ab.length+done.length+aa.length:=by simp[Nat.add_assoc]
  have hc:ue (ab++(done++aa)) ((ab.length+done.length:Nat):Int)=some (decide (aa.head? = some 13/\aa.tail.head? = some 10)):=by
   have:=zuk (ab++done) aa oB
   simpa using this
  cases aa with
  |nil=>
   rw[ao (by rw[ac];simp)]
   simp[bi,ze]
  |cons c r=>
   simp only[qL]at h hb ac;rw[af (by rw[ac];omega),hc,qB]
   simp only[List.head?_cons,List.tail_cons,qI];by_cases hcr:c=13/\r.head? = some 10
   ·have hcut:(bi (c::r)).1=[]:=by rw[bi,qX hcr]
    rw[decide_eq_true hcr,hcut];simp[ze]
   ·have hcut:(bi (c::r)).1=c::(bi r).1:=by rw[bi,qW hcr]
    rw[decide_eq_false hcr,Bool.not_false,ze,qT,q0k,ar _]
    have:=ih ab (done++[c]) r oA oB
    simp only[qS,wM,qM,wD]at this;rw[show ab.length+done.length+1=ab.length+(done.length+1) by omega,this]
    rw[hcut,qL,show done.length+((bi r).1.length+1)=done.length+1+(bi r).1.length by omega]
def zgu(fu:Nat)(r0:Bs->Bs->Int->Int->Option Bs)(b:Bs)(at_:Int)(z:Bs)(hz:z.length<100000000)(n:Nat):∀(out:Bs)(e:Nat),e<n->out.length+2*e<100000000 ->
  qkv fu r0 n b out (e:Int) at_ z=bif at_==(List.length b:Int) then some (out++(ny e++z++[13,10])) else r0 b (out++(ny e++z++[13,10])) 0 (ae (at_+2)):=by
 induction n with
 |zero=>intro _ e h;omega|succ n ih=>
  intro out e h hb;simp only[qkv,q0j]
  cases e with
  |zero=>
   rw[ao,af oO,af oL]
   simp[ny]
  |succ e=>
   have w1:ae (((e+1:Nat):Int)-1)=(e:Int):=by rw[bt];omega
   rw[af oA,af (by simp only[ap,qL,qZ];omega),w1,ih (out++[13,10]) e oA oR]
   simp[ny]
def z18(fu n:Nat):∀(ab aa out:Bs)(e:Nat),aa.length<n->ab.length+aa.length<1000000->ab.length+aa.length+10<fu->out.length+2*e+3*aa.length<10000000->e<fu ->
  e+aa.length<fu->qe5 fu n (ab++aa) out (e:Int) (ab.length:Int)=some (out++lr (qj n aa) e):=by
 induction n with
 |zero=>intro _ aa _ _ h;omega|succ n ih=>
  intro ab aa out e h hl hf hb he hef;simp only[qe5,q0h];have ac:(ab++aa).length=ab.length+aa.length:=oC
  rw[af (by rw[ac];omega)]
  have h1:=zvl fu (qe5 fu n) out (e:Int) fu ab [] aa oA oB
  simp only[List.nil_append,qZ,Nat.add_zero,wO]at h1;rw[h1,ze,qF];have hcl:(bi aa).1.length<=aa.length:=by
   cases hc:(bi aa).2 with|none=>rw[(qu0 aa hc).1];exact wF _|some r=>have:=qgw aa r hc;omega
  rw[af (by rw[ac];omega)]
  have tk:List.take (((ab.length+(bi aa).1.length:Nat):Int).toNat-(ab.length:Int).toNat) (List.drop (ab.length:Int).toNat (ab++aa))=(bi aa).1:=by
   rw[la,qY,qY,Nat.add_sub_cancel_left,q93]
  have hz:=qdv (bi aa).1;rw[tk,zlg fu _,qB]
  unfold qj
  cases hc:(bi aa).2 with
  |none=>
   have hs:=(qu0 aa hc).1;rw[hs];simp only;by_cases h0:il aa=[]
   ·rw[h0];rw[au,d6,qX (by rw[ac])]
    simp[lr,h0]
   ·have hb0:(il aa==([]:Bs))=false:=by simpa using h0
    rw[hs]at hz;rw[hb0,qF,zgu fu _ _ _ _ oA fu out e he oA,d6,qX (by rw[ac])]
    simp[lr,h0]
  |some r=>
   have hl2:=qgw aa r hc;obtain⟨hs,_⟩:=q55 aa r hc;simp only;have w2:ae (((ab.length+(bi aa).1.length:Nat):Int)+2)=((ab++(bi aa).1++[13,10]).length:Int):=by
    rw[bt];simp only[qM,qL,qZ];omega
   have hpre:ab++aa=(ab++(bi aa).1++[13,10])++r:=by
    generalize (bi aa).1=t at hs;subst hs;simp
   have hpl:(ab++(bi aa).1++[13,10]).length=ab.length+(bi aa).1.length+2:=by simp only[qM,qL,qZ]
   by_cases h0:il (bi aa).1=[]
   ·rw[h0];rw[au,d6,qW (by rw[ac];omega),ar _,w2,hpre,ih _ r out (e+1) oA oA oA oA oA oA,lr,qX h0]
   ·have hb0:(il (bi aa).1==([]:Bs))=false:=by simpa using h0
    rw[hb0,qF,zgu fu _ _ _ _ oA fu out e he oA,d6,qW (by rw[ac];omega),w2,hpre]
    have:=ih (ab++(bi aa).1++[13,10]) r (out++(ny e++il (bi aa).1++[13,10])) 0 oA oA oA (by simp only[qM,qht,qL,qZ];omega) oA oA
    rw[show((0:Nat):Int)=0 from rfl]at this
    rw[this,lr,qW h0];simp
def z17(fu:Nat)(b:Bs)(hf:b.length+10<fu:=by omega)(hb:b.length<1000000:=by omega):qrh fu b=some (xf b):=by
 have:=z18 fu fu [] b [] 0 oA oB oB oB oA oA
 simp only[List.nil_append,qZ]at this;unfold qrh xf;rw[q7o (b.length+1) fu b oA oA]
 exact this
def zf1:qrt 100000000=some true:=oD

def qut(x:aq):Bs:=x.1.map lo++[58]++il x.2++[13,10]
def zt2(fu:Nat)(x:aq)(hfu:90000000<=fu)(h:x.1.length<=1048576/\x.2.length<=1048576):qlt fu x=some (qut x):=by
 have h2:=qdv x.2;unfold qlt;rw[qhl fu x.1 oA oM,qB,af (by simp only[ap,wC,qL,qZ];omega),zma fu x.2,qB,
  af oS,af oS]
 rfl
def z16(fu:Nat)(x:aq)(hfu:90000000<=fu)(h:x.1.length<=1048576/\x.2.length<=1048576):qrk fu x=some (qut x):=by
 have h2:=qdv x.2;unfold qrk;rw[ya fu x.1 oA oM,qB,af (by simp only[ap,wC,qL,qZ];omega),zlg fu x.2,qB,
  af oS,af oS]
 rfl
def zfl(b:Bs):(xf b).length<=4*b.length+100:=by
 have h1:=q5i (qj (b.length+1) b) 0;have h2:∀(n:Nat)(s:Bs),s.length<n->((qj n s).map fun l=>l.length+2).sum<=s.length+2:=by
  intro n
  induction n with
  |zero=>intro s h;omega|succ n ih=>
   intro s h;rw[qj]
   cases hc:(bi s).2 with
   |none=>
    obtain⟨e,_⟩:=qu0 s hc;simp only[List.map_cons,List.map_nil,List.sum_cons,List.sum_nil];have:=congrArg List.length e;omega
   |some r=>
    have hl:=qgw s r hc;have:=ih r oA
    simp only[List.map_cons,List.sum_cons];omega
 have h3:=h2 (b.length+1) b oA
 unfold xf;omega
def q6n(x:aq):(u6 x).length<=x.1.length+x.2.length+3:=by
 have:=qdv x.2;unfold u6;simp only[qM,wC,qL,qZ];omega
def zg7(M:Nat):∀l:List aq,(∀x∈l,x.1.length+x.2.length<=M)->(ffl l).length<=(M+3)*l.length
 |[],_=>by simp[ffl]|x::l,h=>by
  have ih:=zg7 M l fun y hy=>h y (qE _ hy)
  have h1:=h x qH;have h2:=q6n x;unfold ffl at ih ⊢;rw[List.filter_cons,qL,Nat.mul_succ];split
  ·rw[List.flatMap_cons,qM];omega
  ·omega
def zgm:∀(k n:Nat),n<10 ^ (k+1)->(Lib.decDigits n).length<=k+1
 |0,n,h=>by
  rw[Lib.decDigits];split
  ·simp
  ·rename_i q;exact absurd h (by simpa using q)
 |k+1,n,h=>by
  rw[Lib.decDigits];split
  ·simp
  ·have:=zgm k (n/10) (by rw[Nat.div_lt_iff_lt_mul oA];rw[Nat.pow_succ]at h;exact h)
   simp only[qM,wD];omega
def xi(n:Nat)(h:n<10000000000:=by omega):(Lib.decDigits n).length<=10:=zgm 9 n (by simpa using h)
def Fo(t:TP):Prop:=t.val.1.length<=60/\(∀x∈t.val.1,x.1.length<=60/\x.2.length<=4000)/\(t.kids.length=0->t.val.2.length<=12000)/\t.kids.length<=100000000
def Fo.text{t:TP}(h:Fo t):(ez Tr.decR t).length<=300000:=by
 unfold ez;split
 ·rename_i hk;have h1:=zfl (ma Tr.decR (cg t.val.1 g8) t.val.2);have h2:=qux t.val.2 (h.2.2.1 hk) (cg t.val.1 g8);omega
 ·simp
def Fo.ffl{t:TP}(h:Fo t):(ffl t.val.1).length<=300000:=by
 have h1:=zg7 4060 t.val.1 fun x hx=>by have:=h.2.1 x hx;omega
 have:=h.1;have h2:(4060+3)*t.val.1.length<=(4060+3)*60:=Nat.mul_le_mul_left _ this;omega
def q7a(n:Nat)(h:n<=90000000000000000:=by omega):om (n:Int)=some (Lib.decDigits n):=by
 unfold om;rw[af oA,qwa]
def zhq(fu:Nat)(t:TP)(x out fl:Bs)(hk:t.kids.length<=100000000)(hx:x.length<=1000000)(hf:fl.length<=1000000)(ho:out.length<=1000000000) :
  qlo fu t x out fl=some (out++((Lib.decDigits t.kids.length++[32]++Lib.decDigits fl.length++[32]++Lib.decDigits x.length++[13,10])++fl++x)):=by
 have d1:=xi t.kids.length
 have d2:=xi fl.length
 have d3:=xi x.length
 unfold qlo;rw[q7a _,qB,af (by simp only[ap,qL,qZ];omega),q7a _,qB,
  af oL,af oL,q7a _,qB,
  af oL,af oL,
  af oX,af oX,af oX]
 simp only[qS]
def zg6(y:aq)(l:List aq):ffl (y::l)=if qaj y=true then u6 y++ffl l else ffl l:=by
 unfold ffl;rw[List.filter_cons];split
 ·rw[List.flatMap_cons]
 ·rfl
def zv8(fu n:Nat)(hfu:90000000<=fu)(t:TP)(ht:Fo t)(out:Bs)(ho:out.length<=1000000000):∀(ab aa:List aq)(fl:Bs),aa.length<n->ab.length+aa.length<=60->(∀x∈aa,x.1.length<=60/\x.2.length<=4000)->fl.length+5000*aa.length<=400000 ->
  zl fu n (ab++aa) ((ab.length+aa.length:Nat):Int) (ab.length:Int) t out fl
   = some (out++((Lib.decDigits t.kids.length++[32]++Lib.decDigits (fl++ffl aa).length++[32]++Lib.decDigits (ez Tr.decR t).length++[13,10])++(fl++ffl aa)++ez Tr.decR t)):=by
 obtain⟨t1,t2,t3,t4⟩:=ht
 induction n with
 |zero=>intro ab aa fl h;omega|succ n ih=>
  intro ab aa fl h hb hs hf;rw[zl,q1v];simp only[dc]
  cases aa with
  |nil=>
   have e:ffl []=[]:=rfl;simp only[qZ]at hf;rw[ao,e,List.append_nil]
   by_cases hk:t.kids.length=0
   ·have hx:ez Tr.decR t=xf (ma Tr.decR (cg t.val.1 g8) t.val.2):=by unfold ez;rw[qX hk]
    have hc:=qux t.val.2 (t3 hk) (cg t.val.1 g8);have hb2:=zfl (ma Tr.decR (cg t.val.1 g8) t.val.2);rw[d6,qX oA,zui fu hfu t oA (fun x hx=>by have:=t2 x hx;omega),qB,ztz fu _,qB,zhq fu t _ out fl t4 oA oA ho,hx]
   ·have hx:ez Tr.decR t=[]:=by unfold ez;rw[qW hk]
    rw[d6,qW oA,zhq fu t [] out fl t4 oC oA ho,hx]
  |cons y aa=>
   simp only[qL]at h hb hf;obtain⟨y1,y2⟩:=hs y qH;have hff:=q6n y;have ih:=fun fl=>ih (ab++[y]) aa fl oA oB (fun x hx=>hs x (qE _ hx))
   simp only[qM,qL,qZ,qS,wM,wO]at ih;have step:∀fl,fl.length+5000*aa.length<=400000->qlp fu (zl fu n) (ab++y::aa) ((ab.length+(y::aa).length:Nat):Int) (ab.length:Int) t fl out
     = some (out++((Lib.decDigits t.kids.length++[32]++Lib.decDigits (fl++ffl aa).length++[32]++Lib.decDigits (ez Tr.decR t).length++[13,10])++(fl++ffl aa)++ez Tr.decR t)):=fun fl hfl=>by
    unfold qlp;simp only[dc];rw[ar _,show ab.length+(y::aa).length=ab.length+1+aa.length by simp only[qL];omega,ih fl hfl]
    simp only[qM,qS,wK,List.nil_append,wM]
   rw[af oG,a6,qB,nz fu hfu _ _ oA oC,qB,zg6]
   have p1:qb4 fu (zl fu n) (ab++y::aa) ((ab.length+(y::aa).length:Nat):Int) (ab.length:Int) true t y out fl
     = some (out++((Lib.decDigits t.kids.length++[32]++Lib.decDigits (fl++(u6 y++ffl aa)).length++[32]++Lib.decDigits (ez Tr.decR t).length++[13,10])++(fl++(u6 y++ffl aa))++ez Tr.decR t)):=by
    unfold qb4;simp only[dc];rw[au rfl,zt2 fu y hfu ⟨oA,oA⟩,qB,show qut y=u6 y from rfl,af (by simp only[az,qM];omega),step _ oN]
    simp only[qS]
   have p0:qb4 fu (zl fu n) (ab++y::aa) ((ab.length+(y::aa).length:Nat):Int) (ab.length:Int) false t y out fl
     = some (out++((Lib.decDigits t.kids.length++[32]++Lib.decDigits (fl++ffl aa).length++[32]++Lib.decDigits (ez Tr.decR t).length++[13,10])++(fl++ffl aa)++ez Tr.decR t)):=by
    unfold qb4;simp only[dc];rw[aw rfl,step _ oA]
   cases e:lk y.1 rvN
   ·rw[cu,nz fu hfu _ _ oA oC,qB]
    cases e2:lk y.1 g8
    ·rw[show(!false)=true from rfl,p1,qX (by unfold qaj;rw[e,e2];rfl)]
    ·rw[show(!true)=false from rfl,p0,qW (by unfold qaj;rw[e,e2];simp)]
   ·rw[bq,p0,qW (by unfold qaj;rw[e];simp)]
def zv6(fu:Nat)(hfu:90000000<=fu)(i:Int)(t:TP)(ht:Fo t)(out:Bs)(ho:out.length<=1000000000:=by omega):qr3 fu i t.val.1 t.val.2 t.kids out=some (out++pc Tr.decR t):=by
 have h:=zv8 fu fu hfu t ht out ho [] t.val.1 [] (by have:=ht.1;omega) (by simpa using ht.1) ht.2.1 (by simp only[qZ];have:=ht.1;omega)
 unfold qr3;rw[show((Tree.node (t.val.1,t.val.2) t.kids:TP))=t from dc t]
 simp only[List.nil_append,qZ,wO]at h;rw[show((0:Nat):Int)=0 from rfl]at h
 rw[h];rfl
def qvu{t:TP}(h:Fo t):(pc Tr.decR t).length<=1000000:=by
 have h1:=h.text;have h2:=h.ffl;have h4:=h.2.2.2;have d1:=xi t.kids.length
 have d2:=xi (ffl t.val.1).length
 have d3:=xi (ez Tr.decR t).length
 unfold pc;simp only[qM,qL,qZ];omega
def zvh(fu:Nat)(hfu:90000000<=fu):∀(n:Nat)(t:TP)(d i:Nat)(out:Bs),cf t<=n->cf t+d<=70000000->(∀x∈bj n t (d:Int),Fo x.1)->i+cf t<=70000000->out.length+1000000*(bj n t (d:Int)).length<=900000000 ->
  qf5 fu n t (d:Int) (i:Int) out=some (((i+(bj n t (d:Int)).length:Nat):Int),out++(bj n t (d:Int)).flatMap fun x=>pc Tr.decR x.1):=by
 intro n
 induction n with
 |zero=>intro t d i out h;have:=qh3 t;omega|succ n ih=>
  intro t d i out hz hd hs hi ho;have htp:=qh3 t;have hft:Fo t:=hs (t,(d:Int)) (by rw[bj];exact qH)
  have ac:=qvu hft;rw[bj]at hs ho ⊢;rw[qL,Nat.mul_succ]at ho;rw[qf5,qs0,q2t,zv6 fu hfu _ t hft out,qB,qB,ar i]
  have loop:∀(m:Nat)(ab aa:List TP)(i:Nat)(out:Bs),t.kids=ab++aa->aa.length<m->i+(aa.map cf).sum<=70000000->(∀x∈aa.flatMap fun k=>bj n k ((d:Int)+1),Fo x.1)->out.length+1000000*(aa.flatMap fun k=>bj n k ((d:Int)+1)).length<=900000000 ->
    qmt (qf5 fu n) fu m (d:Int) t.kids (t.kids.length:Int) (ab.length:Int) (i:Int) out=some (((i+(aa.flatMap fun k=>bj n k ((d:Int)+1)).length:Nat):Int),out++(aa.flatMap fun k=>bj n k ((d:Int)+1)).flatMap fun x=>pc Tr.decR x.1):=by
   intro m
   induction m with
   |zero=>intro ab aa i out _ h;omega|succ m ihm=>
    intro ab aa i out hk h hi hf ho;have ac:t.kids.length=ab.length+aa.length:=by rw[hk];simp
    have hks:=vt t;rw[qmt,q2z]
    cases aa with
    |nil=>rw[ao (by simp only[qZ]at ac;omega)];simp|cons k aa=>
     simp only[qL]at h ac;simp only[List.map_cons,List.sum_cons]at hi;have hkm:k∈t.kids:=by rw[hk];simp
     have hx:ai t.kids (ab.length:Int)=some k:=by rw[hk];exact a6 ab k aa
     have hkz:=qh2 hkm;have hfl:=q6s n k ((d:Int)+1);rw[List.flatMap_cons,qM,Nat.mul_add]at ho;rw[List.flatMap_cons]at hf;have hlk:((bj n k ((d:Int)+1)).flatMap fun x=>pc Tr.decR x.1).length<=1000000*(bj n k ((d:Int)+1)).length:=by
      have:∀L:List (TP×Int),(∀x∈L,Fo x.1)->(L.flatMap fun x=>pc Tr.decR x.1).length<=1000000*L.length:=by
       intro L
       induction L with
       |nil=>simp|cons x L ih=>
        intro h;have h1:=qvu (h x qH);have h2:=ih fun y hy=>h y (qE _ hy)
        rw[List.flatMap_cons,qM,qL,Nat.mul_succ];omega
      exact this _ fun x hx=>hf x (List.mem_append_left _ hx)
     rw[af oA,hx,qB,dc,ar d,List.flatMap_cons]
     have g1:=ih k (d+1) i out oA oA (fun x hx=>hf x (List.mem_append_left _ (by rw[show((d+1:Nat):Int)=(d:Int)+1 by omega]at hx;exact hx))) oA (by rw[show((d+1:Nat):Int)=(d:Int)+1 by omega];omega)
     rw[g1,qB,show((d+1:Nat):Int)=(d:Int)+1 by omega,ar _]
     have:=ihm (ab++[k]) aa (i+(bj n k ((d:Int)+1)).length) (out++(bj n k ((d:Int)+1)).flatMap fun x=>pc Tr.decR x.1) (by rw[hk];simp) oA oA (fun x hx=>hf x (List.mem_append_right _ hx)) oN
     rw[qM,wD]at this;rw[this,qM,List.flatMap_append,qS,Nat.add_assoc]
  have hks:=vt t;have hsum:(t.kids.map cf).sum+2<=cf t:=by cases t;rw[vv];show(List.map cf _).sum+2<=_;simp only[Tree.kids];omega
  have:=loop fu [] t.kids (i+1) (out++pc Tr.decR t) rfl oA oA (fun x hx=>hs x (qE _ hx)) oN
  rw[show((([]:List TP).length:Nat):Int)=0 from rfl]at this
  rw[this,List.flatMap_cons,qS,qL,show i+1+(t.kids.flatMap fun k=>bj n k ((d:Int)+1)).length=i+((t.kids.flatMap fun k=>bj n k ((d:Int)+1)).length+1) by omega]
def q4b{t:TP}{d:Int}(hk:t.kids.length<=100000000)(h:l5 t d=0):Fo t:=⟨(q8m h).1,(q8m h).2.1,(q8m h).2.2,hk⟩
def q4c(fu:Nat)(hfu:90000000<=fu)(m:List aq×Bs)(hs:ot m):zk fu m=some (if(eq fu m).2.1≠0 then((eq fu m).2,[]) else((0,0),qc9 Tr.decR fu (eq fu m).1)):=by
 unfold zk;rw[z3z fu hfu m hs,qB,ji,qB,dz];by_cases h:(eq fu m).2.1≠0
 ·rw[qX h,qX h]
 ·rw[qW h,qW h];have h:(eq fu m).2.1=0:=by simpa using h
  have hg:=qxh fu m;have hp:(kh fu (eq fu m).1).1=0:=qxi h;generalize (eq fu m).1=t at hg hp;obtain⟨q1,q2,_⟩:=q8p hp;have hz:=hg.1;unfold q2r;simp only[dc];rw[qB];unfold q2s qf2 q20 zdm;simp only[dc,qB];have:=zvh fu hfu fu t 0 0 [] oA oA (fun x hx=>q4b (by
   have h1:=qvq fu t _ x hx;have h2:=vt x.1;omega) (q2 x hx)) oA (by rw[show((0:Nat):Int)=0 from rfl];simp only[qZ];omega)
  rw[show((0:Nat):Int)=0 from rfl]at this
  rw[this];simp only[qB,dc];rfl
def zrm(fu:Nat)(hfu:90000000<=fu)(m m':List aq×Bs)(hs:ot m)(hs':ot m'):qr4 fu m m'=some (if(eq fu m).2.1≠0 then(false,(eq fu m).2) else if(eq fu m').2.1≠0 then(false,((eq fu m').2.1,-10)) else(qc9 Tr.decR fu (eq fu m).1==qc9 Tr.decR fu (eq fu m').1,(0,0))):=by
 unfold qr4;rw[q4c fu hfu m hs,qB];by_cases h:(eq fu m).2.1≠0
 ·rw[qX h,qX h,ji,qB,dz,qX h]
 ·rw[qW h,qW h,ji,qB,dz,qW oC,q4c fu hfu m' hs',qB]
  by_cases h':(eq fu m').2.1≠0
  ·rw[qX h',qX h',ji,qB,dz,qX h',ql];rfl
  ·rw[qW h',qW h',ji,qB,dz,qW oC];rfl
-- the content,as the document has it
def zf5(b v:Bs)(hb:b.length<=12000):(Tr.decR b v).1.1=18↔Tr.cod v = -1:=by
 unfold Tr.decR;by_cases h:Tr.cod v = -1
 ·rw[qX h];simp[h]
 ·rw[qW h,qW oA]
  constructor
  ·intro k
   repeat' split at k
   all_goals cases k
  ·exact fun k=>absurd k h
def z5f(fu:Nat)(hfu:90000000<=fu)(b v:Bs)(hb:b.length<=12000)(h:Tr.cod v ≠ -1):qrs fu b (Tr.cod v)=some (Tr.decR b v).2:=by
 unfold Tr.decR qrs;rw[qW h,qW oA]
 rcases Tr.cod_cases v with e|e|e|e|e
 ·rw[e];rfl
 ·rw[e];rfl
 ·rw[e,Tr.rloose_eq fu b oA oA];rfl
 ·rw[e,Tr.rlq_eq fu b oA oA];rfl
 ·exact absurd e h
def zuh(b:Bs)(hb:b.length<=12000):(Tr.decR b [55,98,105,116]).2=b:=by
 unfold Tr.decR;rw[show Tr.cod [55,98,105,116]=0 from oF,qW oF,qW oA,qX rfl]
def z1g(fu:Nat)(hfu:90000000<=fu)(t:TP)(hb:t.val.2.length<=12000)(n:Nat):∀(ab aa:List Bs),aa.length<n->ab.length+aa.length<100000000->(∀v∈aa,v.length<=4000000) ->
  qk0 fu n (ab.length:Int) t (ab++aa)=some (ma Tr.decR aa t.val.2):=by
 induction n with
 |zero=>intro ab aa h;omega|succ n ih=>
  intro ab aa h hl hs;rw[qk0,q0o];simp only[dc]
  cases aa with
  |nil=>rw[ao,ma,zuh _ hb]|cons v aa=>
   simp only[qL]at h hl;have hv:=hs v qH;have hc:=Tr.coding_eq fu v oA oA oM
   rw[af mA,jk,a6,qB,hc,qB,jk,a6,qB,hc,qB,bp,ma]
   by_cases hk:Tr.cod v = -1
   ·rw[qW oA,qW (by simpa using(zf5 _ v hb).2 hk),ar _]
    have:=ih (ab++[v]) aa oA oB (fun x hx=>hs x (qE _ hx))
    simp only[qM,qL,qZ,qS,wM,wO]at this;exact this
   ·rw[qX (by rcases Tr.cod_cases v with e|e|e|e|e<;>omega),qX (fun e=>hk ((zf5 _ v hb).1 e)),z5f fu hfu _ v hb hk];rfl
def z1f(fu:Nat)(hfu:90000000<=fu)(t:TP)(ht:Fo t)(hk:t.kids.length=0):qrj fu t=some (ma Tr.decR (cg t.val.1 g8) t.val.2):=by
 obtain⟨t1,t2,t3,_⟩:=ht;unfold qrj;simp only[dc];have hv:∀v∈cg t.val.1 g8,v.length<=4000000:=fun v hv=>by
  obtain⟨x,hx,rfl⟩:=List.mem_map.1 hv;have:=t2 x (List.mem_filter.1 hx).1;omega
 have hl:(cg t.val.1 g8).length<=t.val.1.length:=by unfold cg;rw[wC];exact List.length_filter_le _ _
 rw[zab fu hfu t.val.1 _ oC ⟨oA,fun x hx=>by have:=t2 x hx;omega⟩,qB,show cg t.val.1 ([99,111,110,116,101,110,116,45,116,114,97,110,115,102,101,114,45,101,110,99,111,100,105,110,103]:Bs)=cg t.val.1 g8 from rfl]
 have:=z1g fu hfu t (t3 hk) fu [] (cg t.val.1 g8) oA oB hv
 simpa using this
-- one part
def zkk(fu:Nat)(hfu:90000000<=fu)(r0:List TP->Bs->Int->Option Bs)(L:List TP)(i:Nat)(t:TP)(hi:ai L (i:Int)=some t)(hi2:i<100000000)(out fl x:Bs)(hk:t.kids.length<=100000000)(hx:x.length<=1000000)(hf:fl.length<=1000000)(ho:out.length<=1000000000) :
  qk2 fu r0 L out (i:Int) fl x=r0 L (out++((Lib.decDigits t.kids.length++[32]++Lib.decDigits fl.length++[32]++Lib.decDigits x.length++[13,10])++fl++x)) ((i+1:Nat):Int):=by
 have d1:=xi t.kids.length
 have d2:=xi fl.length
 have d3:=xi x.length
 unfold qk2;rw[hi,qB,qhp fu oA _,qB,af oO,af oL,qhp fu oA _,qB,
  af oL,af oL,qhp fu oA _,qB,
  af oL,af oL,af oL,af oL,ar _]
 simp only[qS]
def z2q(fu:Nat)(hfu:90000000<=fu)(r0:List TP->Bs->Int->Option Bs)(L:List TP)(i:Nat)(t:TP)(ht:Fo t)(hi:ai L (i:Int)=some t)(hi2:i<100000000)(out:Bs)(ho:out.length<=1000000000)(n:Nat):∀(ab aa:List aq)(fl:Bs),t.val.1=ab++aa->aa.length<n->fl.length+5000*aa.length<=400000 ->
  zg fu r0 n L out (i:Int) fl (ab.length:Int)
   = r0 L (out++((Lib.decDigits t.kids.length++[32]++Lib.decDigits (fl++ffl aa).length++[32]++Lib.decDigits (ez Tr.decR t).length++[13,10])++(fl++ffl aa)++ez Tr.decR t)) ((i+1:Nat):Int):=by
 have htx:=ht.text;obtain⟨t1,t2,t3,t4⟩:=id ht
 induction n with
 |zero=>intro ab aa fl _ h;omega|succ n ih=>
  intro ab aa fl hp h hf;have hb:ab.length+aa.length<=60:=by rw[hp,qM]at t1;exact t1
  rw[zg,q0r,hi,qB]
  cases aa with
  |nil=>
   have e:ffl []=[]:=rfl;simp only[qZ]at hf;rw[ao (by rw[hp];simp),qB,d6,e,List.append_nil]
   by_cases hk:t.kids.length=0
   ·have hx:ez Tr.decR t=xf (ma Tr.decR (cg t.val.1 g8) t.val.2):=by unfold ez;rw[qX hk]
    have hc:=qux t.val.2 (t3 hk) (cg t.val.1 g8);rw[qX oA,qB,dc,z1f fu hfu t ht hk,qB,z17 fu _,qB,← hx,zkk fu hfu r0 L i t hi hi2 out fl _ t4 oA oA ho]
   ·have hx:ez Tr.decR t=[]:=by unfold ez;rw[qW hk]
    rw[qW oA,zkk fu hfu r0 L i t hi hi2 out fl [] t4 oC oA ho,hx]
  |cons y aa=>
   simp only[qL]at h hb hf;obtain⟨y1,y2⟩:=t2 y (by rw[hp];simp)
   have hff:=q6n y;have hy:ai t.val.1 (ab.length:Int)=some y:=by rw[hp];exact a6 ab y aa
   have step:∀fl,fl.length+5000*aa.length<=400000->qk3 fu r0 (zg fu r0 n) L out (i:Int) fl (ab.length:Int)
     = r0 L (out++((Lib.decDigits t.kids.length++[32]++Lib.decDigits (fl++ffl aa).length++[32]++Lib.decDigits (ez Tr.decR t).length++[13,10])++(fl++ffl aa)++ez Tr.decR t)) ((i+1:Nat):Int):=fun fl hfl=>by
    unfold qk3;rw[ar _]
    have:=ih (ab++[y]) aa fl (by rw[hp];simp) oA hfl
    rw[qM,wD]at this;exact this
   rw[af (by rw[hp];simp only[qM,qL];omega),qB,hy,qB,se fu hfu _ _ oA oC,qB,zg6,show lk y.1 ([114,101,99,101,105,118,101,100]:Bs)=lk y.1 rvN from rfl]
   have p1:qbz fu r0 (zg fu r0 n) L out (i:Int) fl (ab.length:Int) true y
     = r0 L (out++((Lib.decDigits t.kids.length++[32]++Lib.decDigits (fl++(u6 y++ffl aa)).length++[32]++Lib.decDigits (ez Tr.decR t).length++[13,10])++(fl++(u6 y++ffl aa))++ez Tr.decR t)) ((i+1:Nat):Int):=by
    unfold qbz;rw[au rfl,z16 fu y hfu ⟨oA,oA⟩,qB,show qut y=u6 y from rfl,af oO,step _ oN]
    simp only[qS]
   have p0:qbz fu r0 (zg fu r0 n) L out (i:Int) fl (ab.length:Int) false y
     = r0 L (out++((Lib.decDigits t.kids.length++[32]++Lib.decDigits (fl++ffl aa).length++[32]++Lib.decDigits (ez Tr.decR t).length++[13,10])++(fl++ffl aa)++ez Tr.decR t)) ((i+1:Nat):Int):=by
    unfold qbz;rw[aw rfl,step _ oA]
   cases e:lk y.1 rvN
   ·rw[cu,se fu hfu _ _ oA oC,qB,show lk y.1 ([99,111,110,116,101,110,116,45,116,114,97,110,115,102,101,114,45,101,110,99,111,100,105,110,103]:Bs)=lk y.1 g8 from rfl]
    cases e2:lk y.1 g8
    ·rw[show(!false)=true from rfl,p1,qX (by unfold qaj;rw[e,e2];rfl)]
    ·rw[show(!true)=false from rfl,p0,qW (by unfold qaj;rw[e,e2];simp)]
   ·rw[bq,p0,qW (by unfold qaj;rw[e];simp)]
def z19(fu:Nat)(hfu:90000000<=fu)(n:Nat):∀(ab aa:List TP)(out:Bs),aa.length<n->ab.length+aa.length<1000->(∀x∈aa,Fo x)->out.length+1000000*aa.length<=900000000 ->
  qe9 fu n (ab++aa) out (ab.length:Int)=some (out++aa.flatMap (pc Tr.decR)):=by
 induction n with
 |zero=>intro ab aa out h;omega|succ n ih=>
  intro ab aa out h hb hs ho;rw[qe9,q0q]
  cases aa with
  |nil=>rw[ao];simp|cons t aa=>
   simp only[qL]at h hb ho;have ht:=hs t qH;have ac:=qvu ht;rw[af mA]
   have:=z2q fu hfu (qe9 fu n) (ab++t::aa) ab.length t ht (a6 ab t aa) oA out oA fu [] t.val.1 [] rfl (by have:=ht.1;omega) (by simp only[qZ];have:=ht.1;omega)
   rw[show((([]:List aq).length:Nat):Int)=0 from rfl]at this
   rw[this];have ih:=ih (ab++[t]) aa (out++pc Tr.decR t) oA oB (fun x hx=>hs x (qE _ hx)) oN
   simp only[qM,qL,qZ,qS,wM,wO]at ih;rw[List.flatMap_cons];exact ih
def q6y(fu:Nat)(hfu:90000000<=fu)(t:TP)(hs:gd t)(hp:(kh fu t).1=0):qe8 fu t=some (qc9 Tr.decR fu t):=by
 have hz:=hs.1;obtain⟨q1,q2,_⟩:=q8p hp;unfold qe8 qrl qc9;simp only[dc];have h:=zhg fu hfu fu t 0 oA oA oA
 rw[show((0:Nat):Int)=0 from rfl]at h
 rw[h,qB];simp only
 have:=z19 fu hfu fu [] ((bj fu t 0).map (·.1)) [] oP oB (fun x hx=>by
  obtain⟨z,hz,rfl⟩:=List.mem_map.1 hx;exact q4b (by
   have h1:=qvq fu t _ z hz;have h2:=vt z.1;omega) (q2 z hz)) oB
 simp only[List.nil_append,qZ]at this;rw[show((0:Nat):Int)=0 from rfl]at this
 rw[this,List.flatMap_map]
-- the checksum
def qhc(h:Int)(c:UInt8):Int:=IntKind.u64.wrap ((IntKind.u64.wrap (((BitVec.ofInt 64 h ^^^ BitVec.ofInt 64 (c.toNat:Int)).toNat:Int)))*(1099511628211:Int))
def q9u(fu n:Nat):∀(ab aa:Bs)(h:Int),aa.length<n->ab.length+aa.length<1000000000000 ->
  qlq fu n h (ab++aa) ((ab.length+aa.length:Nat):Int) (ab.length:Int)=some (aa.foldl qhc h):=by
 induction n with
 |zero=>intro ab aa h k;exact absurd k oA|succ n ih=>
  intro ab aa h k hb;rw[qlq,q1w]
  cases aa with
  |nil=>rw[ao];rfl|cons c aa=>
   simp only[qL]at k hb;rw[af oG,a6,qB,ar _]
   have:=ih (ab++[c]) aa (qhc h c) oA oB
   simp only[qM,qL,qZ,qS,wM,wO]at this;rw[show ab.length+(c::aa).length=ab.length+1+aa.length by simp only[qL];omega]
   exact this
def zwi(fu n:Nat):∀(ab aa:Bs)(h:Int),aa.length<n->ab.length+aa.length<1000000000000 ->
  qk4 fu n (ab++aa) h (ab.length:Int)=some (aa.foldl qhc h):=by
 induction n with
 |zero=>intro ab aa h k;exact absurd k oA|succ n ih=>
  intro ab aa h k hb;rw[qk4,q0t]
  cases aa with
  |nil=>rw[ao];rfl|cons c aa=>
   simp only[qL]at k hb;rw[af mA,a6,qB,ar _]
   have:=ih (ab++[c]) aa (qhc h c) oA oB
   simp only[qM,qL,qZ,qS,wM,wO]at this;exact this
def q9t(fu:Nat)(b:Bs)(h:b.length<fu)(hb:b.length<1000000000000):qr5 fu b=some (b.foldl qhc 14695981039346656037):=by
 have:=q9u fu fu [] b 14695981039346656037 h (by simpa using hb)
 unfold qr5;simpa using this
def zwh(fu:Nat)(b:Bs)(h:b.length<fu:=by omega)(hb:b.length<1000000000000:=by omega):q0s fu b=some (b.foldl qhc 14695981039346656037):=zwi fu fu [] b _ h (by simpa using hb)
def zv7(fu:Nat)(t:TP)(hs:gd t)(hp:(kh fu t).1=0):(qc9 Tr.decR fu t).length<=40000000:=by
 obtain⟨q1,q2,_⟩:=q8p hp;have hz:=hs.1;have:∀L:List (TP×Int),(∀x∈L,Fo x.1)->(L.flatMap fun x=>pc Tr.decR x.1).length<=1000000*L.length:=by
  intro L
  induction L with
  |nil=>simp|cons x L ih=>
   intro h;have h1:=qvu (h x qH);have h2:=ih fun y hy=>h y (qE _ hy)
   rw[List.flatMap_cons,qM,qL,Nat.mul_succ];omega
 have:=this (bj fu t 0) fun z hz=>q4b (by
   have h1:=qvq fu t _ z hz;have h2:=vt z.1;omega) (q2 z hz)
 unfold qc9;omega
def zxx(m:List aq×Bs)(hs:ot m):qfe 100000000 m=some true:=by
 unfold qfe q1r;rw[zf1,qB,bq,q4c _ oA m hs,qB,qB,q8l _ oA m hs,ji,qB,dz]
 by_cases h:(eq 100000000 m).2.1≠0
 ·rw[qX h,qX h,qB,qB,dz,qX h];simp
 ·have h0:(eq 100000000 m).2.1=0:=by simpa using h
  have hg:=qxh 100000000 m;have hp:(kh 100000000 (eq 100000000 m).1).1=0:=qxi h0;have hl:=zv7 _ _ hg hp;rw[qW h,qW oC]
  simp only[dc,dh];rw[q9t _ _ oA oA,qB,qB,qB,qB,dz,qW h,q6y _ oA _ hg hp,qB]
  simp only;rw[d6,qX rfl,d6,qX rfl,au,zwh _ _,qB]
  simp
def zxy(x:(List aq×Bs)×Unit)(h:bks [τP] x<=1048576):qfe 100000000 x.1=some true:=by
 obtain⟨m,_⟩:=x;have h:τP.bk m+0<=1048576:=h;exact zxx m (qtz m (by exact h))
def zxz(a b:List aq×Bs)(ha:ot a)(hb:ot b):qff 100000000 a b=some true:=by
 unfold qff;rw[zf1,qB,bq,zrm _ oA a b ha hb,qB,q8l _ oA a ha,qB,dz]
 by_cases h:(eq 100000000 a).2.1≠0
 ·rw[qX h,qX h];simp
 ·rw[qW h,qW h,q8l _ oA b hb,qB,dz]
  have h0:(eq 100000000 a).2.1=0:=by simpa using h
  by_cases k:(eq 100000000 b).2.1≠0
  ·rw[qX k,qX k,xu,qB];simp
  ·have k0:(eq 100000000 b).2.1=0:=by simpa using k
   rw[qW k,qW k,d6,qX rfl];simp only[dc];rw[q6y _ oA _ (qxh _ a) (qxi h0),qB,q6y _ oA _ (qxh _ b) (qxi k0),qB]
   simp
def zx0(x:(List aq×Bs)×(List aq×Bs)×Unit)(h:bks [τP,τP] x<=1048576):qff 100000000 x.1 x.2.1=some true:=by
 obtain⟨a,b,_⟩:=x;have h:τP.bk a+(τP.bk b+0)<=1048576:=h;have h1:τP.bk a<=1048576:=oA
 have h2:τP.bk b<=1048576:=oA
 exact zxz a b (qtz a (by exact h1)) (qtz b (by exact h2))
end Go.Sym
