/- What the claim rests on, part 2: gathered texts. -/
import Derived.RangeFuncRecord
import Derived.Laws.RangeAny
import Derived.Laws.MakeOwn
import Derived.Laws.IdiomStrings
import Derived.Laws.Cover4
import Derived.Test.YtekaipjfmlnggaaGreatDoorSyO1
set_option linter.defProp false
set_option linter.unusedSimpArgs false
set_option linter.unusedVariables false
namespace Go.Sym
open Go.RowKit
variable[LC]
def St.ownNew(s:St)(k:Nat)(τ:Ty)(E:TypeId):St:={ s with hp:=(k,.row τ [] E)::s.hp }
def o8:AV->Bool|.val (.slice none 0 0)=>true|_=>false
def St.ownNil(s:St)(i:Nat)(τ:Ty)(E:TypeId):Option St:=
 match af s.fr i with
 |some x=>bif o8 x&&bq (s.nx+32*i) s.hp then
   some { n:=s.n,fr:=(i,.own (s.nx+32*i))::s.fr,hp:=(s.nx+32*i,.row τ [] E)::s.hp,nx:=s.nx+32*s.n,df:=s.df } else none
 |none=>none
def St.ownCell(s:St)(b a:Nat)(τ:Ty)(E:TypeId):Option St:=
 match af s.hp b with
 |some (.cells cs T)=>match cs[a]? with
  |some x=>bif o8 x&&bq s.nx s.hp then
    some { n:=s.n,fr:=s.fr,hp:=(b,.cells (cs.set a (.own s.nx)) T)::(s.nx,.row τ [] E)::s.hp,nx:=s.nx+32*s.n,df:=s.df } else none
  |none=>none
 |_=>none
section
variable{P:Program}{q72:World}{q7w:Gh}{q7z:List (Nat×ag)}{G:Gh}{s:St}{a:Act}{w:World}
def aj.bump(b:aj q72 q7w q7z G s a w):aj q72 q7w q7z G s.bump a w:=⟨b.defers,b.size,b.frame,fun m d c=>b.fresh m (by simp[St.bump]at d;omega) c,b.fin⟩
mutual
def ai.frz{k:Nat}{y:AV}{G':Gh}(d:G.le G')(j:∀v,ai (.own k) G v->ai y G' v):∀{x:AV}{v:Value},ai x G v->ai (AV.frz k y x) G' v
 |.undef,_,_=>trivial|.int _ _,_,h=>h|.byte _,_,h=>h|.bool _,_,h=>h|.str _,_,h=>h|.val _,_,h=>h|.sl τ l,v,h=>(show ai (.sl τ l) G v from h).le d|.yld n,v,h=>(show ai (.yld n) G v from h).le d|.pn n,v,h=>(show ai (.pn n) G v from h).le d|.arr τ l,v,h=>(show ai (.arr τ l) G v from h).le d|.rop cs,v,h=>(show ai (.rop cs) G v from h).le d|.ptr b off,v,h=>(show ai (.ptr b off) G v from h).le d|.oel n sz i off,v,h=>(show ai (.oel n sz i off) G v from h).le d|.osl n sz lo,v,h=>(show ai (.osl n sz lo) G v from h).le d|.asl b n c,v,h=>(show ai (.asl b n c) G v from h).le d|.agg cs,_,⟨vs,e,g⟩=>⟨vs,e,ao.frz d j g⟩|.tup cs,_,⟨vs,e,g⟩=>⟨vs,e,ao.frz d j g⟩|.own n,v,h=>by
  simp[AV.frz];cases p:Nat.beq n k
  ·exact(show ai (.own n) G v from h).le d
  ·have:=qN p;subst this;exact j v h
 |.fn f first cap,_,⟨m,cs,e,g,o⟩=>⟨m,cs,e,ao.frz d j g,ao.frz d j o⟩
 |.iface t x,_,⟨u,e,g⟩=>⟨u,e,ai.frz d j g⟩
def ao.frz{k:Nat}{y:AV}{G':Gh}(b:G.le G')(c:∀v,ai (.own k) G v->ai y G' v):∀{xs:List AV}{vs:List Value},ao xs G vs->ao (AV.frzs k y xs) G' vs|[],[],_=>trivial|_x::_xs,_v::_vs,h=>⟨ai.frz b c h.1,ao.frz b c h.2⟩|[],_::_,h=>h.elim|_::_,[],h=>h.elim
end
def KA{k:Nat}{y:AV}:∀{fr:List (Nat×AV)}{i:Nat}{x:AV},af (yZ k y fr) i=some x->∃x0,af fr i=some x0/\x=AV.frz k y x0
 |[],i,x,h=>by cases h
 |(n,z)::r,i,x,h=>by
  simp[yZ,af]at h ⊢;cases a:Nat.beq n i
  ·rw[a]at h;exact KA h
  ·rw[a]at h;simp only[qT,qI]at h ⊢;exact⟨z,rfl,h.symm⟩
def KB{k:Nat}{y:AV}:∀{hp:List (Nat×ag)}{i:Nat},af (zA k y hp) i=(af hp i).map (Ed k y)
 |[],i=>rfl|(n,b)::r,i=>by
  simp[zA,af];cases a:Nat.beq n i<;>simp[KB (hp:=r)]
def aj.freeze(p:aj q72 q7w q7z G s a w){k:Nat}{s':St}(h:s.freeze k=some s'):∃G',aj q72 q7w q7z G' s' a w:=by
 unfold St.freeze at h;split at h
 ·rename_i τ l E S;simp at h;subst h;have A:∀n bx,af [(k,ag.row τ l E)] n=some bx->n=k/\bx = .row τ l E:=fun n bx h=>by
   simp[af]at h;cases y:Nat.beq k n
   ·rw[y]at h;cases h
   ·rw[y]at h;simp at h;exact⟨(qN y).symm,h.symm⟩
  have W:af [(k,ag.row τ l E)] k=some (.row τ l E):=by simp only[af];rw[show Nat.beq k k=true by simp];rfl
  have U:Fin q72 q7w q7z G ({ s with hp:=[(k,.row τ l E)] }:St).hp w:=by
   refine⟨⟨p.fin.mem.agree,p.fin.mem.one,fun n bx y => ?_,fun n m bx M b d q _ _ => ?_,p.fin.mem.tab⟩,p.fin.bel,p.fin.imm_le,p.fin.imm_new,fun n bx b d q => ?_,p.fin.keep,p.fin.keepOwn⟩
   ·obtain⟨rfl,rfl⟩:=A n bx y;exact p.fin.mem.holds _ _ S
   ·obtain⟨rfl,_⟩:=A n bx d;obtain⟨rfl,_⟩:=A m M q;rfl
   ·obtain⟨rfl,rfl⟩:=A n bx d;exact p.fin.base _ _ b S q
  obtain⟨z1,Z,z3,z4⟩:=J7 U
  let G':=G.allData [(k,.row τ l E)] w
  have C:∀v,ai (.own k) G v->ai (.sl τ l) G' v:=fun v hv=>z4 k τ l E v W hv
  have L:∀b o v,G'.imm b o=some v->G.imm b o=some v\/G.at k (.row τ l E)=some b:=fun b o v h=>by
   simp[G',Gh.allData]at h
   cases J:G.imm b o with
   |some u=>rw[J]at h;exact .inl h|none=>
    rw[J]at h;simp only at h;split at h
    ·rename_i V;obtain⟨n,τ1,l1,E1,i1,i2,_⟩:=V;obtain⟨rfl,e⟩:=A n _ i1;rw[e]at i2;exact .inr i2
    ·cases h
  have I:∀n bx B,n≠k->af s.hp n=some bx->G.at n bx=some B->(∀o,G.imm B o=none)->∀o,G'.imm B o=none:=fun n bx B H d q r o=>by
   cases J:G'.imm B o with
   |none=>rfl|some v=>
    rcases L B o v J with h|h
    ·rw[r]at h;cases h
    ·exact absurd (p.fin.mem.apart n k bx _ B d S q h) H
  have t:∀n bx,af ((k,ag.dead)::zA k (.sl τ l) s.hp) n=some bx->bx = .dead\/(n≠k/\∃b0,af s.hp n=some b0/\bx=Ed k (.sl τ l) b0):=fun n bx h=>by
   simp[af]at h;cases y:Nat.beq k n
   ·rw[y]at h;simp at h;rw[KB]at h
    cases J:af s.hp n with
    |none=>rw[J]at h;cases h
    |some b0=>rw[J]at h;simp at h;exact .inr ⟨fun e=>by subst e;simp at y,b0,rfl,h.symm⟩
   ·rw[y]at h;simp at h;exact .inl h.symm
  have P:∀n b0,G'.at n (Ed k (.sl τ l) b0)=G.at n b0:=fun n b0=>by cases b0<;>rfl
  refine⟨G',⟨p.defers,p.size,fun i x X => ?_,fun m hm K => ?_,⟨⟨Z.agree,Z.one,fun n bx y => ?_,fun n m bx M b d q r N => ?_,Z.tab⟩,p.fin.bel,fun b o v h=>z1.imm _ _ _ (p.fin.imm_le b o v h),fun b o v h => ?_,fun n bx b d q => ?_,p.fin.keep,p.fin.keepOwn⟩⟩⟩
  ·obtain⟨x0,d,rfl⟩:=KA X;obtain⟨v,q,r⟩:=p.frame i x0 d;exact⟨v,q,ai.frz z1 C r⟩
  ·refine p.fresh m hm ?_;simp[af]at K;cases y:Nat.beq k m
   ·rw[y]at K;simp at K;rw[KB]at K
    cases J:af s.hp m with|none=>rfl|some b0=>rw[J]at K;cases K
   ·rw[y]at K;cases K
  ·rcases t n bx y with rfl|⟨H,b0,F,rfl⟩
   ·trivial
   ·have z:=p.fin.mem.holds n b0 F;have Q:=I n b0
    cases b0 with
    |cells cs T=>
     obtain⟨B,Y,d,q,r,N,O⟩:=z;exact⟨B,Y,d,q,ao.frz z1 C r,N,Q B H F (by simp[Gh.at,d]) O⟩
    |loop st pe f j fr ps aa D=>
     obtain⟨B,R,DB,d,q,r,N,O,h6⟩:=z;refine⟨B,R,DB,d,q,r,N,fun i x X => ?_,Q B H F (by simp[Gh.at,d]) h6⟩
     obtain⟨x0,q1,rfl⟩:=KA X;obtain⟨v,q2,q3⟩:=O i x0 q1;exact⟨v,q2,ai.frz z1 C q3⟩
    |dfr=>
     obtain⟨B,d,q,r⟩:=z;exact⟨B,d,q,Q B H F (by simp[Gh.at,d]) r⟩
    |it s0 p0=>
     obtain⟨B,d,q,r⟩:=z;exact⟨B,d,q,Q B H F (by simp[Gh.at,d]) r⟩
    |row τ1 l1 E1=>
     obtain⟨ad,c,d,r⟩:=z;refine⟨ad,c,d,?_⟩;rcases r with r|⟨g,Y,fz,k1,k2,k3,k4,k5,k6,k7,k8,k9⟩
     ·exact .inl r
     ·exact .inr ⟨g,Y,fz,k1,k2,k3,k4,k5,k6,ao.data_le z1.imm k7,k8,Q g H F (by subst k1;simp[Gh.at,d]) k9⟩
    |dead=>trivial
  ·rcases t n bx d with rfl|⟨H,b0,F,rfl⟩
   ·cases r
   ·rcases t m M q with rfl|⟨hm,b1,O,rfl⟩
    ·cases N
    ·rw[P]at r N;exact p.fin.mem.apart n m b0 b1 b F O r N
  ·rcases L b o v h with h|h
   ·exact p.fin.imm_new b o v h
   ·exact .inr (p.fin.base k _ b S h)
  ·rcases t n bx d with rfl|⟨H,b0,F,rfl⟩
   ·cases q
   ·rw[P]at q;exact p.fin.base n b0 b F q
 ·cases h
def R3{x:AV}(h:o8 x=true):x = .val (.slice none 0 0):=by
 unfold o8 at h;split at h
 ·rfl
 ·cases h
def aj.ownNew(f:aj q72 q7w q7z G s a w){k:Nat}(τ:Ty)(E:TypeId)(u:af s.hp k=none)(r:s.nx<=k):∃G',G.le G'/\G'.own k=some (none,0,0)/\aj q72 q7w q7z G' (s.ownNew k τ E) a w:=by
 obtain⟨z,q⟩:=f.fresh k r u;have e:G.le (G.addOwn k (none,0,0)):=Gh.addOwn_le q;have d:∀n bx,af [(k,ag.row τ [] E)] n=some bx->n=k/\bx = .row τ [] E:=fun n bx h=>by
  simp[af]at h;cases g:Nat.beq k n
  ·rw[g]at h;cases h
  ·rw[g]at h;simp at h;exact⟨(qN g).symm,h.symm⟩
 refine⟨G.addOwn k (none,0,0),e,Gh.addOwn_self,⟨by obtain⟨y,C,F⟩:=f.defers;exact⟨y,C,wo e.box F⟩,f.size,fun j x B => ?_,fun m A c => ?_,?_⟩⟩
 ·obtain⟨v,i,l⟩:=f.frame j x B;exact⟨v,i,l.le e⟩
 ·simp[St.ownNew,af]at c;cases t:Nat.beq k m
  ·rw[t]at c;obtain⟨i,l⟩:=f.fresh m A c;refine⟨i,?_⟩;show(bif Nat.beq m k then some _ else G.own m)=none
   cases p:Nat.beq m k
   ·exact l
   ·have:=qN p;subst this;simp at t
  ·rw[t]at c;cases c
 ·refine f.fin.extend (new:=[(k,.row τ [] E)]) e ⟨rfl,rfl,rfl,wF _,fun _ _ _=>rfl⟩ (fun _ _ _ h => .inl h) f.fin.mem.agree f.fin.mem.one ?_ ?_ ?_
  ·intro n bx h;obtain⟨rfl,_⟩:=d n bx h;exact u
  ·intro n bx h;obtain⟨rfl,rfl⟩:=d n bx h;exact⟨⟨none,0,Gh.addOwn_self,.inl ⟨rfl,rfl,rfl⟩⟩,fun b g=>by simp only[Gh.at,Gh.addOwn_self]at g;cases g⟩
  ·intro n m bx o b i l _ _;obtain⟨rfl,_⟩:=d n bx i;obtain⟨rfl,_⟩:=d m o l;rfl
def aj.ownNil(q:aj q72 q7w q7z G s a w){i:Nat}{τ:Ty}{E:TypeId}{s':St}(h:s.ownNil i τ E=some s'):∃G',aj q72 q7w q7z G' s' a w:=by
 unfold St.ownNil at h;split at h
 ·rename_i x k;cases d:o8 x&&bq (s.nx+32*i) s.hp<;>rw[d]at h<;>simp at h
  subst h;simp at d;have c:=R3 d.1;subst c;obtain⟨G',n,p,b⟩:=q.ownNew τ E (o9 d.2 _ (wF _) Ta) Ta
  refine⟨G',⟨b.defers,b.size,fun j x c => ?_,fun m o l=>b.fresh m (by simp only at o;show s.nx<=m;omega) l,b.fin⟩⟩
  simp[af]at c;cases e:Nat.beq i j
  ·rw[e]at c;exact b.frame j x c
  ·rw[e]at c;simp at c;subst c;have:=qN e;subst this;obtain⟨v,f,g⟩:=b.frame i _ k;exact⟨v,f,none,0,0,p,g⟩
 ·cases h
def aj.ownCell(K:aj q72 q7w q7z G s a w){b d:Nat}{τ:Ty}{E:TypeId}{s':St}(h:s.ownCell b d τ E=some s'):∃G',aj q72 q7w q7z G' s' a w:=by
 unfold St.ownCell at h;split at h
 ·rename_i o T f;split at h
  ·rename_i x r;cases k:o8 x&&bq s.nx s.hp<;>rw[k]at h<;>simp at h
   subst h;simp at k;have M:=R3 k.1;subst M;have p:=o9 k.2 s.nx (wF _) Ta
   obtain⟨G',F,J,c⟩:=K.ownNew τ E p (wF _);have q:s.nx≠b:=fun e=>by rw[e,f]at p;cases p
   have g:af (s.ownNew s.nx τ E).hp b=some (.cells o T):=by
    simp[St.ownNew,af];cases l:Nat.beq s.nx b
    ·exact f
    ·exact absurd (qN l) q
   obtain⟨B,n,t,N,y,O,z⟩:=c.fin.mem.holds _ _ g;refine⟨G',⟨c.defers,c.size,c.frame,fun m I i=>c.fresh m (by simp only at I;show s.nx<=m;omega) ?_,?_⟩⟩
   ·simp[af]at i;cases l:Nat.beq b m
    ·rw[l]at i;exact i
    ·rw[l]at i;cases i
   ·have L:n.toList[d]? = some (.slice none 0 0):=by
     obtain⟨v,A,u⟩:=ni y r;simp[ai]at u;subst u;exact A
    have j:n.toList.set d (.slice none 0 0)=n.toList:=by
     obtain⟨H,C⟩:=List.getElem?_eq_some_iff.1 L;rw[← C,List.set_getElem_self]
    refine c.fin.update (bx := .cells o T) (bx' := .cells (o.set d (.own s.nx)) T) g (B:=B) t t ⟨rfl,rfl,rfl,wF _,fun _ _ _=>rfl⟩ ⟨B,n,t,N,?_,O,z⟩ z
    have:=Aj d y (x := .own s.nx) (v := .slice none 0 0) ⟨none,0,0,J,rfl⟩
    rwa [j]at this
  ·cases h
 ·cases h
end
def Ty.dec:(τ:Ty)->List AV->Option (τ.den×List AV)
 |.int k,x::r=>match x with|.int k' n=>bif decide (k'=k) then some (n,r) else none|.val (.int k' n)=>bif decide (k'=k) && !decide (k' = .u8) then some (n,r) else none|_=>none
 |.byte,x::r=>match x with|.byte c=>some (c,r)|.val (.int .u8 n)=>bif decide (0<=n)&&decide (n<256) then some (UInt8.ofNat n.toNat,r) else none|_=>none
 |.bool,x::r=>match x with|.bool b=>some (b,r)|.val (.bool b)=>some (b,r)|_=>none
 |.str,x::r=>match x with|.str s=>some (s,r)|_=>none
 |.unit,r=>some ((),r)|.prod a b,cs=>match a.dec cs with
  |some (x,r)=>match b.dec r with|some (y,r')=>some ((x,y),r')|none=>none
  |none=>none
 |.list a,x::r=>match x with
  |.sl a' l=>match Ty.eq? a' a with|some ⟨h⟩=>some (h▸l,r)|none=>none
  |.val (.slice none 0 0)=>some (([]:List a.den),r)|_=>none
 |.tree a,cs=>match a.dec cs with
  |some (v,x::r)=>match x with
   |.sl a' l=>match Ty.eq? a' (.tree a) with|some ⟨h⟩=>some (Tree.node v (h▸l:List (Ty.tree a).den),r)|none=>none
   |.val (.slice none 0 0)=>some (Tree.node v [],r)|_=>none
  |_=>none
 |_,[]=>none
def qc1{b:Bool}{hp:List (Nat×ag)}:∀{xs e c d:List AV}{ps a:List Prop},ci b hp xs e=some ps->ci b hp c d=some a->ci b hp (xs++c) (e++d)=some (ps++a)
 |[],[],_,_,ps,a,h,h'=>by simp[ci,qI]at h;subst h;exact h'|x::xs,y::e,c,d,ps,a,h,h'=>by
  simp[ci,wK]at h ⊢;split at h
  ·rename_i i g;split at h
   ·rename_i j f;simp at h;subst h;rw[qc1 f h',qS]
   ·cases h
  ·cases h
 |[],_::_,_,_,_,_,h,_=>by simp[ci]at h|_::_,[],_,_,_,_,h,_=>by simp[ci]at h
def ib(xs b:List AV):Prop:=(∀ρ,AV.rens ρ xs=xs)/\∃a,ci false [] xs b=some a/\ay a
def ib.append{xs f a b:List AV}(h:ib xs f)(g:ib a b):ib (xs++a) (f++b):=by
 obtain⟨i,m,j,k⟩:=h;obtain⟨c,l,d,e⟩:=g;exact⟨fun ρ=>by rw[AV.rens_append,i,c],_,qc1 j d,eq.2 ⟨k,e⟩⟩
def ib.one{x y:AV}(h:∀ρ,x.ren ρ=x){ps:List Prop}(a:vw false [] x y=some ps)(hp:ay ps):ib [x] [y]:=
 ⟨fun ρ=>by simp[AV.rens,h],ps++[],by simp[ci,a],eq.2 ⟨hp,trivial⟩⟩
def ib.same{x:AV}(h:∀ρ,x.ren ρ=x)(a:vw false [] x x=some [x=x]):ib [x] [x]:=ib.one h a ⟨rfl,trivial⟩
def Qn{b a:Ty}(h:b=a)(l:List b.den):AV.sl a (h▸l)=AV.sl b l:=by subst h;rfl
def zb:∀{τ:Ty}{cs:List AV}{d:τ.den}{r:List AV},τ.dec cs=some (d,r)->∃o,cs=o++r/\ib o (τ.enc d)
 |.int k,x::cs,d,r,h=>by
  simp[Ty.dec]at h;split at h
  ·rename_i k' n;cases e:decide (k'=k)<;>rw[e]at h<;>simp at h
   obtain⟨rfl,rfl⟩:=h;have:k'=k:=by simpa using e
   subst this;exact⟨[.int k' d],rfl,ib.same (fun ρ=>rfl) rfl⟩
  ·rename_i k' n;cases e:decide (k'=k) && !decide (k' = .u8)<;>rw[e]at h<;>simp at h
   obtain⟨rfl,rfl⟩:=h;simp at e;obtain⟨rfl,e⟩:=e;refine⟨[.val (.int k' d)],rfl,ib.one (y := .int k' d) (ps:=[AV.int k' d=pb (.int k' d)]) (fun ρ=>rfl) rfl ⟨?_,trivial⟩⟩
   cases k'<;>first|rfl|exact absurd rfl e
  ·cases h
 |.byte,x::cs,d,r,h=>by
  simp[Ty.dec]at h;split at h
  ·rename_i c;simp at h;obtain⟨rfl,rfl⟩:=h;exact⟨[.byte d],rfl,ib.same (fun ρ=>rfl) rfl⟩
  ·rename_i n;cases e:decide (0<=n)&&decide (n<256)<;>rw[e]at h<;>simp at h
   obtain⟨rfl,rfl⟩:=h;refine⟨[.val (.int .u8 n)],rfl,ib.one (y := .byte (UInt8.ofNat n.toNat)) (ps:=[AV.byte (UInt8.ofNat n.toNat)=pb (.int .u8 n)]) (fun ρ=>rfl) rfl ⟨?_,trivial⟩⟩
   simp[pb,e,qT]
  ·cases h
 |.bool,x::cs,d,r,h=>by
  simp[Ty.dec]at h;split at h
  ·rename_i b;simp at h;obtain⟨rfl,rfl⟩:=h;exact⟨[.bool d],rfl,ib.same (fun ρ=>rfl) rfl⟩
  ·rename_i b;simp at h;obtain⟨rfl,rfl⟩:=h;exact⟨[.val (.bool d)],rfl,ib.one (y := .bool d) (ps:=[AV.bool d=pb (.bool d)]) (fun ρ=>rfl) rfl ⟨rfl,trivial⟩⟩
  ·cases h
 |.str,x::cs,d,r,h=>by
  simp[Ty.dec]at h;split at h
  ·rename_i b;simp at h;obtain⟨rfl,rfl⟩:=h;exact⟨[.str d],rfl,ib.same (fun ρ=>rfl) rfl⟩
  ·cases h
 |.unit,cs,d,r,h=>by
  simp[Ty.dec,qI]at h;obtain⟨_,rfl⟩:=h;exact⟨[],rfl,fun ρ=>rfl,[],rfl,trivial⟩
 |.prod a b,cs,d,r,h=>by
  simp[Ty.dec]at h;split at h
  ·rename_i x s m;split at h
   ·rename_i y u p;simp at h;obtain⟨rfl,rfl⟩:=h;obtain⟨i,rfl,j⟩:=zb m;obtain⟨q,rfl,t⟩:=zb p;exact⟨i++q,Te,j.append t⟩
   ·cases h
  ·cases h
 |.list a,x::cs,d,r,h=>by
  simp[Ty.dec]at h;split at h
  ·rename_i g l;split at h
   ·rename_i f _;simp at h;obtain⟨rfl,rfl⟩:=h;exact⟨[.sl g l],rfl,ib.one (y := .sl a (f▸l)) (ps:=[AV.sl a (f▸l)=AV.sl g l]) (fun ρ=>rfl) rfl ⟨Qn f l,trivial⟩⟩
   ·cases h
  ·simp at h;obtain⟨rfl,rfl⟩:=h;exact⟨[.val (.slice none 0 0)],rfl,ib.one (y := .sl a []) (ps:=[([]:List a.den).length=0]) (fun ρ=>rfl) rfl ⟨rfl,trivial⟩⟩
  ·cases h
 |.tree a,cs,d,r,h=>by
  simp[Ty.dec]at h;split at h
  ·rename_i v x s m;obtain⟨i,rfl,j⟩:=zb m;split at h
   ·rename_i g l;split at h
    ·rename_i f _;simp at h;obtain⟨rfl,rfl⟩:=h;exact⟨i++[.sl g l],Te,j.append (ib.one (y := .sl (.tree a) (f▸l)) (ps:=[AV.sl (.tree a) (f▸l)=AV.sl g l]) (fun ρ=>rfl) rfl ⟨Qn f l,trivial⟩)⟩
    ·cases h
   ·simp at h;obtain⟨rfl,rfl⟩:=h;exact⟨i++[.val (.slice none 0 0)],Te,j.append (ib.one (y := .sl (.tree a) []) (ps:=[([]:List (Ty.tree a).den).length=0]) (fun ρ=>rfl) rfl ⟨rfl,trivial⟩)⟩
   ·cases h
  ·cases h
 |.int _,[],_,_,h=>by simp[Ty.dec]at h|.byte,[],_,_,h=>by simp[Ty.dec]at h|.bool,[],_,_,h=>by simp[Ty.dec]at h|.str,[],_,_,h=>by simp[Ty.dec]at h|.list _,[],_,_,h=>by simp[Ty.dec]at h
inductive CV:Type
 |nilS
 |int (k:IntKind) (n:Int)
 |bool (b:Bool)
 |unit
 |nilFunc
 |nilIface
 |nilPtr
def CV.val:CV->Value|.nilS => .slice none 0 0|.int k n => .int k n|.bool b => .bool b|.unit => .tuple #[]|.nilFunc => .nilFunc|.nilIface => .nilIface|.nilPtr => .pointer none
def CV.is:CV->AV->Bool|.nilS,.val (.slice none 0 0)=>true|.int k n,.val (.int k' n')=>decide (k'=k)&&decide (n'=n)|.bool b,.val (.bool b')=>b'==b|.unit,.val (.tuple vs)=>Nat.beq vs.size 0|.nilFunc,.val .nilFunc=>true|.nilIface,.val .nilIface=>true|.nilPtr,.val (.pointer none)=>true|_,_=>false
def jx:Nat:=1048576
def rg(f:FuncId)(xs:List AV):AV:=bif Nat.blt f jx then .fn (.func f) [] xs else .fn (.func (f-jx)) xs []
inductive Pt:Type
 |h (τ:Ty)
 |c (v:CV)
 |agg (ps:List Pt)
 |tup (ps:List Pt)
 |ptr (b off:Nat)
 |own (k:Nat)
 |arr (τ:Ty)
 |el (k sz:Nat)
 |iel (t:TypeId) (k sz:Nat)
 |ifc (t:TypeId) (p:Pt)
 |yld (n:Nat)
 |pn (n:Nat)
 |fn (f:FuncId) (cap:List Pt)
 |u
mutual
def Pt.den:Pt->Type|.h τ=>τ.den|.agg ps=>Pts.den ps|.tup ps=>Pts.den ps|.fn _ cap=>Pts.den cap|.ifc _ p=>Pt.den p|.arr τ=>List τ.den|_=>Unit
def Pts.den:List Pt->Type|[]=>Unit|p::ps=>p.den×Pts.den ps
end
def Ty.av:(τ:Ty)->τ.den->AV|.int k,n => .int k n|.byte,c => .byte c|.bool,b => .bool b|.str,s => .str s|.list a,l => .sl a l|.unit,_ => .agg []|.prod a b,x => .agg ((Ty.prod a b).enc x)|.tree a,x => .agg ((Ty.tree a).enc x)
def wn(τ:Ty)(x:AV):Option τ.den:=match τ.dec [x] with|some (d,[])=>some d|_=>none
def yK(τ:Ty)(x:AV):Option τ.den:=match x with
 |.agg cs=>match τ.dec cs with|some (d,[])=>some d|_=>none
 |_=>none
def Ty.getAV:(τ:Ty)->AV->Option τ.den|.int k,x=>wn (.int k) x|.byte,x=>wn .byte x|.bool,x=>wn .bool x|.str,x=>wn .str x|.list a,x=>wn (.list a) x|.unit,x=>yK .unit x|.prod a b,x=>yK (.prod a b) x|.tree a,x=>yK (.tree a) x
mutual
def Pt.put:(p:Pt)->p.den->AV|.h τ,x=>τ.av x|.c v,_ => .val v.val|.agg ps,x => .agg (Pts.put ps x)|.tup ps,x => .tup (Pts.put ps x)|.ptr b off,_ => .ptr b off|.own k,_ => .own k|.arr τ,l => .arr τ l|.el k sz,_ => .oel k sz 0 0|.iel t k sz,_ => .iface t (.oel k sz 0 0)|.ifc t p,x => .iface t (p.put x)|.yld n,_ => .yld n|.pn n,_ => .pn n|.fn f cap,x=>rg f (Pts.put cap x)|.u,_ => .undef
def Pts.put:(ps:List Pt)->Pts.den ps->List AV|[],_=>[]|p::ps,x=>p.put x.1::Pts.put ps x.2
end
abbrev NM:=List (Nat×Nat)
def ud(nm:NM)(b a:Nat):Option NM:=match bm nm b with|some x=>bif Nat.beq x a then some nm else none|none=>some ((b,a)::nm)
def asAgg:AV->Option (List AV)|.agg xs=>some xs|_=>none
def Dx:AV->Option (List AV)|.tup xs=>some xs|_=>none
def Dw:AV->Option (Nat×Nat)|.ptr b off=>some (b,off)|_=>none
def Du:AV->Option Nat|.own k=>some k|_=>none
def JC(τ:Ty):AV->Option (List τ.den)
 |.arr τ' l=>match Ty.eq? τ' τ with|some ⟨h⟩=>some (h▸l)|none=>none
 |_=>none
def yB:AV->Option (Nat×Nat)|.oel k sz 0 0=>some (k,sz)|_=>none
def qim{τ:Ty}{x:AV}{l:List τ.den}(h:JC τ x=some l):x = .arr τ l:=by
 cases x<;>simp[JC,reduceCtorEq]at h
 split at h
 ·rename_i a c e b;simp at h;subst h;cases e;rfl
 ·cases h
def PJ{x:AV}{k sz:Nat}(h:yB x=some (k,sz)):x = .oel k sz 0 0:=by
 unfold yB at h;split at h
 ·simp at h;obtain⟨rfl,rfl⟩:=h;rfl
 ·cases h
def Dt:AV->Option (TypeId×AV)|.iface t x=>some (t,x)|_=>none
def qip{x:AV}{t:TypeId}{y:AV}(h:Dt x=some (t,y)):x = .iface t y:=by
 cases x<;>simp[Dt,reduceCtorEq]at h
 obtain⟨rfl,rfl⟩:=h;rfl
def Ds:AV->Option (TypeId×Nat×Nat)
 |.iface t x=>match yB x with|some (k,sz)=>some (t,k,sz)|none=>none
 |_=>none
def qio{x:AV}{t:TypeId}{k sz:Nat}(h:Ds x=some (t,k,sz)):x = .iface t (.oel k sz 0 0):=by
 cases x<;>simp[Ds,reduceCtorEq]at h
 split at h
 ·rename_i b a e;simp at h;obtain⟨rfl,rfl,rfl⟩:=h;rw[PJ e]
 ·cases h
def Dy:AV->Option Nat|.yld k=>some k|_=>none
def Dv:AV->Option Nat|.pn k=>some k|_=>none
def JD:AV->Option (FuncId×List AV)
 |.fn f first xs=>match f with
  |.func f'=>match first with
   |[]=>bif Nat.blt f' jx then some (f',xs) else none|y::ys=>match xs with|[]=>some (f'+jx,y::ys)|_=>none
  |_=>none
 |_=>none
def qil{x:AV}{xs:List AV}(h:asAgg x=some xs):x = .agg xs:=by
 cases x<;>simp[asAgg,reduceCtorEq,qI]at h;subst h;rfl
def qit{x:AV}{xs:List AV}(h:Dx x=some xs):x = .tup xs:=by
 cases x<;>simp[Dx,reduceCtorEq,qI]at h;subst h;rfl
def qis{x:AV}{b a:Nat}(h:Dw x=some (b,a)):x = .ptr b a:=by
 cases x<;>simp[Dw,reduceCtorEq,qI,qP]at h;obtain⟨rfl,rfl⟩:=h;rfl
def qiq{x:AV}{k:Nat}(h:Du x=some k):x = .own k:=by
 cases x<;>simp[Du,reduceCtorEq,qI]at h;subst h;rfl
def qiu{x:AV}{k:Nat}(h:Dy x=some k):x = .yld k:=by
 cases x<;>simp[Dy,reduceCtorEq,qI]at h;subst h;rfl
def qir{x:AV}{k:Nat}(h:Dv x=some k):x = .pn k:=by
 cases x<;>simp[Dv,reduceCtorEq,qI]at h;subst h;rfl
def qin{x:AV}{f:FuncId}{xs:List AV}(h:JD x=some (f,xs)):x=rg f xs:=by
 cases x with
 |fn g first cap=>
  cases g with
  |func a=>
   cases first with
   |nil=>
    have h:(bif Nat.blt a jx then some (a,cap) else none)=some (f,xs):=h
    cases b:Nat.blt a jx<;>rw[b]at h<;>simp only[qT,qF,reduceCtorEq]at h
    simp at h;obtain⟨rfl,rfl⟩:=h;unfold rg;rw[b];rfl
   |cons y ys=>
    cases cap with
    |nil=>
     have h:some (a+jx,y::ys)=some (f,xs):=h;simp at h;obtain⟨rfl,rfl⟩:=h;have b:Nat.blt (a+jx) jx=false:=by
      cases c:Nat.blt (a+jx) jx
      ·rfl
      ·rw[Nat.blt_eq]at c;omega
     unfold rg;rw[b,qF,Nat.add_sub_cancel]
    |cons z zs=>cases h
  |_=>cases h
 |_=>cases h
mutual
def Pt.get:(p:Pt)->AV->NM->Option (p.den×NM)
 |.h τ,x,nm=>match τ.getAV x with|some d=>some (d,nm)|none=>none
 |.c v,x,nm=>bif v.is x then some ((),nm) else none|.agg ps,x,nm=>match asAgg x with|some xs=>Pts.get ps xs nm|none=>none
 |.tup ps,x,nm=>match Dx x with|some xs=>Pts.get ps xs nm|none=>none
 |.ptr b off,x,nm=>match Dw x with
  |some (b',off')=>bif Nat.beq off' off then(match ud nm b b' with|some nm'=>some ((),nm')|none=>none) else none
  |none=>none
 |.own k,x,nm=>match Du x with
  |some k'=>match ud nm k k' with|some nm'=>some ((),nm')|none=>none
  |none=>none
 |.arr τ,x,nm=>match JC τ x with|some d=>some (d,nm)|none=>none
 |.el k sz,x,nm=>match yB x with
  |some (k',sz')=>bif Nat.beq sz' sz then(match ud nm k k' with|some nm'=>some ((),nm')|none=>none) else none
  |none=>none
 |.iel t k sz,x,nm=>match Ds x with
  |some (t',k',sz')=>bif Nat.beq t' t&&Nat.beq sz' sz then(match ud nm k k' with|some nm'=>some ((),nm')|none=>none) else none
  |none=>none
 |.ifc t p,x,nm=>match Dt x with|some (t',y)=>bif Nat.beq t' t then p.get y nm else none|none=>none
 |.yld k,x,nm=>match Dy x with
  |some k'=>match ud nm k k' with|some nm'=>some ((),nm')|none=>none
  |none=>none
 |.pn k,x,nm=>match Dv x with
  |some k'=>match ud nm k k' with|some nm'=>some ((),nm')|none=>none
  |none=>none
 |.fn f cap,x,nm=>match JD x with|some (f',xs)=>bif Nat.beq f' f then Pts.get cap xs nm else none|none=>none
 |.u,_,nm=>some ((),nm)
def Pts.get:(ps:List Pt)->List AV->NM->Option (Pts.den ps×NM)
 |[],xs,nm=>match xs with|[]=>some ((),nm)|_=>none
 |p::ps,xs,nm=>match xs with
  |x::xs=>match p.get x nm with
   |some (d,nm')=>match Pts.get ps xs nm' with|some (ds,nm'')=>some ((d,ds),nm'')|none=>none
   |none=>none
  |[]=>none
end
def dx(nm a:NM):Prop:=∀n m,bm nm n=some m->bm a n=some m
def dx.refl(nm:NM):dx nm nm:=fun _ _ h=>h
def dx.trans{a b c:NM}(h:dx a b)(k:dx b c):dx a c:=fun n m x=>k n m (h n m x)
def bY{nm a:NM}{b d:Nat}(h:ud nm b d=some a):dx nm a/\bm a b=some d:=by
 unfold ud at h;split at h
 ·rename_i x f;cases c:Nat.beq x d<;>rw[c]at h<;>simp at h
  subst h;have:=qN c;subst this;exact⟨dx.refl _,f⟩
 ·rename_i f;simp at h;subst h;refine⟨fun n m e => ?_,by simp[bm]⟩
  simp[bm];cases c:Nat.beq b n
  ·exact e
  ·have:=qN c;subst this;rw[f]at e;cases e
def pq(N:NM)(x y:AV):Prop:=∃a,vw false [] (x.ren (bf N)) y=some a/\ay a
def fZ(N:NM)(xs b:List AV):Prop:=∃a,ci false [] (AV.rens (bf N) xs) b=some a/\ay a
def fZ.cons{N:NM}{x y:AV}{xs a:List AV}(h:pq N x y)(k:fZ N xs a):fZ N (x::xs) (y::a):=by
 obtain⟨f,b,c⟩:=h;obtain⟨g,d,e⟩:=k;exact⟨f++g,by simp[AV.rens,ci,b,d],eq.2 ⟨c,e⟩⟩
def ib.seens{xs a:List AV}(h:ib xs a)(N:NM):fZ N xs a:=by
 obtain⟨b,e,c,d⟩:=h;exact⟨e,by rw[b];exact c,d⟩
def yJ{τ:Ty}{x:AV}{d:τ.den}(h:wn τ x=some d){y:AV}(i:τ.enc d=[y])(N:NM):pq N x y:=by
 unfold wn at h;split at h
 ·rename_i l f;simp at h;subst h;obtain⟨k,e,b⟩:=zb f;simp at e;subst e;rw[i]at b;obtain⟨m,a,c⟩:=b.seens N;simp only[AV.rens,ci]at a;split at a
  ·rename_i j g;simp only[qI]at a;subst a;exact⟨j,g,(eq.1 c).1⟩
  ·cases a
 ·cases h
def Kj{τ:Ty}{x:AV}{d:τ.den}(h:yK τ x=some d)(N:NM):pq N x (.agg (τ.enc d)):=by
 unfold yK at h;split at h
 ·split at h
  ·rename_i j c;simp at h;subst h;obtain⟨i,e,f⟩:=zb c;simp at e;subst e;obtain⟨g,a,b⟩:=f.seens N;exact⟨g,by simp[AV.ren,vw];exact a,b⟩
  ·cases h
 ·cases h
def qmt{N:NM}:∀{τ:Ty}{x:AV}{d:τ.den},τ.getAV x=some d->pq N x (τ.av d)|.int _,_,_,h=>yJ h rfl N|.byte,_,_,h=>yJ h rfl N|.bool,_,_,h=>yJ h rfl N|.str,_,_,h=>yJ h rfl N|.list _,_,_,h=>yJ h rfl N|.unit,_,_,h=>Kj h N|.prod _ _,_,_,h=>Kj h N|.tree _,_,_,h=>Kj h N
def CV.is_seen{v:CV}{x:AV}(h:v.is x=true)(N:NM):pq N x (.val v.val):=by
 have:x = .val v.val:=by
  unfold CV.is at h;split at h
  ·rfl
  ·simp at h;obtain⟨rfl,rfl⟩:=h;rfl
  ·simp at h;subst h;rfl
  ·rename_i a;have:=Array.eq_empty_of_size_eq_zero (qN h);subst this;rfl
  ·rfl
  ·rfl
  ·rfl
  ·cases h
 subst this;exact⟨[AV.val v.val=AV.val v.val],rfl,rfl,trivial⟩
mutual
def Pt.get_seen:∀{p:Pt}{x:AV}{nm a:NM}{d:p.den},p.get x nm=some (d,a)->dx nm a/\∀N,eh N=true->dx a N->pq N x (p.put d)
 |.h τ,x,nm,a,d,h=>by
  simp[Pt.get]at h;split at h
  ·rename_i I F;simp at h;obtain⟨rfl,rfl⟩:=h;exact⟨dx.refl _,fun N _ _=>qmt F⟩
  ·cases h
 |.c v,x,nm,a,d,h=>by
  simp[Pt.get]at h;cases G:v.is x<;>rw[G]at h<;>simp at h
  obtain⟨_,rfl⟩:=h;exact⟨dx.refl _,fun N _ _=>CV.is_seen G N⟩
 |.u,x,nm,a,d,h=>by
  simp[Pt.get,qI]at h;obtain⟨_,rfl⟩:=h;refine⟨dx.refl _,fun N _ _=>⟨[],?_,trivial⟩⟩
  show vw false [] _ .undef=_;cases AV.ren (bf N) x<;>rfl
 |.agg ps,x,nm,a,d,h=>by
  simp[Pt.get]at h;split at h
  rotate_left
  ·cases h
  rename_i E e;have e:=qil e;subst e;obtain⟨i,j⟩:=Pts.get_seen h;exact⟨i,fun N l m=>by obtain⟨s,B,C⟩:=j N l m;exact⟨s,B,C⟩⟩
 |.tup ps,x,nm,a,d,h=>by
  simp[Pt.get]at h;split at h
  rotate_left
  ·cases h
  rename_i E e;have e:=qit e;subst e;obtain⟨i,j⟩:=Pts.get_seen h;exact⟨i,fun N l m=>by obtain⟨s,B,C⟩:=j N l m;exact⟨s,B,C⟩⟩
 |.ptr b off,x,nm,a,d,h=>by
  simp[Pt.get]at h;split at h
  rotate_left
  ·cases h
  rename_i H o e;have e:=qis e;subst e;cases n:Nat.beq o off<;>rw[n]at h<;>simp at h
  split at h
  ·rename_i w r;simp at h;obtain⟨_,rfl⟩:=h;obtain⟨i,j⟩:=bY r;have:=qN n;subst this;refine⟨i,fun N l m => ?_⟩
   have:=zp l (m _ _ j);refine⟨[AV.ptr b o=AV.ptr b o],?_,rfl,trivial⟩;show vw false [] (match bf N H with|some b''=>AV.ptr b'' o|none => .undef) (AV.ptr b o)=_
   rw[this];rfl
  ·cases h
 |.own k,x,nm,a,d,h=>by
  simp[Pt.get]at h;split at h
  rotate_left
  ·cases h
  rename_i A e;have e:=qiq e;subst e;split at h
  ·rename_i w r;simp at h;obtain⟨_,rfl⟩:=h;obtain⟨i,j⟩:=bY r;refine⟨i,fun N l m => ?_⟩
   have:=zp l (m _ _ j);refine⟨[AV.own k=AV.own k],?_,rfl,trivial⟩;show vw false [] (match bf N A with|some b''=>AV.own b''|none => .undef) (AV.own k)=_
   rw[this];rfl
  ·cases h
 |.arr τ,x,nm,a,d,h=>by
  simp[Pt.get]at h;split at h
  ·rename_i I F;simp at h;obtain⟨rfl,rfl⟩:=h;have F:=qim F;subst F;exact⟨dx.refl _,fun N _ _=>⟨[AV.arr τ d=AV.arr τ d],rfl,rfl,trivial⟩⟩
  ·cases h
 |.el k sz,x,nm,a,d,h=>by
  simp[Pt.get]at h;split at h
  rotate_left
  ·cases h
  rename_i A g e;have e:=PJ e;subst e;cases n:Nat.beq g sz<;>rw[n]at h<;>simp at h
  split at h
  ·rename_i w r;simp at h;obtain⟨_,rfl⟩:=h;obtain⟨i,j⟩:=bY r;have:=qN n;subst this;refine⟨i,fun N l m => ?_⟩
   have:=zp l (m _ _ j);refine⟨[AV.oel k g 0 0=AV.oel k g 0 0],?_,rfl,trivial⟩;show vw false [] (match bf N A with|some b''=>AV.oel b'' g 0 0|none => .undef) (AV.oel k g 0 0)=_
   rw[this];rfl
  ·cases h
 |.iel t k sz,x,nm,a,d,h=>by
  simp[Pt.get]at h;split at h
  rotate_left
  ·cases h
  rename_i z A g e;have e:=qio e;subst e;cases n:Nat.beq z t&&Nat.beq g sz<;>rw[n]at h<;>simp at h
  simp only[qA]at n;split at h
  ·rename_i w r;simp only[qI]at h;obtain⟨_,rfl⟩:=h;obtain⟨i,j⟩:=bY r;have:=qN n.1;subst this;have:=qN n.2;subst this;refine⟨i,fun N l m => ?_⟩
   have:=zp l (m _ _ j);refine⟨[z=z,AV.oel k g 0 0=AV.oel k g 0 0],?_,rfl,rfl,trivial⟩;show vw false [] (.iface z (match bf N A with|some b''=>AV.oel b'' g 0 0|none => .undef)) (AV.iface z (AV.oel k g 0 0))=_
   rw[this];rfl
  ·cases h
 |.ifc t p,x,nm,a,d,h=>by
  simp only[Pt.get]at h;split at h
  rotate_left
  ·cases h
  rename_i z y e;have e:=qip e;subst e;cases n:Nat.beq z t
  ·rw[n]at h;cases h
  ·rw[n]at h;have h:p.get y nm=some (d,a):=h;have:=qN n;subst this;obtain⟨i,j⟩:=Pt.get_seen h;refine⟨i,fun N l m => ?_⟩
   obtain⟨s,B,C⟩:=j N l m;refine⟨(z=z)::s,?_,rfl,C⟩;show vw false [] (.iface z (AV.ren (bf N) y)) (.iface z (p.put d))=_;simp only[vw,B]
 |.yld k,x,nm,a,d,h=>by
  simp[Pt.get]at h;split at h
  rotate_left
  ·cases h
  rename_i A e;have e:=qiu e;subst e;split at h
  ·rename_i w r;simp at h;obtain⟨_,rfl⟩:=h;obtain⟨i,j⟩:=bY r;refine⟨i,fun N l m => ?_⟩
   have:=zp l (m _ _ j);refine⟨[AV.yld k=AV.yld k],?_,rfl,trivial⟩;show vw false [] (match bf N A with|some b''=>AV.yld b''|none => .undef) (AV.yld k)=_
   rw[this];rfl
  ·cases h
 |.pn k,x,nm,a,d,h=>by
  simp[Pt.get]at h;split at h
  rotate_left
  ·cases h
  rename_i A e;have e:=qir e;subst e;split at h
  ·rename_i w r;simp at h;obtain⟨_,rfl⟩:=h;obtain⟨i,j⟩:=bY r;refine⟨i,fun N l m => ?_⟩
   have:=zp l (m _ _ j);refine⟨[AV.pn k=AV.pn k],?_,rfl,trivial⟩;show vw false [] (match bf N A with|some b''=>AV.pn b''|none => .undef) (AV.pn k)=_
   rw[this];rfl
  ·cases h
 |.fn f cap,x,nm,a,d,h=>by
  simp[Pt.get]at h;split at h
  rotate_left
  ·cases h
  rename_i q E e;have e:=qin e;subst e;cases n:Nat.beq q f
  ·rw[n]at h;exact absurd (show(none:Option ((Pt.fn f cap).den×NM))=some (d,a) from h) Te
  have h:Pts.get cap E nm=some (d,a):=by rw[n]at h;exact h
  obtain⟨i,j⟩:=Pts.get_seen h;have:=qN n;subst this;refine⟨i,fun N l m => ?_⟩
  obtain⟨s,B,C⟩:=j N l m;show pq N (rg q E) (rg q (Pts.put cap d));unfold rg;cases r:Nat.blt q jx
  ·refine⟨(Fn.func (q - jx)=Fn.func (q - jx))::(s++[]),?_,rfl,by rw[List.append_nil];exact C⟩
   show(match ci false [] (AV.rens (bf N) E) (Pts.put cap d),ci false [] (AV.rens (bf N) []) [] with
    |some ps,some s=>some ((Fn.func (q - jx)=Fn.func (q - jx))::(ps++s))| _,_=>none)=_
   rw[B];rfl
  ·refine⟨(Fn.func q=Fn.func q)::([]++s),?_,rfl,C⟩;show(match ci false [] (AV.rens (bf N) []) [],ci false [] (AV.rens (bf N) E) (Pts.put cap d) with
    |some ps,some s=>some ((Fn.func q=Fn.func q)::(ps++s))| _,_=>none)=_
   rw[B];rfl
def Pts.get_seen:∀{ps:List Pt}{xs:List AV}{nm a:NM}{d:Pts.den ps},Pts.get ps xs nm=some (d,a)->dx nm a/\∀N,eh N=true->dx a N->fZ N xs (Pts.put ps d)
 |[],xs,nm,a,d,h=>by
  cases xs with
  |nil=>
   have h:some (((),nm):Unit×NM)=some (d,a):=h;have e:nm=a:=congrArg Prod.snd (qJ h);subst e;exact⟨dx.refl _,fun N _ _=>⟨[],rfl,trivial⟩⟩
  |cons x xs=>exact absurd (show(none:Option (Unit×NM))=some (d,a) from h) Te
 |p::ps,xs,nm,a,d,h=>by
  cases xs with
  |nil=>exact absurd (show(none:Option ((p.den×Pts.den ps)×NM))=some (d,a) from h) Te|cons x xs=>
   have h:(match p.get x nm with
    |some (d,a)=>match Pts.get ps xs a with|some (ds,nm'')=>some ((d,ds),nm'')|none=>none
    | none=>none)=some (d,a):=h
   split at h
   ·rename_i o m k;split at h
    ·rename_i q n l;simp at h;obtain⟨rfl,rfl⟩:=h;obtain⟨g,i⟩:=Pt.get_seen k;obtain⟨b,j⟩:=Pts.get_seen l;exact⟨g.trans b,fun N c f=>fZ.cons (i N c (b.trans f)) (j N c f)⟩
    ·cases h
   ·cases h
end
def ui:List (Nat×Pt)->Type|[]=>Unit|(_,p)::r=>p.den×ui r
def n7:(l:List (Nat×Pt))->ui l->List (Nat×AV)|[],_=>[]|(i,p)::r,x=>(i,p.put x.1)::n7 r x.2
def cG(fr:List (Nat×AV)):(l:List (Nat×Pt))->NM->Option (ui l×NM)
 |[],nm=>some ((),nm)|(i,p)::r,nm=>match af fr i with
  |some x=>match p.get x nm with
   |some (d,nm')=>match cG fr r nm' with|some (ds,nm'')=>some ((d,ds),nm'')|none=>none
   |none=>none
  |none=>none
def DZ{fr:List (Nat×AV)}:∀{l:List (Nat×Pt)}{nm a:NM}{d:ui l},cG fr l nm=some (d,a)->dx nm a/\∀N,eh N=true->dx a N->∀i y,af (n7 l d) i=some y->∃x,af fr i=some x/\pq N x y
 |[],nm,a,d,h=>by
  have e:nm=a:=congrArg Prod.snd (qJ (show some (((),nm):Unit×NM)=some (d,a) from h))
  subst e;exact⟨dx.refl _,fun N _ _ i y b=>by cases b⟩
 |(j,p)::r,nm,a,d,h=>by
  have h:(match af fr j with
   |some x=>match p.get x nm with
    |some (d,a)=>match cG fr r a with|some (ds,nm'')=>some ((d,ds),nm'')|none=>none
    |none=>none
   | none=>none)=some (d,a):=h
  split at h
  ·rename_i x v;split at h
   ·rename_i q w t;split at h
    ·rename_i s z u;simp at h;obtain⟨rfl,rfl⟩:=h;obtain⟨m,n⟩:=Pt.get_seen t;obtain⟨f,o⟩:=DZ u;refine⟨m.trans f,fun N g k i y b => ?_⟩
     have b:(bif Nat.beq j i then some (p.put q) else af (n7 r s) i)=some y:=b
     cases c:Nat.beq j i
     ·rw[c]at b;exact o N g k i y b
     ·rw[c]at b;simp at b;subst b;have:=qN c;subst this;exact⟨x,v,n N g (f.trans k)⟩
    ·cases h
   ·cases h
  ·cases h
inductive bu:Type
 |cells (ps:List Pt) (T:TypeId)
 |row (τ:Ty) (E:TypeId)
 |loop (st:LoopState) (pe:Option er) (f:FuncId) (n:Nat) (fr:List (Nat×Pt)) (ps:List Tmp) (tag:Nat) (D:Nat)
 |dfr
 |it
 |dead
 |dat (τ:Ty) (T:TypeId)
def bu.den:bu->Type|.cells ps _=>Pts.den ps|.row τ _=>List τ.den|.loop _ _ _ _ fr _ _ _=>ui fr|.dfr=>Unit|.it=>List UInt8×Nat|.dead=>Unit|.dat τ _=>τ.den
def bu.put:(p:bu)->p.den->ag|.cells ps T,x => .cells (Pts.put ps x) T|.row τ E,l => .row τ l E|.loop st pe f n fr ps tag D,x => .loop st pe f n (n7 fr x) ps tag D|.dfr,_ => .dfr|.it,x => .it x.1 x.2|.dead,_ => .dead|.dat τ T,x => .cells (τ.enc x) T
def er.beq:Option er->Option er->Bool|none,none=>true|some .ret,some .ret=>true|some (.exit i),some (.exit j)=>Nat.beq i j|_,_=>false
def er.beq_eq:∀{a b:Option er},er.beq a b=true->a=b|none,none,_=>rfl|some .ret,some .ret,_=>rfl|some (.exit i),some (.exit j),h=>by rw[qN (show Nat.beq i j=true from h)]|none,some _,h=>by simp[er.beq]at h|some _,none,h=>by simp[er.beq]at h|some .ret,some (.exit _),h=>by simp[er.beq]at h|some (.exit _),some .ret,h=>by simp[er.beq]at h
def uf:List Nat->List Nat->Bool|[],[]=>true|x::xs,y::ys=>Nat.beq x y&&uf xs ys|_,_=>false
def DU:∀{a b:List Nat},uf a b=true->a=b
 |[],[],_=>rfl|x::xs,y::ys,h=>by
  simp only[uf,qA]at h;rw[qN h.1,DU h.2]
 |[],_::_,h=>by simp[uf]at h|_::_,[],h=>by simp[uf]at h
def bu.get:(p:bu)->ag->NM->Option (p.den×NM)
 |.cells ps T,b,nm=>match b with|.cells cs T'=>bif Nat.beq T' T then Pts.get ps cs nm else none|_=>none
 |.row τ E,b,nm=>match b with
  |.row τ' l E'=>match Ty.eq? τ' τ with|some ⟨h⟩=>bif Nat.beq E' E then some ((h▸l:List τ.den),nm) else none|none=>none
  |_=>none
 |.loop st pe f n fr ps tag D,b,nm=>match b with
  |.loop st' pe' f' n' fr' ps' tag' D'=>bif decide (st'=st)&&er.beq pe' pe&&Nat.beq f' f&&Nat.beq n' n&&uf ps' ps&&Nat.beq tag' tag then
    (match ud nm D D' with
    |some nm1=>cG fr' fr nm1| none=>none) else none
  |_=>none
 |.dfr,b,nm=>match b with|.dfr=>some ((),nm)|_=>none
 |.it,b,nm=>match b with|.it s p=>some ((s,p),nm)|_=>none
 |.dead,_,nm=>some ((),nm)|.dat τ T,b,nm=>match b with
  | .cells cs T'=>bif Nat.beq T' T then(match τ.dec cs with
    |some (d,[])=>some (d,nm)| _=>none) else none
  |_=>none
def Jl(N:NM)(b c:ag):Prop:=∃a,dO (fk (bf N) b) c=some a/\ay a
def qa8{N:NM}{fr:List (Nat×AV)}:∀{fr':List (Nat×AV)},(∀e∈fr',∃x,af fr e.1=some x/\pq N x e.2)->∃ps,iQ (rt (bf N) fr) fr'=some ps/\ay ps
 |[],_=>⟨[],rfl,trivial⟩|(i,y)::r,h=>by
  obtain⟨x,g,ps,b,c⟩:=h (i,y) qH;obtain⟨m,k,l⟩:=qa8 (fr':=r) (fun e d=>h e (qE _ d))
  have f:∀(fr:List (Nat×AV)),af fr i=some x->af (rt (bf N) fr) i=some (x.ren (bf N)):=by
   intro fr
   induction fr with
   |nil=>intro h;cases h
   |cons e r ih=>
    obtain⟨j,z⟩:=e;intro h;simp[rt,af]at h ⊢;cases a:Nat.beq j i
    ·rw[a]at h;exact ih h
    ·rw[a]at h;simp at h;subst h;rfl
  exact⟨ps++m,by simp[iQ,f fr g,b,k],eq.2 ⟨c,l⟩⟩
def QV{fr:List (Nat×AV)}:∀{l:List (Nat×Pt)}{nm a:NM}{d:ui l},cG fr l nm=some (d,a)->∀N,eh N=true->dx a N->∀e∈n7 l d,∃x,af fr e.1=some x/\pq N x e.2
 |[],nm,a,d,h,N,_,_,e,he=>by cases he
 |(j,p)::r,nm,a,d,h,N,hN,hs,e,he=>by
  have h:(match af fr j with
   |some x=>match p.get x nm with
    |some (d,a)=>match cG fr r a with|some (ds,nm'')=>some ((d,ds),nm'')|none=>none
    |none=>none
   | none=>none)=some (d,a):=h
  split at h
  ·rename_i x i;split at h
   ·rename_i c k g;split at h
    ·rename_i f m b;simp at h;obtain⟨rfl,rfl⟩:=h;rcases List.mem_cons.1 (show e∈(j,p.put c)::n7 r f from he) with rfl|he
     ·exact⟨x,i,(Pt.get_seen g).2 N hN ((DZ b).1.trans hs)⟩
     ·exact QV b N hN hs e he
    ·cases h
   ·cases h
  ·cases h
def bu.get_seen:∀{p:bu}{b:ag}{nm a:NM}{d:p.den},p.get b nm=some (d,a)->dx nm a/\∀N,eh N=true->dx a N->Jl N b (p.put d)
 |.cells ps T,b,nm,a,d,h=>by
  cases b with
  |cells cs m=>
   have h:(bif Nat.beq m T then Pts.get ps cs nm else none)=some (d,a):=h
   cases k:Nat.beq m T
   ·rw[k]at h;cases h
   ·rw[k]at h;have h:Pts.get ps cs nm=some (d,a):=h;obtain⟨O,P⟩:=Pts.get_seen h;have:=qN k;subst this;refine⟨O,fun N x w => ?_⟩
    obtain⟨o,z,u⟩:=P N x w;refine⟨o,?_,u⟩;show(bif Nat.beq m m then ci false [] (AV.rens (bf N) cs) (Pts.put ps d) else none)=some o
    rw[show Nat.beq m m=true by simp,z];rfl
  |_=>exact absurd (show(none:Option ((bu.cells ps T).den×NM))=some (d,a) from h) Te
 |.row τ E,b,nm,a,d,h=>by
  cases b with
  |row v l B=>
   have h:(match Ty.eq? v τ with
    |some ⟨h⟩=>bif Nat.beq B E then some ((h▸l:List τ.den),nm) else none| none=>none)=some (d,a):=h
   split at h
   ·rename_i U _;cases k:Nat.beq B E
    ·rw[k]at h;cases h
    ·rw[k]at h;simp at h;obtain⟨rfl,rfl⟩:=h;have:=qN k;subst this;subst U;exact⟨dx.refl _,fun N _ _=>⟨[ag.row v l B=ag.row v l B],rfl,rfl,trivial⟩⟩
   ·cases h
  |_=>exact absurd (show(none:Option ((bu.row τ E).den×NM))=some (d,a) from h) Te
 |.loop st pe f n fr ps tag D,b,nm,a,d,h=>by
  cases b with
  |loop j g q r t i c A=>
   have h:(bif decide (j=st)&&er.beq g pe&&Nat.beq q f&&Nat.beq r n&&uf i ps&&Nat.beq c tag then
    (match ud nm D A with
    |some y=>cG t fr y| none=>none) else none)=some (d,a):=h
   cases k:decide (j=st)&&er.beq g pe&&Nat.beq q f&&Nat.beq r n&&uf i ps&&Nat.beq c tag
   ·rw[k]at h;cases h
   ·rw[k]at h;simp at h;simp only[qA,decide_eq_true_eq]at k;obtain⟨⟨⟨⟨⟨z,u⟩,C⟩,F⟩,G⟩,H⟩:=k;have u:=er.beq_eq u;have C:=qN C;have F:=qN F;have G:=DU G;have H:=qN H;subst z u C F G H;split at h
    ·rename_i y R;obtain⟨I,J⟩:=bY R;obtain⟨c1,_⟩:=DZ h;refine⟨I.trans c1,fun N x w => ?_⟩
     have Q:=zp x (w _ _ (c1 _ _ J));obtain⟨o,V,W⟩:=qa8 (QV h N x w);refine⟨([j=j,g=g,q=q,r=r,i=i,c=c,D=D]:List Prop)++o,?_,eq.2 ⟨⟨rfl,rfl,rfl,rfl,rfl,rfl,rfl,trivial⟩,W⟩⟩;show dO (match bf N A with|some A => .loop j g q r (rt (bf N) t) i c A|none => .dead) (.loop j g q r (n7 fr d) i c D)=_
     rw[Q];show(match iQ (rt (bf N) t) (n7 fr d) with
      |some o=>some (([j=j,g=g,q=q,r=r,i=i,c=c,D=D]:List Prop)++o)| none=>none)=_
     rw[V]
    ·cases h
  |_=>exact absurd (show(none:Option ((bu.loop st pe f n fr ps tag D).den×NM))=some (d,a) from h) Te
 |.dat τ T,b,nm,a,d,h=>by
  cases b with
  |cells cs m=>
   have h:(bif Nat.beq m T then(match τ.dec cs with
    |some (d,[])=>some (d,nm)| _=>none) else none)=some (d,a):=h
   cases k:Nat.beq m T
   ·rw[k]at h;cases h
   ·rw[k]at h;simp at h;have:=qN k;subst this;split at h
    ·rename_i K S;have h:(some (K,nm):Option (τ.den×NM))=some (d,a):=h;cases h
     obtain⟨X,e,w⟩:=zb S;rw[List.append_nil]at e;subst e;refine⟨dx.refl _,fun N x _ => ?_⟩
     obtain⟨o,z,u⟩:=w.seens N;refine⟨o,?_,u⟩;show(bif Nat.beq m m then ci false [] (AV.rens (bf N) _) (τ.enc d) else none)=some o
     rw[show Nat.beq m m=true by simp,z];rfl
    ·cases h
  |_=>exact absurd (show(none:Option ((bu.dat τ T).den×NM))=some (d,a) from h) Te
 |.dfr,b,nm,a,d,h=>by
  cases b with
  |dfr=>
   have e:nm=a:=congrArg Prod.snd (qJ (show some (((),nm):Unit×NM)=some (d,a) from h))
   subst e;exact⟨dx.refl _,fun N _ _=>⟨[],rfl,trivial⟩⟩
  |_=>exact absurd (show(none:Option (bu.dfr.den×NM))=some (d,a) from h) Te
 |.it,b,nm,a,d,h=>by
  cases b with
  |it s p=>
   have e:=qJ (show some ((s,p),nm)=some (d,a) from h)
   have L:nm=a:=congrArg Prod.snd e;have M:(s,p)=d:=congrArg Prod.fst e;subst L;subst M;exact⟨dx.refl _,fun N _ _=>⟨[s=s,p=p],rfl,rfl,rfl,trivial⟩⟩
  |_=>exact absurd (show(none:Option (bu.it.den×NM))=some (d,a) from h) Te
 |.dead,b,nm,a,d,h=>by
  have e:nm=a:=congrArg Prod.snd (qJ (show some (((),nm):Unit×NM)=some (d,a) from h))
  subst e;refine⟨dx.refl _,fun N _ _ => ?_⟩
  show ∃ps,dO (fk (bf N) b) .dead=some ps/\ay ps;cases fk (bf N) b<;>exact⟨[],rfl,trivial⟩
def ic:List (Nat×bu)->Type|[]=>Unit|(_,p)::r=>p.den×ic r
def cf:(l:List (Nat×bu))->ic l->List (Nat×ag)|[],_=>[]|(n,p)::r,x=>(n,p.put x.1)::cf r x.2
def wi(hp:List (Nat×ag)):(l:List (Nat×bu))->NM->Option (ic l×NM)
 |[],nm=>some ((),nm)|(n,p)::r,nm=>match bm nm n with
  |some old=>match af hp old with
   |some b=>match p.get b nm with
    |some (d,nm')=>match wi hp r nm' with|some (ds,nm'')=>some ((d,ds),nm'')|none=>none
    |none=>none
   |none=>none
  |none=>none
def gG{hp:List (Nat×ag)}:∀{l:List (Nat×bu)}{nm a:NM}{d:ic l},wi hp l nm=some (d,a)->dx nm a/\∀N,eh N=true->dx a N ->
  (∀m i,af (cf l d) m=some i->∃f b,bm N m=some f/\af hp f=some b/\Jl N b i)/\∀m,af (cf l d) m=none->∀e∈l,e.1≠m
 |[],nm,a,d,h=>by
  have e:nm=a:=congrArg Prod.snd (qJ (show some (((),nm):Unit×NM)=some (d,a) from h))
  subst e;exact⟨dx.refl _,fun N _ _=>⟨fun m i s=>(by cases s),fun m _ e k=>(by cases k)⟩⟩
 |(j,p)::r,nm,a,d,h=>by
  have h:(match bm nm j with
   |some f=>match af hp f with
    |some b=>match p.get b nm with
     |some (d,a)=>match wi hp r a with|some (ds,nm'')=>some ((d,ds),nm'')|none=>none
     |none=>none
    |none=>none
   | none=>none)=some (d,a):=h
  split at h
  ·rename_i f A;split at h
   ·rename_i b s;split at h
    ·rename_i v B y;split at h
     ·rename_i w C z;simp at h;obtain⟨rfl,rfl⟩:=h;obtain⟨t,x⟩:=bu.get_seen y;obtain⟨o,u⟩:=gG z;refine⟨t.trans o,fun N q n=>⟨fun m i c => ?_,fun m c e k => ?_⟩⟩
      ·have c:(bif Nat.beq j m then some (p.put v) else af (cf r w) m)=some i:=c
       cases g:Nat.beq j m
       ·rw[g]at c;exact(u N q n).1 m i c
       ·rw[g]at c;simp at c;subst c;have:=qN g;subst this;exact⟨f,b,n _ _ (o _ _ (t _ _ A)),s,x N q (o.trans n)⟩
      ·have c:(bif Nat.beq j m then some (p.put v) else af (cf r w) m)=none:=c
       cases g:Nat.beq j m
       ·rw[g]at c;rcases List.mem_cons.1 k with rfl|k
        ·intro e;subst e;simp at g
        ·exact(u N q n).2 m c e k
       ·rw[g]at c;cases c
     ·cases h
    ·cases h
   ·cases h
  ·cases h
def gI:NM->List Nat->List Nat->Option NM
 |nm,[],[]=>some nm|nm,n::ns,m::ms=>match ud nm n m with|some nm'=>gI nm' ns ms|none=>none
 |_,_,_=>none
def PZ:∀{nm a:NM}{c b:List Nat},gI nm c b=some a->dx nm a/\c.map (bm a)=b.map some
 |nm,a,[],[],h=>by simp only[gI,qI]at h;subst h;exact⟨dx.refl _,rfl⟩|nm,a,n::c,m::b,h=>by
  simp only[gI]at h;split at h
  ·rename_i j i;obtain⟨e,f⟩:=bY i;obtain⟨d,g⟩:=PZ h;exact⟨e.trans d,by simp[List.map_cons,g,d _ _ f]⟩
  ·cases h
 |_,_,[],_::_,h=>by simp[gI]at h|_,_,_::_,[],h=>by simp[gI]at h
def Eg(n:Nat):List (Nat×bu)->Bool|[]=>false|(m,_)::r=>Nat.beq m n||Eg n r
def Ri{n:Nat}:∀{l:List (Nat×bu)},Eg n l=true->∃e∈l,e.1=n
 |[],h=>by cases h
 |(m,p)::r,h=>by
  simp only[Eg,Bool.or_eq_true]at h;rcases h with h|h
  ·exact⟨(m,p),qH,qN h⟩
  ·obtain⟨e,a,h⟩:=Ri h;exact⟨e,qE _ a,h⟩
def y5:NM->List (Nat×bu)->Bool|[],_=>true|(n,_)::r,l=>Eg n l&&y5 r l
def J8{l:List (Nat×bu)}:∀{nm:NM},y5 nm l=true->∀n m,bm nm n=some m->∃e∈l,e.1=n
 |[],_,n,m,h=>by cases h
 |(k,v)::r,ha,n,m,h=>by
  simp[y5,qA]at ha;simp[bm]at h;cases a:Nat.beq k n
  ·rw[a]at h;exact J8 ha.2 n m h
  ·have:=qN a;subst this;exact Ri ha.1
structure LS where
 n:Nat
 fr:List (Nat×Pt)
 hp:List (Nat×bu)
 nx:Nat
 df:List Nat
def LS.den(a:LS):Type:=ui a.fr×ic a.hp
def LS.st(a:LS)(d:a.den):St:={ n:=a.n,fr:=n7 a.fr d.1,hp:=cf a.hp d.2,nx:=a.nx,df:=a.df }
def LS.get(a:LS)(b:NM)(s:St):Option a.den:=
 bif Nat.beq s.n a.n then
  match cG s.fr a.fr b with
  |some (d1,nm1)=>match gI nm1 a.df s.df with
   |some nm2=>match wi s.hp a.hp nm2 with|some (d2,nm3)=>bif eh nm3&&y5 nm3 a.hp then some (d1,d2) else none|none=>none
   |none=>none
  |none=>none
 else none
section
variable{P:Program}{q72:World}{q7w:Gh}{q7z:List (Nat×ag)}{G:Gh}{s:St}{a:Act}{w:World}
def pq.rep{N:NM}{x y:AV}(h:pq N x y){v:Value}(d:ai x G v):ai y (G.view N) v:=by
 obtain⟨f,b,c⟩:=h;exact Fr (Gh.le.refl _) (fun e=>by cases e) b c (ai.ren (G:=G) (G':=G.view N) (fun _ _ _ h=>h) (uz N) (xm N) d)
def Fin.fit{hp l:List (Nat×ag)}(g:Fin q72 q7w q7z G hp w){N:NM}(H:eh N=true)(q:∀n bx,af q7z n=some bx->bm N n=some n)
  (A:∀m e,af l m=some e->∃r b,bm N m=some r/\af hp r=some b/\Jl N b e):Fin q72 q7w q7z (G.view N) l w:=by
 have u:∀m n,bm N m=some n->(G.view N).box m=G.box n:=fun m n y=>by simp[Gh.view,y]
 have v:∀m n,bm N m=some n->(G.view N).own m=G.own n:=fun m n y=>by simp[Gh.view,y]
 have j:∀m n b,bm N m=some n->af hp n=some b->dv (G.view N) w m (fk (bf N) b):=fun m n b d f=>
  dv.ren (G:=G) (G':=G.view N) (ρ:=bf N) (n:=n) (fun _ _ _ h=>h) (fun _ _ _ h=>h) (uz N) (xm N) (fun B x=>by rw[u m n d];exact x) (fun B x=>by rw[v m n d];exact x) (g.mem.holds n b f)
 have o:∀m e c,af l m=some e->(G.view N).at m e=some c->∃n b,bm N m=some n/\af hp n=some b/\G.at n b=some c:=fun m e c d f=>by
  obtain⟨n,b,i,k,M,p,z⟩:=A m e d;exact⟨n,b,i,k,wh (u m n i) (v m n i) ((oJ p z (j m n b i k)).2 c f)⟩
 refine⟨⟨g.mem.agree,g.mem.one,fun m e h => ?_,fun m C b e c d f E F => ?_,g.mem.tab⟩,g.bel,g.imm_le,g.imm_new,fun m b c d f => ?_,fun n bx B d f => ?_,fun n bx B d f => ?_⟩
 ·obtain⟨n,b,i,k,M,p,z⟩:=A m e h;exact(oJ p z (j m n b i k)).1
 ·obtain⟨n,b0,i,k,p⟩:=o m b c d E;obtain⟨L,t,I,J,K⟩:=o C e c f F;have:=g.mem.apart n L b0 t c k J p K;subst this;exact cC H m C n i I
 ·obtain⟨n,b0,i,k,p⟩:=o m b c d f;exact g.base n b0 c k p
 ·rw[u n n (q n bx d)];exact g.keep n bx B d f
 ·rw[v n n (q n bx d)];exact g.keepOwn n bx B d f
def aj.fit(l:aj q72 q7w q7z G s a w){f:LS}{g:NM}{d:f.den}(r:∀n bx,af q7z n=some bx->bm g n=some n)(h:f.get g s=some d):∃G',aj q72 q7w q7z G' (f.st d) a w:=by
 unfold LS.get at h;cases k:Nat.beq s.n f.n<;>rw[k]at h<;>simp at h
 have k:=qN k;split at h
 ·rename_i I aa O;split at h
  ·rename_i z Q;split at h
   ·rename_i J b R;cases u:eh b&&y5 b f.hp<;>rw[u]at h<;>simp at h
    have h:((I,J):f.den)=d:=qJ h;subst h;simp at u;obtain⟨A,q2⟩:=u;obtain⟨M,N⟩:=DZ O;obtain⟨B,Z⟩:=PZ Q;obtain⟨p,C⟩:=gG R;obtain⟨E,F⟩:=C b A (dx.refl _);refine⟨G.view b,⟨?_,by rw[l.size];exact k,fun i x X => ?_,fun m _ V => ?_,l.fin.fit A (fun n bx S=>p _ _ (B _ _ (M _ _ (r n bx S)))) E⟩⟩
    ·obtain⟨H,K,L⟩:=l.defers;refine⟨H,K,L.trans ?_⟩;have:∀(j c:List Nat),j.map (bm z)=c.map some->c.map G.box=j.map (G.view b).box:=by
      intro j
      induction j with
      |nil=>intro c h;cases c with|nil=>rfl|cons=>simp at h
      |cons n j ih=>
       intro c h
       cases c with
       |nil=>simp at h|cons m c=>
        simp at h ⊢;refine⟨?_,ih c h.2⟩;show _=(bm b n).bind G.box;rw[p _ _ h.1];rfl
     exact this _ _ Z
    ·obtain⟨y,Y,W⟩:=N b A (B.trans p) i x X;obtain⟨v,v1,v2⟩:=l.frame i y Y;exact⟨v,v1,W.rep v2⟩
    ·have t:bm b m=none:=by
      cases T:bm b m with
      |none=>rfl|some o=>
       obtain⟨e,U,q⟩:=J8 q2 m o T;exact absurd q (F m V e U)
     simp[Gh.view,t]
   ·cases h
  ·cases h
 ·cases h
end
def az{α β γ:Type}(o:α ⊕ β)(f:α->γ)(g:β->γ):γ:=match o with|.inl a=>f a|.inr b=>g b
inductive Sp:Type->Type 1
 |one {α:Type} (d:α->D):Sp α
 |two {α β:Type} (l:Sp α) (r:Sp β):Sp (α ⊕ β)
def Sp.K{R:Type}:{α:Type}->Sp α->α->(D->Option R)->Option R|_,.one d,x,k=>k (d x)|_,.two l r,x,k=>az x (fun a=>l.K a k) (fun b=>r.K b k)
def Sp.Out:{α:Type}->Sp α->α->D->Prop|_,.one d,x,e=>e=d x|_,.two l _,.inl a,e=>l.Out a e|_,.two _ r,.inr b,e=>r.Out b e
def Sp.K_some{R:Type}{k:D->Option R}{y:R}:∀{α:Type}{sp:Sp α}{x:α},sp.K x k=some y->∃d,sp.Out x d/\k d=some y
 |_,.one d,x,h=>⟨d x,rfl,h⟩|_,.two l r,.inl a,h=>by obtain⟨d,c,e⟩:=Sp.K_some (sp:=l) (x:=a) h;exact⟨d,c,e⟩
 |_,.two l r,.inr b,h=>by obtain⟨d,c,e⟩:=Sp.K_some (sp:=r) (x:=b) h;exact⟨d,c,e⟩
inductive Rq:Type 1
 |tot (d:D)
 |ifb (b:Bool) (d:D)
 |bnd {α:Type} (o:Option α) (sp:Sp α)
 |br (b:Bool) (d1 d2:D)
def Rq.K{R:Type}(q:Rq)(k:D->Option R):Option R:=match q with
 |.tot d=>k d|.ifb b d=>bif b then k d else none|.bnd o sp=>o.bind fun x=>sp.K x k
 |.br b d1 d2=>bif b then k d1 else k d2
def Rq.Out(q:Rq)(e:D):Prop:=match q with|.tot d=>e=d|.ifb b d=>b=true/\e=d|.bnd o sp=>∃x,o=some x/\sp.Out x e|.br b d1 d2=>(b=true/\e=d1)\/(b=false/\e=d2)
def Rq.K_some{R:Type}{k:D->Option R}{y:R}{q:Rq}(h:q.K k=some y):∃d,q.Out d/\k d=some y:=by
 cases q with
 |tot d=>exact⟨d,rfl,h⟩|ifb b d=>
  cases b with|true=>exact⟨d,⟨rfl,rfl⟩,h⟩|false=>cases h
 |bnd o sp=>
  cases o with
  |none=>cases h
  |some x=>obtain⟨d,e,f⟩:=Sp.K_some (sp:=sp) (x:=x) h;exact⟨d,⟨x,rfl,e⟩,f⟩
 |br b a c=>
  cases b with|true=>exact⟨a,.inl ⟨rfl,rfl⟩,h⟩|false=>exact⟨c,.inr ⟨rfl,rfl⟩,h⟩
inductive RS:Type->Type 1
 |one {α:Type} (p:Pt) (hp:List (Nat×bu)) (to:α->p.den×ic hp) (fro:p.den×ic hp->α) (ok:∀y,to (fro y)=y):RS α
 |two {α β:Type} (l:RS α) (r:RS β):RS (α ⊕ β)
def RS.res:{α:Type}->RS α->α->AV×List (Nat×ag)|_,.one p hp to _ _,x=>(p.put (to x).1,cf hp (to x).2)|_,.two l r,x=>az x (fun a=>l.res a) (fun b=>r.res b)
def RS.sp(mk:AV->List (Nat×ag)->D):{α:Type}->RS α->Sp α
 |_,.one p hp to _ _ => .one fun x=>mk (p.put (to x).1) (cf hp (to x).2)
 |_,.two l r => .two (l.sp mk) (r.sp mk)
def RS.sp_out{mk:AV->List (Nat×ag)->D}:∀{α:Type}{r:RS α}{x:α}{d:D},(r.sp mk).Out x d->d=mk (r.res x).1 (r.res x).2|_,.one _ _ _ _ _,_,_,h=>h|_,.two l _,.inl a,_,h=>RS.sp_out (r:=l) (x:=a) h|_,.two _ r,.inr b,_,h=>RS.sp_out (r:=r) (x:=b) h
inductive tv:Type
 |fn (f:FuncId)
 |yld (tag:Nat)
 |ext (f:FuncId)
 |thr (f:FuncId) (ks:List (Nat×Nat))
def wv(t:TypeId)(n:Int):Value := .iface t (.agg #[.int .i64 n])
def f8(t:TypeId)(n:Int):AV := .tup [.undef,.iface t (.agg [.int .i64 n])]
def n9:AV->Option (TypeId×Int)|.tup [.undef,.iface t (.agg [.int .i64 n])]=>some (t,n)|_=>none
def AO(P:Program)(x:TypeId×Int)(f:FuncId)(xs:List AV)(hp:List (Nat×ag))(hp':List (Nat×ag)):Prop:=
 ∀(w:World)(G:Gh)(a:List Value),c8 G hp w->ao xs G a->Calls P f a.toArray w (fun e c=>e = .panicked [{ v:=wv x.1 x.2,recovered:=false }]/\∃b,Fin w G hp b hp' c)
def AR(P:Program)(f:FuncId)(xs:List AV)(r:AV):Prop:=
 ∀(w:World)(G:Gh)(a:List Value),c8 G [] w->ao xs G a->∃v,(callFunc f a.toArray).run P w = .ok (.value v) w/\ai r G v
structure dc:Type 1 where
 key:tv
 args:List Pt
 hp:List (Nat×bu)
 R:Type
 F:Pts.den args->ic hp->Option R
 out:RS R
def dc.Sound(P:Program)(e:dc):Prop:=∀d a r,e.F d a=some r->match e.key with
 |.fn f=>Plain P f/\di P f (Pts.put e.args d) (cf e.hp a) (e.out.res r).1 (e.out.res r).2|.yld m=>Pf P m (Pts.put e.args d) (cf e.hp a) (e.out.res r).1 (e.out.res r).2|.ext f=>AR P f (Pts.put e.args d) (e.out.res r).1| .thr f _=>Plain P f/\(match n9 (e.out.res r).1 with
  |none=>di P f (Pts.put e.args d) (cf e.hp a) (e.out.res r).1 (e.out.res r).2| some x=>AO P x f (Pts.put e.args d) (cf e.hp a) (e.out.res r).2)
def ak{α:Type}(l:List α)(n:Int):Option α:=if 0<=n then l[n.toNat]? else none
def Ej{α:Type}{l:List α}{n:Int}{x:α}(h:ak l n=some x):0<=n/\l[n.toNat]? = some x:=by
 unfold ak at h;split at h
 ·rename_i a;exact⟨a,h⟩
 ·cases h
def DD{α:Type}(l:List α)(lo c:Option Int):Rq:=
 match lo,c with|none,none => .tot .none|some a,none => .ifb (decide (0<=a/\a<=l.length)) .none|none,some b => .ifb (decide (0<=b/\b<=l.length)) .none|some a,some b => .ifb (decide (0<=a/\a<=b/\b<=l.length)) .none
def Q4{α:Type}{l:List α}{lo a:Option Int}{d:D}(h:(DD l lo a).Out d):ay (cut l lo a).1:=by
 unfold DD at h;unfold cut;split at h
 ·trivial
 ·exact⟨of_decide_eq_true h.1,trivial⟩
 ·exact⟨of_decide_eq_true h.1,trivial⟩
 ·exact⟨of_decide_eq_true h.1,trivial⟩
def cR:AV->Bool|.val _=>true|_=>false
def xj(c:Bool)(b:Bool):Option Rq:=bif c then(bif b then some (.tot .none) else none) else some (.ifb b .none)
def dL{c b:Bool}{q:Rq}{d:D}(h:xj c b=some q)(a:q.Out d):b=true:=by
 unfold xj at h;cases c
 ·simp at h;subst h;exact a.1
 ·cases b
  ·cases h
  ·rfl
def gH(c:BinOp)(x y:AV):Option Rq:=
 match c with
 |.quo=>match y.sym with|.int _ b=>xj (cR y) (decide (b≠0))|.byte b=>xj (cR y) (decide (b≠0))|_=>some (.tot .none)
 |.rem=>match y.sym with|.int _ b=>xj (cR y) (decide (b≠0))|.byte b=>xj (cR y) (decide (b≠0))|_=>some (.tot .none)
 |.shl=>match y.sym with|.int _ b=>xj (cR y) (decide (0<=b))|_=>some (.tot .none)
 |.shr=>match y.sym with|.int _ b=>xj (cR y) (decide (0<=b))|_=>some (.tot .none)
 |.add=>match x.sym,y.sym with|.str a,.str b=>some (.ifb (decide (a.length+b.length<=bg)) .none)|_,_=>some (.tot .none)
 |_=>some (.tot .none)
def PY{P:Program}{f:BinOp}{t:TypeId}{x y:AV}{q:Rq}{d:D}(h:gH f x y=some q)(i:q.Out d){ps:List Prop}{r:AV}(c:yw P f t x.sym y.sym=some (ps,r)):ay ps:=by
 have o:∀(p j:AV),(f = .quo\/f = .rem->(∀k b,j = .int k b->b≠0)/\∀b,j = .byte b->b≠0)->(f = .shl\/f = .shr->∀k b,j = .int k b->0<=b)->(f = .add->∀a b,p = .str a->j = .str b->a.length+b.length<=bg) ->
   ∀{ps r},yw P f t p j=some (ps,r)->ay ps:=by
  intro p j l m A ps r c;unfold yw at c;split at c
  ·rename_i k a s b;cases w:decide (f = .shl)||decide (f = .shr)||decide (k=s)<;>rw[w]at c<;>simp at c
   cases n:decide (k = .u8)||decide (s = .u8)<;>rw[n]at c<;>simp at c
   cases f<;>simp[lZ,qI,qP]at c<;>obtain⟨rfl,_⟩:=c<;>first
    |trivial
    |exact⟨(l (.inl rfl)).1 _ _ rfl,trivial⟩
    |exact⟨(l (.inr rfl)).1 _ _ rfl,trivial⟩
    |exact⟨m (.inl rfl) _ _ rfl,trivial⟩
    |exact⟨m (.inr rfl) _ _ rfl,trivial⟩
  ·rename_i a b;cases f<;>simp[Dh,qI,qP,reduceCtorEq]at c<;>obtain⟨rfl,_⟩:=c<;>first
    |trivial
    |exact⟨(l (.inl rfl)).2 _ rfl,trivial⟩
    |exact⟨(l (.inr rfl)).2 _ rfl,trivial⟩
  ·split at c
   ·simp at c;obtain⟨rfl,_⟩:=c;exact⟨m (.inl rfl) _ _ rfl,trivial⟩
   ·simp at c;obtain⟨rfl,_⟩:=c;exact⟨m (.inr rfl) _ _ rfl,trivial⟩
   ·cases c
  ·rename_i k a b;cases z:decide (k = .u8)<;>rw[z]at c<;>simp at c
   split at c
   ·simp at c;obtain⟨rfl,_⟩:=c;trivial
   ·simp at c;obtain⟨rfl,_⟩:=c;trivial
   ·cases c
  ·rename_i a b;cases f<;>simp[Dj,qI,qP,reduceCtorEq]at c<;>obtain⟨rfl,_⟩:=c<;>first
    |trivial
    |exact⟨A rfl _ _ rfl rfl,trivial⟩
  ·split at c
   ·split at c
    ·simp at c;obtain⟨rfl,_⟩:=c;trivial
    ·cases c
   ·split at c
    ·simp at c;obtain⟨rfl,_⟩:=c;trivial
    ·cases c
   ·cases c
 refine o x.sym y.sym (fun g => ?_) (fun g => ?_) (fun g a b u v => ?_) c
 ·rcases g with rfl|rfl
  ·simp only[gH]at h;exact⟨fun k b e=>by rw[e]at h;exact of_decide_eq_true (dL h i),fun b e=>by rw[e]at h;exact of_decide_eq_true (dL h i)⟩
  ·simp only[gH]at h;exact⟨fun k b e=>by rw[e]at h;exact of_decide_eq_true (dL h i),fun b e=>by rw[e]at h;exact of_decide_eq_true (dL h i)⟩
 ·rcases g with rfl|rfl
  ·simp[gH]at h;exact fun k b e=>by rw[e]at h;exact of_decide_eq_true (dL h i)
  ·simp[gH]at h;exact fun k b e=>by rw[e]at h;exact of_decide_eq_true (dL h i)
 ·subst g;simp[gH]at h;rw[u,v]at h;simp at h;subst h;exact of_decide_eq_true i.1
def Mp(s:St):AV->Option (List UInt8)
 |.sl τ l=>match Ty.eq? τ .byte with|some ⟨h⟩=>some (h▸l:List Ty.byte.den)|none=>none
 |.own k=>match af s.hp k with
  |some (.row τ l _)=>match Ty.eq? τ .byte with|some ⟨h⟩=>some (h▸l:List Ty.byte.den)|none=>none
  |_=>none
 |.val (.slice none 0 0)=>some []|_=>none
def qtb{s:St}{v:AV}{b:List UInt8}(h:Mp s v=some b){a:List AV}{n:Nat}(c:ia s v=some (a,n)):a=b.map AV.byte/\n=b.length:=by
 unfold Mp at h;split at h
 ·rename_i τ l;split at h
  ·rename_i d _;subst d;have h:l=b:=qJ h;subst h;simp only[ia,qI,qP]at c;obtain⟨rfl,rfl⟩:=c;exact⟨yX l,rfl⟩
  ·cases h
 ·rename_i k;split at h
  ·rename_i τ l E e;split at h
   ·rename_i d _;subst d;have h:l=b:=qJ h;subst h;simp only[ia,e,qI,qP]at c;obtain⟨rfl,rfl⟩:=c;exact⟨yX l,rfl⟩
   ·cases h
  ·cases h
 ·simp only[qI]at h;subst h;simp only[ia,qI,qP]at c;obtain⟨rfl,rfl⟩:=c;exact⟨rfl,rfl⟩
 ·cases h
def tyE(P:Program)(E:TypeId):Option Ty:=match P.underlying E with|some (.int k)=>some (bif decide (k = .u8) then .byte else .int k)|some .bool=>some .bool|some .string=>some .str|_=>none
def LJ:Ty->AV->Bool|.int _,.int _ _=>true|.byte,.byte _=>true|.bool,.bool _=>true|.str,.str _=>true|_,_=>false
def qqm:∀{τ:Ty}{y:AV}{d:τ.den},wn τ y=some d->LJ τ y=true->y=τ.av d
 |.int k,.int k' n,d,h,_=>by
  simp only[wn,Ty.dec]at h;cases a:decide (k'=k)<;>rw[a]at h
  ·cases h
  ·have:=of_decide_eq_true a;subst this;have h:n=d:=qJ h;subst h;rfl
 |.byte,.byte c,d,h,_=>by have h:c=d:=qJ h;subst h;rfl|.bool,.bool c,d,h,_=>by have h:c=d:=qJ h;subst h;rfl|.str,.str c,d,h,_=>by have h:c=d:=qJ h;subst h;rfl
def mU(τ:Ty):List AV->Option (List τ.den)
 |[]=>some []|x::xs=>match wn τ x.sym,mU τ xs with|some d,some ds=>bif LJ τ x.sym then some (d::ds) else none|_,_=>none
def Kk{τ:Ty}:∀{xs:List AV}{a:List τ.den},mU τ xs=some a->xs.map AV.sym=a.map τ.av
 |[],a,h=>by simp only[mU,qI]at h;subst h;rfl|x::xs,a,h=>by
  simp only[mU]at h;split at h
  ·rename_i d c e f;cases b:LJ τ x.sym<;>rw[b]at h<;>simp only[qT,qF,reduceCtorEq,qI]at h
   subst h;rw[List.map_cons,List.map_cons,Kk f,← qqm e b]
  ·cases h
def Ap(s:St):AV->Option (List Int)
 |.sl (.int .i32) l=>some l|.own k=>match af s.hp k with|some (.row (.int .i32) l _)=>some l|_=>none
 |.val (.slice none 0 0)=>some []|_=>none
def qa5{s:St}{v:AV}{l:List Int}(a:Ap s v=some l):ia s v=some (List.flatMap (β:=AV) (Ty.int .i32).enc l,l.length):=by
 unfold Ap at a;split at a
 ·have a:=qJ a;subst a;rfl
 ·rename_i k;split at a
  ·rename_i b;have a:=qJ a;subst a;show(match af s.hp k with|some (.row τ l _)=>some (l.flatMap τ.enc,l.length)|_=>none)=_;rw[b];rfl
  ·cases a
 ·have a:=qJ a;subst a;rfl
 ·cases a
def zG(P:Program)(s:St)(t:TypeId)(x:AV)(i:Operand):Option Rq:=
 match x,s.evy i with
 |.str b,some (.int _ n)=>some (.bnd (ak b n) (.one fun c => .cs [.byte c]))
 |.str b,some (.byte n)=>some (.bnd b[n.toNat]? (.one fun c => .cs [.byte c]))
 |.agg cs,some (.int _ n)=>match s.ev i with
  |some (.val _)=>match(cs.map AV.sym)[n.toNat]? with|some y=>bif decide (0<=n) then some (.tot (.cs [y])) else none|none=>none
  |_=>match P.underlying t with
   |some (.array _ E)=>match tyE P E with
    |some τ=>match mU τ cs with
     |some l=>some (.bnd (ak l n) (.one fun y => .cs [τ.av y]))
     |none=>none
    |none=>none
   |_=>none
 |_,_=>none
def mB(P:Program)(s:St)(t:TypeId)(x:AV)(i:Operand):Option Rq:=
 match x,s.evy i with
 |.sl τ l,some (.int _ n)=>some (.bnd (ak l n) (.one fun y => .cs (τ.enc y)))
 |.own k,some (.int _ n)=>match af s.hp k with|some (.row _ l _)=>some (.ifb (decide (0<=n/\n.toNat<l.length)) .none)|_=>none
 |.asl _ m _,some (.int _ n)=>match s.ev i with|some j=>xj (cR j) (decide (0<=n/\n.toNat<m))|_=>none
 |.ptr _ _,some (.int _ n)=>match P.underlying t,s.ev i with|some (.array len _),some j=>xj (cR j) (decide (0<=n/\n<len))|_,_=>none
 |_,_=>none
def uc(P:Program)(s:St)(d:Op):Option Rq:=
 match d with
 |.pick c _ _=>match s.ev c with|some (.bool b)=>some (.br b (.b true) (.b false))|_=>some (.tot .none)
 |.load _ x=>match s.ev x with
  |some (.oel k _ i _)=>match af s.hp k with
   |some (.row τ l _)=>some (.bnd l[i]? (.one fun y => .cs (τ.enc y)))
   |_=>none
  |_=>some (.tot .none)
 |.slice _ x lo hi _=>match lj s lo,lj s hi,s.ev x with|some a,some b,some (.str l)=>some (DD l a b)|some a,some b,some (.sl _ l)=>some (DD l a b)|some none,some none,some (.ptr _ _)=>some (.tot .none)|some none,some none,some (.rop _)=>some (.tot .none)|_,_,_=>none
 |.binOp d _ x y _=>match s.ev x,s.ev y with|some a,some b=>gH d a b|_,_=>none
 |.convert _ _ x=>match s.ev x with
  |some v=>match Mp s v with
   |some b=>some (.tot (.cs [.str b]))|none=>match Ap s v with|some l=>some (.tot (.cs [.sl (.int .i32) l]))|none=>some (.tot .none)
  |none=>none
 |.index t x i=>match s.ev x with|some v=>zG P s t v i|none=>none
 |.indexAddr t x i=>match s.ev x with|some v=>mB P s t v i|none=>none
 |_=>some (.tot .none)
def qm6{P:Program}{s:St}{t:TypeId}{x j:AV}{i:Operand}{q:Rq}{d:D}(f:s.evy i=some j)(h:zG P s t x i=some q)(c:q.Out d){ps:List Prop}{r:AV}(a:xN P t x j d=some (ps,r)):ay ps:=by
 unfold xN at a;split at a
 ·simp[zG,f,qI]at h;subst h;obtain⟨y,e,b⟩:=c;simp only[Sp.Out,D.cs.injEq,List.cons.injEq,AV.byte.injEq,and_true]at b;subst b;simp at a;obtain⟨rfl,_⟩:=a;exact⟨Ej e,trivial⟩
 ·simp[zG,f,qI]at h;subst h;obtain⟨y,e,b⟩:=c;simp only[Sp.Out,D.cs.injEq,List.cons.injEq,AV.byte.injEq,and_true]at b;subst b;simp at a;obtain⟨rfl,_⟩:=a;exact⟨e,trivial⟩
 ·rename_i g E o k n y A;simp only[zG,f]at h;split at a
  ·cases w:Nat.beq o.length g<;>rw[w]at a<;>simp only[qT,qF,reduceCtorEq,qI,qP]at a
   obtain⟨rfl,_⟩:=a;refine⟨?_,trivial⟩;split at h
   ·split at h
    ·rename_i z B;cases m:decide (0<=n)<;>rw[m]at h<;>simp only[qT,qF,reduceCtorEq,qI]at h
     subst h;have c:D.cs [y]=D.cs [z]:=c;simp only[D.cs.injEq,List.cons.injEq,and_true]at c;subst c;exact⟨of_decide_eq_true m,B⟩
    ·cases h
   ·simp[A]at h;split at h
    ·rename_i τ C;split at h
     ·rename_i l v;simp at h;subst h;obtain⟨z,e,b⟩:=c;simp[Sp.Out,D.cs.injEq,List.cons.injEq,and_true]at b;subst b;obtain⟨p,u⟩:=Ej e;refine⟨p,?_⟩;rw[Kk v,List.getElem?_map,u];rfl
     ·cases h
    ·cases h
  ·cases a
 ·cases a
def qhz{P:Program}{s:St}{t:TypeId}{x j:AV}{i:Operand}{q:Rq}{d:D}(e:s.evy i=some j)(h:mB P s t x i=some q)(f:q.Out d){ps:List Prop}{r:AV}(a:lX P s t x j d=some (ps,r)):ay ps:=by
 unfold lX at a;split at a
 ·split at a
  ·rename_i o k n m;split at a
   ·rename_i τ l w;cases g:Nat.beq τ.sz o<;>rw[g]at a<;>simp at a
    obtain⟨rfl,_⟩:=a;simp[mB,e,qI]at h;subst h;obtain⟨y,p,c⟩:=f;have c:D.cs w=D.cs (τ.enc y):=c;simp at c;exact⟨⟨(Ej p).1,y,(Ej p).2,c.symm⟩,trivial⟩
   ·split at a
    ·rename_i τ l E z;cases g:Nat.beq τ.sz o<;>rw[g]at a<;>simp at a
     obtain⟨rfl,_⟩:=a;simp only[mB,e,z,qI]at h;subst h;exact⟨of_decide_eq_true f.1,trivial⟩
    ·cases a
   ·simp at a;obtain⟨rfl,_⟩:=a;simp only[mB,e]at h;split at h
    ·exact⟨of_decide_eq_true (dL h f),trivial⟩
    ·cases h
   ·cases a
  ·cases a
 ·rename_i B E A;split at a
  ·rename_i o k n b C m;simp at a;obtain⟨rfl,_⟩:=a;simp only[mB,e,A]at h;split at h
   ·rename_i v _ F u _;simp only[qI,TypeDesc.array.injEq]at u;obtain⟨rfl,rfl⟩:=u;exact⟨of_decide_eq_true (dL h f),trivial⟩
   ·cases h
  ·cases a
 ·cases a
def PF{P:Program}{s:St}{Q:Op}{q:Rq}{d:D}(h:uc P s Q=some q)(m:q.Out d){ps:List Prop}{v:AV}(f:d6 P s d Q=some (ps,v)):ay ps:=by
 have g:∀{x:AV}{ps:List Prop}{v:AV},(some (([]:List Prop),x):Option (List Prop×AV))=some (ps,v)->ay ps:=fun e=>by
  simp at e;obtain⟨rfl,_⟩:=e;trivial
 have w:∀{b:Bool}{x:AV}{ps:List Prop}{v:AV},(bif b then some (([]:List Prop),x) else none)=some (ps,v)->ay ps:=fun{b} _ _ _ e=>by
  cases b
  ·cases e
  ·exact g e
 unfold d6 at f;split at f
 ·split at f
  ·exact g f
  ·cases f
 ·split at f
  ·exact g f
  ·cases f
 ·split at f
  ·rename_i c x y b t z;split at f
   ·simp at f;obtain⟨rfl,_⟩:=f;simp[uc,z,qI]at h;subst h;rcases m with⟨o,p⟩|⟨o,p⟩
    ·simp at p;subst p;exact⟨o,trivial⟩
    ·simp at p;subst p;exact⟨o,trivial⟩
   ·cases f
  ·split at f
   ·exact g f
   ·cases f
  ·cases f
 ·unfold lV at f;split at f
  ·split at f
   ·split at f
    ·split at f
     ·exact g f
     ·cases f
    ·cases f
   ·split at f
    ·split at f
     ·exact g f
     ·cases f
    ·cases f
   ·cases f
  ·cases f
 ·unfold lY at f;split at f
  ·split at f
   ·split at f
    ·exact g f
    ·cases f
   ·cases f
  ·split at f
   ·exact g f
   ·cases f
  ·rename_i k C i X u;split at f
   ·rename_i τ l E S M;cases N:Nat.beq C τ.sz<;>rw[N]at f<;>simp at f
    split at f
    ·simp at f;obtain⟨rfl,_⟩:=f;simp[uc,u,M,qI]at h;subst h;obtain⟨y,o,p⟩:=m;have p:D.cs S=D.cs (τ.enc y):=p;simp at p;exact⟨⟨y,o,p.symm⟩,trivial⟩
    ·cases f
   ·cases f
  ·cases f
 ·unfold xP at f;split at f
  ·rename_i o p I;split at f
   ·simp at f;obtain⟨rfl,_⟩:=f;simp[uc,o,p,I,qI]at h;subst h;exact Q4 m
   ·cases f
  ·rename_i τ l o p I;split at f
   ·split at f
    ·rename_i C U;cases N:Nat.beq τ.sz C<;>rw[N]at f<;>simp at f
     obtain⟨rfl,_⟩:=f;simp[uc,o,p,I,qI]at h;subst h;exact Q4 m
    ·cases f
   ·cases f
  ·split at f
   ·split at f
    ·exact g f
    ·cases f
   ·cases f
  ·split at f
   ·rename_i n E O;split at f
    ·split at f
     ·split at f
      ·rw[cond_eq_ite]at f;split at f
       ·exact g f
       ·cases f
      ·cases f
     ·cases f
    ·cases f
   ·cases f
  ·cases f
 ·split at f
  ·rename_i a b u V;simp[uc,u,V]at h;unfold Di at f;split at f
   ·split at f
    ·exact g f
    ·exact PY h m f
   ·exact PY h m f
  ·cases f
 ·split at f
  ·split at f
   ·exact g f
   ·cases f
  ·cases f
 ·rename_i Y H x;split at f
  ·rename_i R Z u;split at f
   ·rename_i r' z;simp at f;subst f;have B:∀{y:AV}{ps:List Prop}{v:AV},we P H y=some (ps,v)->ay ps:=fun e=>by
     unfold we at e;split at e
     ·rename_i k _ _ _;cases K:decide (k = .u8)<;>rw[K]at e<;>exact g e
     ·rename_i k _ _;cases K:decide (k = .u8)<;>rw[K]at e<;>simp only[qT,qF]at e
      ·cases L:decide (k = .i8)<;>rw[L]at e<;>simp only[qT,qF,reduceCtorEq]at e
       exact g e
      ·exact g e
     ·exact g e
     ·cases e
    unfold bU at z;split at z
    ·split at z
     ·exact g z
     ·exact B z
    ·exact B z
   ·split at f
    ·unfold xQ at f;split at f
     ·rename_i E A n b O r;split at f
      ·cases f
      ·simp at f;obtain⟨rfl,_⟩:=f;simp[uc,u]at h;split at h
       ·rename_i G T;simp at h;subst h;have m:D.cs [.str b]=D.cs [.str G]:=m;simp at m;subst m;obtain⟨o,p⟩:=qtb T r;exact⟨o,p,trivial⟩
       ·split at h
        ·rename_i F _;simp at h;subst h;exact absurd (show D.cs [.str b]=D.cs [.sl (.int .i32) F] from m) Te
        ·simp at h;subst h;exact absurd (show D.cs [.str b]=D.none from m) Te
      ·cases f
     ·rename_i E A n l O r;split at f
      ·cases f
      ·simp at f;obtain⟨rfl,_⟩:=f;simp[uc,u]at h;split at h
       ·rename_i G _;simp at h;subst h;exact absurd (show D.cs [.sl (.int .i32) l]=D.cs [.str G] from m) Te
       ·split at h
        ·rename_i F M;simp at h;subst h;have m:D.cs [.sl (.int .i32) l]=D.cs [.sl (.int .i32) F]:=m;have m:l=F:=by injection m with m;injection m with m;injection m with _ m
         subst m;have o:=qa5 M;rw[r]at o;simp at o;exact⟨o.1,o.2,trivial⟩
        ·simp at h;subst h;exact absurd (show D.cs [.sl (.int .i32) l]=D.none from m) Te
      ·cases f
     ·cases f
    ·cases f
  ·cases f
 ·split at f
  ·unfold Df at f;split at f
   ·split at f
    ·split at f
     ·exact g f
     ·cases f
    ·cases f
   ·cases f
  ·cases f
 ·split at f
  ·unfold Dg at f;split at f
   ·split at f
    ·split at f
     ·rename_i C _;cases W:Nat.beq C 0<;>rw[W]at f<;>simp at f
      split at f
      ·exact g f
      ·exact w f
      ·exact g f
      ·cases f
     ·cases f
    ·cases f
   ·cases f
  ·cases f
 ·split at f
  ·split at f
   ·exact g f
   ·cases f
  ·cases f
 ·split at f
  ·rename_i R j u J;simp[uc,u]at h;exact qm6 J h m f
  ·cases f
 ·split at f
  ·rename_i R j u J;simp[uc,u]at h;exact qhz J h m f
  ·cases f
 ·split at f
  ·exact g f
  ·cases f
 ·split at f
  ·split at f
   ·unfold xO at f;split at f
    ·exact g f
    ·exact g f
    ·split at f
     ·exact g f
     ·cases f
    ·exact g f
    ·exact g f
    ·cases f
   ·cases f
  ·cases f
 ·split at f
  ·split at f
   ·unfold Jt at f;split at f
    ·exact w f
    ·cases f
   ·cases f
  ·cases f
 ·split at f
  ·split at f
   ·unfold Ju at f;split at f
    ·exact w f
    ·cases f
   ·cases f
  ·cases f
 ·split at f
  ·exact w f
  ·cases f
 ·cases f
mutual
def nS(hp:List (Nat×ag)):AV->AV
 |.own k=>match af hp k with|some (.row τ l _) => .sl τ l|_ => .own k
 |.agg xs => .agg (uk hp xs)|x=>x
def uk(hp:List (Nat×ag)):List AV->List AV|[]=>[]|x::xs=>nS hp x::uk hp xs
end
mutual
def Rj:AV->Bool|.own _=>true|.agg xs=>wt xs|_=>false
def wt:List AV->Bool|[]=>false|x::xs=>Rj x||wt xs
end
mutual
def wz:AV->Bool|.iface _ x=>wz x|.agg xs=>ln xs|.tup xs=>ln xs|.fn _ xs ys=>ln xs&&ln ys|_=>true
def ln:List AV->Bool|[]=>true|x::xs=>wz x&&ln xs
end
def Ly:∀{xs a:List AV},ln xs=true->ln a=true->ln (xs++a)=true
 |[],_,_,h=>h|x::xs,a,h,k=>by
  simp[ln,qA,wK]at h ⊢;exact⟨h.1,Ly h.2 k⟩
def zY:∀{τ:Ty}{d:τ.den},ln (τ.enc d)=true|.int _,_=>rfl|.byte,_=>rfl|.bool,_=>rfl|.str,_=>rfl|.unit,_=>rfl|.prod _ _,_=>Ly zY zY|.list _,_=>rfl|.tree _,_=>Ly zY rfl
def qpl:∀{τ:Ty}{d:τ.den},wz (τ.av d)=true|.int _,_=>rfl|.byte,_=>rfl|.bool,_=>rfl|.str,_=>rfl|.unit,_=>rfl|.prod a b,d=>zY (τ := .prod a b) (d:=d)|.list _,_=>rfl|.tree a,d=>zY (τ := .tree a) (d:=d)
mutual
def Sy:∀{p:Pt}{d:p.den},wz (p.put d)=true
 |.h _,_=>qpl|.c _,_=>rfl|.agg ps,d=>gZ (ps:=ps) (d:=d)|.tup ps,d=>gZ (ps:=ps) (d:=d)|.ptr _ _,_=>rfl|.own _,_=>rfl|.arr _,_=>rfl|.el _ _,_=>rfl|.iel _ _ _,_=>rfl|.ifc _ p,d=>Sy (p:=p) (d:=d)|.yld _,_=>rfl|.pn _,_=>rfl|.fn f cap,d=>by
  have h:=gZ (ps:=cap) (d:=d);show wz (rg f (Pts.put cap d))=true;unfold rg;cases Nat.blt f jx
  ·show(ln (Pts.put cap d)&&true)=true;rw[h];rfl
  ·exact h
 |.u,_=>rfl
def gZ:∀{ps:List Pt}{d:Pts.den ps},ln (Pts.put ps d)=true
 |[],_=>rfl|p::ps,d=>by
  show(wz (p.put d.1)&&ln (Pts.put ps d.2))=true;rw[Sy,gZ];rfl
end
mutual
def jg{b:Bool}{hp:List (Nat×ag)}:∀{x y:AV}{ps:List Prop},wz y=true->vw false [] (x.ren (bf [])) y=some ps->ay ps->∃a,vw b hp x y=some a/\ay a
 |.agg xs,y,ps,hn,h,hp=>by
  cases y<;>first
   |exact oL (xs:=xs) hn h hp
   |exact⟨_,rfl,trivial⟩
   |(exfalso;have:=qJ h;subst this;exact absurd hp.1 Te)
 |.tup xs,y,ps,hn,h,hp=>by
  cases y<;>first
   |exact oL (xs:=xs) hn h hp
   |exact⟨_,rfl,trivial⟩
   |(exfalso;have:=qJ h;subst this;exact absurd hp.1 Te)
 |.fn f xs ys,y,ps,hn,h,hp=>by
  cases y with
  |fn n l m=>
   simp[wz,qA]at hn;have h:(match ci false [] (AV.rens (bf []) xs) l,ci false [] (AV.rens (bf []) ys) m with
    |some ps,some a=>some ((n=f)::(ps++a))| _,_=>none)=some ps:=h
   split at h
   ·rename_i s w g r;have:=qJ h;subst this;obtain⟨j,d,c⟩:=oL (b:=b) (hp:=‹_›) hn.1 g (eq.1 hp.2).1;obtain⟨u,q,p⟩:=oL (b:=b) (hp:=‹_›) hn.2 r (eq.1 hp.2).2;exact⟨(n=f)::(j++u),by simp[vw,d,q],hp.1,eq.2 ⟨c,p⟩⟩
   ·cases h
  |undef=>exact⟨_,rfl,trivial⟩|_=>exfalso;have:=qJ h;subst this;exact absurd hp.1 Te
 |.val v,y,ps,hn,h,hp=>by cases y<;>exact⟨ps,h,hp⟩
 |.undef,y,ps,hn,h,hp=>by cases y<;>exact⟨ps,h,hp⟩
 |.int _ _,y,ps,hn,h,hp=>by cases y<;>exact⟨ps,h,hp⟩
 |.byte _,y,ps,hn,h,hp=>by cases y<;>exact⟨ps,h,hp⟩
 |.bool _,y,ps,hn,h,hp=>by cases y<;>exact⟨ps,h,hp⟩
 |.str _,y,ps,hn,h,hp=>by cases y<;>exact⟨ps,h,hp⟩
 |.sl _ _,y,ps,hn,h,hp=>by cases y<;>exact⟨ps,h,hp⟩
 |.arr _ _,y,ps,hn,h,hp=>by cases y<;>exact⟨ps,h,hp⟩
 |.rop _,y,ps,hn,h,hp=>by cases y<;>exact⟨ps,h,hp⟩
 |.iface t x,y,ps,hn,h,hp=>by
  cases y with
  |undef=>exact⟨_,rfl,trivial⟩|iface o k=>
   have h:(match vw false [] (AV.ren (bf []) x) k with
    |some ps=>some ((o=t)::ps)| none=>none)=some ps:=h
   split at h
   ·rename_i s g;have:=qJ h;subst this;have i:wz k=true:=hn;obtain⟨j,d,c⟩:=jg (b:=b) (hp:=‹_›) (x:=x) (y:=k) i g hp.2;exact⟨(o=t)::j,by simp[vw,d],hp.1,c⟩
   ·cases h
  |_=>exfalso;have:=qJ h;subst this;exact absurd hp.1 (by simp[AV.ren])
 |.ptr _ _,y,ps,hn,h,hp=>by
  cases y<;>first
   |exact⟨_,rfl,trivial⟩
   |(exfalso;have:=qJ h;subst this;have e:_=AV.undef:=hp.1;cases e)
 |.own _,y,ps,hn,h,hp=>by
  cases y<;>first
   |exact⟨_,rfl,trivial⟩
   |(exfalso;have:=qJ h;subst this;have e:_=AV.undef:=hp.1;cases e)
 |.oel _ _ _ _,y,ps,hn,h,hp=>by
  cases y<;>first
   |exact⟨_,rfl,trivial⟩
   |(exfalso;have:=qJ h;subst this;have e:_=AV.undef:=hp.1;cases e)
 |.osl _ _ _,y,ps,hn,h,hp=>by
  cases y<;>first
   |exact⟨_,rfl,trivial⟩
   |(exfalso;have:=qJ h;subst this;have e:_=AV.undef:=hp.1;cases e)
 |.asl _ _ _,y,ps,hn,h,hp=>by
  cases y<;>first
   |exact⟨_,rfl,trivial⟩
   |(exfalso;have:=qJ h;subst this;have e:_=AV.undef:=hp.1;cases e)
 |.yld _,y,ps,hn,h,hp=>by
  cases y<;>first
   |exact⟨_,rfl,trivial⟩
   |(exfalso;have:=qJ h;subst this;have e:_=AV.undef:=hp.1;cases e)
 |.pn _,y,ps,hn,h,hp=>by
  cases y<;>first
   |exact⟨_,rfl,trivial⟩
   |(exfalso;have:=qJ h;subst this;have e:_=AV.undef:=hp.1;cases e)
def oL{b:Bool}{hp:List (Nat×ag)}:∀{xs a:List AV}{ps:List Prop},ln a=true->ci false [] (AV.rens (bf []) xs) a=some ps->ay ps->∃c,ci b hp xs a=some c/\ay c
 |[],[],ps,_,h,hp=>⟨[],rfl,trivial⟩|x::xs,y::a,ps,hn,h,hp=>by
  simp[ln,qA]at hn;simp[AV.rens,ci]at h;split at h
  ·rename_i m i;split at h
   ·rename_i n j;have:=qJ h;subst this;obtain⟨k,f,d⟩:=jg (b:=b) (hp:=‹_›) hn.1 i (eq.1 hp).1;obtain⟨l,g,e⟩:=oL (b:=b) (hp:=‹_›) hn.2 j (eq.1 hp).2;exact⟨k++l,by simp[ci,f,g],eq.2 ⟨d,e⟩⟩
   ·cases h
  ·cases h
 |[],_::_,_,_,h,_=>by simp[AV.rens,ci]at h|_::_,[],_,_,h,_=>by simp[AV.rens,ci]at h
end
mutual
def qui{hp:List (Nat×ag)}:∀{x y:AV},wz y=true->pq [] (nS hp x) y->∃g,vw true hp x y=some g/\ay g
 |.own k,y,hn,⟨ps,d,e⟩=>by
  simp only[nS]at d;split at d
  ·rename_i τ l E q
   cases y with
   |undef=>exact⟨_,rfl,trivial⟩|sl m l'=>
    have:=qJ d;subst this;exact⟨[AV.sl m l'=AV.sl τ l],by simp[vw,q,qT],e.1,trivial⟩
   |_=>exfalso;have:=qJ d;subst this;exact absurd e.1 (by simp[AV.ren])
  ·exact jg hn d e
 |.agg xs,y,hn,⟨ps,d,e⟩=>by
  simp[nS,AV.ren]at d
  cases y with
  |undef=>exact⟨_,rfl,trivial⟩|agg p=>
   have h:ci false [] (AV.rens (bf []) (uk hp xs)) p=some ps:=d;have j:ln p=true:=hn;obtain⟨g,r,s⟩:=Fs (xs:=xs) j ⟨ps,h,e⟩;exact⟨g,r,s⟩
  |_=>exfalso;have:=qJ d;subst this;exact absurd e.1 Te
 |.undef,y,hn,⟨ps,d,e⟩=>jg (x := .undef) hn d e|.int k n,y,hn,⟨ps,d,e⟩=>jg (x := .int k n) hn d e|.byte c,y,hn,⟨ps,d,e⟩=>jg (x := .byte c) hn d e|.bool c,y,hn,⟨ps,d,e⟩=>jg (x := .bool c) hn d e|.str c,y,hn,⟨ps,d,e⟩=>jg (x := .str c) hn d e|.sl τ l,y,hn,⟨ps,d,e⟩=>jg (x := .sl τ l) hn d e|.arr τ l,y,hn,⟨ps,d,e⟩=>jg (x := .arr τ l) hn d e|.rop c,y,hn,⟨ps,d,e⟩=>jg (x := .rop c) hn d e|.val c,y,hn,⟨ps,d,e⟩=>jg (x := .val c) hn d e|.tup c,y,hn,⟨ps,d,e⟩=>jg (x := .tup c) hn d e|.ptr b o,y,hn,⟨ps,d,e⟩=>jg (x := .ptr b o) hn d e|.oel k z i o,y,hn,⟨ps,d,e⟩=>jg (x := .oel k z i o) hn d e|.osl k z l,y,hn,⟨ps,d,e⟩=>jg (x := .osl k z l) hn d e|.asl k n c,y,hn,⟨ps,d,e⟩=>jg (x := .asl k n c) hn d e|.yld n,y,hn,⟨ps,d,e⟩=>jg (x := .yld n) hn d e|.pn n,y,hn,⟨ps,d,e⟩=>jg (x := .pn n) hn d e|.fn f a c,y,hn,⟨ps,d,e⟩=>jg (x := .fn f a c) hn d e|.iface t x,y,hn,⟨ps,d,e⟩=>jg (x := .iface t x) hn d e
def Fs{hp:List (Nat×ag)}:∀{xs a:List AV},ln a=true->fZ [] (uk hp xs) a->∃b,ci true hp xs a=some b/\ay b
 |[],[],_,_=>⟨[],rfl,trivial⟩|x::xs,y::a,hn,⟨ps,h,hp⟩=>by
  simp[ln,qA]at hn;simp[uk,AV.rens,ci]at h;split at h
  ·rename_i l g;split at h
   ·rename_i m i;have:=qJ h;subst this;obtain⟨j,e,c⟩:=qui hn.1 ⟨_,g,(eq.1 hp).1⟩;obtain⟨k,f,d⟩:=Fs hn.2 ⟨_,i,(eq.1 hp).2⟩;exact⟨j++k,by simp[ci,e,f],eq.2 ⟨c,d⟩⟩
   ·cases h
  ·cases h
 |[],_::_,_,⟨_,h,_⟩=>by simp[uk,AV.rens,ci]at h|_::_,[],_,⟨_,h,_⟩=>by simp[uk,AV.rens,ci]at h
end
def Ty.noRef:Ty->Bool|.list _=>false|.tree _=>false|.prod a b=>a.noRef&&b.noRef|_=>true
def S1:∀{xs a:List AV},jq xs=true->jq a=true->jq (xs++a)=true
 |[],_,_,h=>h|x::xs,a,h,k=>by
  simp[jq,qA,wK]at h ⊢;exact⟨h.1,S1 h.2 k⟩
def L0:∀{τ:Ty},τ.noRef=true->∀{d:τ.den},jq (τ.enc d)=true
 |.int _,_,_=>rfl|.byte,_,_=>rfl|.bool,_,_=>rfl|.str,_,_=>rfl|.unit,_,_=>rfl|.prod a b,h,_=>by
  simp[Ty.noRef,qA]at h;exact S1 (L0 h.1) (L0 h.2)
def EU:List (Nat×bu)->Bool|[]=>true|(_,.row τ _)::r=>τ.noRef&&EU r|_::_=>false
def qau:∀{l:List (Nat×bu)},EU l=true->∀{d:ic l},ay (oa (cf l d))
 |[],_,_=>trivial|(n,.row τ E)::r,h,d=>by
  simp[EU,qA]at h;exact⟨fun x _=>L0 h.1,qau h.2 (d:=d.2)⟩
 |(_,.cells _ _)::_,h,_=>by cases h
 |(_,.loop _ _ _ _ _ _ _ _)::_,h,_=>by cases h
 |(_,.dfr)::_,h,_=>by cases h
 |(_,.it)::_,h,_=>by cases h
 |(_,.dat _ _)::_,h,_=>by cases h
 |(_,.dead)::_,h,_=>by cases h
mutual
def SS:Pt->Bool|.h τ=>τ.noRef|.agg ps=>EE ps|.tup ps=>EE ps|.fn _ ps=>EE ps|_=>true
def EE:List Pt->Bool|[]=>true|p::ps=>SS p&&EE ps
end
def RS.rows:{α:Type}->RS α->Bool|_,.one p hp _ _ _=>SS p&&EU hp|_,.two l r=>l.rows&&r.rows
def RS.rows_ok:∀{α:Type}{r:RS α},r.rows=true->∀{x:α},ay (oa (r.res x).2)
 |_,.one _ hp _ _ _,h,_=>qau (l:=hp) (by simp[RS.rows,qA]at h;exact h.2)|_,.two l r,h,.inl a=>by
  simp[RS.rows,qA]at h;exact RS.rows_ok (r:=l) h.1 (x:=a)
 |_,.two l r,h,.inr b=>by
  simp[RS.rows,qA]at h;exact RS.rows_ok (r:=r) h.2 (x:=b)
def Ew(s:St)(τ:Ty):AV->Option (List τ.den)
 |.sl τ' l=>match Ty.eq? τ' τ with|some ⟨h⟩=>some (h▸l)|none=>none
 |.str b=>match Ty.eq? .byte τ with|some ⟨h⟩=>some (h▸(b:List Ty.byte.den))|none=>none
 |.own k=>match af s.hp k with
  |some (.row τ' l _)=>match Ty.eq? τ' τ with|some ⟨h⟩=>some (h▸l)|none=>none
  |_=>none
 |.asl b _ _=>match af s.hp b with|some (.cells cs _)=>mU τ cs|_=>none
 |.val (.slice none 0 0)=>some []|_=>none
def RZ{s:St}{τ:Ty}{v:AV}{l:List τ.den}(h:Ew s τ v=some l){d:List AV}{n:Nat}(a:ia s v=some (d,n)):d=l.flatMap τ.enc/\n=l.length:=by
 unfold Ew at h;split at h
 ·split at h
  ·rename_i f _;subst f;have h:=qJ h;subst h;simp[ia,qI,qP]at a;obtain⟨rfl,rfl⟩:=a;exact⟨rfl,rfl⟩
  ·cases h
 ·split at h
  ·rename_i f _;subst f;have h:=qJ h;subst h;simp[ia,qI,qP]at a;obtain⟨rfl,rfl⟩:=a;exact⟨(yX _).symm,rfl⟩
  ·cases h
 ·split at h
  ·rename_i p;split at h
   ·rename_i f _;subst f;have h:=qJ h;subst h;simp[ia,p,qI,qP]at a;obtain⟨rfl,rfl⟩:=a;exact⟨rfl,rfl⟩
   ·cases h
  ·cases h
 ·rename_i b m c;split at h
  ·rename_i o T p;simp[ia,p]at a;cases j:Nat.beq m c&&Nat.beq o.length m&&allData (o.map AV.sym)<;>rw[j]at a<;>simp at a
   obtain⟨rfl,rfl⟩:=a;simp at j;have i:=Kk h;have t:o.length=l.length:=by have:=congrArg List.length i;simpa using this
   refine⟨?_,Ta⟩
   rw[i];have r:∀x∈l.map τ.av,zh x=true:=by
    intro x e;rw[← i]at e;have:∀{k:List AV},allData k=true->∀x∈k,zh x=true:=by
     intro k
     induction k with
     |nil=>intro _ x e;cases e
     |cons y ys ih=>
      intro g x e;simp[allData,qA]at g;rcases List.mem_cons.1 e with q|q
      ·rw[q];exact g.1
      ·exact ih g.2 x q
    exact this j.2 x e
   clear i t j h
   induction l with
   |nil=>rfl|cons y l ih=>
    rw[List.map_cons,List.flatMap_cons,ih (fun x e=>r x (by rw[List.map_cons];exact qE _ e))]
    have g:=r (τ.av y) (by rw[List.map_cons];exact qH)
    have:τ.enc y=[τ.av y]:=by cases τ<;>first|rfl|(simp[Ty.av,zh]at g)
    rw[this];rfl
  ·cases h
 ·have h:=qJ h;subst h;simp[ia,qI,qP]at a;obtain⟨rfl,rfl⟩:=a;exact⟨rfl,rfl⟩
 ·cases h
def DL(τ:Ty):Nat->List AV->Option (List τ.den)
 |0,[]=>some []|n+1,cs=>match τ.dec cs with
  |some (d,r)=>match DL τ n r with|some ds=>some (d::ds)|none=>none
  |none=>none
 |_,_=>none
def QC{τ:Ty}:∀{n:Nat}{cs:List AV}{l:List τ.den},DL τ n cs=some l->ib cs (l.flatMap τ.enc)/\l.length=n
 |0,[],l,h=>by have h:=qJ h;subst h;exact⟨⟨fun _=>rfl,[],rfl,trivial⟩,rfl⟩
 |0,_::_,l,h=>by cases h
 |n+1,cs,l,h=>by
  simp[DL]at h;split at h
  ·rename_i d r e;split at h
   ·rename_i i a;have h:=qJ h;subst h;obtain⟨g,rfl,f⟩:=zb e;obtain⟨b,c⟩:=QC a;exact⟨f.append b,by simp[c]⟩
   ·cases h
  ·cases h
structure Tb:Type 1 where
 ents:List dc
 ety:List (Nat×Ty)
 sub:Bool
def zW:NM->Bool|[]=>true|_=>false
def Lv:List (Nat×bu)->Bool|[]=>true|_=>false
def ww(f:FuncId):tv->Bool|.fn f'=>Nat.beq f' f|_=>false
def D3(s:St)(f:FuncId)(xs:List AV)(e:dc):Option Rq:=
 bif ww f e.key&&Lv e.hp&&(!(wt xs)||e.out.rows) then
  match Pts.get e.args (uk s.hp xs) [] with
  |some (d,nm)=>match wi s.hp e.hp nm with
   |some (d',nm')=>bif zW nm' then some (.bnd (e.F d d') (e.out.sp fun r a => .res (wt xs) (Pts.put e.args d) r a)) else none
   |none=>none
  |none=>none
 else none
def order(nm:NM):List (Nat×bu)->NM
 |[]=>[]|(n,_)::r=>match bm nm n with|some m=>(n,m)::order nm r|none=>order nm r
def zQ(s:St)(c:List AV)(b:NM)(e:dc):Option Rq:=
 match Pts.get e.args c b with
 |some (d,nm)=>match wi s.hp e.hp nm with
  |some (d',nm')=>bif eh (order nm' e.hp)&&y5 nm' e.hp then
    some (.bnd (e.F d d') (e.out.sp fun r a => .mem (order nm' e.hp) (Pts.put e.args d) (cf e.hp d') r a)) else none
  |none=>none
 |none=>none
def yH(s:St)(f:FuncId)(a:List AV)(e:dc):Option Rq:=bif ww f e.key then zQ s a [] e else none
def qgc(s:St)(m:Nat)(a:List AV)(e:dc):Option Rq:=match e.key with|.yld m'=>zQ s a [(m',m)] e|_=>none
def cH(g:dc->Option Rq):List dc->Option Rq
 |[]=>none|e::es=>match g e with|some q=>some q|none=>cH g es
def yA(P:Program)(a:Tb)(s:St)(t:TypeId)(x y:AV):Option Rq:=
 match x with
 |.own k=>match af s.hp k with
  |some (.row τ l E)=>match Ew s τ y with|some m=>some (.ifb (decide ((l++m).length<=ax)) (.row (.row τ (l++m) E)))|none=>none
  |_=>none
 |_=>match P.underlying t with
  |some (.slice E)=>match af a.ety E with
   |some τ=>match Ew s τ y with|some m=>some (.ifb (decide (m.length<=ax)) (.row (.row τ m E)))|none=>none
   |none=>none
  |_=>none
def qbi(P:Program)(d:Tb)(s:St)(t:TypeId)(c:Nat)(a:List (Nat×Operand)):Option Rq:=
 match P.underlying t with
 |some (.slice E)=>match af d.ety E,gw P E,ua s a with
  |none,_,_=>some (.tot (.b true))|some τ,some sz,some ps=>match y4 (fun i=>some (i*sz,sz)) (Ax (c*sz)) ps with
   |some cs=>match DL τ c cs with|some l=>some (.tot (.row (.row τ l E)))|none=>none
   |none=>none
  |_,_,_=>none
 |_=>none
def qbu(s:St)(k i a:Nat)(v:AV):Option Rq:=match af s.hp k with
 |some (.row τ l E)=>bif Nat.ble (a+v.cells.length) τ.sz then
   some (.bnd l[i]? (.one fun x=>match τ.dec (g9 (τ.enc x) a v.cells) with
    |some (y,[]) => .put (((τ.enc y).drop a).take v.cells.length) (.row τ (l.set i y) E)| _ => .none))
  else none
 |_=>none
def ub(P:Program)(c:Tb)(s:St)(d:Op):Option Rq:=
 match d with
 |.alloc _=>some (.tot .none)|.box _ _=>some (.tot .none)|.buildSlice t len parts=>qbi P c s t len parts.toList|.convert _ _ x=>match s.ev x with|some (.str b)=>some (.ifb (decide (b.length<=maxLen)) .none)|_=>none
 |.store _ x y=>match s.ev x with
  |some (.ptr _ _)=>some (.tot .none)|some (.oel k _ i off)=>match s.ev y with|some v=>qbu s k i off v|none=>none
  |_=>none
 |.call { callee := .builtin .append,args,argTypes }=>match args.toList,argTypes.toList with
  |[x,y],[t,_]=>match s.ev x,s.ev y with|some a,some b=>yA P c s t a b|_,_=>none
  |_,_=>none
 |.call { callee := .value g,args,argTypes:=_ }=>match s.ev g,s.evs args.toList with
  |some (.fn (.func f) fst cap),some xs=>match cH (D3 s f ((fst++xs)++cap)) c.ents with|some q=>some q|none=>cH (yH s f ((fst++xs)++cap)) c.ents
  |some (.yld m),some ys=>cH (qgc s m ys) c.ents|_,_=>none
 |_=>none
def zj(P:Program):Op->Bool
 |.alloc _=>false|.box _ _=>false|.buildSlice _ _ _=>false|.store _ _ _=>false|.convert _ dst _=>match P.underlying dst with|some (.slice _)=>false|_=>true
 |.call { callee := .builtin .append,args:=_,argTypes:=_ }=>false|.call { callee := .value _,args:=_,argTypes:=_ }=>false|_=>true
def y6(P:Program)(b:Tb)(s:St)(a:Op):Option Rq:=bif zj P a then uc P s a else ub P b s a
mutual
def qoo{hp:List (Nat×ag)}:∀{x:AV},Rj x=false->nS hp x=x
 |.agg xs,h=>by simp[nS];rw[KZ (xs:=xs) h]|.own k,h=>by cases h
 |.undef,_=>rfl|.int _ _,_=>rfl|.byte _,_=>rfl|.bool _,_=>rfl|.str _,_=>rfl|.sl _ _,_=>rfl|.arr _ _,_=>rfl|.rop _,_=>rfl|.val _,_=>rfl|.tup _,_=>rfl|.ptr _ _,_=>rfl|.oel _ _ _ _,_=>rfl|.osl _ _ _,_=>rfl|.asl _ _ _,_=>rfl|.yld _,_=>rfl|.pn _,_=>rfl|.fn _ _ _,_=>rfl|.iface _ _,_=>rfl
def KZ{hp:List (Nat×ag)}:∀{xs:List AV},wt xs=false->uk hp xs=xs
 |[],_=>rfl|x::xs,h=>by
  simp[wt,Bool.or_eq_false_iff]at h;simp[uk,KZ h.2,qoo h.1]
end
def Su{nm:NM}(h:zW nm=true):nm=[]:=by cases nm with|nil=>rfl|cons _ _=>cases h
def qjn:∀{l:List (Nat×bu)}{d:ic l},Lv l=true->cf l d=[]|[],_,_=>rfl|_::_,_,h=>by cases h
def KW{f:FuncId}{k:tv}(h:ww f k=true):k = .fn f:=by
 cases k with
 |fn a=>rw[qN (show Nat.beq a f=true from h)]|yld _=>cases h
 |ext _=>cases h
 |thr _ _=>cases h
def cI{g:dc->Option Rq}:∀{a:List dc}{q:Rq},cH g a=some q->∃e∈a,g e=some q
 |[],_,h=>by cases h
 |e::a,q,h=>by
  simp[cH]at h;split at h
  ·rename_i i f;have h:=qJ h;subst h;exact⟨e,qH,f⟩
  ·obtain⟨b,c,d⟩:=cI h;exact⟨b,qE _ c,d⟩
def Ql{P:Program}{s:St}{f:FuncId}{xs:List AV}{e:dc}{q:Rq}{d:D}(B:e.Sound P)(h:D3 s f xs e=some q)(F:q.Out d) :
  ∃b w r hp' ps,d = .res b w r hp'/\ci b s.hp xs w=some ps/\ay ps/\Plain P f/\di P f w [] r hp'/\(b=true->ay (oa hp')):=by
 unfold D3 at h;cases o:ww f e.key&&Lv e.hp&&(!(wt xs)||e.out.rows)<;>rw[o]at h<;>simp at h
 simp at o;obtain⟨⟨p,t⟩,c⟩:=o;split at h
 ·rename_i x K C;split at h
  ·rename_i J v l;cases i:zW v<;>rw[i]at h<;>simp at h
   subst h;have i:=Su i;subst i;obtain⟨y,G,k⟩:=F;have k:=RS.sp_out k;have g:=B x J y G;rw[KW p]at g;simp only at g;rw[qjn t]at g;have a:=(Pts.get_seen C).2 [] rfl (fun n m E=>by have:=(gG l).1 n m E;cases this)
   have u:∃ps,ci (wt xs) s.hp xs (Pts.put e.args x)=some ps/\ay ps:=by
    cases j:wt xs
    ·rw[KZ j]at a;obtain⟨ps,z,A⟩:=a;exact oL gZ z A
    ·exact Fs gZ a
   obtain⟨ps,H,I⟩:=u;refine⟨wt xs,Pts.put e.args x,_,_,ps,k,H,I,g.1,g.2,fun j => ?_⟩
   rw[j]at c;exact RS.rows_ok (by simpa using c)
  ·cases h
 ·cases h
def L8{nm:NM}:∀{l:List (Nat×bu)}{n m:Nat},bm nm n=some m->(∃e∈l,e.1=n)->bm (order nm l) n=some m
 |[],n,m,_,⟨e,a,_⟩=>by cases a
 |(k,p)::r,n,m,h,⟨e,a,b⟩=>by
  simp[order];cases c:Nat.beq k n
  ·have d:∃e∈r,e.1=n:=by
    rcases List.mem_cons.1 a with rfl|a
    ·simp only at b;subst b;simp at c
    ·exact⟨e,a,b⟩
   split
   ·simp[bm,c,qF];exact L8 h d
   ·exact L8 h d
  ·have:=qN c;subst this;rw[h];simp[bm]
def PW{hp:List (Nat×ag)}{N M:NM}(k:eh N=true):∀{l:List (Nat×bu)}{nm a:NM}{d:ic l},wi hp l nm=some (d,a)->dx a M->dx a N->∀{hpv:List (Nat×ag)}{ps:List Prop},
  ja (bf N) hp (order M l)=some hpv->lz hpv (cf l d)=some ps->ay ps
 |[],nm,a,d,h,_,_,hpv,ps,hv,c=>by
  simp[order,ja,qI]at hv;subst hv;have:=qJ (show some []=some ps from c);subst this;trivial
 |(j,p)::r,nm,a,d,h,hM,hS,hpv,ps,hv,c=>by
  have h:(match bm nm j with
   |some e=>match af hp e with
    |some b=>match p.get b nm with
     |some (d,a)=>match wi hp r a with|some (ds,nm'')=>some ((d,ds),nm'')|none=>none
     |none=>none
    |none=>none
   | none=>none)=some (d,a):=h
  split at h
  ·rename_i e x;split at h
   ·rename_i b v;split at h
    ·rename_i q z u;split at h
     ·rename_i s A i;simp at h;obtain⟨rfl,rfl⟩:=h;obtain⟨n,o⟩:=bu.get_seen u;obtain⟨f,_⟩:=gG i;have w:bm M j=some e:=hM _ _ (f _ _ (n _ _ x));simp[order,w,ja,v]at hv;split at hv
      ·rename_i G y g t;simp at g hv;subst g hv;have c:(bif Nat.beq j j then(match dO (fk (bf N) b) (p.put q),lz y (cf r s) with
        |some ps,some qs=>some (ps++qs)| _,_=>none) else none)=some ps:=c
       rw[show Nat.beq j j=true by simp]at c
       simp at c;split at c
       ·rename_i H I E F;have:=qJ c;subst this;obtain⟨B,m,C⟩:=o N k (f.trans hS);rw[E]at m;have:=qJ m;subst this;exact eq.2 ⟨C,PW k i hM hS t F⟩
       ·cases c
      ·cases hv
     ·cases h
    ·cases h
   ·cases h
  ·cases h
def zR{s:St}{p:List AV}{i:NM}{e:dc}{q:Rq}{d:D}(h:zQ s p i e=some q)(z:q.Out d) :
  ∃N x j y,e.F x j=some y/\d = .mem N (Pts.put e.args x) (cf e.hp j) (e.out.res y).1 (e.out.res y).2/\eh N=true/\dx i N /\
   (∀ps,ci false [] (AV.rens (bf N) p) (Pts.put e.args x)=some ps->ay ps)/\∀hpv ps,ja (bf N) s.hp N=some hpv->lz hpv (cf e.hp j)=some ps->ay ps:=by
 unfold zQ at h;split at h
 ·rename_i x E w;split at h
  ·rename_i j b g;cases c:eh (order b e.hp)&&y5 b e.hp<;>rw[c]at h<;>simp at h
   subst h;simp at c;obtain⟨y,B,v⟩:=z;have a:dx b (order b e.hp):=fun n m o=>L8 o (J8 c.2 n m o)
   obtain⟨r,t⟩:=Pts.get_seen w;obtain⟨f,_⟩:=gG g;refine⟨order b e.hp,x,j,y,B,RS.sp_out v,c.1,r.trans (f.trans a),fun ps k => ?_,fun hpv ps k A=>PW c.1 g (dx.refl _) a k A⟩
   obtain⟨C,l,u⟩:=t _ c.1 (f.trans a);rw[k]at l;have:=qJ l;subst this;exact u
  ·cases h
 ·cases h
def Sf{s s':St}{q:Prop}{a xs:List AV}{names:List (Nat×Nat)}{hp hp':List (Nat×ag)}{r:AV}{t:Nat}{ps:List Prop}(h:uo s q a names xs hp r hp' t=some (ps,s'))(i:q)
  (e:∀ps,ci false [] (AV.rens (bf names) a) xs=some ps->ay ps) (f:∀hpv ps,ja (bf names) s.hp names=some hpv->lz hpv hp=some ps->ay ps):ay ps:=by
 unfold uo at h;cases g:eh names&&qz names&&bq (s.nx+32*t) s.hp&&Nat.blt t s.n<;>rw[g]at h<;>simp at h
 split at h
 ·rename_i hpv j b c;split at h
  ·rename_i k d;simp at h;obtain⟨rfl,_⟩:=h;exact⟨i,eq.2 ⟨e _ c,f _ _ b d⟩⟩
  ·cases h
 ·cases h
def R7{P:Program}{s:St}{d:D}{g:Op}(h:zj P g=false):d6 P s d g=none:=by
 unfold zj at h;split at h<;>first
  |rfl
  |cases h
  | (split at h
     ·rename_i c a x _ E e;simp[d6,e];have f:∀v,we P a v=none:=fun v=>by
       unfold we;rw[e]
      have b:∀v,bU P a v=none:=fun v=>by
       unfold bU;split
       ·rw[f]
       ·rw[f]
      cases P.underlying c<;>cases s.ev x<;>simp[b]
     ·cases h)
def R6{P:Program}{s:St}{d:D}{o:Oper}(h:zj P o.op=true):lg P s d o=none:=by
 obtain⟨c,i,j,f,a,guard⟩:=o;simp only at h
 cases b:lg P s d ⟨c,i,j,f,a,guard⟩ with
 |none=>rfl|some R=>
  exfalso;unfold lg at b;split at b
  ·rename_i e _;simp only at e;subst e;cases h
  ·rename_i e _;simp only at e;subst e;cases h
  ·rename_i e _;simp only at e;subst e;cases h
  ·rename_i e _;simp only at e;subst e;cases h
  ·rename_i e _;simp only at e;subst e;cases h
  ·rename_i e _;simp only at e;subst e;split at b
   ·rename_i g _;simp only[zj,g]at h;cases h
   ·cases b
  ·cases b
def qnv{P:Program}{s:St}{d:D}{o:Oper}(h:zj P o.op=true):t8 P s d o=none:=by
 obtain⟨b,g,i,f,a,guard⟩:=o;simp only at h
 cases c:t8 P s d ⟨b,g,i,f,a,guard⟩ with
 |none=>rfl|some R=>
  exfalso;unfold t8 at c;split at c
  ·rename_i e;simp only at e;subst e;cases h
  ·rename_i e;simp only at e;subst e;cases h
  ·rename_i e;simp only at e;subst e;cases h
  ·cases c
def qig{P:Program}{u:Tb}{s:St}{t e:TypeId}{y:AV}{q:Rq}{d:D}{ps:List Prop}{b:ag}(h:yA P u s t (.val (.slice none 0 0)) y=some q)(k:q.Out d)(a:qt P s d t e [] 0 y=some (ps,b)):ay ps:=by
 unfold yA at h;simp only at h;unfold qt at a;split at h
 ·rename_i E i;split at h
  ·rename_i τ o;split at h
   ·rename_i m j;have h:=qJ h;subst h;obtain⟨g,rfl⟩:=k;simp only[i]at a;split at a
    ·rename_i r c n v f;obtain⟨p,w⟩:=RZ j f;cases l:Nat.beq τ.sz r&&Nat.beq E E&&qj P E&&nV P e<;>rw[l]at a<;>simp only[qT,qF,reduceCtorEq,qI,qP]at a
     obtain⟨rfl,_⟩:=a;exact⟨by rw[p];rfl,Ta,of_decide_eq_true g,trivial⟩
    ·cases a
   ·cases h
  ·cases h
 ·cases h
def qih{P:Program}{A:Tb}{s:St}{t j:TypeId}{k:Nat}{a:Ty}{f:List a.den}{g:TypeId}{y:AV}{q:Rq}{d:D}{ps:List Prop}{b:ag}(p:af s.hp k=some (.row a f g))(h:yA P A s t (.own k) y=some q)(u:q.Out d)(c:qt P s d t j (f.flatMap a.enc) f.length y=some (ps,b)):ay ps:=by
 unfold yA at h;simp only[p]at h;unfold qt at c;split at h
 ·rename_i m r;have h:=qJ h;subst h;obtain⟨o,rfl⟩:=u;split at c
  ·rename_i E _ _ _ B e;simp only[D.row.injEq,ag.row.injEq]at e;obtain⟨rfl,e,rfl⟩:=e;have e:=eq_of_heq e;subst e;split at c
   ·rename_i z i n C l;obtain⟨w,x⟩:=RZ r l;cases v:Nat.beq a.sz z&&Nat.beq E g&&qj P E&&nV P j<;>rw[v]at c<;>simp only[qT,qF,reduceCtorEq,qI,qP]at c
    obtain⟨rfl,_⟩:=c;exact⟨by rw[w,List.flatMap_append],by rw[x,qM],of_decide_eq_true o,trivial⟩
   ·cases c
  ·cases c
 ·cases h
def PE{P:Program}{T:Tb}{s:St}{o:Oper}{q:Rq}{d:D}{ps:List Prop}{v:AV}{new:List (Nat×ag)}(hT:∀e∈T.ents,e.Sound P)(hv:zj P o.op=false)(h:ub P T s o.op=some q)(j:q.Out d)(a:lg P s d o=some (ps,v,new)):ay ps:=by
 obtain⟨J,op,ty,ab,H,guard⟩:=o;simp only at h hv;have c:∀{b:Bool}{x:AV}{y:List (Nat×ag)}{B ps:List Prop}{v:AV}{new:List (Nat×ag)},(bif b then some (B,x,y) else none)=some (ps,v,new)->ay B->ay ps:=fun{b} _ _ _ _ _ _ e k=>by
  cases b
  ·cases e
  ·simp at e;obtain⟨rfl,_⟩:=e;exact k
 unfold lg at a;split at a
 ·split at a
  ·exact c a trivial
  ·cases a
 ·split at a
  ·exact c a trivial
  ·cases a
 ·rename_i g p I t e _;simp only at e;subst e;split at a
  ·rename_i f w u Y b U r z i C;split at a
   ·rename_i n A;refine c a ?_;rw[qS w Y u]at A;simp[ub,i,C]at h;have O:∀e∈T.ents,D3 s f (w++(Y++u)) e=some q->ay (Plain P f::di P f U [] r z::(n++(bif b then oa z else[]))):=fun e F m=>by
     obtain⟨b1,ys,r1,aa,S,W,G,k3,k4,k5,k6⟩:=Ql (hT e F) m j;simp at W;obtain⟨rfl,rfl,rfl,rfl⟩:=W;rw[A]at G;have:=qJ G;subst this;refine⟨k4,k5,eq.2 ⟨k3,?_⟩⟩;cases b
     ·trivial
     ·exact k6 rfl
    split at h
    ·rename_i q' M;have h:=qJ h;subst h;obtain⟨e,F,m⟩:=cI M;exact O e F m
    ·exfalso;obtain⟨e,F,m⟩:=cI h;unfold yH at m;cases hk:ww f e.key<;>rw[hk]at m<;>simp at m
     obtain⟨N,x,x',y,_,G,_⟩:=zR m j;cases G
   ·cases a
  ·cases a
 ·rename_i p I X e _;simp only at e;subst e;split at a
  ·rename_i x y t t2 i C;split at a
   ·rename_i v' K e4;split at a
    ·rename_i n b e5;refine c a ?_;simp[ub,i,C,K,e4]at h;exact qig h j e5
    ·cases a
   ·cases a
  ·cases a
 ·rename_i t Q R X e _;simp only at e;subst e;split at a
  ·rename_i n b i;refine c a ?_;simp[ub]at h;unfold qbi at h;unfold bT at i;split at h
   ·rename_i E V;split at h
    ·have h:=qJ h;subst h;have j:d=_:=j;subst j;simp[V]at i
    ·rename_i τ sz S i1 i2 i3;split at h
     ·rename_i Z L;split at h
      ·rename_i l hl;have h:=qJ h;subst h;have j:d=_:=j;subst j;simp only[V,i2,i3,L]at i;cases M:Nat.beq τ.sz sz&&Nat.beq E E&&qj P E&&Nat.ble (Q*τ.sz) 16777216&&AV.ones Z<;>rw[M]at i<;>simp at i
       obtain⟨⟨j1,ac,j2,j3⟩,j4⟩:=QC hl;rw[j2]at i;simp at i;obtain⟨rfl,_⟩:=i;exact eq.2 ⟨j3,j4,j1 _,trivial⟩
      ·cases h
     ·cases h
    ·cases h
   ·cases h
  ·split at a
   ·exact c a trivial
   ·cases a
 ·rename_i ad J x X e _;simp only at e;subst e;split at a
  ·rename_i E b i C K;split at a
   ·refine c a ?_;simp[ub,K,qI]at h;subst h;exact⟨of_decide_eq_true j.1,trivial⟩
   ·cases a
  ·cases a
 ·cases a
def Mn:∀(c a b:List AV)(k:Nat),g9 (a++b) (a.length+k) c=a++g9 b k c
 |[],_,_,_=>rfl|y::c,a,b,k=>by
  simp only[g9];rw[List.set_append_right _ _ Ta,Nat.add_sub_cancel_left,Nat.add_assoc]
  exact Mn c a (b.set k y) (k+1)
def qbo:∀(c a b:List AV)(k:Nat),k+c.length<=a.length->g9 (a++b) k c=g9 a k c++b
 |[],_,_,_,_=>rfl|y::c,a,b,k,h=>by
  simp at h;simp[g9];rw[List.set_append_left _ _ Ta]
  exact qbo c (a.set k y) b (k+1) (by rw[List.length_set];omega)
def oC:∀(b a:List AV)(k j:Nat),k+b.length<=a.length->(g9 a k b)[j]? = if k<=j/\j<k+b.length then b[j-k]? else a[j]?
 |[],a,k,j,_=>by simp only[g9,qZ];rw[qW]|y::b,a,k,j,h=>by
  simp at h;simp only[g9];rw[oC b (a.set k y) (k+1) j (by rw[List.length_set];omega)]
  simp only[qL];by_cases c:k+1<=j/\j<k+1+b.length
  ·rw[qX c,qX,show j-k=(j-(k+1))+1 by omega];simp
  ·rw[qW c];by_cases d:j=k
   ·subst d;rw[qX];simp[show j<a.length by omega]
   ·rw[qW,List.getElem?_set_ne Ta]
def qbp{τ:Ty}{y:τ.den}{b:List AV}{a:Nat}:∀{l:List τ.den}{i:Nat}{x:τ.den},l[i]? = some x->a+b.length<=τ.sz->τ.enc y=g9 (τ.enc x) a b->(l.set i y).flatMap τ.enc=g9 (l.flatMap τ.enc) (i*τ.sz+a) b
 |[],_,_,h,_,_=>by simp at h|z::l,0,x,h,ho,he=>by
  simp at h;subst h;simp;rw[qbo _ _ _ _ (by rw[τ.enc_length];exact ho),he]
 |z::l,i+1,x,h,ho,he=>by
  simp at h;simp;rw[show(i+1)*τ.sz+a=(τ.enc z).length+(i*τ.sz+a) by rw[τ.enc_length,Nat.succ_mul];omega,Mn,qbp h ho he]
def M6{b:Bool}{hp:List (Nat×ag)}:∀{xs a:List AV}{ps:List Prop},ci b hp xs a=some ps->ay ps->∀(j:Nat)(x y:AV),xs[j]? = some x->a[j]? = some y->∃c,vw b hp x y=some c/\ay c
 |x::xs,y::a,ps,h,hp,j,u,v,hu,hv=>by
  simp[ci]at h;split at h
  ·rename_i f d;split at h
   ·rename_i g e;have:=qJ h;subst this
    cases j with|zero=>simp at hu hv;subst hu hv;exact⟨f,d,(eq.1 hp).1⟩|succ j=>exact M6 e (eq.1 hp).2 j u v (by simpa using hu) (by simpa using hv)
   ·cases h
  ·cases h
 |[],[],_,_,_,j,_,_,hu,_=>by simp at hu|[],_::_,_,h,_,_,_,_,_,_=>by simp[ci]at h|_::_,[],_,h,_,_,_,_,_,_=>by simp[ci]at h
def qc0{b:Bool}{hp:List (Nat×ag)}:∀{xs a:List AV}{ps:List Prop},ci b hp xs a=some ps->(∀(j:Nat)(x y:AV),xs[j]? = some x->a[j]? = some y->∃d,vw b hp x y=some d/\ay d)->ay ps
 |x::xs,y::a,ps,h,hq=>by
  simp[ci]at h;split at h
  ·rename_i l f;split at h
   ·rename_i m g;have:=qJ h;subst this;obtain⟨n,c,e⟩:=hq 0 x y rfl rfl;rw[f]at c;have:=qJ c;subst this;exact eq.2 ⟨e,qc0 g fun j u v i k=>hq (j+1) u v (by simpa using i) (by simpa using k)⟩
   ·cases h
  ·cases h
 |[],[],_,h,_=>by simp[ci,qI]at h;subst h;trivial|[],_::_,_,h,_=>by simp[ci]at h|_::_,[],_,h,_=>by simp[ci]at h
def yQ:∀{τ:Ty}{d:τ.den},∀x∈τ.enc d,zh x=true
 |.int _,_,x,h=>by simp[Ty.enc,List.mem_singleton]at h;subst h;rfl|.byte,_,x,h=>by simp[Ty.enc,List.mem_singleton]at h;subst h;rfl|.bool,_,x,h=>by simp[Ty.enc,List.mem_singleton]at h;subst h;rfl|.str,_,x,h=>by simp[Ty.enc,List.mem_singleton]at h;subst h;rfl|.unit,_,x,h=>by simp[Ty.enc]at h|.prod a b,d,x,h=>by
  rcases List.mem_append.1 h with h|h
  ·exact yQ x h
  ·exact yQ x h
 |.list _,_,x,h=>by simp[Ty.enc,List.mem_singleton]at h;subst h;rfl|.tree a,d,x,h=>by
  rcases List.mem_append.1 h with h|h
  ·exact yQ x h
  ·simp at h;subst h;rfl
def quh{x y:AV}(c:zh x=true)(d:zh y=true){a:List Prop}(h:vw false [] x y=some a)(b:ay a):y=x:=by
 cases x<;>first|cases c|skip
 all_goals (cases y<;>first|cases d|skip)
 all_goals (have:=qJ h;subst this;exact b.1)
def qab{ρ:Nat->Option Nat}:∀{xs:List AV}{j:Nat},(AV.rens ρ xs)[j]? = (xs[j]?).map (AV.ren ρ)|[],j=>by simp[AV.rens]|x::xs,0=>by simp[AV.rens]|x::xs,j+1=>by simp[AV.rens,List.getElem?_cons_succ];exact qab
def qs5{τ:Ty}{l:List τ.den}{i a:Nat}{x y:τ.den}{c:List AV}{ps:List Prop}(v:a+c.length<=τ.sz)(w:l[i]? = some x)(A:τ.dec (g9 (τ.enc x) a c)=some (y,[]))
  (F:ci false [] c (((τ.enc y).drop a).take c.length)=some ps) :
  ay (ps++[i*τ.sz+a+c.length<=l.length*τ.sz,(l.set i y).flatMap τ.enc=g9 (l.flatMap τ.enc) (i*τ.sz+a) (((τ.enc y).drop a).take c.length),(l.set i y).length=l.length,AV.rens (fun _=>none) c=c]):=by
 obtain⟨I,r,E,p,e,f⟩:=zb A;simp at r;subst r;have b:a+c.length<=(τ.enc x).length:=by rw[τ.enc_length];exact v
 have n:(((τ.enc y).drop a).take c.length).length=c.length:=by simp[τ.enc_length];omega
 have g:∀(j:Nat)(z u:AV),c[j]? = some z->(((τ.enc y).drop a).take c.length)[j]? = some u->∃p,vw false [] z u=some p/\ay p:=fun j z u s t=>by
  have d:j<c.length:=(List.getElem?_eq_some_iff.1 s).1;refine M6 e f (a+j) z u ?_ ?_
  ·rw[oC _ _ _ _ b,qX,Nat.add_sub_cancel_left];exact s
  ·rw[List.getElem?_take,qX d,List.getElem?_drop]at t;exact t
 have B:τ.enc y=g9 (τ.enc x) a (((τ.enc y).drop a).take c.length):=by
  apply List.ext_getElem?;intro j;rw[oC _ _ _ _ (by rw[n];exact b),n]
  by_cases d:a<=j/\j<a+c.length
  ·rw[qX d,List.getElem?_take,qX,List.getElem?_drop,show a+(j-a)=j by omega]
  ·rw[qW d]
   cases m:(τ.enc x)[j]? with
   |none=>
    have:=List.getElem?_eq_none_iff.1 m;rw[τ.enc_length]at this;exact List.getElem?_eq_none_iff.2 (by rw[τ.enc_length];exact this)
   |some z=>
    have o:j<τ.sz:=by have:=(List.getElem?_eq_some_iff.1 m).1;rwa [τ.enc_length]at this
    have k:∃u,(τ.enc y)[j]? = some u:=⟨_,List.getElem?_eq_getElem (by rw[τ.enc_length];exact o)⟩
    obtain⟨u,k⟩:=k;obtain⟨q,G,H⟩:=M6 e f j z u (by rw[oC _ _ _ _ b,qW d];exact m) k
    rw[k,quh (yQ z (List.mem_of_getElem? m)) (yQ u (List.mem_of_getElem? k)) G H]
 refine eq.2 ⟨qc0 F g,?_,qbp w (by rw[n];exact v) B,Te,?_,trivial⟩
 ·have C:i<l.length:=(List.getElem?_eq_some_iff.1 w).1;have:(i+1)*τ.sz<=l.length*τ.sz:=Nat.mul_le_mul_right _ C;rw[Nat.succ_mul]at this;omega
 ·apply List.ext_getElem?;intro j;have h:=congrArg (fun l=>l[a+j]?) (E (fun _=>none))
  simp[qab]at h ⊢;by_cases d:j<c.length
  ·rw[oC _ _ _ _ b,qX,Nat.add_sub_cancel_left]at h;exact h
  ·rw[List.getElem?_eq_none_iff.2 Ta];rfl
def qii{P:Program}{tb:Tb}{s:St}{o:Oper}{q:Rq}{d:D}{ps:List Prop}{s':St}(W:∀e∈tb.ents,e.Sound P)(h:ub P tb s o.op=some q)(H:q.Out d)(a:t8 P s d o=some (ps,s')):ay ps:=by
 obtain⟨ah,op,ty,av,O,guard⟩:=o;simp only at h;have T:∀{b:Bool}{x:St}{ps:List Prop}{s':St},(bif b then some (([]:List Prop),x) else none)=some (ps,s')->ay ps:=fun{b} _ _ _ e=>by
  cases b
  ·cases e
  ·simp at e;obtain⟨rfl,_⟩:=e;trivial
 unfold t8 at a;split at a
 ·rename_i t x y e;simp only at e;subst e;split at a
  ·split at a
   ·exact T a
   ·cases a
  ·rename_i k sz i ac v n p u M _;split at a
   ·rename_i w l0 E0 ys τ l E U;simp[ub,p,u,qbu,U]at h;cases B:Nat.ble (ac+v.cells.length) w.sz<;>rw[B]at h<;>simp at h
    subst h;obtain⟨x0,ab,C⟩:=H;simp[Sp.Out]at C;split at C
    ·rename_i y0 F;simp at C;obtain⟨rfl,rfl,X,rfl⟩:=C;have X:=eq_of_heq X;subst X;cases A:Nat.beq v.cells.length n&&AV.ones v.cells&&Nat.beq sz τ.sz&&Nat.beq τ.sz τ.sz&&Nat.beq E E<;>rw[A]at a<;>simp only[qT,qF,reduceCtorEq]at a
     simp only[qA]at A;obtain⟨⟨⟨⟨L,_⟩,R⟩,_⟩,_⟩:=A;have L:=qN L;have R:=qN R;subst L R;split at a
     ·rename_i ad aa;simp only[qI,qP]at a;obtain⟨rfl,_⟩:=a;exact qs5 (Nat.le_of_ble_eq_true B) ab F aa
     ·cases a
    ·cases C
   ·cases a
  ·cases a
 ·rename_i z Q e;simp only at e;subst e;split at a
  ·rename_i x y t t2 tt p u _;split at a
   ·rename_i k v M U;split at a
    ·rename_i w l0 E0 e5;split at a
     ·rename_i ad τ l E e6;simp[ub,p,u,M,U]at h;cases A:bq (s.nx+32*tt) s.hp&&Nat.beq τ.sz w.sz&&Nat.beq E E0&&Nat.blt tt s.n<;>rw[A]at a<;>simp at a
      obtain⟨rfl,_⟩:=a;exact qih e5 h H e6
     ·cases a
    ·cases a
   ·cases a
  ·cases a
 ·rename_i g z Q e;simp only at e;subst e;split at a
  ·rename_i f V S ys j xs hp r Z t p u M;simp[ub,p,u]at h;split at h
   ·rename_i q' hq;have h:=qJ h;subst h;obtain⟨e,G,c⟩:=cI hq;obtain⟨L,a1,r1,an,a0,J,_⟩:=Ql (W e G) c H;cases J
   ·obtain⟨e,G,c⟩:=cI h;unfold yH at c;cases hk:ww f e.key<;>rw[hk]at c<;>simp at c
    obtain⟨N,x,x',y,J,K,k3,k4,k5,k6⟩:=zR c H;simp at K;obtain⟨rfl,rfl,rfl,rfl,rfl⟩:=K;have I:=W e G x x' y J;rw[KW hk]at I;exact Sf a I (by rw[qS V ys S];exact k5) k6
  ·rename_i m ys j xs hp r Z t p u M;simp[ub,p,u]at h;obtain⟨e,G,c⟩:=cI h;unfold qgc at c;split at c
   ·rename_i m' Y;obtain⟨N,x,x',y,J,K,k3,k4,k5,k6⟩:=zR c H;simp at K;obtain⟨rfl,rfl,rfl,rfl,rfl⟩:=K;have I:=W e G x x' y J;rw[Y]at I;have hr:bf j m=some m':=zp k3 (k4 _ _ (by simp[bm]))
    simp[hr]at a;exact Sf a I k5 k6
   ·cases c
  ·cases a
 ·cases a
def PH{P:Program}{j:Tb}{s:St}{o:Oper}{q:Rq}{d:D}{ps:List Prop}{s':St}(i:∀e∈j.ents,e.Sound P)(h:y6 P j s o.op=some q)(c:q.Out d)(a:t7 P s d o=some (ps,s')):ay ps:=by
 unfold y6 at h;unfold t7 at a;cases b:zj P o.op<;>rw[b]at h<;>simp at h
 ·split at a
  ·rename_i g v f e;unfold gq at e;rw[R7 b]at e;split at a
   ·simp at a;obtain⟨rfl,_⟩:=a;exact PE i b h c e
   ·cases a
  ·exact qii i h c a
 ·split at a
  ·rename_i g v f e;unfold gq at e;split at e
   ·rename_i l m k;simp at e;obtain⟨rfl,rfl,rfl⟩:=e;split at a
    ·simp at a;obtain⟨rfl,_⟩:=a;exact PF h c k
    ·cases a
   ·rw[R6 b]at e;cases e
  ·rw[qnv b]at a;cases a
def PG{P:Program}{f:Tb}{s:St}{o:Oper}{q:Rq}{d:D}{ps:List Prop}{v:AV}{new:List (Nat×ag)}(i:∀e∈f.ents,e.Sound P)(h:y6 P f s o.op=some q)(c:q.Out d)(a:gq P s d o=some (ps,v,new)):ay ps:=by
 unfold y6 at h;unfold gq at a;cases b:zj P o.op<;>rw[b]at h<;>simp at h
 ·rw[R7 b]at a;exact PE i b h c a
 ·split at a
  ·rename_i j k g;simp at a;obtain⟨rfl,rfl,rfl⟩:=a;exact PF h c g
  ·rw[R6 b]at a;cases a
def Mq(P:Program)(c:Tb)(s:St)(o:Oper):Option (Bool×St):=
 bif c.sub then
  match o.op with
  |.slice t x lo hi mx=>match s.ev x,o.dst,mx with
   |some (.own k),some tt,none=>match af s.hp k,P.underlying t with
    |some (.row τ l E),some (.slice E')=>match gw P E' with
     |some sz'=>bif Nat.beq τ.sz sz'&&Nat.blt tt s.n&&bq (s.nx+32*tt) s.hp then
       (match lj s lo,lj s hi with
       |some (some a),some none=>some (decide (0<=a/\a.toNat<l.length),{ s with fr:=(tt,.osl k τ.sz a.toNat)::s.fr })|some none,some (some b)=>some (decide (0<=b/\b<=l.length),{ s with fr:=(tt,.own (s.nx+32*tt))::s.fr,hp:=(s.nx+32*tt,.row τ (l.take b.toNat) E)::(k,.dead)::s.hp })| _,_=>none)
      else none
     |none=>none
    |_,_=>none
   |_,_,_=>none
  |.call { callee := .builtin .clear,args,argTypes }=>match args.toList,argTypes.toList,o.dst with
   |[x],[t],none=>match s.ev x with
    |some (.osl k sz lo)=>match af s.hp k,P.underlying t with
     |some (.row τ l E),some (.slice E')=>match iK P E' with
      |some zs=>match τ.dec zs with|some (z,[])=>bif Nat.beq sz τ.sz&&Nat.blt 0 τ.sz&&AV.ones zs then some (true,{ s with hp:=(k,.row τ (l.take lo++List.replicate (l.length-lo) z) E)::s.hp }) else none|_=>none
      |none=>none
     |_,_=>none
    |_=>none
   |_,_,_=>none
  |_=>none
 else none
section
variable{P:Program}{q72:World}{q7w:Gh}{q7z:List (Nat×ag)}{G:Gh}{s:St}{a:Act}{w:World}{tb:Tb}
def qsw:∀(c b:List AV),c.length=b.length->g9 b 0 c=c:=fun c b h=>by
 apply List.ext_getElem?;intro j;rw[oC _ _ _ _ Ta]
 by_cases d:0<=j/\j<0+c.length
 ·rw[qX d];rfl
 ·rw[qW d,List.getElem?_eq_none_iff.2 Ta,List.getElem?_eq_none_iff.2 Ta]
def Rb{τ:Ty}{z:τ.den}:∀(n:Nat),(List.replicate n z).flatMap τ.enc=(List.replicate n (τ.enc z)).flatten|0=>rfl|n+1=>by simp[List.replicate_succ,Rb n]
def qal{xs:List AV}{vs:List Value}(h:ao xs G vs):∀(n:Nat),ao (List.replicate n xs).flatten G (List.replicate n vs).flatten|0=>trivial|n+1=>by simp[List.replicate_succ,List.flatten_cons];exact w9 h (qal h n)
def Ec{β:Type}(l:List β):∀(n:Nat),(List.replicate n l).flatten.length=n*l.length|0=>by simp|n+1=>by rw[List.replicate_succ,List.flatten_cons,qM,Ec l n,Nat.succ_mul,Nat.add_comm]
def Ra{β:Type}(l:List β):∀(n i:Nat),i<n*l.length->(List.replicate n l).flatten[i]? = l[i%l.length]?
 |0,i,h=>by simp at h|n+1,i,h=>by
  rw[List.replicate_succ,List.flatten_cons];by_cases b:i<l.length
  ·rw[List.getElem?_append_left b,Nat.mod_eq_of_lt b]
  ·have c:i<n*l.length+l.length:=by rw[← Nat.succ_mul];exact h
   rw[List.getElem?_append_right Ta,Ra l n (i-l.length) Ta,← Nat.mod_eq_sub_mod Ta]
def q7l(cs:Array Value)(n:Nat):(Builtin.zeroCells cs n).toList=(List.replicate n cs.toList).flatten:=by
 apply List.ext_getElem?;intro i;by_cases b:i<n*cs.size
 ·rw[Ra _ n i (by simpa using b)]
  have c:0<cs.size:=by
   rcases Nat.eq_zero_or_pos cs.size with h|h;· rw[h]at b;simp at b
   ·exact h
  simp[Builtin.zeroCells,b,Nat.mod_lt _ c]
 ·rw[List.getElem?_eq_none_iff.2 (by simp[Builtin.zeroCells];omega),List.getElem?_eq_none_iff.2 (by rw[Ec];simp;omega)]
def qtc(j:aj q72 q7w q7z G s a w){o:Oper}{s':St}(h:Mq P tb s o=some (true,s')){N:Act->World->Prop}(hN:∀G' a' w',aj q72 q7w q7z G' s' a' w'->N a' w'):iw P o a w N:=by
 obtain⟨cc,op,ty,Z,r,guard⟩:=o;unfold Mq at h;cases a4:tb.sub<;>rw[a4]at h<;>simp only[qT,qF,reduceCtorEq]at h
 split at h
 ·rename_i t x lo hi mx;split at h
  ·rename_i k A hx;split at h
   ·rename_i τ l E E' hl hu;split at h
    ·rename_i b8 C;cases Q:Nat.beq τ.sz b8&&Nat.blt A s.n&&bq (s.nx+32*A) s.hp<;>rw[Q]at h<;>simp only[qT,qF,reduceCtorEq]at h
     simp only[qA,Nat.blt_eq]at Q;obtain⟨⟨O,b2⟩,b3⟩:=Q;have O:=qN O;subst O;obtain⟨J,c,us,h1,h3,h4,h5⟩:=(j.fin.mem.holds _ _ hl).rowAt;obtain⟨cb,n0,c0,V,H⟩:=cm j hx;rw[h1]at V;simp only[qI,qP]at V;obtain⟨rfl,rfl,rfl⟩:=V;have hc:l.length<=c:=by
      rcases h3.2 with⟨_,q,_⟩|⟨_,_,_,_,_,_,q,_⟩<;>omega
     split at h
     ·rename_i d T R;simp only[qI,qP,decide_eq_true_eq]at h;obtain⟨⟨g0,g1⟩,rfl⟩:=h;rcases ug j T with⟨_,e⟩|⟨xo,kx,mm,rfl,e,X⟩
      ·cases e
      injection e with e;subst e
      rcases ug j R with⟨rfl,_⟩|⟨_,_,_,_,e,_⟩
      rotate_left
      ·cases e
      have r1:(Instr.sliceBounds true l.length c ((some xo).map a.eval) (Option.map a.eval none) none).run P w = .ok (d.toNat,l.length,c) w:=by
       simp[Instr.sliceBounds,X,ut (P:=P) (w:=w) g0 (show d<=(l.length:Int) by omega)]
      have U:l≠[]:=fun e=>by subst e;simp at g1
      rcases h3.2 with⟨_,q,_⟩|⟨g,M,fz,rfl,k2,k3,k4,k5,k6,k7,k8⟩
      ·exact absurd (List.eq_nil_of_length_eq_zero q) U
      ·have p:(execOp a.eval ⟨some A,.slice t x (some xo) none none,ty,Z,r,guard⟩).run P w = .ok (.value (.slice (some ⟨g,d.toNat*τ.sz,none⟩) (l.length-d.toNat) (c-d.toNat))) w:=by
        simp only[wQ,Option.map_none]at r1;simp[execOp,Instr.sliceAt,Instr.slice,ce hu,H,r1,ku C,show c≠d.toNat by omega,qu]
       refine g8 Te ?_
       unfold Oper.wp;rw[p];exact hN _ _ _ (jv (v := .osl k τ.sz d.toNat) j (by have ba:Nat.blt A s.n=true:=(by simpa using b2);simp[St.add,ba,qT,List.nil_append]) ⟨g,l.length,c,h1,g1,rfl⟩)
     ·rename_i d T R;simp at h;obtain⟨⟨g0,g1⟩,rfl⟩:=h;rcases ug j R with⟨_,e⟩|⟨xo,kx,mm,rfl,e,X⟩
      ·cases e
      injection e with e;subst e
      rcases ug j T with⟨rfl,_⟩|⟨_,_,_,_,e,_⟩
      rotate_left
      ·cases e
      have r1:(Instr.sliceBounds true l.length c (Option.map a.eval none) ((some xo).map a.eval) none).run P w = .ok (0,d.toNat,c) w:=by
       simp[Instr.sliceBounds,X,ut (P:=P) (w:=w) g0 (show d<=(c:Int) by omega)]
      have F:(l.take d.toNat).length=d.toNat:=by simp;omega
      have p:(execOp a.eval ⟨some A,.slice t x none (some xo) none,ty,Z,r,guard⟩).run P w = .ok (.value (.slice J d.toNat c)) w:=by
       simp at r1
       have a8:(if c=0 then J else J.map (·.add (0*τ.sz)))=J:=by
        split
        ·rfl
        ·rcases h3.2 with⟨rfl,_,_⟩|⟨g,M,fz,rfl,_⟩
         ·rfl
         ·simp[qu]
       simp[execOp,Instr.sliceAt,wQ,Option.map_none];simp[Instr.slice,ce hu,H,r1,ku C];simpa using a8
      refine g8 Te ?_
      unfold Oper.wp;rw[p];have a0:=o9 b3 (s.nx+32*A) (wF _) Ta
      obtain⟨f1,f2⟩:=j.fresh _ Ta a0
      have a3:ld w E τ.sz J (l.take d.toNat).length c (us.take (d.toNat*τ.sz)):=by
       rw[F];have L:d.toNat*τ.sz<=l.length*τ.sz:=Nat.mul_le_mul_right _ Ta
       refine⟨by rw[List.length_take,h3.1];omega,?_⟩
       rcases h3.2 with⟨I,q2,q3⟩|⟨g,M,fz,I,q2,q3,q4,q5,q6,q7,q8⟩
       ·exact .inl ⟨I,Ta,q3⟩
       ·exact .inr ⟨g,M,fz,I,q2,q3,Ta,q5,q6,by rw[← q7,List.take_take,Nat.min_eq_left L],q8⟩
      have W:ao ((l.take d.toNat).flatMap τ.enc) G.data (us.take (d.toNat*τ.sz)):=by
       have:=nZ (d.toNat*τ.sz) h4;have e:(l.flatMap τ.enc).take (d.toNat*τ.sz)=(l.take d.toNat).flatMap τ.enc:=by
        have e1:l.flatMap τ.enc=(l.take d.toNat).flatMap τ.enc++(l.drop d.toNat).flatMap τ.enc:=by rw[← List.flatMap_append,List.take_append_drop]
        rw[e1,List.take_append_of_le_length (by rw[cK,F];exact wF _),List.take_of_length_le (by rw[cK,F];exact wF _)]
       rwa [e]at this
      have an:=j.fin.take hl h1 a0 f2 h5 (w':=w) ⟨rfl,rfl,rfl,wF _,fun _ _ _=>rfl⟩ (.inl rfl) a3 W
      have a1:G.le (G.addOwn (s.nx+32*A) (J,(l.take d.toNat).length,c)):=Gh.addOwn_le f2;refine hN _ _ _ ⟨by obtain⟨bs,I,q2⟩:=j.defers;exact⟨bs,I,wo a1.box q2⟩,by simp[Act.put,j.size],fun i z Y => ?_,fun m L b => ?_,an⟩
      ·simp[af]at Y;cases f:Nat.beq A i
       ·rw[f]at Y;simp at Y;have U:A≠i:=fun e=>by subst e;simp at f
        obtain⟨u,u1,u2⟩:=j.frame i z Y;exact⟨u,by simp[Act.put,U,u1],u2.le a1⟩
       ·rw[f]at Y;simp at Y;subst Y;have:=qN f;subst this;exact⟨_,by simp[Act.put,j.size,b2],J,d.toNat,c,by rw[Gh.addOwn_self,F],rfl⟩
      ·simp[af]at b;cases f:Nat.beq (s.nx+32*A) m
       ·rw[f]at b;simp at b;cases ac:Nat.beq k m
        ·rw[ac]at b;obtain⟨g1,g2⟩:=j.fresh m L b;refine⟨g1,?_⟩;show(bif Nat.beq m (s.nx+32*A) then some _ else G.own m)=none
         cases bb:Nat.beq m (s.nx+32*A)
         ·exact g2
         ·have:=qN bb;subst this;simp at f
        ·rw[ac]at b;cases b
       ·rw[f]at b;cases b
     ·cases h
    ·cases h
   ·cases h
  ·cases h
 ·rename_i args aa;split at h
  ·rename_i x t ha bk;split at h
   ·rename_i k sz lo hx;split at h
    ·rename_i τ l E E' hl hu;split at h
     ·rename_i zs b7;split at h
      ·rename_i z ah;cases Q:Nat.beq sz τ.sz&&Nat.blt 0 τ.sz&&AV.ones zs<;>rw[Q]at h<;>simp at h
       subst h;simp only[qA]at Q;obtain⟨⟨O,b2⟩,b3⟩:=Q;have O:=qN O;have b2:0<τ.sz:=by simpa using b2
       subst O;have e1:args=#[x]:=by rw[← Array.toArray_toList (xs:=args),ha]
       have e2:aa=#[t]:=by rw[← Array.toArray_toList (xs:=aa),bk]
       subst e1 e2;obtain⟨g,n,c,o1,o2,H⟩:=cm j hx;obtain⟨J,c',I,q2⟩:=j.fin.mem.holds _ _ hl;rw[o1]at I;simp at I;obtain⟨rfl,rfl,rfl⟩:=I;rcases q2 with⟨q,_⟩|⟨g',M,fz,q,k2,k3,k4,k5,k6,k7,k8,k9⟩
       ·cases q
       ·simp at q;subst q;obtain⟨ab,e,be⟩:=zb ah;simp at e;subst e;obtain⟨zv,b5,a5⟩:=Mc (P:=P) b7 w G.data;obtain⟨ps,br,b4⟩:=be.2;have a6:ao (τ.enc z) G.data zv.cells.toList:=nk (Gh.le.refl _) (fun e=>by cases e) br b4 a5
        have a2:∀v∈zv.cells.toList,v.oneCell'=true:=xa a5 b3;have b6:zv.cells.toList.length=τ.sz:=by rw[← a6.length,τ.enc_length]
        have a7:=q7l zv.cells (l.length-lo);have B:∀v∈(List.replicate (l.length-lo) zv.cells.toList).flatten,v.oneCell'=true:=fun v hv=>by
         obtain⟨ys,h1,h2⟩:=List.mem_flatten.1 hv;rw[List.eq_of_mem_replicate h1]at h2;exact a2 v h2
        have av:(List.replicate (l.length-lo) zv.cells.toList).flatten.length=(l.length-lo)*τ.sz:=by rw[Ec,b6]
        have ca:lo*τ.sz+(l.length-lo)*τ.sz=l.length*τ.sz:=by rw[← Nat.add_mul];congr 1;omega
        have ch:l.length*τ.sz<=c*τ.sz:=Nat.mul_le_mul_right _ k4;obtain⟨w',K,s1,s2,s3,s4⟩:=Ao (P:=P) g (lo*τ.sz) E fz (List.replicate (l.length-lo) zv.cells.toList).flatten 0 M w k2 (by rw[av];omega) k3 B
        have p:(execOp a.eval ⟨none,.call { callee := .builtin .clear,args:=#[x],argTypes:=#[t] },ty,Z,r,guard⟩).run P w = .ok (.value (.tuple #[])) w':=by
         obtain⟨m,L⟩:∃m,l.length-lo=m+1:=⟨l.length-lo-1,Ta⟩
         rw[L]at s1 a7;simp[execOp,resolve,invoke,builtin,H,L,Builtin.clear_,ce hu,b5,a7,s1]
        refine g8 Te ?_
        unfold Oper.wp;rw[p];have a9:G.at k (.row τ l E)=some g:=by simp[Gh.at,o1]
        have S:(l.take lo++List.replicate (l.length-lo) z).length=l.length:=by simp;omega
        have bd:(l.take lo++List.replicate (l.length-lo) z).flatMap τ.enc=g9 (l.flatMap τ.enc) (lo*τ.sz) (List.replicate (l.length-lo) (τ.enc z)).flatten:=by
         have e1:l.flatMap τ.enc=(l.take lo).flatMap τ.enc++(l.drop lo).flatMap τ.enc:=by rw[← List.flatMap_append,List.take_append_drop]
         have e2:((l.take lo).flatMap τ.enc).length=lo*τ.sz:=by rw[cK,List.length_take,Nat.min_eq_left Ta]
         have e3:((l.drop lo).flatMap τ.enc).length=(l.length-lo)*τ.sz:=by rw[cK,List.length_drop]
         rw[List.flatMap_append,Rb,e1];have:=Mn (List.replicate (l.length-lo) (τ.enc z)).flatten ((l.take lo).flatMap τ.enc) ((l.drop lo).flatMap τ.enc) 0;rw[e2,Nat.add_zero]at this;rw[this,qsw _ _ (by rw[e3,Ec,τ.enc_length])]
        refine hN G _ _ ⟨j.defers,j.size,j.frame,fun m L b=>j.fresh m L ?_,j.fin.update (bx' := .row τ (l.take lo++List.replicate (l.length-lo) z) E) hl a9 (by simp[Gh.at,o1]) s4 ?_ k9⟩
        ·simp[af]at b;cases f:Nat.beq k m
         ·rw[f]at b;exact b
         ·rw[f]at b;cases b
        ·have C:K.size=M.size:=by
          have:=congrArg List.length s3;rw[A0]at this;simpa using this
         refine⟨some ⟨g,0,none⟩,c,by rw[S];exact o1,.inr ⟨g,K,fz,rfl,s2,by rw[C];exact k3,by rw[S];exact k4,k5,by rw[C];exact k6,?_,?_,k9⟩⟩
         ·rw[S,bd,s3,Nat.add_zero,M5 _ _ _ _ (by have:M.toList.length=M.size:=Array.length_toList;omega)]
          exact EM _ k7 (qal a6 _)
         ·intro u y;rw[s3]at y;rcases A1 _ _ _ _ y with y|y
          ·exact k8 u y
          ·exact B u y
      ·cases h
     ·cases h
    ·cases h
   ·cases h
  ·cases h
 ·cases h
end
def K7(P:Program)(s:St)(o:Oper):Option (Bool×St):=
 match o.op,o.dst with
 |.convert src dst x,some tt=>match s.ev x with
  |some (.own k)=>match af s.hp k,P.underlying src,P.underlying dst with
   |some (.row τ l E),some (.slice _),some (.slice e)=>match P.underlying e with|some (.int .u8)=>bif Nat.beq src dst&&Nat.blt tt s.n then some (decide (0<l.length),{ s with fr:=(tt,.own k)::s.fr,hp:=(k,.row τ l E)::s.hp }) else none|_=>none
   |_,_,_=>none
  |_=>none
 |_,_=>none
section
variable{P:Program}{q72:World}{q7w:Gh}{q7z:List (Nat×ag)}{G:Gh}{s:St}{a:Act}{w:World}
def qmi(n:aj q72 q7w q7z G s a w){o:Oper}{s':St}(h:K7 P s o=some (true,s')){N:Act->World->Prop}(hN:∀G' V w',aj q72 q7w q7z G' s' V w'->N V w'):iw P o a w N:=by
 obtain⟨r,op,ty,S,f,guard⟩:=o;unfold K7 at h;split at h
 ·rename_i p r x U W X;simp only at W X;subst W X;split at h
  ·rename_i k hx;split at h
   ·rename_i τ l E E1 E2 Y F C;split at h
    ·rename_i Q;cases I:Nat.beq p r&&Nat.blt U s.n<;>rw[I]at h<;>simp only[qT,qF,reduceCtorEq,qI,qP,decide_eq_true_eq]at h
     obtain⟨A,rfl⟩:=h;simp only[qA]at I;have O:=qN I.1;subst O;rw[F]at C;cases C;obtain⟨aa,n0,c0,J,R⟩:=cm n hx;obtain⟨ad,c',T,q2⟩:=n.fin.mem.holds _ _ Y;rw[J]at T;simp only[qI,qP]at T;obtain⟨rfl,rfl,rfl⟩:=T;rcases q2 with⟨_,q,_⟩|⟨g,c,H,rfl,Z,k3,k4,k5,k6,k7,k8,k9⟩
     ·subst q;simp at A
     ·have hw:(w.freeze ⟨g,c.size,none⟩ 1).heap[g]? = some (.cells c E (if H.1==H.2 then(c.size,c.size+1) else(min H.1 c.size,max H.2 (c.size+1)))):=by
       simp only[World.freeze,Nat.one_ne_zero,if_false,Array.getElem?_modify,Z];simp
      have e:w.shape? g=some (E,c.size):=by simp only[World.shape?,Z]
      have B:(execOp a.eval ⟨some U,.convert p p x,ty,S,f,guard⟩).run P w = .ok (.value (.slice (some ⟨g,0,none⟩) l.length c0)) (w.freeze ⟨g,c.size,none⟩ 1):=by
       simp[execOp,R,convert,ce F,ce Q,markStringish,e]
      refine g8 Te ?_
      unfold Oper.wp;rw[B];have t:G.at k (.row τ l E)=some g:=by simp[Gh.at,J]
      have u:cr (fun b=>b=g) w (w.freeze ⟨g,c.size,none⟩ 1):=by
       refine⟨rfl,rfl,rfl,?_,fun j hj i => ?_⟩
       ·simp[World.freeze]
       ·simp only[World.freeze,Nat.one_ne_zero,if_false,Array.getElem?_modify];rw[qW (fun q=>i q.symm)]
      have L:dv G (w.freeze ⟨g,c.size,none⟩ 1) k (.row τ l E):=by
       refine⟨some ⟨g,0,none⟩,c0,J,.inr ⟨g,c,_,rfl,hw,?_,k4,k5,k6,k7,k8,k9⟩⟩;refine .inr ?_;split
       ·exact wF _
       ·rename_i i;rcases k3 with rfl|k3
        ·simp at i
        ·simp only;omega
      have z:=n.fin.update (bx' := .row τ l E) Y t t u L k9;have K:Nat.blt U s.n=true:=I.2;refine hN G _ _ ?_;have M:aj q72 q7w q7z G { s with hp:=(k,.row τ l E)::s.hp } a (w.freeze ⟨g,c.size,none⟩ 1):=⟨n.defers,n.size,n.frame,fun m hm d=>n.fresh m hm (by
       simp only[af]at d;cases y:Nat.beq k m
       ·rw[y]at d;exact d
       ·rw[y]at d;cases d),z⟩
      exact jv (v := .own k) M (by simp[St.add,K,qT,List.nil_append]) ⟨_,_,_,J,rfl⟩
    ·cases h
   ·cases h
  ·cases h
 ·cases h
end
def KV(f:FuncId):tv->Bool|.ext f'=>Nat.beq f' f|_=>false
def DT(f:FuncId):List dc->Option dc|[]=>none|e::es=>bif KV f e.key then some e else DT f es
def K1{R:Type}(a:Tb)(s:St)(o:Oper)(K:St->Option R):Option (Option R):=
 match o.op,o.dst with
 |.call { callee := .value g,args,argTypes:=_ },some tt=>match s.ev g,s.evs args.toList with
  |some (.fn (.func f) [] []),some xs=>match DT f a.ents with
   |some e=>match Pts.get e.args (uk s.hp xs) [] with
    |some (d,nm)=>match wi s.hp e.hp nm with
     |some (d',nm')=>bif zW nm'&&Nat.blt tt s.n then
       some ((e.F d d').bind fun r=>bif noRef (e.out.res r).1 then K { s with fr:=(tt,(e.out.res r).1)::s.fr } else none) else none
     |none=>none
    |none=>none
   |none=>none
  |_,_=>none
 |_,_=>none
def Kv{f:FuncId}:∀{b:List dc}{e:dc},DT f b=some e->e∈b/\e.key = .ext f
 |[],e,h=>by cases h
 |e'::b,e,h=>by
  unfold DT at h;cases a:KV f e'.key<;>rw[a]at h<;>simp at h
  ·exact⟨qE _ (Kv h).1,(Kv h).2⟩
  ·subst h;refine⟨qH,?_⟩;unfold KV at a;split at a
   ·rename_i d c;rw[c,qN a]
   ·cases a
section
variable{P:Program}{q72:World}{q7w:Gh}{q7z:List (Nat×ag)}{G:Gh}{s:St}{a:Act}{w:World}{R:Type}{tb:Tb}
def ql8(hT:∀e∈tb.ents,e.Sound P)(E:aj q72 q7w q7z G s a w){o:Oper}{K:St->Option R}{r:Option R}{x:R}(h:K1 tb s o K=some r)(hx:r=some x){N:Act->World->Prop}(hN:∀s',K s'=some x->∀G' W w',aj q72 q7w q7z G' s' W w'->N W w'):iw P o a w N:=by
 obtain⟨aa,op,ty,U,b,guard⟩:=o;unfold K1 at h;split at h
 ·rename_i g args H V X Y;simp only at X Y;subst X Y;split at h
  ·rename_i f xs hg c;split at h
   ·rename_i e he;split at h
    ·rename_i d nm p;split at h
     ·rename_i d' T J;cases C:zW T&&Nat.blt V s.n<;>rw[C]at h<;>simp only[qT,qF,reduceCtorEq,qI]at h
      simp only[qA]at C;have hn:=Su C.1;subst hn;rw[hx]at h;obtain⟨y,hy,h⟩:=Option.bind_eq_some_iff.1 h;cases z:noRef (e.out.res y).1<;>rw[z]at h<;>simp only[qT,qF,reduceCtorEq]at h
      obtain⟨u,t⟩:=Kv he;have F:=hT e u d d' y hy;rw[t]at F;have F:AR P f (Pts.put e.args d) (e.out.res y).1:=F;have j:=(Pts.get_seen p).2 [] rfl (fun n m hh=>by have:=(gG J).1 n m hh;cases this)
      obtain⟨ps,k1,k2⟩:=Fs (gZ (ps:=e.args) (d:=d)) j;obtain⟨z1,z2,z3,z4⟩:=J7 E.fin;obtain⟨fs,Z,O,M,L⟩:=cm E hg;have l:fs=#[]:=Array.eq_empty_of_size_eq_zero (by have:=M.length;simpa using this.symm)
      have k:Z=#[]:=Array.eq_empty_of_size_eq_zero (by have:=L.length;simpa using this.symm)
      subst l k;have i:=nk z1 (fun _=>z4) k1 k2 (cE E c)
      obtain⟨v,B,Q⟩:=F w _ _ z2 i;have S:ai (e.out.res y).1 G v:=E6 (G:=G.allData s.hp w) (G':=G) (fun _ _ q=>q) (fun _ _ q=>q) z Q
      have A:(execOp a.eval ⟨some V,.call { callee := .value g,args:=args,argTypes:=H },ty,U,b,guard⟩).run P w = .ok (.value v) w:=by
       have e3:(args.toList.map a.eval).toArray=args.map a.eval:=by rw[← Array.toArray_toList (xs:=args.map a.eval),Array.toList_map]
       try rw[e3]at B
       simp[execOp,resolve,O,Deferred.ofValue,invoke,B]
      refine g8 Te ?_
      unfold Oper.wp;rw[A];have I:Nat.blt V s.n=true:=C.2;exact hN _ h _ _ _ (jv (v:=(e.out.res y).1) E (by simp[St.add,I,qT,List.nil_append]) S)
     ·cases h
    ·cases h
   ·cases h
  ·cases h
 ·cases h
end
def qcn(P:Program)(t:TypeId):Option Ty:=match P.underlying t with
 |some (.int k)=>match k with|.u8=>some .byte|k=>some (.int k)
 |some .bool=>some .bool|some .string=>some .str|_=>none
def Ty.zero1:(τ:Ty)->Option τ.den|.int _=>some (0:Int)|.byte=>some (0:UInt8)|.bool=>some false|.str=>some ([]:List UInt8)|_=>none
def jF:Ty->AV->Bool
 |.int k,x=>match x with|.int k' n=>decide (k'=k)&&decide (n=0)|_=>false
 |.byte,x=>match x with|.byte c=>decide (c=0)|_=>false
 |.bool,x=>match x with|.bool b => !b|_=>false
 |.str,x=>match x with|.str s=>s.isEmpty|_=>false
 |_,_=>false
def xZ(τ:Ty):List AV->Bool|[]=>true|x::xs=>jF τ x&&xZ τ xs
def Ty.is1:Ty->Bool|.int _=>true|.byte=>true|.bool=>true|.str=>true|_=>false
def PX(P:Program)(T:TypeId):Bool:=match P.underlying T with|some (.array n _)=>Nat.blt 32 n|_=>false
def R2{τ:Ty}(h:τ.is1=true):τ.sz=1:=by cases τ<;>first|rfl|cases h
def qgd{τ:Ty}{z:τ.den}(h:τ.zero1=some z):τ.is1=true:=by cases τ<;>first|rfl|cases h
def qlw{τ:Ty}(h:τ.is1=true)(x:τ.den):τ.enc x=[τ.av x]:=by cases τ<;>first|rfl|cases h
def qiw{τ:Ty}(h:τ.is1=true){x:τ.den}{G:Gh}{v:Value}:ai (τ.av x) G v↔τ.V1 G.imm x v:=by cases τ<;>first|exact Iff.rfl|cases h
def QY{τ:Ty}(h:τ.is1=true):∀(l:List τ.den),l.flatMap τ.enc=l.map τ.av|[]=>rfl|x::l=>by rw[List.flatMap_cons,qlw h,QY h l];rfl
def qai{τ:Ty}(h:τ.is1=true){l:List τ.den}{G:Gh}{vs:List Value}(a:ao (l.flatMap τ.enc) G.data vs):ai (.arr τ l) G (.agg vs.toArray):=by
 rw[QY h]at a;refine⟨vs.toArray,rfl,by simpa using a.length.symm,fun j x b => ?_⟩
 obtain⟨u,c,d⟩:=ni a (i:=j) (x:=τ.av x) (by simp[b])
 exact⟨u,by simpa using c,(qiw h (G:=G.data)).1 d⟩
section
variable{P:Program}{q72:World}{q7w:Gh}{q7z:List (Nat×ag)}{G:Gh}{s:St}{a:Act}{w:World}
end
def Aa:TypeDesc->Bool|.interface _=>false|_=>true
def Lw(P:Program)(s:St)(o:Oper):Option (Bool×St):=
 match o.op,o.dst with
 |.makeInterface T x,some tt=>match s.ev x,P.underlying T with|some v,some d=>bif Aa d&&Nat.blt tt s.n then some (true,{ s with fr:=(tt,.iface T v)::s.fr }) else none|_,_=>none
 |.build T parts,some tt=>bif PX P T then match parts.toList with
  |[]=>match P.underlying T with
   |some (.array n E)=>match qcn P E,lV P s T [] with
    |some τ,some ([],.agg zs)=>match τ.zero1 with|some z=>bif Nat.beq zs.length n&&xZ τ zs&&Nat.blt tt s.n then some (true,{ s with fr:=(tt,.arr τ (List.replicate n z))::s.fr }) else none|none=>none
    |_,_=>none
   |_=>none
  |_=>none else none
 |.binOp op t x y _,some tt=>match s.ev y,P.underlying t with
  | some (.val (.slice none 0 0)),some (.slice _)=>bif Nat.blt tt s.n then(match s.ev x,op with
   |some (.own k),.eql=>match af s.hp k with|some (.row _ l _)=>some (decide (0<l.length),{ s with fr:=(tt,.val (.bool false))::s.fr })|_=>none
   |some (.own k),.neq=>match af s.hp k with|some (.row _ l _)=>some (decide (0<l.length),{ s with fr:=(tt,.val (.bool true))::s.fr })|_=>none
   |some (.val (.slice none 0 0)),.eql=>some (true,{ s with fr:=(tt,.val (.bool true))::s.fr })|some (.val (.slice none 0 0)),.neq=>some (true,{ s with fr:=(tt,.val (.bool false))::s.fr })| _,_=>none) else none
  |_,_=>none
 |_,_=>none
def qge{τ:Ty}{x:AV}{z:τ.den}{G G':Gh}{v:Value}(h:jF τ x=true)(a:τ.zero1=some z)(c:ai x G v):ao (τ.enc z) G' [v]:=by
 cases τ with
 |int k=>
  cases x<;>simp only[jF,wJ,qA,decide_eq_true_eq]at h
  obtain⟨rfl,rfl⟩:=h;cases a;exact⟨c,trivial⟩
 |byte=>
  cases x<;>simp[jF,wJ,decide_eq_true_eq]at h
  subst h;cases a;exact⟨c,trivial⟩
 |bool=>
  cases x with
  |bool b=>
   cases b
   ·cases a;exact⟨c,trivial⟩
   ·cases h
  |_=>cases h
 |str=>
  cases x with
  |str l=>
   cases l
   ·cases a;exact⟨c,trivial⟩
   ·cases h
  |_=>cases h
 |_=>cases a
def PA{τ:Ty}{z:τ.den}{G G':Gh}(b:τ.zero1=some z):∀{a:List AV}{vs:List Value},xZ τ a=true->ao a G vs->ao ((List.replicate a.length z).flatMap τ.enc) G' vs
 |[],[],_,_=>trivial|x::a,v::vs,h,hr=>by
  simp[xZ,qA]at h;rw[qL,List.replicate_succ,List.flatMap_cons];exact w9 (vs:=[v]) (qge h.1 b hr.1) (PA b h.2 hr.2)
 |[],_::_,_,h=>h.elim|_::_,[],_,h=>h.elim
section
variable{P:Program}{q72:World}{q7w:Gh}{q7z:List (Nat×ag)}{G:Gh}{s:St}{a:Act}{w:World}
def qrw{P:Program}{t E:TypeId}(b:P.underlying t=some (.slice E))(d:Nat)(x:Option Addr)(n c:Nat)(w:World)(h:x=none->n=0/\c=0) :
  (Op.equalIn (d+1) t (.slice x n c) (.slice none 0 0)).run P w = .ok x.isNone w:=by
 cases x with
 |none=>obtain⟨rfl,rfl⟩:=h rfl;simp[Op.equalIn,ce b]
 |some a=>simp[Op.equalIn,ce b]
def qrv{P:Program}{t E:TypeId}(b:P.underlying t=some (.slice E))(x:Option Addr)(n c:Nat)(w:World)(h:x=none->n=0/\c=0) :
  (Op.equal t (.slice x n c) (.slice none 0 0)).run P w = .ok x.isNone w:=qrw b 9999 x n c w h
def qpi(r:aj q72 q7w q7z G s a w){o:Oper}{s':St}(h:Lw P s o=some (true,s')){N:Act->World->Prop}(W:∀G' a' w',aj q72 q7w q7z G' s' a' w'->N a' w'):iw P o a w N:=by
 obtain⟨an,J,V,B,b,guard⟩:=o;unfold Lw at h;split at h
 ·rename_i T x A C F;simp only at C F;subst C F;split at h
  ·rename_i v d j U;cases f:Aa d&&Nat.blt A s.n<;>rw[f]at h<;>simp only[qT,qF,reduceCtorEq,qI,qP,true_and]at h
   subst h;simp only[qA]at f;refine g8 Te ?_
   unfold Oper.wp;have e:(execOp a.eval ⟨some A,.makeInterface T x,V,B,b,guard⟩).run P w = .ok (.value (.iface T (a.eval x))) w:=by
    have h1:=f.1;cases d<;>simp only[Aa,wJ]at h1<;>simp[execOp,Instr.makeInterface,ce U]
   rw[e];exact W G _ _ (jv (v := .iface T v) r (by simp only[St.add,f.2,qT,List.nil_append]) ⟨_,rfl,cm r j⟩)
  ·cases h
 ·rename_i T K A C F;simp only at C F;subst C F;cases L:PX P T<;>rw[L]at h<;>simp only[qT,qF,reduceCtorEq]at h
  split at h
  ·rename_i hp;split at h
   ·rename_i n E U;split at h
    ·rename_i τ zs hτ M;split at h
     ·rename_i z hz;cases f:Nat.beq zs.length n&&xZ τ zs&&Nat.blt A s.n<;>rw[f]at h<;>simp only[qT,qF,reduceCtorEq,qI,qP,true_and]at h
      subst h;simp only[qA]at f;have b1:=qN f.1.1;rw[← hp]at M;obtain⟨u,aa,us,rfl,ab⟩:=Pl r M;refine g8 Te ?_
      unfold Oper.wp;have e:(execOp a.eval ⟨some A,.build T K,V,B,b,guard⟩).run P w = .ok (.value (.agg us)) w:=by
       simp only[execOp,Sem.run_bind,aa,Result.andThen_ok];rfl
      rw[e];have H:=PA (G':=G.data) hz f.1.2 ab;rw[b1]at H;have:=qai (qgd hz) (G:=G) H;exact W G _ _ (jv (v := .arr τ (List.replicate n z)) r (by simp only[St.add,f.2,qT,List.nil_append]) this)
     ·cases h
    ·cases h
   ·cases h
  ·cases h
 ·rename_i J t x y p A C F;simp only at C F;subst C F;split at h
  ·rename_i E hy U;cases f:Nat.blt A s.n<;>rw[f]at h<;>simp only[qT,qF,reduceCtorEq]at h
   have ac:a.eval y = .slice none 0 0:=cm r hy;have S:∀(J:BinOp)(q:Bool)(i:Option Addr)(n c:Nat),a.eval x = .slice i n c->(i=none->n=0/\c=0)->(J = .eql/\q=i.isNone\/J = .neq/\q = !i.isNone) ->
     s'={ s with fr:=(A,.val (.bool q))::s.fr }->iw P ⟨some A,.binOp J t x y p,V,B,b,guard⟩ a w N:=by
    intro J q i n c I Q hq Z;subst Z;refine g8 Te ?_
    unfold Oper.wp;have Y:=qrv (P:=P) U i n c w Q;have e:(execOp a.eval ⟨some A,.binOp J t x y p,V,B,b,guard⟩).run P w = .ok (.value (.bool q)) w:=by
     rcases hq with⟨rfl,rfl⟩|⟨rfl,rfl⟩<;>simp[execOp,I,ac,eqGuard,binOp,Y]
    rw[e];exact W G _ _ (jv (v := .val (.bool q)) r (by simp[St.add,f,qT,List.nil_append]) rfl)
   have m:∀{k:Nat}{τ:Ty}{l:List τ.den}{E:TypeId},s.ev x=some (.own k)->af s.hp k=some (.row τ l E)->0<l.length->∃i n c,a.eval x = .slice (some i) n c:=by
    intro k τ l E j O R;obtain⟨ah,n0,c0,o1,I⟩:=cm r j;obtain⟨i,c',q1,q2⟩:=r.fin.mem.holds _ _ O;rw[o1]at q1;simp at q1;obtain⟨rfl,rfl,rfl⟩:=q1;rcases q2 with⟨_,q,_⟩|⟨g,vs,fz,rfl,_⟩
    ·subst q;simp at R
    ·exact⟨_,_,_,I⟩
   split at h
   ·rename_i k j;split at h
    ·rename_i O;simp at h;obtain⟨i,n,c,X⟩:=m j O h.1;exact S _ false _ _ _ X (fun q=>by cases q) (.inl ⟨rfl,rfl⟩) h.2.symm
    ·cases h
   ·rename_i k j;split at h
    ·rename_i O;simp at h;obtain⟨i,n,c,X⟩:=m j O h.1;exact S _ true _ _ _ X (fun q=>by cases q) (.inr ⟨rfl,rfl⟩) h.2.symm
    ·cases h
   ·rename_i j;simp at h;exact S _ true _ _ _ (cm r j) (fun _=>⟨rfl,rfl⟩) (.inl ⟨rfl,rfl⟩) h.symm
   ·rename_i j;simp at h;exact S _ false _ _ _ (cm r j) (fun _=>⟨rfl,rfl⟩) (.inr ⟨rfl,rfl⟩) h.symm
   ·cases h
  ·cases h
 ·cases h
end
def qf(s:List UInt8)(p:Nat):Nat×Nat:=Utf8.decode ⟨s.toArray⟩ p
def KR{R:Type}(P:Program)(s:St)(o:Oper)(K:St->Option R):Option (Option R):=
 match o.op,o.dst with
 |.range T x,some t=>match P.underlying T,s.ev x with
  |some .string,some (.str l)=>bif bq (s.nx+32*t) s.hp&&Nat.blt t s.n then
    some (K { s with fr:=(t,.ptr (s.nx+32*t) 0)::s.fr,hp:=(s.nx+32*t,.it l 0)::s.hp }) else none
  |_,_=>none
 |.next x true,some t=>match s.ev x with
  |some (.ptr b 0)=>match af s.hp b with
   |some (.it l p)=>bif Nat.blt t s.n then
     some (bif Nat.blt p l.length then K { s with fr:=(t,.tup [.val (.bool true),.int .i64 p,.int .i32 (qf l p).1])::s.fr,hp:=(b,.it l (p+(qf l p).2))::s.hp }
      else K { s with fr:=(t,.tup [.val (.bool false)])::s.fr }) else none
   |_=>none
  |_=>none
 |.convert src dst x,some t=>match P.underlying src,P.underlying dst,s.evy x with|some _,some .string,some (.int _ n)=>bif Nat.blt t s.n then some (K { s with fr:=(t,.str (w8 n))::s.fr }) else none|_,_,_=>none
 |_,_=>none
section
variable{P:Program}{q72:World}{q7w:Gh}{q7z:List (Nat×ag)}{G:Gh}{s:St}{a:Act}{w:World}
def qi6(w:World)(B:Nat)(o:Obj):cr (fun b=>b=B) w (w.putObj B o):=
 ⟨rfl,rfl,rfl,Te,fun k _ c=>World.putObj_heap_other c⟩
def aj.setBox(d:aj q72 q7w q7z G s a w){n:Nat}{bx bx':ag}{B:Nat}(k:af s.hp n=some bx)(h:G.at n bx=some B)(e:∀c,G.at n bx'=some c->c=B){o:Obj}
  (f:dv G (w.putObj B o) n bx') (i:∀o,G.imm B o=none):aj q72 q7w q7z G { s with hp:=(n,bx')::s.hp } a (w.putObj B o):=
 ⟨d.defers,d.size,d.frame,fun m j b=>d.fresh m j (by
  simp[af]at b;cases g:Nat.beq n m
  ·rw[g]at b;exact b
  ·rw[g]at b;cases b),d.fin.update' k h e (qi6 w B o) f i⟩
def Gh.addBox(G:Gh)(k:Nat)(B:Nat):Gh:={ imm:=G.imm,box:=fun m=>bif Nat.beq m k then some B else G.box m,own:=G.own }
def Gh.addBox_le{k B:Nat}(h:G.box k=none):G.le (G.addBox k B):=
 ⟨fun _ _ _ h=>h,fun n d b=>by
  show(bif Nat.beq n k then some B else G.box n)=_
  cases c:Nat.beq n k
  ·exact b
  ·(have:=qN c;subst this;rw[h]at b;cases b),fun _ _ h=>h⟩
def Gh.addBox_self{k B:Nat}:(G.addBox k B).box k=some B:=by show(bif Nat.beq k k then some B else G.box k)=_;simp
def Gh.addBox_ne{k B m:Nat}(h:m≠k):(G.addBox k B).box m=G.box m:=by
 show(bif Nat.beq m k then some B else G.box m)=_
 cases b:Nat.beq m k
 ·rfl
 ·exact absurd (qN b) h
def aj.newBox(g:aj q72 q7w q7z G s a w){k:Nat}{bx:ag}{o:Obj}(A:af s.hp k=none)(u:s.nx<=k)(r:∀b,(G.addBox k w.heap.size).at k bx=some b->b=w.heap.size)
  (z:dv (G.addBox k w.heap.size) (w.alloc o) k bx):aj q72 q7w q7z (G.addBox k w.heap.size) { s with hp:=(k,bx)::s.hp } a (w.alloc o):=by
 obtain⟨t,E⟩:=g.fresh k u A;have p:G.le (G.addBox k w.heap.size):=Gh.addBox_le t;have f:∀n b,af [(k,bx)] n=some b->n=k/\b=bx:=fun n b h=>by
  simp[af]at h;cases d:Nat.beq k n
  ·rw[d]at h;cases h
  ·rw[d]at h;simp at h;exact⟨(qN d).symm,h.symm⟩
 have y:∀b o v,G.imm b o=some v->b<w.heap.size:=fun b o v h=>World.block_lt_of_cell? _ _ (g.fin.mem.agree _ _ _ h)
 refine⟨by obtain⟨C,j,l⟩:=g.defers;exact⟨C,j,wo p.box l⟩,g.size,fun i x H=>by obtain⟨v,j,l⟩:=g.frame i x H;exact⟨v,j,l.le p⟩,fun m F q => ?_,?_⟩
 ·simp[af]at q;cases d:Nat.beq k m
  ·rw[d]at q;obtain⟨j,l⟩:=g.fresh m F q;exact⟨by rw[Gh.addBox_ne (fun e=>by subst e;simp at d)];exact j,l⟩
  ·rw[d]at q;cases q
 ·refine g.fin.extend (new:=[(k,bx)]) p (Fe _ _) (fun _ _ _ h => .inl h) (fun b o v h => ?_) g.fin.mem.one ?_ ?_ ?_
  ·rw[World.cell?_alloc_lt _ _ _ (y b o v h)];exact g.fin.mem.agree _ _ _ h
  ·intro n b h;obtain⟨rfl,_⟩:=f n b h;exact A
  ·intro n b h;obtain⟨rfl,rfl⟩:=f n b h;exact⟨z,fun b d=>by rw[r b d];exact wF _⟩
  ·intro n m b B c j l _ _;obtain⟨rfl,_⟩:=f n b j;obtain⟨rfl,_⟩:=f m B l;rfl
def nj(l:List UInt8):(⟨l.toArray⟩:ByteArray).size=l.length:=by simp[ByteArray.size]
def qn2{R:Type}(j:aj q72 q7w q7z G s a w){o:Oper}{K:St->Option R}{r:Option R}{x:R}(h:KR P s o K=some r)(F:r=some x){N:Act->World->Prop}(J:∀s',K s'=some x->∀G' V w',aj q72 q7w q7z G' s' V w'->N V w'):iw P o a w N:=by
 obtain⟨X,op,O,m,f,guard⟩:=o;unfold KR at h;split at h
 ·rename_i T y t q u;simp only at q u;subst q u;split at h
  ·rename_i l hu H;cases g:bq (s.nx+32*t) s.hp&&Nat.blt t s.n<;>rw[g]at h<;>simp only[qT,qF,reduceCtorEq,qI]at h
   simp only[qA]at g;subst h;have Z:=o9 g.1 _ (wF _) Ta
   have C:a.eval y = .string ⟨l.toArray⟩:=cm j H;refine g8 Te ?_
   unfold Oper.wp;have e:(execOp a.eval ⟨some t,.range T y,O,m,f,guard⟩).run P w = .ok (.value (.pointer (some ⟨w.heap.size,0,none⟩))) (w.iter ⟨l.toArray⟩ 0):=by
    simp[execOp,C,run_range_string w T ⟨l.toArray⟩ hu]
   rw[e];have A:=j.newBox (k:=s.nx+32*t) (bx := .it l 0) (o := .stringIter ⟨l.toArray⟩ 0) Z Ta (fun b g=>by
    have g:(G.addBox (s.nx+32*t) w.heap.size).box (s.nx+32*t)=some b:=g;rw[Gh.addBox_self]at g;injection g with g;exact g.symm)
    ⟨w.heap.size,Gh.addBox_self,wu _ _,fun o=>by
     cases hq:(G.addBox (s.nx+32*t) w.heap.size).imm w.heap.size o with
     |none=>rfl|some v=>
      have:=World.block_lt_of_cell? _ _ (j.fin.mem.agree _ _ _ hq);simp at this⟩
   exact J _ F _ _ _ (jv (v := .ptr (s.nx+32*t) 0) A (by simp only[St.add,g.2,qT,List.nil_append]) ⟨w.heap.size,Gh.addBox_self,rfl⟩)
  ·cases h
 ·rename_i y t q u;simp only at q u;subst q u;split at h
  ·rename_i b H;split at h
   ·rename_i l p g;cases E:Nat.blt t s.n<;>rw[E]at h<;>simp only[qT,qF,reduceCtorEq,qI]at h
    subst h;obtain⟨B,I,C⟩:=cm j H;obtain⟨B',M,S,W⟩:=j.fin.mem.holds b _ g;rw[I]at M;injection M with M;subst M
    refine g8 Te ?_
    unfold Oper.wp;cases Q:Nat.blt p l.length<;>rw[Q]at F<;>simp only[qT,qF]at F
    ·have z:¬p<(⟨l.toArray⟩:ByteArray).size:=fun i=>by
      rw[nj]at i;have:Nat.blt p l.length=true:=Nat.ble_eq_true_of_le i;rw[Q]at this;cases this
     have e:(execOp a.eval ⟨some t,.next y true,O,m,f,guard⟩).run P w = .ok (.value (.tuple #[.bool false])) w:=by
      simp[execOp,C,Instr.next,getObj,Sem.run,S,z]
     rw[e];exact J _ F _ _ _ (jv (v := .tup [.val (.bool false)]) j (by simp only[St.add,E,qT,List.nil_append]) ⟨_,rfl,rfl,trivial⟩)
    ·have z:p<(⟨l.toArray⟩:ByteArray).size:=by
      rw[nj];exact Nat.le_of_ble_eq_true Q
     have i:=(Array.getElem?_eq_some_iff.1 S).1;have e:(execOp a.eval ⟨some t,.next y true,O,m,f,guard⟩).run P w = .ok (.value (.tuple #[.bool true,.int .i64 p,.int .i32 (qf l p).1])) (w.putObj B (.stringIter ⟨l.toArray⟩ (p+(qf l p).2))):=by
      simp[execOp,C,Instr.next,getObj,setObj,Sem.run,S,z,goInt,qf,World.putObj]
     rw[e];have A:=j.setBox (bx' := .it l (p+(qf l p).2)) (o := .stringIter ⟨l.toArray⟩ (p+(qf l p).2)) g (show G.at b (.it l p)=some B from I) (fun c L=>by
      have L:G.box b=some c:=L;rw[I]at L;exact(qJ L).symm) ⟨B,I,World.putObj_heap_same i,W⟩ W
     exact J _ F _ _ _ (jv (v := .tup [.val (.bool true),.int .i64 p,.int .i32 (qf l p).1]) A (by simp only[St.add,E,qT,List.nil_append]) ⟨_,rfl,rfl,rfl,rfl,trivial⟩)
   ·cases h
  ·cases h
 ·rename_i U d y t q u;simp only at q u;subst q u;split at h
  ·rename_i ds k n hs Y H;cases E:Nat.blt t s.n<;>rw[E]at h<;>simp only[qT,qF,reduceCtorEq,qI]at h
   subst h;have C:a.eval y = .int k n:=p8 j H;refine g8 Te ?_
   unfold Oper.wp;have e:(execOp a.eval ⟨some t,.convert U d y,O,m,f,guard⟩).run P w = .ok (.value (.string ⟨(w8 n).toArray⟩)) w:=by
    simp[execOp,C,convert,run_underlying hs,run_underlying Y,Conv.intToString,w8]
   rw[e];exact J _ F _ _ _ (jv (v := .str (w8 n)) j (by simp[St.add,E,qT,List.nil_append]) rfl)
  ·cases h
 ·cases h
end
section
variable{P:Program}{q72:World}{q7w:Gh}{q7z:List (Nat×ag)}{G:Gh}{s:St}{a:Act}{w:World}
end
def iI(s:List UInt8):Nat->Nat->List Int|0,_=>[]|f+1,i=>bif Nat.blt i s.length then((qf s i).1:Int)::iI s f (i+(qf s i).2) else[]
def ig(s:List UInt8):List Int:=iI s s.length 0
def Lk{R:Type}(P:Program)(s:St)(o:Oper)(K:St->Option R):Option (Option R):=
 match o.op,o.dst with
 |.makeSlice T x y,some t=>match P.underlying T with
  |some (.slice E)=>match qcn P E,iK P E,gw P E,s.evy x,s.evy y with
   |some τ,some [z0],some 1,some (.int _ n),some (.int _ m)=>match τ.zero1 with
    |some z=>bif jF τ z0&&qj P E&&bq (s.nx+32*t) s.hp&&Nat.blt t s.n then
      some (bif decide (0<=n/\n=m/\n<=4294967296) then K { s with fr:=(t,.own (s.nx+32*t))::s.fr,hp:=(s.nx+32*t,.row τ (List.replicate n.toNat z) E)::s.hp } else none) else none
    |none=>none
   |_,_,_,_,_=>none
  |_=>none
 |.convert src dst x,some t=>match P.underlying src,P.underlying dst with
  |some .string,some (.slice E)=>match P.underlying E,s.ev x with
   |some (.int .i32),some (.str b)=>bif bq (s.nx+32*t) s.hp&&Nat.blt t s.n then
     some (bif decide (b.length<=4294967296) then K { s with fr:=(t,.own (s.nx+32*t))::s.fr,hp:=(s.nx+32*t,.row (.int .i32) (ig b) E)::s.hp } else none) else none
   |_,_=>none
  |some (.slice E),some .string=>match P.underlying E,s.ev x with
   |some (.int .i32),some v=>match Ap s v with|some l=>bif Nat.blt t s.n then some (K { s with fr:=(t,.str (kq l))::s.fr }) else none|none=>none
   |_,_=>none
  |_,_=>none
 |.slice T x lo (some hi) (some mx),some t=>match P.underlying T with
  |some (.slice E)=>match gw P E,lj s lo,s.evy hi,s.evy mx,s.ev x with
   |some sz,some a,some (.int _ b),some (.int _ c),some (.sl τ l)=>bif Nat.beq τ.sz sz&&Nat.blt t s.n then
     some (bif decide (0<=a.getD 0/\a.getD 0<=b/\b<=c/\c<=(l.length:Int)) then K { s with fr:=(t,.sl τ ((l.drop (a.getD 0).toNat).take (b.toNat-(a.getD 0).toNat)))::s.fr } else none) else none
   |_,_,_,_,_=>none
  |_=>none
 |_,_=>none
def qa4(s:List UInt8):∀(f i:Nat)(a:Array Value),Conv.runesFrom ⟨s.toArray⟩ f i a=a++((iI s f i).map (Value.int .i32)).toArray
 |0,i,a=>by simp[Conv.runesFrom,iI]|f+1,i,a=>by
  unfold Conv.runesFrom iI;rw[nj];by_cases h:i<s.length
  ·have b:Nat.blt i s.length=true:=Nat.ble_eq_true_of_le h;rw[qX h,b];simp;rw[show Utf8.decode (⟨s.toArray⟩:ByteArray) i=qf s i from rfl]
   rw[qa4 s f];simp
  ·have b:Nat.blt i s.length=false:=by
    cases c:Nat.blt i s.length
    ·rfl
    ·exact absurd (Nat.le_of_ble_eq_true c) h
   rw[qW h,b];simp
def Mf(s:List UInt8):∀(f i:Nat),(iI s f i).length<=f
 |0,_=>wF _|f+1,i=>by
  unfold iI;cases Nat.blt i s.length
  ·simp
  ·simp;have:=Mf s f (i+(qf s i).2);omega
def QN(G:Gh):∀(l:List Int),ao (List.flatMap (β:=AV) (Ty.int .i32).enc l) G (l.map (Value.int .i32))
 |[]=>trivial|_::l=>⟨rfl,QN G l⟩
section
variable{P:Program}{q72:World}{q7w:Gh}{q7z:List (Nat×ag)}{G:Gh}{s:St}{a:Act}{w:World}
def qs4(w:World)(o:Obj):d7 w (w.drew.alloc o):=⟨rfl,rfl,rfl,Te,fun k b _=>Below.heap_alloc w.drew _ k b⟩
def q7o{τ:Ty}{z:τ.den}{x:AV}{G G':Gh}{v:Value}(h:jF τ x=true)(c:τ.zero1=some z)(b:ai x G v)(n:Nat):ao ((List.replicate n z).flatMap τ.enc) G' (List.replicate n v):=by
 induction n with
 |zero=>trivial|succ n ih=>
  rw[List.replicate_succ,List.replicate_succ,List.flatMap_cons];exact w9 (vs:=[v]) (qge h c b) ih
def qo6{R:Type}(q:aj q72 q7w q7z G s a w){o:Oper}{K:St->Option R}{r:Option R}{x:R}(h:Lk P s o K=some r)(L:r=some x){N:Act->World->Prop}(hN:∀s',K s'=some x->∀G' a' w',aj q72 q7w q7z G' s' a' w'->N a' w'):iw P o a w N:=by
 obtain⟨p,op,ty,U,f,guard⟩:=o;unfold Lk at h;split at h
 ·rename_i T y1 y2 t V W;simp only at V W;subst V W;split at h
  ·rename_i E Q;split at h
   ·rename_i τ z0 kn n km m hτ g ba hn hm;split at h
    ·rename_i z hz;cases d:jF τ z0&&qj P E&&bq (s.nx+32*t) s.hp&&Nat.blt t s.n<;>rw[d]at h<;>simp only[qT,qF,reduceCtorEq,qI]at h
     simp only[qA]at d;subst h;cases Z:decide (0<=n/\n=m/\n<=4294967296)<;>rw[Z]at L<;>simp only[qT,qF,reduceCtorEq]at L
     obtain⟨h0,rfl,h2⟩:=of_decide_eq_true Z;have en:a.eval y1 = .int kn n:=p8 q hn;have em:a.eval y2 = .int km n:=p8 q hm;obtain⟨i,zv,hi,a2,q1,_,q3,q4,q5⟩:=FJ d.1.1.2 ba;unfold iK at g;rw[hi]at g;simp only[a2,qI]at g;obtain⟨v,hv,bk⟩:∃v,zv.cells.toList=[v]/\z0=pb v:=by
      cases hq:zv.cells.toList with
      |nil=>rw[hq]at g;cases g
      |cons v l=>rw[hq]at g;cases l with|nil=>simp only[nW,List.cons.injEq,and_true]at g;exact⟨v,rfl,g.symm⟩|cons _ _=>simp[nW]at g
     have bd:zv.cells=#[v]:=by rw[← Array.toArray_toList (xs:=zv.cells),hv]
     have bb:v.oneCell'=true:=q4 v (by rw[hv];exact List.mem_singleton.2 rfl)
     have M:(i.bytes:Int)*n<=281474976710656:=by
      have:(i.bytes:Int)*n<=32768*4294967296:=Int.mul_le_mul Ta h2 h0 Ta
      omega
     have an:=run_make (P:=P) w T E i zv Q hi a2 kn km n n h0 (Int.le_refl _) M Ta
     have a8:madeCells zv.cells (n.toNat*i.size)=Array.replicate n.toNat v:=by
      rw[q5,Nat.mul_one,bd];apply Array.ext
      ·simp[madeCells]
      ·intro j h1 h2;simp[madeCells,Nat.mod_one]
     rw[a8]at an;have H:τ.sz=1:=R2 (qgd hz);have a1:ai z0 G v:=by rw[bk];exact EK G v
     have J:(List.replicate n.toNat z).length=n.toNat:=List.length_replicate;obtain⟨G',hG⟩:=Am (τ:=τ) (l:=List.replicate n.toNat z) (E:=E) (ad:=some ⟨w.heap.size,0,none⟩) (c:=n.toNat) (us:=List.replicate n.toNat v) (w':=w.alloc (.cells (Array.replicate n.toNat v) E)) q d.1.2 (Fe _ _)
      ⟨by rw[J,H];simp,.inr ⟨w.heap.size,Array.replicate n.toNat v,(0,0),rfl,wu _ _,.inl rfl,by rw[J];exact wF _,Tp,by simp[H],by rw[J,H];simp,fun u Q=>by
       rw[Array.toList_replicate]at Q;rw[(List.mem_replicate.1 Q).2];exact bb⟩⟩ (q7o d.1.1.1 hz a1 _) (fun b d=>by injection d with d;simp at d;omega)
      (s':={ s with fr:=(t,.own (s.nx+32*t))::s.fr,hp:=(s.nx+32*t,.row τ (List.replicate n.toNat z) E)::s.hp }) (by simp only[St.add,d.2,qT,wK,List.nil_append])
     refine g8 Te ?_
     unfold Oper.wp;rw[show(execOp a.eval ⟨some t,.makeSlice T y1 y2,ty,U,f,guard⟩).run P w = .ok (.value (.slice (some ⟨w.heap.size,0,none⟩) n.toNat n.toNat)) (w.alloc (.cells (Array.replicate n.toNat v) E)) by simp[execOp,en,em,an]]
     rw[J]at hG;exact hN _ L _ _ _ hG
    ·cases h
   ·cases h
  ·cases h
 ·rename_i A p y t V W;simp only at V W;subst V W;split at h
  ·rename_i E hs Z;split at h
   ·rename_i b he I;cases d:bq (s.nx+32*t) s.hp&&Nat.blt t s.n<;>rw[d]at h<;>simp only[qT,qF,reduceCtorEq,qI]at h
    simp only[qA]at d;subst h;cases F:decide (b.length<=4294967296)<;>rw[F]at L<;>simp only[qT,qF,reduceCtorEq]at L
    have br:=of_decide_eq_true F;have a5:a.eval y = .string ⟨b.toArray⟩:=cm q I;have av:Conv.runesFrom (⟨b.toArray⟩:ByteArray) (⟨b.toArray⟩:ByteArray).size 0 #[]=((ig b).map (Value.int .i32)).toArray:=by
     rw[qa4,nj];simp[ig]
    have bs:(ig b).length<=b.length:=Mf b _ _;have e:=run_runes_of_string (P:=P) w A p E (⟨b.toArray⟩:ByteArray) hs Z he (by rw[av];simp;omega)
    rw[av]at e;simp only[List.size_toArray,wC]at e;have ab:(ig b).length<=grownCap w (ig b).length 0 E:=grownCap_ge _ _ _ _;have Y:grownCap w (ig b).length 0 E<=maxLen:=grownCap_le_maxLen _ _ _ _ Tp
    obtain⟨G',hG⟩:=Am (τ := .int .i32) (l:=ig b) (E:=E) (ad:=some ⟨w.heap.size,0,none⟩) (c:=grownCap w (ig b).length 0 E) (us:=(ig b).map (Value.int .i32)) (w':=w.drew.alloc (.cells (((ig b).map (Value.int .i32)).toArray++Array.replicate (grownCap w (ig b).length 0 E-(ig b).length) (.int .i32 0)) E)) q d.1 (qs4 _ _)
     ⟨by rw[wC];exact(Nat.mul_one _).symm,.inr ⟨w.heap.size,_,(0,0),rfl,wu w.drew _,.inl rfl,ab,Y,by rw[show(Ty.int IntKind.i32).sz=1 from rfl,Nat.mul_one,Array.size_append,Array.size_replicate,List.size_toArray,wC];omega,by rw[show(Ty.int IntKind.i32).sz=1 from rfl,Nat.mul_one,Array.toList_append,show List.length (α:=(Ty.int IntKind.i32).den) (ig b)=((ig b).map (Value.int .i32)).length from(wC _).symm];exact List.take_left' rfl,fun u Q=>by
      simp only[Array.toList_append,wA,List.mem_map,Array.toList_replicate,List.mem_replicate]at Q;rcases Q with⟨c,_,rfl⟩|⟨_,rfl⟩<;>rfl⟩⟩ (QN _ _) (fun b d=>by injection d with d;simp at d;omega)
     (s':={ s with fr:=(t,.own (s.nx+32*t))::s.fr,hp:=(s.nx+32*t,.row (.int .i32) (ig b) E)::s.hp }) (by simp only[St.add,d.2,qT,wK,List.nil_append])
    refine g8 Te ?_
    unfold Oper.wp;rw[show(execOp a.eval ⟨some t,.convert A p y,ty,U,f,guard⟩).run P w = .ok (.value (.slice (some ⟨w.heap.size,0,none⟩) (ig b).length (grownCap w (ig b).length 0 E))) (w.drew.alloc (.cells (((ig b).map (Value.int .i32)).toArray++Array.replicate (grownCap w (ig b).length 0 E-(ig b).length) (.int .i32 0)) E)) by simp[execOp,a5,e]]
    exact hN _ L _ _ _ hG
   ·cases h
  ·rename_i E hs Z;split at h
   ·rename_i v he I;split at h
    ·rename_i l hl;cases ht:Nat.blt t s.n<;>rw[ht]at h<;>simp only[qT,qF,reduceCtorEq,qI]at h
     subst h;have a0:=qa5 hl;have e:(convert A p (a.eval y)).run P w = .ok (.string ⟨(kq l).toArray⟩) w:=by
      rcases Fd q (cm q I) a0 with⟨b',rfl,_⟩|⟨ad,c,us,a4,h1,h2,X⟩
      ·simp[Ap]at hl
      ·rw[a4];have aa:=LW h1
       cases ad with
       |none=>
        have:l=[]:=by
         rcases X with X|⟨_,_,X,_⟩
         ·rw[aa]at X;simpa using X
         ·cases X
        subst this;rw[run_convert_runes_nil w A p E _ c hs he Z];rfl
       |some ad=>
        have ah:=An (P:=P) (w:=w) (ad:=ad) X;have J:us.length=l.length:=by rw[aa];simp
        rw[J,aa]at ah;rw[run_convert_runes_string w A p E _ _ _ hs he Z,run_runesToString w ad l.length c l ah,qa3]
     refine g8 Te ?_
     unfold Oper.wp;rw[show(execOp a.eval ⟨some t,.convert A p y,ty,U,f,guard⟩).run P w = .ok (.value (.string ⟨(kq l).toArray⟩)) w by simp[execOp,e]]
     exact hN _ L _ _ _ (jv (v := .str (kq l)) q (by simp only[St.add,ht,qT,List.nil_append]) rfl)
    ·cases h
   ·cases h
  ·cases h
 ·rename_i T y lo hi mx t V W;simp only at V W;subst V W;split at h
  ·rename_i E Q;split at h
   ·rename_i sz S kb b kc c τ l H a7 a6 a9 I;cases d:Nat.beq τ.sz sz&&Nat.blt t s.n<;>rw[d]at h<;>simp only[qT,qF,reduceCtorEq,qI]at h
    simp only[qA]at d;subst h;cases F:decide (0<=S.getD 0/\S.getD 0<=b/\b<=c/\c<=(l.length:Int))<;>rw[F]at L<;>simp only[qT,qF,reduceCtorEq]at L
    obtain⟨g0,g1,g2,g3⟩:=of_decide_eq_true F;have hq:=qN d.1;subst hq;obtain⟨ad,cp,hv,hc,hl⟩:=cm q I;have eb:a.eval hi = .int kb b:=p8 q a6;have ec:a.eval mx = .int kc c:=p8 q a9;have C:(Instr.sliceBounds true l.length cp (lo.map a.eval) (some (a.eval hi)) (some (a.eval mx))).run P w = .ok ((S.getD 0).toNat,b.toNat,c.toNat) w:=by
     rcases ug q a7 with⟨rfl,rfl⟩|⟨xo,kx,m,rfl,rfl,be⟩
     ·simp[Instr.sliceBounds,eb,ec,ut (P:=P) (w:=w) (show 0<=c by omega) (show c<=(cp:Int) by omega),ut (P:=P) (w:=w) (show 0<=b by omega) (show b<=(c.toNat:Int) by omega)]
     ·simp only[Option.getD_some]at g0 g1;simp[Instr.sliceBounds,eb,ec,be,ut (P:=P) (w:=w) (show 0<=c by omega) (show c<=(cp:Int) by omega),ut (P:=P) (w:=w) (show 0<=b by omega) (show b<=(c.toNat:Int) by omega),ut (P:=P) (w:=w) g0 (show m<=(b.toNat:Int) by omega)]
    generalize S.getD 0=i0 at *
    have e:(Instr.sliceAt T (a.eval y) (lo.map a.eval) (some (a.eval hi)) (some (a.eval mx))).run P w = .ok (.slice (if c.toNat=i0.toNat then ad else ad.map (·.add (i0.toNat*τ.sz))) (b.toNat-i0.toNat) (c.toNat-i0.toNat)) w:=by
     simp[Instr.sliceAt,Instr.slice,ce Q,hv,C,ku H]
    refine g8 Te ?_
    unfold Oper.wp
    rw[show(execOp a.eval ⟨some t,.slice T y lo (some hi) (some mx),ty,U,f,guard⟩).run P w = .ok (.value (.slice (if c.toNat=i0.toNat then ad else ad.map (·.add (i0.toNat*τ.sz))) (b.toNat-i0.toNat) (c.toNat-i0.toNat))) w by simp[execOp,e]]
    refine hN _ L _ _ _ (jv (v := .sl τ ((l.drop i0.toNat).take (b.toNat-i0.toNat))) q (by simp[St.add,d.2,qT,List.nil_append]) ?_)
    have J:((l.drop i0.toNat).take (b.toNat-i0.toNat)).length=b.toNat-i0.toNat:=by simp;omega
    refine⟨_,_,by rw[J],by rw[J];omega,?_⟩
    rcases hl with rfl|⟨B,o,rfl,O⟩
    ·exact .inl Te
    ·by_cases a3:c.toNat=i0.toNat
     ·exact .inl (List.eq_nil_of_length_eq_zero (by rw[J];omega))
     ·refine .inr ⟨B,o+i0.toNat*τ.sz,by rw[qW a3];simp[qu],fun k y I => ?_⟩
      rw[List.getElem?_take]at I;split at I
      ·rw[List.getElem?_drop]at I;have:=O _ _ I
       rwa [show o+i0.toNat*τ.sz+k*τ.sz=o+(i0.toNat+k)*τ.sz by rw[Nat.add_mul];omega]
      ·cases I
   ·cases h
  ·cases h
 ·cases h
end
def qba(P:Program)(T:TypeId):Bool:=match P.underlying T with
 |some (.struct fs)=>match fs.toList with
  |[f,g]=>match P.underlying f.type,P.underlying g.type with|some (.pointer T'),some (.slice _)=>Nat.beq T' T|_,_=>false
  |_=>false
 |_=>false
def Em:AV->Bool|.val (.pointer none)=>true|_=>false
def Sv(n:Nat):List AV->List AV|[]=>[]|x::cs=>(bif Em x then .pn n else x)::cs
def Mg(P:Program)(s:St)(o:Oper):Option St:=
 match o.op,o.dst with
 | .alloc T,some t=>bif qba P T then(match t7 P s .none o with
  |some ([],s1)=>match af s1.hp (s.nx+32*t) with|some (.cells cs T')=>some { s1 with hp:=(s.nx+32*t,.cells (Sv (s.nx+32*t) cs) T')::s1.hp }|_=>none
  | _=>none) else none
 |_,_=>none
section
variable{P:Program}{q72:World}{q7w:Gh}{q7z:List (Nat×ag)}{G:Gh}{s:St}{a:Act}{w:World}
def aj.rebox{n:Nat}{bx bx':ag}(d:aj q72 q7w q7z G s a w)(h:af s.hp n=some bx)(p:G.at n bx'=G.at n bx)(q:dv G w n bx') :
  aj q72 q7w q7z G { s with hp:=(n,bx')::s.hp } a w:=by
 have k:∀m b,af ((n,bx')::s.hp) m=some b->(m=n/\b=bx')\/af s.hp m=some b:=fun m b e=>by
  simp[af]at e;cases i:Nat.beq n m
  ·rw[i]at e;exact .inr e
  ·rw[i]at e;simp at e;exact .inl ⟨(qN i).symm,e.symm⟩
 have g:∀m b,af ((n,bx')::s.hp) m=some b->∃b0,af s.hp m=some b0/\G.at m b0=G.at m b:=fun m b e=>by
  rcases k m b e with⟨rfl,rfl⟩|f
  ·exact⟨bx,h,p.symm⟩
  ·exact⟨b,f,rfl⟩
 refine⟨d.defers,d.size,d.frame,fun m z j=>d.fresh m z ?_,⟨⟨d.fin.mem.agree,d.fin.mem.one,fun m b e => ?_,fun m t b u c f o x y => ?_,d.fin.mem.tab⟩,d.fin.bel,d.fin.imm_le,d.fin.imm_new,fun m b c f o => ?_,d.fin.keep,d.fin.keepOwn⟩⟩
 ·simp[af]at j;cases i:Nat.beq n m
  ·rw[i]at j;exact j
  ·rw[i]at j;cases j
 ·rcases k m b e with⟨rfl,rfl⟩|f
  ·exact q
  ·exact d.fin.mem.holds m b f
 ·obtain⟨c1,r,l⟩:=g m b f;obtain⟨c2,A,v⟩:=g t u o;exact d.fin.mem.apart m t c1 c2 c r A (l.trans x) (v.trans y)
 ·obtain⟨c1,r,l⟩:=g m b f;exact d.fin.base m c1 c r (l.trans o)
def qnt{x:AV}(h:Em x=true):x = .val (.pointer none):=by
 unfold Em at h;split at h
 ·rfl
 ·cases h
def qrb{n B:Nat}(d:G.box n=some B):∀{cs:List AV}{vs:List Value},ao cs G vs->ao (Sv n cs) G vs
 |[],[],_=>trivial|x::cs,v::vs,⟨b,c⟩=>by
  refine⟨?_,c⟩;cases e:Em x
  ·exact b
  ·have:=qnt e;subst this;exact⟨B,d,.inl b⟩
 |[],_::_,h=>h.elim|_::_,[],h=>h.elim
def qse(m:aj q72 q7w q7z G s a w){o:Oper}{s':St}(h:Mg P s o=some s'){N:Act->World->Prop}(k:∀G' c w',aj q72 q7w q7z G' s' c w'->N c w'):iw P o a w N:=by
 unfold Mg at h;split at h
 ·rename_i T t _ _;cases n:qba P T<;>rw[n]at h<;>simp at h
  split at h
  ·rename_i u l;split at h
   ·rename_i r q e;simp at h;subst h;refine Dm m l trivial fun G' c w' b=>k G' c w' ?_
    obtain⟨B,p,d,f,g,i,j⟩:=b.fin.mem.holds _ _ e;exact b.rebox e rfl ⟨B,p,d,f,qrb d g,i,j⟩
   ·cases h
  ·cases h
 ·cases h
end
def KO:Operand->Bool|.const .nilIface=>true|_=>false
def KP:Operand->Bool|.const (.pointer none)=>true|_=>false
def D6(P:Program)(s:St)(t:TypeId)(x y:Operand):Option Bool:=
 match P.underlying t with
 | some (.interface _)=>bif KO y then(match s.ev x with
  |some (.val .nilIface)=>some true|some (.iface _ _)=>some false| _=>none) else none
 | some (.pointer _)=>bif KP y then(match s.ev x with
  |some (.val (.pointer none))=>some true|some (.ptr _ _)=>some false| _=>none) else none
 |_=>none
def R5(P:Program)(T:TypeId):Bool:=match P.underlying T with
 |some (.array _ E)=>match P.underlying E with|some .string=>true|some (.struct _)=>true|_=>false
 |_=>false
def JZ(P:Program)(s:St)(o:Oper):Option St:=
 match o.op,o.dst with
 | .binOp op t x y _,some tt=>bif Nat.blt tt s.n then(match op with
  |.eql=>match D6 P s t x y with|some b=>some { s with fr:=(tt,.val (.bool b))::s.fr }|none=>none
  |.neq=>match D6 P s t x y with|some b=>some { s with fr:=(tt,.val (.bool (!b)))::s.fr }|none=>none
  | _=>none) else none
 | .store T (.tmp t) _,none=>bif R5 P T&&Nat.blt t s.n then(match af s.fr t with
  |some (.ptr b 0)=>match t7 P s .none o with
   |some ([],s1)=>match af s1.hp b,af s1.fr t with|some (.cells cs _),some (.ptr b' 0)=>bif Nat.beq b' b&&Nat.blt t s1.n then(bif allData (cs.map AV.sym) then some { s1 with fr:=(t,.rop (cs.map AV.sym))::s1.fr,hp:=(b,.dead)::s1.hp } else none) else none|_,_=>none
   |_=>none
  | _=>none) else none
 |_,_=>none
section
variable{P:Program}{q72:World}{q7w:Gh}{q7z:List (Nat×ag)}{G:Gh}{s:St}{a:Act}{w:World}
def aj.ropBox(l:aj q72 q7w q7z G s a w){b t:Nat}{cs:List AV}{T:TypeId}(hb:af s.hp b=some (.cells cs T))(hd:allData (cs.map AV.sym)=true)(ht:af s.fr t=some (.ptr b 0)) :
  ∃G',aj q72 q7w q7z G' { s with fr:=(t,.rop (cs.map AV.sym))::s.fr,hp:=(b,.dead)::s.hp } a w:=by
 obtain⟨B,K,h1,h2,h3,h4,h5⟩:=l.fin.mem.holds _ _ hb
 let G':Gh:={ imm:=fun c o=>if c=B then K[o]? else G.imm c o,box:=G.box,own:=G.own }
 have U:∀c o v,G.imm c o=some v->G'.imm c o=some v:=fun c o v h=>by
  show(if c=B then K[o]? else G.imm c o)=some v
  split
  ·rename_i e;subst e;rw[h5]at h;cases h
  ·exact h
 have hB:∀o,G'.imm B o=K[o]? := fun o=>qX rfl
 have E:∀c,c≠B->∀o,G'.imm c o=G.imm c o:=fun c h o=>qW h
 have M:G.le G':=⟨U,fun _ _ h=>h,fun _ _ h=>h⟩
 have S:∀n bx,G'.at n bx=G.at n bx:=fun n bx=>by cases bx<;>rfl
 have I:G.at b (.cells cs T)=some B:=h1;have d:∀n bx,af ((b,ag.dead)::s.hp) n=some bx->bx = .dead\/(n≠b/\af s.hp n=some bx):=fun n bx h=>by
  simp[af]at h;cases A:Nat.beq b n
  ·rw[A]at h;exact .inr ⟨fun e=>by subst e;simp at A,h⟩
  ·rw[A]at h;simp at h;exact .inl h.symm
 have F:∀n bx c,n≠b->af s.hp n=some bx->G.at n bx=some c->(∀o,G.imm c o=none)->∀o,G'.imm c o=none:=fun n bx c W H p N o=>by
  by_cases e:c=B
  ·subst e;exact absurd (l.fin.mem.apart n b bx _ _ H hb p I) W
  ·rw[E c e];exact N o
 have L:∀o v,K[o]? = some v->w.cell? ⟨B,o,none⟩=some v:=fun o v h=>cell_of_heap h2 (by simpa using h)
 refine⟨G',⟨l.defers,l.size,fun i x J => ?_,fun m hm V => ?_,⟨⟨fun c o v h => ?_,fun c o v h => ?_,fun n bx W => ?_,fun n m bx R c H p N k4 => ?_,LC.mono U (fun _ _ _ _=>rfl) l.fin.mem.tab⟩,l.fin.bel,fun c o v h=>U _ _ _ (l.fin.imm_le c o v h),fun c o v h => ?_,fun n bx c H p => ?_,l.fin.keep,l.fin.keepOwn⟩⟩⟩
 ·simp[af]at J;cases A:Nat.beq t i
  ·rw[A]at J;obtain⟨v,H,p⟩:=l.frame i x J;exact⟨v,H,p.le M⟩
  ·rw[A]at J;simp at J;subst J;have:=qN A;subst this;obtain⟨v,H,B',p,N⟩:=l.frame t _ ht;rw[h1]at p;injection p with p;subst p
   refine⟨v,H,B,0,N,LO U (LR hd (EL h3)) fun i u hu => ?_⟩
   rw[wO,hB];simpa using hu
 ·refine l.fresh m hm ?_;simp[af]at V;cases A:Nat.beq b m
  ·rw[A]at V;exact V
  ·rw[A]at V;cases V
 ·by_cases e:c=B
  ·subst e;rw[hB]at h;exact L o v h
  ·rw[E c e]at h;exact l.fin.mem.agree c o v h
 ·by_cases e:c=B
  ·subst e;rw[hB]at h;exact h4 v (by obtain⟨k,e⟩:=Array.getElem?_eq_some_iff.1 h;rw[← e];simp)
  ·rw[E c e]at h;exact l.fin.mem.one c o v h
 ·rcases d n bx W with rfl|⟨y,Q⟩
  ·trivial
  ·have r:=l.fin.mem.holds n bx Q;have X:=F n bx
   cases bx with
   |cells cs T=>
    obtain⟨C,K,q,O,z,q4,q5⟩:=r;exact⟨C,K,q,O,z.le M,q4,X C y Q (by simp[Gh.at,q]) q5⟩
   |loop st pe f j fr ps aa D=>
    obtain⟨C,Y,DB,q,O,z,q4,q5,q6⟩:=r;exact⟨C,Y,DB,q,O,z,q4,fun i x J=>by obtain⟨v,Z,r2⟩:=q5 i x J;exact⟨v,Z,r2.le M⟩,X C y Q (by simp[Gh.at,q]) q6⟩
   |dfr=>
    obtain⟨C,q,O,z⟩:=r;exact⟨C,q,O,X C y Q (by simp[Gh.at,q]) z⟩
   |it s0 p0=>
    obtain⟨C,q,O,z⟩:=r;exact⟨C,q,O,X C y Q (by simp[Gh.at,q]) z⟩
   |row τ1 l1 E1=>
    obtain⟨ad,c,q,z⟩:=r;refine⟨ad,c,q,?_⟩;rcases z with z|⟨g,K,fz,Z,r2,r3,r4,r5,r6,r7,r8,r9⟩
    ·exact .inl z
    ·exact .inr ⟨g,K,fz,Z,r2,r3,r4,r5,r6,ao.data_le U r7,r8,X g y Q (by subst Z;simp[Gh.at,q]) r9⟩
   |dead=>trivial
 ·rcases d n bx H with rfl|⟨W,j1⟩
  ·cases N
  ·rcases d m R p with rfl|⟨hm,j2⟩
   ·cases k4
   ·rw[S]at N k4;exact l.fin.mem.apart n m bx R c j1 j2 N k4
 ·by_cases e:c=B
  ·subst e;exact .inr (l.fin.base b _ _ hb I)
  ·rw[E c e]at h;exact l.fin.imm_new c o v h
 ·rcases d n bx H with rfl|⟨W,j1⟩
  ·cases p
  ·rw[S]at p;exact l.fin.base n bx c j1 p
def Qw{t:TypeId}{x y:Operand}{p:String}{b:Bool}(m:∀v,s.ev x=some v->ai v G (a.eval x))(h:D6 P s t x y=some b) :
  (∀q:Unit,(do eqGuard .eql t x y (a.eval x) (a.eval y);binOp .eql t (a.eval x) (a.eval y):Sem Value).run P w = .ok (.bool b) w) /\
  (do eqGuard .neq t x y (a.eval x) (a.eval y);binOp .neq t (a.eval x) (a.eval y):Sem Value).run P w = .ok (.bool (!b)) w:=by
 unfold D6 at h;split at h
 ·rename_i z l;cases f:KO y<;>rw[f]at h<;>simp at h
  have f:y = .const .nilIface:=by
   unfold KO at f;split at f
   ·rfl
   ·cases f
  subst f;have g:a.eval (.const .nilIface) = .nilIface:=rfl;have o:∀d,(Op.equalIn (d+1) t .nilIface .nilIface).run P w = .ok true w:=fun d=>by simp[Op.equalIn,ce l]
  have r:∀d n v,(Op.equalIn (d+1) t (.iface n v) .nilIface).run P w = .ok false w:=fun d n v=>by simp[Op.equalIn,ce l]
  have i:(Op.equal t .nilIface .nilIface).run P w = .ok true w:=o 9999;have j:∀n v,(Op.equal t (.iface n v) .nilIface).run P w = .ok false w:=r 9999;split at h
  ·rename_i e;simp at h;subst h;have:=m _ e;simp[ai]at this;rw[this,g];constructor<;>simp[eqGuard,binOp,i]
  ·rename_i e;simp at h;subst h;obtain⟨u,k,_⟩:=m _ e;rw[k,g];constructor<;>simp[eqGuard,binOp,j]
  ·cases h
 ·rename_i z l;cases f:KP y<;>rw[f]at h<;>simp at h
  have f:y = .const (.pointer none):=by
   unfold KP at f;split at f
   ·rfl
   ·cases f
  subst f;have g:a.eval (.const (.pointer none)) = .pointer none:=rfl;have o:∀d,(Op.equalIn (d+1) t (.pointer none) (.pointer none)).run P w = .ok true w:=fun d=>by simp[Op.equalIn,ce l]
  have r:∀d c,(Op.equalIn (d+1) t (.pointer (some c)) (.pointer none)).run P w = .ok false w:=fun d c=>by simp[Op.equalIn,ce l]
  have i:(Op.equal t (.pointer none) (.pointer none)).run P w = .ok true w:=o 9999;have j:∀c,(Op.equal t (.pointer (some c)) (.pointer none)).run P w = .ok false w:=r 9999;split at h
  ·rename_i e;simp at h;subst h;have:=m _ e;simp[ai]at this;rw[this,g];constructor<;>simp[eqGuard,binOp,i]
  ·rename_i e;simp at h;subst h;obtain⟨B,_,k⟩:=m _ e;rw[k,g];constructor<;>simp[eqGuard,binOp,j]
  ·cases h
 ·cases h
def qkj(hr:aj q72 q7w q7z G s a w){o:Oper}{s':St}(h:JZ P s o=some s'){N:Act->World->Prop}(hN:∀G' a' w',aj q72 q7w q7z G' s' a' w'->N a' w'):iw P o a w N:=by
 obtain⟨dst,op,ty,pos,after,guard⟩:=o;unfold JZ at h;split at h
 ·rename_i op t x y p tt e1 e2;simp only at e1 e2;subst e1 e2;cases hb:Nat.blt tt s.n<;>rw[hb]at h<;>simp only[qT,qF,reduceCtorEq]at h
  have go:∀(q:Bool),(do eqGuard op t x y (a.eval x) (a.eval y);binOp op t (a.eval x) (a.eval y):Sem Value).run P w = .ok (.bool q) w->s'={ s with fr:=(tt,.val (.bool q))::s.fr }->iw P ⟨some tt,.binOp op t x y p,ty,pos,after,guard⟩ a w N:=by
   intro q hq hs';subst hs';refine g8 Te ?_
   unfold Oper.wp;have hrun:(execOp a.eval ⟨some tt,.binOp op t x y p,ty,pos,after,guard⟩).run P w = .ok (.value (.bool q)) w:=by
    simp only[execOp,Sem.run_bind,hq,Result.andThen_ok];rfl
   rw[hrun];exact hN G _ _ (jv (v := .val (.bool q)) hr (by simp[St.add,hb,qT,List.nil_append]) rfl)
  split at h
  ·split at h
   ·rename_i b hc;simp at h;exact go b ((Qw (p := "") (fun v hv => cm hr hv) hc).1 ()) h.symm
   ·cases h
  ·split at h
   ·rename_i b hc;simp at h;exact go (!b) (Qw (p := "") (fun v hv => cm hr hv) hc).2 h.symm
   ·cases h
  ·cases h
 ·rename_i T t y e1 e2;simp only at e1 e2;subst e1 e2;cases hb:R5 P T&&Nat.blt t s.n<;>rw[hb]at h<;>simp at h
  split at h
  ·rename_i b _;split at h
   ·rename_i s1 ha;split at h
    ·rename_i cs T' b' hl ht;cases hq:Nat.beq b' b&&Nat.blt t s1.n<;>rw[hq]at h<;>simp at h
     simp only[qA]at hq;have:=qN hq.1;subst this;cases hs:allData (cs.map AV.sym)<;>rw[hs]at h<;>simp at h
     subst h;refine Dm hr ha trivial fun G' a' w' hr' => ?_
     obtain⟨G2,hr2⟩:=hr'.ropBox hl hs ht;exact hN _ _ _ hr2
    ·cases h
   ·cases h
  ·cases h
 ·cases h
end
end Go.Sym
namespace Go.Sym
open Go.RowKit
variable{TT:List PanicEntry->Act->World->Prop}[LC]
structure Md:Type where
 f:List (Nat×AV)
 h:List (Nat×ag)
def St.addM(s:St)(m:Md):St:={ s with fr:=m.f++s.fr,hp:=m.h++s.hp }
def zE(K:List Nat):List (Nat×ag)->List (Nat×ag)|[]=>[]|(n,b)::r=>bif cg K n then zE K r else(n,b)::zE K r
def St.hide(s:St)(K:List Nat):St:={ s with hp:=zE K s.hp }
def Ld{K:List Nat}:∀{l:List (Nat×ag)}{n:Nat}{b:ag},af (zE K l) n=some b->af l n=some b/\n∉K
 |[],n,b,h=>by cases h
 |(k,v)::r,n,b,h=>by
  simp[zE]at h;cases c:cg K k<;>rw[c]at h<;>simp at h
  ·simp[af]at h ⊢;cases a:Nat.beq k n<;>rw[a]at h<;>simp at h ⊢
   ·exact Ld h
   ·refine⟨h,fun e => ?_⟩
    rw[← qN a]at e;rw[gu.2 e]at c;cases c
  ·obtain⟨f,d⟩:=Ld h;refine⟨?_,d⟩;simp[af];cases a:Nat.beq k n
   ·exact f
   ·exfalso;apply d;rw[← qN a];exact gu.1 c
def zl(s:St)(q:Prop)(a:List AV)(names:List (Nat×Nat))(xs:List AV)(hp:List (Nat×ag))(r:AV)(hp':List (Nat×ag))(t:Nat):Option (List Prop×Md):=
 bif eh names&&qz names&&bq (s.nx+32*t) s.hp&&Nat.blt t s.n then
  match ja (bf names) s.hp names,ci false [] (AV.rens (bf names) a) xs with
  |some hpv,some ps1=>match lz hpv hp with|some ps2=>some (q::(ps1++ps2),⟨[(t,r.ren (iq names hp' (s.nx+32*t)))],ow (iq names hp' (s.nx+32*t)) hp'++pz names⟩)|none=>none
  |_,_=>none
 else none
def Sg{s:St}{q:Prop}{a:List AV}{names:List (Nat×Nat)}{xs:List AV}{hp:List (Nat×ag)}{r:AV}{hp':List (Nat×ag)}{t:Nat}{ps:List Prop}{m:Md}(h:zl s q a names xs hp r hp' t=some (ps,m)):uo s q a names xs hp r hp' t=some (ps,s.addM m):=by
 unfold zl at h;unfold uo;cases e:eh names&&qz names&&bq (s.nx+32*t) s.hp&&Nat.blt t s.n<;>rw[e]at h<;>simp only[qT,qF,reduceCtorEq]at h ⊢
 split at h
 ·rename_i f g b c;split at h
  ·rename_i i d;simp only[qI,qP]at h;obtain⟨rfl,rfl⟩:=h;rw[b,c];simp[d,St.addM,wM,qS]
  ·cases h
 ·cases h
def M4{ρ:Nat->Option Nat}{hp hp':List (Nat×ag)}(a:∀n b,af hp n=some b->af hp' n=some b):∀{l:List (Nat×Nat)}{r:List (Nat×ag)},ja ρ hp l=some r->ja ρ hp' l=some r
 |[],_,h=>h|(m,n)::l,r,h=>by
  simp[ja]at h ⊢;split at h
  ·rename_i b l' c d;rw[a _ _ c,M4 a d];exact h
  ·cases h
def Sh{t s:St}{q:Prop}{g:List AV}{names:List (Nat×Nat)}{xs:List AV}{hp:List (Nat×ag)}{r:AV}{hp':List (Nat×ag)}{d:Nat}{R:List Prop×Md}(e:∀n b,af t.hp n=some b->af s.hp n=some b)(a:bq (s.nx+32*d) s.hp=true)(f:t.nx=s.nx)(k:t.n=s.n)
  (h:zl t q g names xs hp r hp' d=some R):zl s q g names xs hp r hp' d=some R:=by
 unfold zl at h ⊢;cases c:eh names&&qz names&&bq (t.nx+32*d) t.hp&&Nat.blt d t.n<;>rw[c]at h<;>simp at h
 simp only[qA]at c;rw[a,← k,c.1.1.1,c.1.1.2,c.2,← f];split at h
 ·rename_i l m i j;rw[M4 e i,j];exact h
 ·cases h
def gY(P:Program)(t:St)(d:D)(o:Oper):Option (List Prop×Md):=
 match o.op,o.dst with
 |.store T x y,none=>match t.ev x,t.ev y,gw P T with
  |some (.ptr b off),some v,some n=>match af t.hp b with|some (.cells cs T')=>bif Nat.beq v.cells.length n&&AV.ones v.cells&&Nat.ble (off+n) cs.length then some ([],⟨[],[(b,.cells (g9 cs off v.cells) T')]⟩) else none|_=>none
  |_,_,_=>none
 |.call { callee := .builtin .append,args,argTypes },some tt=>match args.toList,argTypes.toList with
  |[x,y],[ty,ty2]=>match t.ev x,t.ev y with
   |some (.own k),some v=>match af t.hp k with
    |some (.row τ0 l0 E0)=>match qt P t d ty ty2 (l0.flatMap τ0.enc) l0.length v with|some (ps,.row τ l E)=>bif bq (t.nx+32*tt) t.hp&&Nat.beq τ.sz τ0.sz&&Nat.beq E E0&&Nat.blt tt t.n then some (ps,⟨[(tt,.own (t.nx+32*tt))],[(t.nx+32*tt,.row τ l E),(k,.dead)]⟩) else none|_=>none
    |_=>none
   |_,_=>none
  |_,_=>none
 |.call { callee := .value g,args,argTypes:=_ },some tt=>match t.ev g,t.evs args.toList,d with|some (.fn (.func f) fst cap),some ys,.mem names xs hp r hp'=>zl t (Plain P f/\di P f xs hp r hp') ((fst++ys)++cap) names xs hp r hp' tt|_,_,_=>none
 |_,_=>none
def Sn{P:Program}{t:St}{d:D}{o:Oper}{ps:List Prop}{m:Md}(h:gY P t d o=some (ps,m)):t7 P t d o=some (ps,t.addM m):=by
 obtain⟨O,op,H,p,a,guard⟩:=o;unfold gY at h;split at h
 ·rename_i T x y i e;simp only at i e;subst i e;split at h
  ·rename_i b G v n w z S;split at h
   ·rename_i N Y Q;cases q:Nat.beq v.cells.length n&&AV.ones v.cells&&Nat.ble (G+n) N.length<;>rw[q]at h<;>simp at h
    obtain⟨rfl,rfl⟩:=h;unfold t7;rw[show gq P t d ⟨none,.store T x y,H,p,a,guard⟩=none from rfl]
    simp[t8,w,z,S,Q,q,qT];rfl
   ·cases h
  ·cases h
 ·rename_i args argTypes u i e;simp only at i e;subst i e;split at h
  ·rename_i x y t1 t2 J L;split at h
   ·rename_i k v w z;split at h
    ·rename_i I Z M R;split at h
     ·rename_i V τ l E C;cases q:bq (t.nx+32*u) t.hp&&Nat.beq τ.sz I.sz&&Nat.beq E M&&Nat.blt u t.n<;>rw[q]at h<;>simp at h
      obtain⟨rfl,rfl⟩:=h;have c:gq P t d ⟨some u,.call { callee := .builtin .append,args:=args,argTypes:=argTypes },H,p,a,guard⟩=none:=by
       simp[gq,d6,lg,J,L,w,z]
      unfold t7;rw[c];simp[t8,J,L,w,z,R,C,q,qT];rfl
     ·cases h
    ·cases h
   ·cases h
  ·cases h
 ·rename_i g args argTypes u i e;simp only at i e;subst i e;split at h
  ·rename_i f B A X j W U r F K s;have c:gq P t (.mem j W U r F) ⟨some u,.call { callee := .value g,args:=args,argTypes:=argTypes },H,p,a,guard⟩=none:=by
    simp[gq,d6,lg,K,s]
   unfold t7;rw[c];simp[t8,K,s];rw[qS B X A]at h;exact Sg h
  ·cases h
 ·cases h
def qo8{P:Program}{t st:St}{d:D}{o:Oper}{R:List Prop×Md}(s:tw o t st)(A:t.n=st.n)(h:gY P t d o=some R):gY P st d o=some R:=by
 obtain⟨I,Z,ty,S,u,guard⟩:=o;have f:=s.ev;have i:=s.hp;have a:=s.room;have q:=s.nx;simp only at f a;unfold gY at h ⊢;split at h
 ·rename_i T x y m j;simp only at m j;subst m j;rw[f x Tg,f y Tg]at h
  split at h
  ·rename_i b Q v n B N A;split at h
   ·rename_i W V L;simp[i _ _ L];exact h
   ·cases h
  ·cases h
 ·rename_i c e r m j;simp only at m j;subst m j;have G:∀z∈c.toList,t.ev z=st.ev z:=fun z O=>f z (by simp[Op.operands,Call.operands];simpa using O)
  split at h
  ·rename_i x y t1 t2 F X;rw[G x (by rw[F];simp),G y (by rw[F];simp)]at h
   split at h
   ·rename_i k v B N;split at h
    ·rename_i C Y H M;simp[i _ _ M];split at h
     ·rename_i U τ l E w;simp[Pk i w];cases p:bq (t.nx+32*r) t.hp&&Nat.beq τ.sz C.sz&&Nat.beq E H&&Nat.blt r t.n<;>rw[p]at h<;>simp only[qT,qF,reduceCtorEq]at h
      simp only[qA]at p;rw[a r rfl,← A,p.1.1.2,p.1.2,p.2,← q];exact h
     ·cases h
    ·cases h
   ·cases h
  ·cases h
 ·rename_i g c e r m j;simp only at m j;subst m j;have J:t.ev g=st.ev g:=f g Tx
  have K:t.evs c.toList=st.evs c.toList:=nF (fun x B=>f x (by simp[Op.operands,Call.operands];exact .inr (by simpa using B)))
  rw[J,K]at h;split at h
  ·exact Sh i (a r rfl) q A h
  ·cases h
 ·cases h
def gy{β:Type}(A:Nat->List (Nat×β)):List Nat->List (Nat×β)->List (Nat×β)|[],b=>b|i::L,b=>A i++gy A L b
def zO{β:Type}(l r:List (Nat×β))(n:Nat):af (l++r) n=match af l n with|some b=>some b|none=>af r n:=by
 induction l with
 |nil=>rfl|cons x l ih=>
  obtain⟨k,v⟩:=x;simp[wK,af];cases Nat.beq k n<;>simp[ih]
def qb{β:Type}:∀{l:List (Nat×β)}{m:Nat},af l m≠none->∃e∈l,e.1=m
 |[],m,h=>absurd rfl h|(k,v)::r,m,h=>by
  simp[af]at h;cases a:Nat.beq k m
  ·rw[a]at h;obtain⟨e,b,c⟩:=qb h;exact⟨e,qE _ b,c⟩
  ·exact⟨(k,v),qH,qN a⟩
def Qo{β:Type}(A:Nat->List (Nat×β)):∀(L M:List Nat)(b:List (Nat×β)),gy A (L++M) b=gy A L (gy A M b)|[],M,b=>rfl|i::L,M,b=>by simp[wK,gy,Qo A L M b]
def mL{β:Type}{A:Nat->List (Nat×β)}{x:Nat}{b:List (Nat×β)}:∀{L:List Nat},(∀j∈L,af (A j) x=none)->af (gy A L b) x=af b x
 |[],_=>rfl|i::L,h=>by
  simp[gy];rw[zO,h i qH];exact mL (fun j a=>h j (qE _ a))
def Sj{β:Type}{A:Nat->List (Nat×β)}{b:List (Nat×β)}:∀{L:List Nat}{e:Nat×β},e∈gy A L b->(∃j∈L,e∈A j)\/e∈b
 |[],e,h => .inr h|i::L,e,h=>by
  rcases List.mem_append.1 h with h|h
  ·exact .inl ⟨i,qH,h⟩
  ·rcases Sj h with⟨j,a,c⟩|h
   ·exact .inl ⟨j,qE _ a,c⟩
   ·exact .inr h
def ot(a:Nat->List Nat):List Nat->Prop|[]=>True|i::L=>i∉L/\(∀j∈a i,j∈L)/\ot a L
def ot.closed{a:Nat->List Nat}:∀{L:List Nat},ot a L->∀i∈L,∀j∈a i,j∈L
 |[],_,i,hi,_,_=>by cases hi
 |k::L,h,i,hi,j,hj=>by
  rcases List.mem_cons.1 hi with rfl|hi
  ·exact qE _ (h.2.1 j hj)
  ·exact qE _ (h.2.2.closed i hi j hj)
def JW{β:Type}{A:Nat->List (Nat×β)}{x:Nat}{b:List (Nat×β)}{l:Nat->List Nat}:∀{L:List Nat},ot l L->(∀i∈L,∀j∈L,i<j->af (A i) x≠none->af (A j) x≠none->i∈l j) ->
  ∀j∈L,af (A j) x≠none->(∀k∈L,af (A k) x≠none->k<=j)->af (gy A L b) x=af (A j) x
 |[],_,_,j,hj,_,_=>by cases hj
 |i::L,hg,hd,j,hj,hx,hm=>by
  simp[gy];rw[zO]
  cases f:af (A i) x with
  |some v=>
   have g:i<=j:=hm i qH (by rw[f];simp)
   rcases Nat.lt_or_eq_of_le g with h|h
   ·exfalso;have d:j∈L:=by
     rcases List.mem_cons.1 hj with e|e
     ·omega
     ·exact e
    exact hg.1 (hg.2.2.closed j d i (hd i qH j hj h (by rw[f];simp) hx))
   ·subst h;rw[f]
  |none=>
   have d:j∈L:=by
    rcases List.mem_cons.1 hj with e|e
    ·subst e;exact absurd f hx
    ·exact e
   exact JW hg.2.2 (fun a m c n=>hd a (qE _ m) c (qE _ n)) j d hx (fun k o=>hm k (qE _ o))
def QT(p:Nat->Prop):∀(L:List Nat),(∃j∈L,p j)->∃j∈L,p j/\∀k∈L,p k->k<=j
 |[],h=>by obtain⟨j,b,_⟩:=h;cases b
 |i::L,h=>by
  by_cases f:∃j∈L,p j
  ·obtain⟨j,b,d,l⟩:=QT p L f;by_cases g:p i/\j<i
   ·exact⟨i,qH,g.1,fun k c a=>by
     rcases List.mem_cons.1 c with e|e
     ·omega
     ·have:=l k e a;omega⟩
   ·exact⟨j,qE _ b,d,fun k c a=>by
     rcases List.mem_cons.1 c with e|e
     ·subst e;have:¬j<k:=fun h=>g ⟨a,h⟩
      omega
     ·exact l k e a⟩
  ·obtain⟨j,b,d⟩:=h;rcases List.mem_cons.1 b with e|e
   ·subst e;exact⟨j,qH,d,fun k c a=>by
     rcases List.mem_cons.1 c with e|e
     ·omega
     ·exact absurd ⟨k,e,a⟩ f⟩
   ·exact absurd ⟨j,e,d⟩ f
def D4{β:Type}{A:Nat->List (Nat×β)}{x:Nat}{b:List (Nat×β)}{n:Nat->List Nat}{L d:List Nat}(s:ot n L)(g:ot n d)(o:∀i j,(i∈L\/i∈d)->(j∈L\/j∈d)->i<j->af (A i) x≠none->af (A j) x≠none->i∈n j)
  (l:∀j,af (A j) x≠none->(j∈L↔j∈d)):af (gy A L b) x=af (gy A d b) x:=by
 by_cases c:∃j∈L,af (A j) x≠none
 ·obtain⟨j,a,m,p⟩:=QT (fun j=>af (A j) x≠none) L c
  rw[JW s (fun i h j a=>o i j (.inl h) (.inl a)) j a m p,JW g (fun i h j a=>o i j (.inr h) (.inr a)) j ((l j m).1 a) m (fun k t e=>p k ((l k e).2 t) e)]
 ·have q:∀j∈L,af (A j) x=none:=fun j a=>by
   cases f:af (A j) x with|none=>rfl|some v=>exact absurd ⟨j,a,by rw[f];simp⟩ c
  have r:∀j∈d,af (A j) x=none:=fun j a=>by
   cases f:af (A j) x with|none=>rfl|some v=>exact absurd ⟨j,(l j (by rw[f];simp)).2 a,by rw[f];simp⟩ c
  rw[mL q,mL r]
def KE{sel:List Nat}{d:Nat->List Nat}:∀(m:Nat),(∀i,i<m->i∈sel->∀j∈d i,j<i/\j∈sel)->ot d (((List.range' 0 m).filter (cg sel)).reverse)
 |0,_=>trivial|m+1,h=>by
  have c:=KE m (fun i f=>h i Ta)
  rw[List.range'_1_concat,List.filter_append,List.reverse_append,wO];cases b:cg sel m
  ·rw[List.filter_cons_of_neg (by simp[b])];exact c
  ·rw[List.filter_cons_of_pos b];refine⟨fun a => ?_,fun j e => ?_,c⟩
   ·have a:m∈((List.range' 0 m).filter (cg sel)).reverse:=a;simp only[List.mem_reverse,List.mem_filter,List.mem_range'_1]at a;omega
   ·have:=h m Ta (gu.1 b) j e
    show j∈((List.range' 0 m).filter (cg sel)).reverse;rw[List.mem_reverse,List.mem_filter,List.mem_range'_1,gu];exact⟨⟨Ta,Ta⟩,this.2⟩
def gm(Rs:List HR)(a:List (Nat×Md))(j:Nat):List (Nat×AV):=match af a j with
 |some md=>md.f|none=>match Rs[j]? with|some r=>[(r.dst,r.v)]|none=>[]
def ez(Rs:List HR)(a:List (Nat×Md))(j:Nat):List (Nat×ag):=match af a j with
 |some md=>md.h|none=>match Rs[j]? with|some r=>r.new|none=>[]
def ko(Rs:List HR)(j:Nat):List Nat:=match Rs[j]? with|some r=>r.pred|none=>[]
def gn(Rs:List HR)(a:List (Nat×Md))(L:List Nat)(s:St):St:={ s with fr:=gy (gm Rs a) L s.fr,hp:=gy (ez Rs a) L s.hp }
def ff(a:List (Nat×Md))(sel:List Nat):List HR->Nat->St->St
 |[],_,t=>t| r::rs,j,t=>ff a sel rs (j+1) (bif cg sel j then(match af a j with
  |some md=>t.addM md| none=>t.addR r) else t)
def xU{Rs:List HR}{a:List (Nat×Md)}{sel:List Nat}:∀(rs:List HR)(j:Nat)(t:St),(∀k,k<rs.length->Rs[j+k]? = rs[k]?)->ff a sel rs j t=gn Rs a (((List.range' j rs.length).filter (cg sel)).reverse) t
 |[],j,t,_=>rfl|r::rs,j,t,h=>by
  have c:Rs[j]? = some r:=by simpa using h 0 Te
  rw[ff,xU rs (j+1) _ (fun k d=>by have:=h (k+1) Td;rw[show j+1+k=j+(k+1) by omega,this];simp),qL,List.range'_succ]
  cases b:cg sel j
  ·rw[List.filter_cons_of_neg (by simp[b])];rfl
  ·rw[List.filter_cons_of_pos b,List.reverse_cons];simp only[gn,Qo,gy,qT,gm,ez,c];cases af a j<;>rfl
def iv(Cs:List (Nat×List Nat×List Nat))(a:List Nat)(i:Nat):List Nat:=match Cs with|[]=>[]|(m,K,Pm)::r=>bif Nat.beq m i||cg a m||cg Pm i then iv r a i else K++iv r a i
def Sk{a:List Nat}{i x:Nat}:∀{Cs:List (Nat×List Nat×List Nat)}{m:Nat}{K b:List Nat},(m,K,b)∈Cs->m≠i->m∉a->i∉b->x∈K->x∈iv Cs a i
 |(m',K',P')::Cs,m,K,b,h,h1,h2,h3,h4=>by
  simp[iv];rcases List.mem_cons.1 h with e|h
  ·simp at e;obtain⟨rfl,rfl,rfl⟩:=e;have f:(Nat.beq m i||cg a m||cg b i)=false:=by
    simp;refine⟨⟨?_,?_⟩,?_⟩
    ·cases c:Nat.beq m i
     ·rfl
     ·exact absurd (qN c) h1
    ·cases c:cg a m
     ·rfl
     ·exact absurd (gu.1 c) h2
    ·cases c:cg b i
     ·rfl
     ·exact absurd (gu.1 c) h3
   rw[f];exact List.mem_append.2 (.inl h4)
  ·have d:=Sk h h1 h2 h3 h4;cases Nat.beq m' i||cg a m' || cg P' i
   ·exact List.mem_append.2 (.inr d)
   ·exact d
def o6(lo k:Nat):Prop:=lo<=k/\k<lo+32
def EB{Rs:List HR}:∀{b:List Edge}{l:List Nat},pc Rs b=some l->∀e∈b,Region.binds .any e=true->∀r,Rs[e.on]? = some r->∀j∈r.pred,j∈l
 |[],l,_,e,he,_,_,_,_,_=>by cases he
 |e0::b,l,h,e,he,hb,r,hr,j,hj=>by
  simp[pc]at h;cases a:Region.binds .any e0<;>rw[a]at h<;>simp at h
  ·rcases List.mem_cons.1 he with rfl|he
   ·rw[a]at hb;cases hb
   ·exact EB h e he hb r hr j hj
  ·split at h
   ·rename_i f l' c d;simp at h;subst h;rw[zT];rcases List.mem_cons.1 he with rfl|he
    ·rw[hr]at c;cases c;exact .inl (qE _ hj)
    ·exact .inr (EB d e he hb r hr j hj)
   ·cases h
section
variable{P:Program}{q72:World}{q7w:Gh}{q7z:List (Nat×ag)}{s:St}
structure ou(ops:Array Oper)(s:St)(Rs:List HR)(Ms:List (Nat×Md))(Cs:List (Nat×List Nat×List Nat))(i:Nat)(o:Oper)(r:HR):Prop where
 get:Rs[i]? = some r
 room:bq (s.nx+32*r.dst) s.hp=true
 pred:pc (Rs.take i) o.after.toList=some r.pred
 fresh:rh r.dst (Rs.take i)=true
 reads:uq r.pred (lv ops o) (Rs.take i) 0=true
 writes:vc ops r.dst r.pred i=true
 f:∀e∈gm Rs Ms i,e.1=r.dst
 h:∀e∈ez Rs Ms i,o6 (s.nx+32*r.dst) e.1\/(af Ms i≠none/\(∃K Pm,(i,K,Pm)∈Cs/\e.1∈K/\∀j∈Pm,j∈r.pred)/\((∃b,af s.hp e.1=some b)\/∃c rc,c∈r.pred/\Rs[c]? = some rc/\o6 (s.nx+32*rc.dst) e.1)/\∀j,j<i->af Ms j≠none->j∈r.pred)
def iy(s:St)(Rs:List HR)(a:List (Nat×Md))(Cs:List (Nat×List Nat×List Nat))(i:Nat)(r:HR):St:=(ff a r.pred (Rs.take i) 0 s).hide (iv Cs r.pred i)
def pS(P:Program)(o:Oper)(t:St)(f:Md):Prop:=∀(b:St),tw o t b->t.n=b.n->∀(q72:World)(q7w:Gh)(q7z:List (Nat×ag))(G:Gh)(a:Act)(w:World),aj q72 q7w q7z G b a w->∀N:Act->World->Prop,(∀e c d,aj q72 q7w q7z e (b.addM f) c d->N c d)->iw P o a w N
def qo7{P:Program}{t:St}{d:D}{o:Oper}{ps:List Prop}{a:Md}(h:gY P t d o=some (ps,a))(hp:ay ps):pS P o t a:=
 fun _ f c _ _ _ _ _ _ e _ b=>Dm e (Sn (qo8 f c h)) hp b
def Jo(P:Program)(TT:List PanicEntry->Act->World->Prop)(q72:World)(q7w:Gh)(q7z:List (Nat×ag))(n:Nat)(s:St)(Rs:List HR)(b:List (Nat×Md))(Cs:List (Nat×List Nat×List Nat))(i:Nat)(o:Oper)(r:HR):Prop:=
 o.guard=none/\(∀t,o.dst=some t->t=r.dst/\t<s.n)/\∀L:List Nat,(∀j∈L,j<n)->tw o (iy s Rs b Cs i r) (gn Rs b L s)->∀(G:Gh)(a:Act)(w:World),aj q72 q7w q7z G (gn Rs b L s) a w->∀N:Act->World->Prop,uw P TT o a w N
def IV(P:Program)(s:St)(Rs:List HR)(c:List (Nat×Md))(Cs:List (Nat×List Nat×List Nat))(i:Nat)(o:Oper)(r:HR)(b:Nat)(T:TypeId)(a k:Nat):Prop:=
 af c i=none/\o.guard=none/\o.dst=some r.dst/\r.dst<s.n/\r.new=[]/\r.v = .own k/\(∃x,o.op = .load T x/\(iy s Rs c Cs i r).ev x=some (.ptr b a))/\∃d E,af s.hp b=some (.cells d E)/\l8 P T d a=some (.own k)
def Pg(P:Program)(e:List (Nat×Md))(b:Nat)(T:TypeId)(a k:Nat):Prop:=∀j d bx,af e j=some d->af d.h b=some bx->∃c E,bx = .cells c E/\l8 P T c a=some (.own k)
def lS(P:Program)(ops:Array Oper)(s:St)(Rs:List HR)(a:List (Nat×Md))(Cs:List (Nat×List Nat×List Nat))(i:Nat)(o:Oper)(r:HR):Prop:=
 (af a i=none/\o.dst=some r.dst/\r.dst<s.n/\∃f,∃c:xw,mq P ops (iy s Rs a Cs i r) c o=some (f,r.v,r.new)/\ay f) \/
 (∃e,af a i=some e/\o.guard=none/\(∀t,o.dst=some t->t=r.dst/\t<s.n)/\pS P o (iy s Rs a Cs i r) e) \/
 (∃b T d k,IV P s Rs a Cs i o r b T d k/\Pg P a b T d k)
def Rm{B:Nat->Prop}{ops:Array Oper}{n:Nat}{Rs:List HR}{z:List (Nat×Md)}{Cs:List (Nat×List Nat×List Nat)}{N:Act->World->Prop}(hn:n<=ops.size)(bd:nz ops.toList 0=true)(ac:Rs.length=n)
  (ds:∀(L:List Nat)(p:Array Bool)(i:Nat)(o:Oper),Inv ops n L p->(∀j∈L,¬B j)->ops[i]? = some o->(∀e∈o.after,Region.binds .any e=true->e.on∈L)->(∃i0,i0<n/\i0∉L)->i<n)
  (hO:∀i o,i<n->ops[i]? = some o->∃r,ou ops s Rs z Cs i o r/\((¬B i/\lS P ops s Rs z Cs i o r)\/(B i/\Jo P TT q72 q7w q7z n s Rs z Cs i o r)))
  (c9:(∀i,i<n->¬B i)->∀(G:Gh)(a:Act)(w:World)(p:Array Bool),aj q72 q7w q7z G (ff z (List.range n) Rs 0 s) a w->bS ops n p->mv P TT ops N (ops.size-n) p a w) :
  ∀(g:Nat)(L:List Nat)(p:Array Bool)(G:Gh)(a:Act)(w:World),ops.size=g+L.length->Inv ops n L p->ot (ko Rs) L->(∀j∈L,¬B j)->aj q72 q7w q7z G (gn Rs z L s) a w->mv P TT ops N g p a w:=by
 have a0:∀i,i<n->ops[i]? = some (ops[i]?.getD default):=fun i A=>by
  have:i<ops.size:=Ta
  simp[this]
 -- predecessors
 have aa:∀{L:List Nat},(∀i∈L,∀o,ops[i]? = some o->∀e∈o.after,Region.binds .any e=true->e.on∈L)->∀(i:Nat)(o:Oper)(r:HR),i<n->ops[i]? = some o->Rs[i]? = some r->(∀e∈o.after,Region.binds .any e=true->e.on∈L)->(∀j∈r.pred,j∈L/\j<i):=by
  intro L es i
  induction i using Nat.strongRecOn with
  |ind i ih=>
   intro o r A ho hr F j q;obtain⟨r',V,_⟩:=hO i o A ho;have J:=V.get;rw[hr]at J;injection J with J;subst J
   obtain⟨e,I,H,a6⟩:=(Ae V.pred).2 j q;have Y:=q9 bd i o (by simpa using ho) e (by simpa using I) H
   have av:e.on<i:=Ta
   have d1:=F e (by simpa using I) H
   rcases a6 with rfl|⟨re,a8,a6⟩
   ·exact⟨d1,av⟩
   ·have b6:Rs[e.on]? = some re:=by rw[List.getElem?_take]at a8;rw[qX av]at a8;exact a8
    have eb:ops[e.on]? = some ops[e.on]:=Te
    have:=ih e.on av ops[e.on] re Ta eb b6 (es e.on d1 _ eb) j a6
    exact⟨this.1,Ta⟩
 have Y:∀(i:Nat)(r:HR),i<n->Rs[i]? = some r->∀j∈r.pred,j<i:=fun i r A hr j q=>by
  refine(aa (L:=List.range n) (fun k hk o ho e I H => ?_) i _ r A (a0 i A) hr (fun e I H => ?_) j q).2
  ·have:=q9 bd k o (by simpa using ho) e (by simpa using I) H
   have fs:=List.mem_range.1 hk;exact List.mem_range.2 Ta
  ·have:=q9 bd i _ (by simpa using a0 i A) e (by simpa using I) H
   exact List.mem_range.2 Ta
 have ba:∀(i:Nat)(r:HR),i<n->Rs[i]? = some r->∀k∈r.pred,∀rk:HR,Rs[k]? = some rk->∀c∈rk.pred,c∈r.pred:=by
  intro i
  induction i using Nat.strongRecOn with
  |ind i ih=>
   intro r A hr k hk rk ec c hc;obtain⟨r',V,_⟩:=hO i _ A (a0 i A);have J:=V.get;rw[hr]at J;injection J with J;subst J
   obtain⟨e,I,H,a6⟩:=(Ae V.pred).2 k hk;have ft:=q9 bd i _ (by simpa using a0 i A) e (by simpa using I) H
   have b4:e.on<i:=Ta
   rcases a6 with rfl|⟨re,a8,a6⟩
   ·exact EB V.pred e I H rk (by rw[List.getElem?_take,qX b4];exact ec) c hc
   ·have b6:Rs[e.on]? = some re:=by rw[List.getElem?_take,qX b4]at a8;exact a8
    exact EB V.pred e I H re a8 c (ih e.on b4 re Ta b6 k a6 rk ec c hc)
 have M:∀(i j:Nat)(r r':HR),i<n->j<n->Rs[i]? = some r->Rs[j]? = some r'->r.dst=r'.dst->i=j:=fun i j r r' A q hr a3 R=>by
  rcases Nat.lt_trichotomy i j with h|h|h
  ·obtain⟨r2,V,_⟩:=hO j _ q (a0 j q);have J:=V.get;rw[a3]at J;injection J with J;subst J
   exact absurd R (cM.1 V.fresh r (List.mem_of_getElem? (i:=i) (by rw[List.getElem?_take,qX h];exact hr)))
  ·exact h
  ·obtain⟨r2,V,_⟩:=hO i _ A (a0 i A);have J:=V.get;rw[hr]at J;injection J with J;subst J
   exact absurd R.symm (cM.1 V.fresh r' (List.mem_of_getElem? (i:=j) (by rw[List.getElem?_take,qX h];exact a3)))
 have U:∀i,i<n->∃r,Rs[i]? = some r/\ou ops s Rs z Cs i (ops[i]?.getD default) r:=fun i A=>by
  obtain⟨r,V,_⟩:=hO i _ A (a0 i A);exact⟨r,V.get,V⟩
 -- two that touch the same are ordered
 have b7:∀(i:Nat)(r:HR)(x:Nat),ou ops s Rs z Cs i (ops[i]?.getD default) r->o6 (s.nx+32*r.dst) x->af s.hp x=none:=fun i r x V hx=>by
  cases hq:af s.hp x with
  |none=>rfl|some b=>
   have:=dC.1 V.room _ (gW hq);unfold o6 at hx;simp only at this;omega
 have dl:∀(x i j:Nat),i<n->j<n->i<j->af (ez Rs z i) x≠none->af (ez Rs z j) x≠none->i∈ko Rs j:=fun x i j A q be J h2=>by
  obtain⟨ri,gi,ch⟩:=U i A;obtain⟨Q,gj,C⟩:=U j q;have e8:ko Rs j=Q.pred:=by unfold ko;rw[gj]
  rw[e8];obtain⟨e1,m1,rfl⟩:=qb J;obtain⟨e2,m2,hx⟩:=qb h2;rcases ch.h e1 m1 with a1|⟨n1,_,c1,_⟩
  ·rcases C.h e2 m2 with a2|⟨n2,_,c2,_⟩
   ·rw[hx]at a2;exact absurd (M i j ri Q A q gi gj (by unfold o6 at a1 a2;omega)) Ta
   ·rw[hx]at c2;rcases c2 with⟨b,H⟩|⟨c,rc,c3,c4,c5⟩
    ·rw[b7 i ri _ ch a1]at H;cases H
    ·have bb:c<n:=by have:=Y j Q q gj c c3;omega
     have:c=i:=M c i rc ri bb A c4 gi (by unfold o6 at a1 c5;omega)
     exact this▸c3
  ·rcases C.h e2 m2 with a2|⟨n2,_,c2,c6⟩
   ·rw[hx]at a2;rcases c1 with⟨b,H⟩|⟨c,rc,c3,c4,c5⟩
    ·rw[b7 j Q _ C a2]at H;cases H
    ·have bb:c<i:=Y i ri A gi c c3;have:c=j:=M c j rc Q Ta q c4 gj (by unfold o6 at a2 c5;omega)
     omega
   ·exact c6 i be n1
 have dm:∀(d i j:Nat),i<n->j<n->i<j->af (gm Rs z i) d≠none->af (gm Rs z j) d≠none->i∈ko Rs j:=fun d i j A q be J h2=>by
  obtain⟨ri,gi,ch⟩:=U i A;obtain⟨Q,gj,C⟩:=U j q;obtain⟨e1,m1,rfl⟩:=qb J;obtain⟨e2,m2,hx⟩:=qb h2;have:=ch.f e1 m1;have:=C.f e2 m2;exact absurd (M i j ri Q A q gi gj Ta) Ta
 -- all have run
 have df:∀(L:List Nat)(p:Array Bool)(G:Gh)(a:Act)(w:World),(∀i,i<n->i∈L)->Inv ops n L p->ot (ko Rs) L->(∀j∈L,¬B j)->aj q72 q7w q7z G (gn Rs z L s) a w->mv P TT ops N (ops.size-n) p a w:=by
  intro L p G a w F f u hB hr;refine c9 (fun i A=>hB i (F i A)) G a w p (hr.eqv ?_) ⟨f.size,fun j q=>by rw[f.iff j q];exact⟨fun h=>f.lt j h,fun h=>F j h⟩⟩
  rw[xU (Rs:=Rs) Rs 0 s (fun k _=>by rw[wO]),ac]
  have b5:∀j,j∈((List.range' 0 n).filter (cg (List.range n))).reverse↔j∈L:=fun j=>by
   rw[List.mem_reverse,List.mem_filter,gu,List.mem_range'_1,List.mem_range];exact⟨fun h=>F j h.2,fun h=>by have:=f.lt j h;exact⟨⟨Ta,Ta⟩,this⟩⟩
  have d2:ot (ko Rs) (((List.range' 0 n).filter (cg (List.range n))).reverse):=KE n (fun i A _ j q=>by
   obtain⟨r,gr,_⟩:=U i A;have hp:ko Rs i=r.pred:=by unfold ko;rw[gr]
   rw[hp]at q;have:=Y i r A gr j q;exact⟨this,List.mem_range.2 Ta⟩)
  have H:∀i,(i∈L\/i∈((List.range' 0 n).filter (cg (List.range n))).reverse)->i<n:=fun i h=>by
   rcases h with h|h
   ·exact f.lt i h
   ·exact f.lt i ((b5 i).1 h)
  exact⟨rfl,rfl,fun d=>D4 u d2 (fun i j A q=>dm d i j (H i A) (H j q)) (fun j _=>(b5 j).symm),fun x=>D4 u d2 (fun i j A q=>dl x i j (H i A) (H j q)) (fun j _=>(b5 j).symm),rfl⟩
 intro g
 induction g with
 |zero=>
  intro L p G a w hg f u hB hr;have J:=dD n L f.nodup f.lt;have e7:n=ops.size:=Ta
  have F:∀i,i<n->i∈L:=fun i A=>by
   by_cases hm:i∈L
   ·exact hm
   ·have:=dD n (i::L) (List.nodup_cons.2 ⟨hm,f.nodup⟩) (fun j q=>by
     rcases List.mem_cons.1 q with rfl|q;· exact A
     ·exact f.lt j q)
    simp at this;omega
  have:=df L p G a w F f u hB hr
  rwa [e7,Nat.sub_self]at this
 |succ g ih=>
  intro L p G a w hg f u hB hr;by_cases F:∀i,i<n->i∈L
  ·have J:=dD n L f.nodup f.lt;have h2:=KY n L F;have:=df L p G a w F f u hB hr
   rwa [show ops.size-n=g+1 by omega]at this
  ·have ca:∃i,i<n/\i∉L/\∀j,j<i->j∈L:=by
    have:∃i,i<n/\i∉L:=by
     simpa using F
    obtain⟨i,A,hm⟩:=this;clear F
    induction i using Nat.strongRecOn with
    |ind i ih=>
     by_cases ed:∀j,j<i->j∈L
     ·exact⟨i,A,hm,ed⟩
     ·have:∃j,j<i/\j∉L:=by simpa using ed
      obtain⟨j,q,e4⟩:=this;exact ih j q Ta e4
   obtain⟨i0,e0,d4,ee⟩:=ca;have cl:i0<ops.size:=Ta
   have dg:i0∈Region.ready .any ops p:=by
    refine gX.2 ⟨cl,?_,ops[i0],Te,fun e I H => ?_⟩
    ·cases hq:p.getD i0 true
     ·rfl
     ·exact absurd ((f.iff i0 cl).1 hq) d4
    ·have:=q9 bd i0 ops[i0] Te e I H
     have Y:e.on<i0:=Ta
     exact(f.getD_false Ta).2 (ee _ Y)
   refine⟨fun ea=>(by rw[ea]at dg;cases dg),fun i A => ?_⟩
   obtain⟨i1,i2,o,i3,i4⟩:=gX.1 A;have ah:i∉L:=fun h=>by rw[(f.iff i i1).2 h]at i2;cases i2
   have a4:∀e∈o.after,Region.binds .any e=true->e.on∈L:=fun e I H=>by
    have Y:=q9 bd i o (by simpa using i3) e I H
    exact(f.getD_false Ta).1 (i4 e I H)
   have a5:i<n:=ds L p i o f hB i3 a4 ⟨i0,e0,d4⟩;obtain⟨r,V,st⟩:=hO i o a5 i3;have gr:=V.get;have S:=aa f.closed i o r a5 i3 gr a4;have fl:ko Rs i=r.pred:=by unfold ko;rw[gr]
   have X:ot (ko Rs) (i::L):=⟨ah,fun j q=>by rw[fl]at q;exact(S j q).1,u⟩
   have a7:Inv ops n (i::L) (p.setIfInBounds i true):=by
    refine⟨List.nodup_cons.2 ⟨ah,f.nodup⟩,fun j q => ?_,by simp[f.size],fun j q => ?_,fun j q oj Z e I H => ?_⟩
    ·rcases List.mem_cons.1 q with rfl|q
     ·exact a5
     ·exact f.lt j q
    ·rw[Array.getD_eq_getD_getElem?,Array.getElem?_setIfInBounds];by_cases be:i=j
     ·subst be;simp[f.size,i1]
     ·rw[qW be];have:=f.iff j q;rw[Array.getD_eq_getD_getElem?]at this;rw[this,wE];exact⟨fun h => .inr h,fun h=>h.resolve_left (fun e=>be e.symm)⟩
    ·rcases List.mem_cons.1 q with rfl|q
     ·rw[i3]at Z;injection Z with Z;subst Z
      exact qE _ (a4 e I H)
     ·exact qE _ (f.closed j q oj Z e I H)
   have ej:(Rs.take i).length=i:=by simp;omega
   have cx:∀k,k<(Rs.take i).length->Rs[0+k]? = (Rs.take i)[k]? := fun k hk=>by
    rw[List.getElem?_take,qX (by rw[ej]at hk;omega),wO]
   have ab:iy s Rs z Cs i r=(gn Rs z (((List.range' 0 i).filter (cg r.pred)).reverse) s).hide (iv Cs r.pred i):=by
    unfold iy;rw[xU (Rs:=Rs) (Rs.take i) 0 s cx,ej]
   have W:∀j,j∈((List.range' 0 i).filter (cg r.pred)).reverse↔j∈r.pred:=fun j=>by
    rw[List.mem_reverse,List.mem_filter,gu];refine⟨fun h=>h.2,fun h=>⟨?_,h⟩⟩
    rw[List.mem_range'_1];exact⟨Ta,by have:=(S j h).2;omega⟩
   have bs:ot (ko Rs) (((List.range' 0 i).filter (cg r.pred)).reverse):=KE i (fun k hk e6 j q=>by
    obtain⟨rk,gk,_⟩:=U k Ta
    have fd:ko Rs k=rk.pred:=by unfold ko;rw[gk]
    rw[fd]at q;exact⟨Y k rk Ta gk j q,ba i r a5 gr k e6 rk gk j q⟩)
   have br:∀k,(k∈((List.range' 0 i).filter (cg r.pred)).reverse\/k∈L)->k<n:=fun k h=>by
    rcases h with h|h
    ·have:=(S k ((W k).1 h)).2;omega
    ·exact f.lt k h
   -- an operation that has run already,and is no predecessor,writes nothing that is looked at
   have ek:∀(j:Nat)(Q:HR),Rs[j]? = some Q->j∈L->Q.dst∈lv ops o->j∈r.pred:=by
    intro j Q q h R;have O:=f.lt j h;have b3:j≠i:=fun e=>ah (e▸h)
    rcases Nat.lt_or_gt_of_ne b3 with av|hgt
    ·rcases LM V.reads j Q (by rw[List.getElem?_take,qX av];exact q) with h'|h'
     ·simpa using h'
     ·exact absurd R h'
    ·have Z:=a0 j O;obtain⟨fu,C,_⟩:=hO j _ O Z;have k1:=C.get;rw[q]at k1;injection k1 with k1;subst k1
     rcases MB C.writes i o hgt i3 with h'|h'
     ·have:=aa f.closed j _ Q O Z q (f.closed j h _ Z) i h';exact absurd this.1 ah
     ·exact absurd R h'
   have a9:∀d∈lv ops o,af (iy s Rs z Cs i r).fr d=af (gn Rs z L s).fr d:=fun d R=>by
    rw[ab];show af (gy (gm Rs z) _ s.fr) d=af (gy (gm Rs z) L s.fr) d;refine D4 bs u (fun a b ha H=>dm d a b (br a ha) (br b H)) (fun j q=>⟨fun h=>(S j ((W j).1 h)).1,fun h=>(W j).2 ?_⟩)
    obtain⟨Q,gj,C⟩:=U j (f.lt j h);obtain⟨e,I,rfl⟩:=qb q;exact ek j Q gj h (by rw[← C.f e I];exact R)
   have ey:∀x b,af (iy s Rs z Cs i r).hp x=some b->af (gn Rs z L s).hp x=some b:=fun x b H=>by
    rw[ab]at H;obtain⟨b1,b2⟩:=Ld H;have cp:af (gy (ez Rs z) (((List.range' 0 i).filter (cg r.pred)).reverse) s.hp) x=some b:=b1;rw[← cp];refine(D4 bs u (fun a b ha H=>dl x a b (br a ha) (br b H)) (fun j q=>⟨fun h=>(S j ((W j).1 h)).1,fun h=>(W j).2 ?_⟩)).symm
    have O:=f.lt j h;obtain⟨Q,gj,C⟩:=U j O;obtain⟨e,I,ca⟩:=qb q;by_cases cb:j∈r.pred
    ·exact cb
    ·exfalso;have b3:j≠i:=fun e=>ah (e▸h)
     rcases C.h e I with a1|⟨_,⟨K,Pm,k1,k2,k3⟩,_,_⟩
     ·rw[ca]at a1;by_cases hk:∃k∈((List.range' 0 i).filter (cg r.pred)).reverse,af (ez Rs z k) x≠none
      ·obtain⟨k,cc,e5⟩:=hk;have d3:=(W k).1 cc;have cw:k<n:=br k (.inl cc);obtain⟨rk,gk,fn⟩:=U k cw;obtain⟨e2,ew,cj⟩:=qb e5;rcases fn.h e2 ew with a2|⟨_,_,c1,_⟩
       ·rw[cj]at a2;have:j=k:=M j k Q rk O cw gj gk (by unfold o6 at a1 a2;omega)
        exact cb (this▸d3)
       ·rw[cj]at c1;rcases c1 with⟨b',b8⟩|⟨c,rc,c3,c4,c5⟩
        ·rw[b7 j Q x C a1]at b8;cases b8
        ·have bb:c<n:=by have:=Y k rk cw gk c c3;omega
         have:c=j:=M c j rc Q bb O c4 gj (by unfold o6 at a1 c5;omega)
         exact cb (ba i r a5 gr k d3 rk gk j (this▸c3))
      ·have cz:∀k∈((List.range' 0 i).filter (cg r.pred)).reverse,af (ez Rs z k) x=none:=fun k cc=>by
        cases hq:af (ez Rs z k) x with|none=>rfl|some v=>exact absurd ⟨k,cc,by rw[hq];simp⟩ hk
       rw[mL cz,b7 j Q x C a1]at cp;cases cp
     ·refine b2 (Sk k1 b3 cb (fun e3=>ah ?_) (ca▸k2))
      exact u.closed j h i (by unfold ko;rw[gj];exact k3 i e3)
   have c7:bq (s.nx+32*r.dst) (gn Rs z L s).hp=true:=by
    rw[dC];intro e I;rcases Sj I with⟨j,q,I⟩|I
    ·have O:=f.lt j q;have b3:j≠i:=fun e=>ah (e▸q)
     obtain⟨Q,gj,C⟩:=U j O;rcases C.h e I with a1|⟨_,_,c1,_⟩
     ·have:Q.dst≠r.dst:=fun hq=>b3 (M j i Q r O a5 gj gr hq)
      unfold o6 at a1;omega
     ·rcases c1 with⟨b',b8⟩|⟨c,rc,c3,c4,c5⟩
      ·exact dC.1 V.room (e.1,b') (gW b8)
      ·have d0:c∈L:=u.closed j q c (by unfold ko;rw[gj];exact c3)
       have bb:=f.lt c d0;have:rc.dst≠r.dst:=fun hq=>ah ((M c i rc r bb a5 c4 gr hq)▸d0)
       unfold o6 at c5;omega
    ·exact dC.1 V.room _ I
   have ad:(∀d,o.dst=some d->d=r.dst)->tw o (iy s Rs z Cs i r) (gn Rs z L s):=fun R=>by
    refine⟨by rw[ab];rfl,fun x hx => ?_,ey,fun d et => ?_⟩
    ·cases x with
     |tmp t=>
      exact a9 t (by simp only[lv];refine List.mem_append.2 (.inl ?_);rw[List.mem_filterMap];exact⟨.tmp t,hx,rfl⟩)
     |_=>rfl
    ·rw[R d et];exact c7
   rcases st with⟨nB,st⟩|⟨_,s2,s3,s4⟩
   rotate_left
   ·exact DF i3 (by simp[Region.wanted,s2]) (s4 L f.lt (ad (fun d R=>(s3 d R).1)) G a w hr _)
   have ct:∀j∈i::L,¬B j:=fun j q=>by
    rcases List.mem_cons.1 q with rfl|q
    ·exact nB
    ·exact hB j q
   rcases st with⟨s1,s2,s3,ps,c,s4,s5⟩|⟨md,s1,s2,s3,s4⟩|⟨b,T,el,k,⟨s1,sg,s2,s3,sn,sv,⟨y,so,se⟩,em,E0,sc,sa⟩,sM⟩
   ·have en:=PN (ad (fun d R=>by rw[s2]at R;injection R with R;exact R.symm)) a9 s4
    have bk:(gn Rs z L s).add o.dst r.v r.new=some (gn Rs z (i::L) s):=by
     rw[s2];have cv:Nat.blt r.dst s.n=true:=by simpa using s3
     simp only[St.add,gn,cv,qT,gy,gm,ez,s1,gr,wM]
    exact JE hr i3 en s5 bk (fun G' a' w' a3=>ih (i::L) _ G' a' w' Td a7 X ct a3)
   ·refine Kg i3 (by simp[Region.wanted,s2]) (s4 _ (ad (fun d R=>(s3 d R).1)) (by rw[ab];rfl) _ _ _ _ _ _ hr _ (fun G' a' w' a3=>ih (i::L) _ G' a' w' Td a7 X ct ?_))
    have:(gn Rs z L s).addM md=gn Rs z (i::L) s:=by
     simp[St.addM,gn,gy,gm,ez,s1]
    rw[← this];exact a3
   ·
    have dw:∀L':List Nat,(∀j∈L',j<n)->∃cs E,af (gy (ez Rs z) L' s.hp) b=some (.cells cs E)/\l8 P T cs el=some (.own k):=by
     intro L'
     induction L' with
     |nil=>exact fun _=>⟨em,E0,sc,sa⟩
     |cons j L' dd=>
      intro q;have dd:=dd (fun k hk=>q k (qE _ hk))
      have O:=q j qH;show ∃cs E,af (ez Rs z j++gy (ez Rs z) L' s.hp) b=some (.cells cs E)/\_;rw[zO]
      cases hq:af (ez Rs z j) b with
      |none=>exact dd|some bx=>
       simp only
       cases hm:af z j with
       |some md=>
        have e:ez Rs z j=md.h:=by unfold ez;rw[hm]
        rw[e]at hq;obtain⟨cs,E,rfl,h2⟩:=sM j md bx hm hq;exact⟨cs,E,rfl,h2⟩
       |none=>
        exfalso;obtain⟨Q,gj,C⟩:=U j O;obtain⟨e,I,hx⟩:=qb (l:=ez Rs z j) (m:=b) (by rw[hq];simp)
        rcases C.h e I with a1|⟨J,_⟩
        ·rw[hx]at a1;have:=b7 j Q b C a1;rw[sc]at this;cases this
        ·exact J hm
    obtain⟨cs,E,c1,c2⟩:=dw L f.lt;have ex:(gn Rs z L s).ev y=some (.ptr b el):=by
     have:=(ad (fun d R=>by rw[s2]at R;injection R with R;exact R.symm)).ev y (by simp[so,Op.operands])
     rw[← this];exact se
    have h9:mq P ops (gn Rs z L s) (false,.none) o=some ([],r.v,r.new):=by
     unfold mq;rw[sg];simp only;unfold gq;rw[so];simp only[d6,lY,ex];rw[show af (gn Rs z L s).hp b=some (.cells cs E) from c1]
     simp only[c2];rw[sv,sn]
    have bk:(gn Rs z L s).add o.dst r.v r.new=some (gn Rs z (i::L) s):=by
     rw[s2];have cv:Nat.blt r.dst s.n=true:=by simpa using s3
     simp only[St.add,gn,cv,qT,gy,gm,ez,s1,gr,wM]
    exact JE hr i3 h9 trivial bk (fun G' a' w' a3=>ih (i::L) _ G' a' w' Td a7 X ct a3)
def qm0{ops:Array Oper}{n:Nat}{Rs:List HR}{j:List (Nat×Md)}{Cs:List (Nat×List Nat×List Nat)}{N:Act->World->Prop}(I:n<=ops.size)(m:nz ops.toList 0=true)(v:qh ops n=true)(y:Rs.length=n)
  (C:∀i o,i<n->ops[i]? = some o->∃r,ou ops s Rs j Cs i o r/\lS P ops s Rs j Cs i o r)
  (f:∀(G:Gh)(a:Act)(w:World)(b:Array Bool),aj q72 q7w q7z G (ff j (List.range n) Rs 0 s) a w->bS ops n b->mv P TT ops N (ops.size-n) b a w)
  (g:Nat) (L:List Nat) (b:Array Bool) (G:Gh) (a:Act) (w:World) (F:ops.size=g+L.length) (c:Inv ops n L b) (d:ot (ko Rs) L) (K:aj q72 q7w q7z G (gn Rs j L s) a w):mv P TT ops N g b a w:=by
 refine Rm (B:=fun _=>False) (Cs:=Cs) I m y (fun L b i o c _ u x p => ?_) (fun i o H J=>by obtain⟨r,z,A⟩:=C i o H J;exact⟨r,z,.inl ⟨id,A⟩⟩) (fun _=>f) g L b G a w F c d (fun _ _ h=>h) K
 obtain⟨O,q,t⟩:=p;have M:i<ops.size:=(Array.getElem?_eq_some_iff.1 u).1;rcases Nat.lt_or_ge i n with h|h
 ·exact h
 ·rcases Nat.lt_or_ge n i with h|h
  ·obtain⟨e,k,E,l⟩:=M8 (Mx v h u);have:=c.lt _ (x e k l);omega
  ·have:i=n:=Ta
   subst this;exact absurd (qb5 v u c.closed x O q) t
def qmz{ops:Array Oper}{j:Nat}{Rs:List HR}{m:List (Nat×Md)}{Cs:List (Nat×List Nat×List Nat)}{N:Act->World->Prop}(H:j<ops.size)(u:nz ops.toList 0=true)(f:∀i o,j<i->ops[i]? = some o->∃e∈o.after,Region.binds .any e=true/\j<=e.on)(x:Rs.length=j+1)
  (A:∀i o,i<j->ops[i]? = some o->∃r,ou ops s Rs m Cs i o r/\lS P ops s Rs m Cs i o r)
  (C:∀o,ops[j]? = some o->∃r,ou ops s Rs m Cs j o r/\Jo P TT q72 q7w q7z (j+1) s Rs m Cs j o r)
  (g:Nat) (L:List Nat) (b:Array Bool) (G:Gh) (a:Act) (w:World) (F:ops.size=g+L.length) (c:Inv ops (j+1) L b) (d:ot (ko Rs) L) (t:∀k∈L,k≠j) (I:aj q72 q7w q7z G (gn Rs m L s) a w):mv P TT ops N g b a w:=by
 refine Rm (B:=fun k=>k=j) (n:=j+1) (Cs:=Cs) H u x (fun L b i o c t J K E => ?_) (fun i o O v => ?_) (fun h=>absurd rfl (h j (Nat.lt_succ_self j))) g L b G a w F c d t I
 ·rcases Nat.lt_or_ge i (j+1) with h|h
  ·exact h
  ·obtain⟨e,y,z,M⟩:=f i o h J;have l:=K e y z;have q:=c.lt _ l;exact absurd (show e.on=j by omega) (t _ l)
 ·by_cases p:i=j
  ·subst p;obtain⟨r,l,q⟩:=C o v;exact⟨r,l,.inr ⟨rfl,q⟩⟩
  ·obtain⟨r,l,q⟩:=A i o Ta v
   exact⟨r,l,.inl ⟨p,q⟩⟩
end
end Go.Sym
namespace Go.Sym
open Go.RowKit
variable[LC]
def FK(P:Program)(T:TypeId):Option AV:=match P.info? T with
 |some i=>match i.zero with|some (.agg vs)=>some (.agg (nW vs.toList))|_=>none
 |none=>none
def KN(P:Program)(T:TypeId):Bool:=match P.info? T,P.underlying T with|some i,some (.int _)=>i.comparable|_,_=>false
def Ek(P:Program):AV->AV->Option AV
 |.val .nilIface,.iface _ _=>some (.val (.bool false))| .iface t x,.iface t' y=>bif Nat.beq t t' then(match x,y with
   |.byte a,.byte b=>bif KN P t then some (.bool (a==b)) else none| _,_=>none) else some (.val (.bool false))
 |_,_=>none
def L3:AV->Option AV|.val (.bool b)=>some (.val (.bool (!b)))|.bool b=>some (.bool (!b))|_=>none
def Ru(P:Program)(s:St)(a:BinOp)(x y:Operand):Option AV:=match s.ev x,s.ev y with
 |some u,some v=>match a with
  |.eql=>Ek P u v|.neq=>match Ek P u v with|some r=>L3 r|none=>none
  |_=>none
 |_,_=>none
def Mt(P:Program)(s:St)(x:Operand)(T:TypeId):Option AV:=match P.underlying T with
 | some d=>bif Aa d then(match s.ev x with
   | some (.iface t v)=>bif Nat.beq t T then some (.tup [v,.val (.bool true)]) else(match FK P T with
    |some z=>some (.tup [z,.val (.bool false)])| none=>none)
   | some (.val .nilIface)=>(match FK P T with
    |some z=>some (.tup [z,.val (.bool false)])| none=>none)
   | _=>none) else none
 |none=>none
def Rv(P:Program)(s:St):Op->Option AV
 |.typeAssert x _ T true=>Mt P s x T|.binOp op t x y _=>match P.underlying t with|some (.interface _)=>Ru P s op x y|_=>none
 |_=>none
def KG(P:Program)(s:St)(o:Oper):Option St:=match o.dst with
 |some tt=>match Rv P s o.op with|some v=>bif Nat.blt tt s.n then some { s with fr:=(tt,v)::s.fr } else none|none=>none
 |none=>none
section
variable{P:Program}{q72:World}{q7w:Gh}{q7z:List (Nat×ag)}{G:Gh}{s:St}{a:Act}{w:World}
def qgf{T:TypeId}{z:AV}(h:FK P T=some z)(w:World)(G:Gh):∃v,(zeroValue T).run P w = .ok v w/\ai z G v:=by
 unfold FK at h;split at h
 ·rename_i i c;split at h
  ·rename_i b d;simp only[qI]at h;subst h;exact⟨.agg b,by simp[zeroValue,xe c,d],b,rfl,LV G _⟩
  ·cases h
 ·cases h
def qtk{x:Operand}{T xT:TypeId}{r:AV}(o:∀v,s.ev x=some v->ai v G (a.eval x))(h:Mt P s x T=some r):∃v,(Instr.typeAssert (a.eval x) xT T true).run P w = .ok v w/\ai r G v:=by
 unfold Mt at h;split at h
 ·rename_i d j;cases n:Aa d<;>rw[n]at h<;>simp only[qT,qF,reduceCtorEq]at h
  have b:∀p,d ≠ .interface p:=fun p e=>by subst e;cases n
  split at h
  ·rename_i t v e;obtain⟨u,c,q⟩:=o _ e;rw[c];cases i:Nat.beq t T<;>rw[i]at h<;>simp only[qT,qF]at h
   ·have k:t≠T:=fun e=>by subst e;simp at i
    split at h
    ·rename_i z l;simp only[qI]at h;subst h;obtain⟨m,f,g⟩:=qgf l w G;refine⟨.tuple #[m,.bool false],?_,_,rfl,g,rfl,trivial⟩;cases d<;>first
      |exact absurd rfl (b _)
      |simp[Instr.typeAssert,ce j,k,f]
    ·cases h
   ·have:=qN i;subst this;simp only[qI]at h;subst h;refine⟨.tuple #[u,.bool true],?_,_,rfl,q,rfl,trivial⟩;cases d<;>first
     |exact absurd rfl (b _)
     |simp[Instr.typeAssert,ce j]
  ·rename_i e;have c:=o _ e;simp only[ai]at c;rw[c];split at h
   ·rename_i z l;simp only[qI]at h;subst h;obtain⟨m,f,g⟩:=qgf l w G;refine⟨.tuple #[m,.bool false],?_,_,rfl,g,rfl,trivial⟩;cases d<;>first
     |exact absurd rfl (b _)
     |simp[Instr.typeAssert,ce j,f]
   ·cases h
  ·cases h
 ·cases h
def Rt{t:TypeId}{R:Array (String×TypeId)}(C:P.underlying t=some (.interface R)){u v r:AV}(h:Ek P u v=some r){x y:Value}(E:ai u G x)(n:ai v G y) :
  ∃b,ai r G (.bool b)/\∀(p q:Operand),(do eqGuard .eql t p q x y;binOp .eql t x y:Sem Value).run P w = .ok (.bool b) w/\(do eqGuard .neq t p q x y;binOp .neq t x y:Sem Value).run P w = .ok (.bool (!b)) w:=by
 have g:∀b,(∀d,(Op.equalIn (d+2) t x y).run P w = .ok b w)->(Op.equal t x y).run P w = .ok b w:=fun b h=>h 9998
 unfold Ek at h;split at h
 ·rename_i S W;simp only[qI]at h;subst h;simp only[ai]at E;obtain⟨T,n,_⟩:=n;subst E n;have k:=g false fun d=>by simp[Op.equalIn,ce C]
  exact⟨false,rfl,fun p q=>⟨by simp[eqGuard,binOp,k],by simp[eqGuard,binOp,k]⟩⟩
 ·rename_i o x1 I X;obtain⟨U,J,F⟩:=E;obtain⟨V,K,H⟩:=n;subst J K;cases z:Nat.beq o I<;>rw[z]at h<;>simp only[qT,qF]at h
  ·have A:o≠I:=fun e=>by subst e;simp at z
   simp only[qI]at h;subst h;have k:=g false fun d=>by simp[Op.equalIn,ce C,A]
   exact⟨false,rfl,fun p q=>⟨by simp[eqGuard,binOp,k],by simp[eqGuard,binOp,k]⟩⟩
  ·have:=qN z;subst this;split at h
   ·rename_i c f;cases j:KN P o<;>rw[j]at h<;>simp only[qT,qF,reduceCtorEq,qI]at h
    subst h;simp only[ai]at F H;subst F H;unfold KN at j;split at j
    ·rename_i i k N O;have k:=g (c==f) ?_;exact⟨c==f,rfl,fun p q=>⟨by simp[eqGuard,binOp,k],by simp[eqGuard,binOp,k]⟩⟩
     intro d;have e:((c.toNat:Int)==(f.toNat:Int))=(c==f):=by
      by_cases B:c=f
      ·subst B;simp
      ·have:c.toNat≠f.toNat:=fun e=>B (UInt8.toNat_inj.1 e)
       have L:((c.toNat:Int)==(f.toNat:Int))=false:=by
        rw[beq_eq_false_iff_ne];exact fun e=>this (Int.ofNat_inj.1 e)
       have M:(c==f)=false:=by simpa using B
       rw[L,M]
     have l:(Op.equalIn (d+1) o (.int .u8 c.toNat) (.int .u8 f.toNat)).run P w = .ok (c==f) w:=by
      rw[← e];simp[Op.equalIn,ce O]
     obtain⟨m,Q⟩:∃m,m=d+1:=⟨_,rfl⟩;rw[← Q]at l;rw[show d+2=m+1 by omega]
     simp[Op.equalIn,ce C,xe N,j,l]
    ·cases j
   ·cases h
 ·cases h
def qpn{r d:AV}(h:L3 r=some d){b:Bool}(c:ai r G (.bool b)):ai d G (.bool (!b)):=by
 unfold L3 at h;split at h
 ·simp only[qI]at h;subst h;simp only[ai,Value.bool.injEq]at c;subst c;rfl
 ·simp only[qI]at h;subst h;simp only[ai,Value.bool.injEq]at c;subst c;rfl
 ·cases h
def qna(l:aj q72 q7w q7z G s a w){o:Oper}{s':St}(h:KG P s o=some s'){N:Act->World->Prop}(M:∀G' B w',aj q72 q7w q7z G' s' B w'->N B w'):iw P o a w N:=by
 obtain⟨J,m,I,j,e,guard⟩:=o;unfold KG at h;split at h
 ·rename_i A k;simp only at k;subst k;split at h
  ·rename_i v d;cases C:Nat.blt A s.n<;>rw[C]at h<;>simp only[qT,qF,reduceCtorEq,qI]at h
   subst h;simp only at d;have f:∀u,(execOp a.eval ⟨some A,m,I,j,e,guard⟩).run P w = .ok (.value u) w->ai v G u->(∀c,m ≠ .defer c)->iw P ⟨some A,m,I,j,e,guard⟩ a w N:=by
    intro u i z O;refine g8 O ?_;unfold Oper.wp;rw[i];exact M G _ _ (jv (v:=v) l (by simp[St.add,C,qT,List.nil_append]) z)
   unfold Rv at d;split at d
   ·rename_i x xT T;obtain⟨u,L,g⟩:=qtk (xT:=xT) (w:=w) (fun v d=>cm l d) d
    exact f u (by simp[execOp,L]) g Te
   ·rename_i m t x y p;split at d
    ·rename_i Q E;unfold Ru at d;split at d
     ·rename_i R S k K;have F:=cm l k;have H:=cm l K;split at d
      ·obtain⟨b,g,n⟩:=Rt (w:=w) E d F H;exact f (.bool b) (by simp only[execOp,Sem.run_bind,(n x y).1,Result.andThen_ok];rfl) g Te
      ·split at d
       ·rename_i r q;obtain⟨b,g,n⟩:=Rt (w:=w) E q F H;exact f (.bool (!b)) (by simp only[execOp,Sem.run_bind,(n x y).2,Result.andThen_ok];rfl) (qpn d g) Te
       ·cases d
      ·cases d
     ·cases d
    ·cases d
   ·cases d
  ·cases h
 ·cases h
end
structure ji(q72:World)(q7w:Gh)(q7z:List (Nat×ag))(G:Gh)(s:St)(a:Act)(w:World):Prop where
 defers:∃bs:List Nat,a.defers=bs.map (fun b=>{ target := .collected b,args:=#[] })/\bs.map some=s.df.map G.box
 frame:∀i x,af s.fr i=some x->∃v,a.tmps[i]? = some v/\ai x G v
 fin:Fin q72 q7w q7z G s.hp w
def aj.lt{q72:World}{q7w:Gh}{q7z:List (Nat×ag)}{G:Gh}{s:St}{a:Act}{w:World}(h:aj q72 q7w q7z G s a w):ji q72 q7w q7z G s a w:=⟨h.defers,h.frame,h.fin⟩
def ji.less{q72:World}{q7w:Gh}{q7z:List (Nat×ag)}{G:Gh}{s s':St}{a:Act}{w:World}(h:ji q72 q7w q7z G s a w)(o:s'.df=s.df)(p:∀i x,af s'.fr i=some x->af s.fr i=some x)(f:∀i x,af s'.hp i=some x->x = .dead\/af s.hp i=some x):ji q72 q7w q7z G s' a w:=
 ⟨by rw[o];exact h.defers,fun i x q=>h.frame i x (p i x q),⟨⟨h.fin.mem.agree,h.fin.mem.one,fun n b g=>by
  rcases f _ _ g with rfl|g
  ·trivial
  ·exact h.fin.mem.holds n b g,fun n m b l c d j e k=>by
  rcases f _ _ d with rfl|d
  ·cases e
  ·rcases f _ _ j with rfl|j
   ·cases k
   ·exact h.fin.mem.apart n m b l c d j e k,h.fin.mem.tab⟩,h.fin.bel,h.fin.imm_le,h.fin.imm_new,fun n b c d e=>by
  rcases f _ _ d with rfl|d
  ·cases e
  ·exact h.fin.base n b c d e,h.fin.keep,h.fin.keepOwn⟩⟩
def zN(f:FuncId):tv->Bool|.thr f' _=>Nat.beq f' f|_=>false
def qog{f:FuncId}{k:tv}(h:zN f k=true):∃ks,k = .thr f ks:=by
 cases k with|thr a ks=>exact⟨ks,by rw[qN (show Nat.beq a f=true from h)]⟩|_=>cases h
def qce(s:St)(f:FuncId)(a:List AV)(e:dc):Option Rq:=bif zN f e.key then zQ s a [] e else none
def iM(a:Tb)(s:St)(o:Oper):Option (Rq×List AV×Nat):=
 match o.op,o.dst with
 |.call { callee := .value g,args,argTypes:=_ },some t=>match s.ev g,s.evs args.toList with
  |some (.fn (.func f) [] cap),some xs=>match cH (qce s f (xs++cap)) a.ents with|some q=>some (q,xs++cap,t)|none=>none
  |_,_=>none
 |_,_=>none
def Fg{R:Type}(s:St)(x:Rq×List AV×Nat)(E:AV->St->Option R)(K:St->Option R):Option R:=
 x.1.K fun d=>match d with
  |.mem N xs hp r hp'=>match uo s True x.2.1 N xs hp r hp' x.2.2 with
   |some (_,s')=>match n9 r with|some (t,n)=>E (f8 t n) { s' with fr:=s.fr }|none=>K s'
   |none=>none
  |_=>none
def LH:AV->Option (TypeId×Int)|.iface t (.agg [.int .i64 n])=>some (t,n)|.iface t (.agg [.val (.int .i64 n)])=>some (t,n)|_=>none
def LG{R:Type}(s:St)(x:Operand)(E:AV->St->Option R):Option R:=match s.ev x with
 |some v=>match LH v with|some (t,n)=>E (f8 t n) s|none=>none
 |none=>none
section
variable{P:Program}{q72:World}{q7w:Gh}{q7z:List (Nat×ag)}{G:Gh}{s:St}{a:Act}{w:World}{TT:List PanicEntry->Act->World->Prop}
def qp3{v:AV}{t:TypeId}{n:Int}(h:LH v=some (t,n)){u:Value}(d:ai v G u):u=wv t n:=by
 unfold LH at h;split at h
 ·simp only[qI,qP]at h;obtain⟨rfl,rfl⟩:=h;obtain⟨e,rfl,c,rfl,b⟩:=d;obtain⟨l⟩:=c
  match l,b with|[x],b=>have:=b.1;simp only[ai]at this;rw[this];rfl
 ·simp only[qI,qP]at h;obtain⟨rfl,rfl⟩:=h;obtain⟨e,rfl,c,rfl,b⟩:=d;obtain⟨l⟩:=c
  match l,b with|[x],b=>have:=b.1;simp only[ai]at this;rw[this];rfl
 ·cases h
def qp2{R:Type}(i:aj q72 q7w q7z G s a w){x:Operand}{o:Oper}(g:o.op = .panic x){E:AV->St->Option R}{y:R}(h:LG s x E=some y){N:Act->World->Prop}
  (j:∀t n s',E (f8 t n) s'=some y->∀G' f w',ji q72 q7w q7z G' s' f w'->TT [{ v:=wv t n,recovered:=false }] f w'):uw P TT o a w N:=by
 obtain⟨d,q,p,e,b,guard⟩:=o;simp only at g;subst g;unfold LG at h;split at h
 ·rename_i v m;split at h
  ·rename_i t n k;have l:=qp3 k (cm i m);have c:(execOp a.eval ⟨d,.panic x,p,e,b,guard⟩).run P w = .halt (.panic (wv t n)) w:=by
    simp[execOp,Instr.panic,l,wv,goPanic]
   refine qb4 Te ?_
   unfold Oper.wp;rw[c];exact⟨_,rfl,j t n s h G a w i.lt⟩
  ·cases h
 ·cases h
def qcc(C:aj q72 q7w q7z G s a w){o:Oper}{g:Operand}{args:Array Operand}{F:Array TypeId}{t:Tmp}(X:o.op = .call { callee := .value g,args,argTypes:=F })(V:o.dst=some t){f:FuncId}{k J:List AV}(hg:s.ev g=some (.fn (.func f) [] k))(p:s.evs args.toList=some J)(O:Plain P f)
  {names:List (Nat×Nat)} {xs:List AV} {i y:List (Nat×ag)} {r:AV} {ps:List Prop} {s':St} (b:uo s True (J++k) names xs i r y t=some (ps,s'))
  (k5:∀ps,ci false [] (AV.rens (bf names) (J++k)) xs=some ps->ay ps) (k6:∀hpv ps,ja (bf names) s.hp names=some hpv->lz hpv i=some ps->ay ps) :
  (di P f xs i r y->∀N:Act->World->Prop,(∀G' T w',aj q72 q7w q7z G' s' T w'->N T w')->iw P o a w N) /\
  (∀x,AO P x f xs i y->(∀G' w',aj q72 q7w q7z G' { s' with fr:=s.fr } a w'->TT [{ v:=wv x.1 x.2,recovered:=false }] a w')->∀N:Act->World->Prop,uw P TT o a w N):=by
 obtain⟨Y,op,ty,S,n,guard⟩:=o;simp only at X V;subst X V;unfold uo at b;cases q:eh names&&qz names&&bq (s.nx+32*t) s.hp&&Nat.blt t s.n<;>rw[q]at b<;>simp only[qT,qF,reduceCtorEq]at b
 simp only[qA,Nat.blt_eq]at q;obtain⟨⟨⟨j,_⟩,B⟩,Q⟩:=q;split at b
 ·rename_i hpv aa I E;split at b
  ·rename_i ab l;simp only[qI,qP]at b;obtain⟨rfl,rfl⟩:=b;have p1:=k5 _ E;have R:=k6 _ _ I l;obtain⟨fs,H,M,L,K⟩:=cm C hg;have A:fs=#[]:=Array.eq_empty_of_size_eq_zero (by simpa using L.length.symm)
   subst A;have m:(execOp a.eval ⟨some t,.call { callee := .value g,args:=args,argTypes:=F },ty,S,n,guard⟩).run P w = .ok (.enter f (args.map a.eval++H)) w:=by
    simp[execOp,resolve,M,Deferred.ofValue,invoke,O _ w]
   have z:ao (J++k) G ((args.toList.map a.eval)++H.toList):=w9 (cE C p) K;have U:((args.toList.map a.eval)++H.toList).toArray=args.map a.eval++H:=Te
   have W:c8 (G.view names) i w:=(C.fin.mem.view I (cC j)).vw l R;have d:=nk (Gh.le.refl _) (fun e=>by cases e) E p1 (ao.ren (G:=G) (G':=G.view names) (fun _ _ _ h=>h) (uz names) (xm names) z)
   refine⟨fun u N hN => ?_,fun x u hE N => ?_⟩
   ·refine g8 Te ?_
    unfold Oper.wp;rw[m];have:=u w (G.view names) _ W d;rw[U]at this;refine this.mono ?_;intro Z w' c;obtain⟨G',v,rfl,hG⟩:=Li C j B Q I l R c;exact hN _ _ _ hG
   ·refine qb4 Te ?_
    unfold Oper.wp;rw[m];have:=u w (G.view names) _ W d;rw[U]at this;refine this.mono ?_;intro Z w' c;obtain⟨rfl,G',hf⟩:=c;obtain⟨G2,v,_,_,_,hR⟩:=zS (r := .undef) (e := .returned undef) C j B Ta I l R ⟨undef,G',rfl,hf,trivial⟩
    exact⟨_,rfl,hE _ _ hR⟩
  ·cases b
 ·cases b
def qcb{B:Tb}(F:∀e∈B.ents,e.Sound P){o:Oper}{q:Rq×List AV×Nat}(c:iM B s o=some q){d:D}(H:q.1.Out d) :
  ∃g args l t f b n names xs h r k,o.op = .call { callee := .value g,args,argTypes:=l }/\o.dst=some t/\s.ev g=some (.fn (.func f) [] b)/\s.evs args.toList=some n/\q.2=(n++b,t)/\d = .mem names xs h r k/\Plain P f /\
   (match n9 r with
    |none=>di P f xs h r k| some x=>AO P x f xs h k) /\
   (∀ps,ci false [] (AV.rens (bf names) (n++b)) xs=some ps->ay ps)/\(∀hpv ps,ja (bf names) s.hp names=some hpv->lz hpv h=some ps->ay ps):=by
 unfold iM at c;split at c
 ·rename_i g args l t C E;split at c
  ·rename_i f b n I i;split at c
   ·rename_i R v;have c:=qJ c;subst c;obtain⟨e,j,p⟩:=cI v;unfold qce at p;cases m:zN f e.key<;>rw[m]at p<;>simp only[qT,qF,reduceCtorEq]at p
    obtain⟨names,x1,A,z,J,K,N,O,L,M⟩:=zR p H;have y:=F e j x1 A z J;obtain⟨Q,u⟩:=qog m;rw[u]at y;exact⟨g,args,l,t,f,b,n,names,_,_,_,_,C,E,I,i,rfl,K,y.1,y.2,L,M⟩
   ·cases c
  ·cases c
 ·cases c
def qcd{I:Tb}(U:∀e∈I.ents,e.Sound P)(hr:aj q72 q7w q7z G s a w){R:Type}{o:Oper}{q:Rq×List AV×Nat}(hq:iM I s o=some q){E:AV->St->Option R}{K:St->Option R}{y:R}(h:Fg s q E K=some y){N:Act->World->Prop}
  (T:∀s',K s'=some y->∀G' m w',aj q72 q7w q7z G' s' m w'->N m w')
  (S:∀t n s',E (f8 t n) s'=some y->∀G' m w',ji q72 q7w q7z G' s' m w'->TT [{ v:=wv t n,recovered:=false }] m w'):uw P TT o a w N:=by
 unfold Fg at h;obtain⟨d,V,h⟩:=Rq.K_some h;obtain⟨g,H,aa,t,f,J,ys,C,xs,Y,r,Z,X,p,W,j,B,rfl,A,c,k5,k6⟩:=qcb U hq V;simp only[B]at h;split at h
 ·rename_i ps s' z;obtain⟨c1,c2⟩:=qcc (TT:=TT) hr X p W j A z k5 k6;split at h
  ·rename_i tx n l;rw[l]at c;exact c2 _ c (fun G' w' x=>S tx n _ h _ _ _ x.lt) N
  ·rename_i l;rw[l]at c;intro F i b u k L M O Q;exact .inl (c1 c N (fun G' m w' x=>T _ h _ _ _ x) F i b u k L M O Q)
 ·cases h
def qtr{O:Tb}(V:∀e∈O.ents,e.Sound P){t:St}{o:Oper}{q:Rq×List AV×Nat}(Z:iM O t o=some q){N:List (Nat×Nat)}{xs:List AV}{c d:List (Nat×ag)}{r:AV}(X:q.1.Out (.mem N xs c r d)){ps:List Prop}{A:Md}(m:zl t True q.2.1 N xs c r d q.2.2=some (ps,A)) :
  (n9 r=none->pS P o t A) /\
  ∀x,n9 r=some x->∀(st:St),tw o t st->t.n=st.n->∀(G:Gh)(a:Act)(w:World),aj q72 q7w q7z G st a w->(∀G' w',aj q72 q7w q7z G' { st with hp:=A.h++st.hp } a w'->TT [{ v:=wv x.1 x.2,recovered:=false }] a w')->∀N:Act->World->Prop,uw P TT o a w N:=by
 obtain⟨g,j,ac,I,f,Q,ys,H,xs,c,r,d,L,l,K,b,E,e,C,h,k5,k6⟩:=qcb V Z X;cases e
 rw[E]at m;simp only at m;have k:∀(q72:World)(q7w:Gh)(q7z:List (Nat×ag))(st:St),tw o t st->t.n=st.n->∀(G:Gh)(a:Act)(w:World),aj q72 q7w q7z G st a w->(di P f xs c r d->∀N:Act->World->Prop,(∀G' J w',aj q72 q7w q7z G' (st.addM A) J w'->N J w')->iw P o a w N) /\
  (∀x,AO P x f xs c d->(∀G' w',aj q72 q7w q7z G' { st.addM A with fr:=st.fr } a w'->TT [{ v:=wv x.1 x.2,recovered:=false }] a w')->∀N:Act->World->Prop,uw P TT o a w N):=by
  intro q72 q7w q7z st i u G a w y;have n:=i.ev;rw[L]at n;have R:t.ev g=st.ev g:=n g Tx
  have S:t.evs j.toList=st.evs j.toList:=nF (fun x hx=>n x (by simp[Op.operands,Call.operands];exact .inr (by simpa using hx)))
  rw[R]at K;rw[S]at b;have B:=Sh i.hp (i.room I l) i.nx u m;refine qcc (TT:=TT) y L l K b C (Sg B) k5 fun Y ps hv F => ?_
  unfold zl at m;cases W:eh N&&qz N&&bq (t.nx+32*I) t.hp&&Nat.blt I t.n<;>rw[W]at m<;>simp only[qT,qF,reduceCtorEq]at m
  split at m
  ·rename_i M ab z aa;have:=M4 i.hp z;rw[hv]at this;have:=qJ this;subst this;exact k6 _ _ z F
  ·cases m
 refine⟨fun p st i u q72 q7w q7z G a w y N U => ?_,fun x p st i u G a w y T N => ?_⟩
 ·rw[p]at h;exact(k q72 q7w q7z st i u G a w y).1 h N U
 ·rw[p]at h;exact(k q72 q7w q7z st i u G a w y).2 x h T N
end
end Go.Sym
namespace Go.Sym
open Go.RowKit
variable{TT:List PanicEntry->Act->World->Prop}[LC]
mutual
def L9:AV->List Nat|.own k=>[k]|.agg xs=>hP xs|.tup xs=>hP xs|.fn _ _ xs=>hP xs|.iface _ x=>L9 x|_=>[]
def hP:List AV->List Nat|[]=>[]|x::xs=>L9 x++hP xs
end
mutual
def zB:Pt->AV->List Nat
 |.h _,x=>L9 x|.agg ps,x=>match x with|.agg xs=>cN ps xs|_=>[]
 |.tup ps,x=>match x with|.tup xs=>cN ps xs|_=>[]
 |.fn _ ps,x=>match x with|.fn _ _ xs=>cN ps xs|_=>[]
 |.ifc _ p,x=>match x with|.iface _ y=>zB p y|_=>[]
 |_,_=>[]
def cN:List Pt->List AV->List Nat
 |[],_=>[]|p::ps,xs=>match xs with|x::xs=>zB p x++cN ps xs|[]=>[]
end
def frzL:List Nat->St->St
 |[],s=>s|k::ks,s=>match s.freeze k with|some s'=>frzL ks s'|none=>frzL ks s
mutual
def Lx:Pt->AV->NM
 |.ptr b _,x=>match Dw x with|some (b',_)=>[(b,b')]|none=>[]
 |.own k,x=>match Du x with|some k'=>[(k,k')]|none=>[]
 |.el k _,x=>match yB x with|some (k',_)=>[(k,k')]|none=>[]
 |.ifc _ p,x=>match Dt x with|some (_,y)=>Lx p y|none=>[]
 |.iel _ k _,x=>match Ds x with|some (_,k',_)=>[(k,k')]|none=>[]
 |.yld k,x=>match Dy x with|some k'=>[(k,k')]|none=>[]
 |.pn k,x=>match Dv x with|some k'=>[(k,k')]|none=>[]
 |.agg ps,x=>match asAgg x with|some xs=>zm ps xs|none=>[]
 |.tup ps,x=>match Dx x with|some xs=>zm ps xs|none=>[]
 |.fn _ ps,x=>match JD x with|some (_,xs)=>zm ps xs|none=>[]
 |_,_=>[]
def zm:List Pt->List AV->NM
 |[],_=>[]|p::ps,xs=>match xs with|x::xs=>Lx p x++zm ps xs|[]=>[]
end
def Et:List (Nat×bu)->Nat->Option bu|[],_=>none|(k,v)::r,i=>bif Nat.beq k i then some v else Et r i
def coB1(bs:List (Nat×bu))(b:Nat):List Pt->Nat->St->St
 |[],_,s=>s|p::ps,off,s=>match p,af s.hp b with
  |.own k,some (.cells cs _)=>match Et bs k,cs[off]? with
   | some (.row τ E),some x=>bif o8 x then(match s.ownCell b off τ E with
     |some s'=>coB1 bs b ps (off+1) s'| none=>coB1 bs b ps (off+1) s) else coB1 bs b ps (off+1) s
   |_,_=>coB1 bs b ps (off+1) s
  |p,some (.cells cs _)=>match cs[off]? with|some x=>coB1 bs b ps (off+1) (frzL (zB p x) s)|none=>coB1 bs b ps (off+1) s
  |_,_=>coB1 bs b ps (off+1) s
def coB(bs:List (Nat×bu))(nm:NM):List (Nat×bu)->St->St
 |[],s=>s|(n,p)::r,s=>match p,bm nm n with
  |.cells ps _,some b=>coB bs nm r (coB1 bs b ps 0 s)|.dat _ _,some b=>match af s.hp b with|some (.cells cs _)=>coB bs nm r (frzL (hP cs) s)|_=>coB bs nm r s
  |_,_=>coB bs nm r s
def coF(bs:List (Nat×bu)):List (Nat×Pt)->St->St
 |[],s=>s|(i,p)::r,s=>match p,af s.fr i with
  | .own k,some x=>bif o8 x then(match Et bs k with
    |some (.row τ E)=>match s.ownNil i τ E with|some s'=>coF bs r s'|none=>coF bs r s
    | _=>coF bs r s) else coF bs r s
  |p,some x=>coF bs r (frzL (zB p x) s)|_,none=>coF bs r s
def zX(fr:List (Nat×AV)):List (Nat×Pt)->NM
 |[]=>[]|(i,p)::r=>match af fr i with|some x=>Lx p x++zX fr r|none=>zX fr r
def nh(s:St):List (Nat×bu)->NM->NM
 |[],nm=>nm|(n,p)::r,nm=>match bm nm n with
  |some b=>match p,af s.hp b with|.cells ps _,some (.cells cs _)=>nh s r (nm++zm ps cs)|.loop _ _ _ _ fr _ _ D,some (.loop _ _ _ _ fr' _ _ D')=>nh s r (nm++((D,D')::zX fr' fr))|_,_=>nh s r nm
  |none=>nh s r nm
def LS.co(a:LS)(b:NM)(s:St):St:=coF a.hp a.fr (coB a.hp (nh s a.hp (b++zX s.fr a.fr)) a.hp s)
section
variable{P:Program}{q72:World}{q7w:Gh}{q7z:List (Nat×ag)}{a:Act}{w:World}
def aj.frzL:∀{ks:List Nat}{s:St}{G:Gh},aj q72 q7w q7z G s a w->∃G',aj q72 q7w q7z G' (frzL ks s) a w
 |[],s,G,hr=>⟨G,hr⟩|k::ks,s,G,hr=>by
  simp[Sym.frzL];split
  ·rename_i s' h;obtain⟨G',b⟩:=hr.freeze h;exact aj.frzL b
  ·exact aj.frzL hr
def aj.coB1{bs:List (Nat×bu)}{b:Nat}:∀{ps:List Pt}{d:Nat}{s:St}{G:Gh},aj q72 q7w q7z G s a w->∃G',aj q72 q7w q7z G' (coB1 bs b ps d s) a w
 |[],_,s,G,hr=>⟨G,hr⟩|p::ps,d,s,G,hr=>by
  unfold Sym.coB1;split
  ·split
   ·rename_i x _ _;cases e:o8 x<;>simp
    ·exact aj.coB1 hr
    ·split
     ·rename_i h;obtain⟨G',c⟩:=hr.ownCell h;exact aj.coB1 c
     ·exact aj.coB1 hr
   ·exact aj.coB1 hr
  ·split
   ·obtain⟨G',c⟩:=hr.frzL;exact aj.coB1 c
   ·exact aj.coB1 hr
  ·exact aj.coB1 hr
def aj.coB{bs:List (Nat×bu)}{nm:NM}:∀{l:List (Nat×bu)}{s:St}{G:Gh},aj q72 q7w q7z G s a w->∃G',aj q72 q7w q7z G' (coB bs nm l s) a w
 |[],s,G,hr=>⟨G,hr⟩|(n,p)::r,s,G,hr=>by
  unfold Sym.coB;split
  ·obtain⟨G',b⟩:=hr.coB1;exact aj.coB b
  ·split
   ·obtain⟨G',b⟩:=hr.frzL;exact aj.coB b
   ·exact aj.coB hr
  ·exact aj.coB hr
def aj.coF{bs:List (Nat×bu)}:∀{l:List (Nat×Pt)}{s:St}{G:Gh},aj q72 q7w q7z G s a w->∃G',aj q72 q7w q7z G' (coF bs l s) a w
 |[],s,G,hr=>⟨G,hr⟩|(i,p)::r,s,G,hr=>by
  unfold Sym.coF;split
  ·rename_i x _;cases c:o8 x<;>simp
   ·exact aj.coF hr
   ·split
    ·split
     ·rename_i h;obtain⟨G',b⟩:=hr.ownNil h;exact aj.coF b
     ·exact aj.coF hr
    ·exact aj.coF hr
  ·obtain⟨G',b⟩:=hr.frzL;exact aj.coF b
  ·exact aj.coF hr
def aj.co{s:St}{G:Gh}(e:aj q72 q7w q7z G s a w)(c:LS)(b:NM):∃G',aj q72 q7w q7z G' (c.co b s) a w:=by
 obtain⟨G',d⟩:=e.coB (bs:=c.hp) (nm:=nh s c.hp (b++zX s.fr c.fr)) (l:=c.hp);exact d.coF
end
def nmY(k:tv)(m:Nat):NM:=match k with|.yld m'=>[(m',m)]|_=>[]
def yR(g:dc->Bool):List dc->Option dc|[]=>none|e::es=>bif g e then some e else yR g es
def Qz(a:Tb)(s:St)(b:Op):Option St:=
 match b with
 |.call { callee := .value g,args,argTypes:=_ }=>match s.ev g,s.evs args.toList with
  |some (.fn (.func f) fst cap),some xs=>match yR (fun e=>ww f e.key) a.ents with|some e=>some (coB e.hp (nh s e.hp (zm e.args ((fst++xs)++cap))) e.hp (frzL (cN e.args ((fst++xs)++cap)) s))|none=>none
  |some (.yld m),some ys=>match af s.hp m with
   | some (.loop _ _ _ _ _ _ tag _)=>match yR (fun e=>match e.key with
     |.yld m'=>match Et e.hp m' with|some (.loop _ _ _ _ _ _ tag' _)=>Nat.beq tag' tag|_=>false
     | _=>false) a.ents with
    |some e=>some (coB e.hp (nh s e.hp (nmY e.key m++zm e.args ys)) e.hp (frzL (cN e.args ys) s))|none=>none
   |_=>none
  |_,_=>none
 |.slice _ x _ _ _=>match s.ev x with|some (.own k)=>some (frzL [k] s)|_=>none
 |.buildSlice _ _ parts=>match s.evs (parts.toList.map (·.2)) with|some xs=>some (frzL (hP xs) s)|none=>none
 |_=>none
def DX{R:Type}(P:Program)(a:Tb)(s:St)(o:Oper)(K:St->Option R):Option R:=
 match y6 P a s o.op with
 |some q=>q.K fun d=>match t7 P s d o with|some (_,s')=>K s'|none=>none
 |none=>none
def R4:Option Rq->Bool|some _=>true|none=>false
def Q0(b:Tb)(s:St)(a:Op):Option St:=
 match a with
 |.call { callee := .value g,args,argTypes:=_ }=>match s.ev g,s.evs args.toList with
  |some (.fn (.func f) [] cap),some xs=>match yR (fun e=>zN f e.key) b.ents with|some e=>some (coB e.hp (nh s e.hp (zm e.args (xs++cap))) e.hp (frzL (cN e.args (xs++cap)) s))|none=>none
  |_,_=>none
 |_=>none
def M0{R:Type}(a:Tb)(s:St)(o:Oper)(E:AV->St->Option R)(K:St->Option R):Option R:=
 match iM a s o with
 |some q=>Fg s q E K|none=>match Q0 a s o.op with
  |some s'=>match iM a s' o with|some q=>Fg s' q E K|none=>none
  |none=>none
def LF:Op->Option Operand|.panic x=>some x|_=>none
def qp1{a:Op}{x:Operand}(h:LF a=some x):a = .panic x:=by
 unfold LF at h;split at h
 ·cases h;rfl
 ·cases h
def yT{R:Type}(P:Program)(a:Tb)(E:AV->St->Option R)(s:St)(o:Oper)(K:St->Option R):Option R:=
 match Mg P s o with
 |some s'=>K s'|none=>match JZ P s o with
 |some s'=>K s'|none=>match Lk P s o K with
 |some r=>r|none=>match KR P s o K with
 |some r=>r|none=>match Lw P s o with
 |some (b,s')=>bif b then K s' else none|none=>match K7 P s o with
 |some (b,s')=>bif b then K s' else none|none=>match K1 a s o K with
 |some r=>r|none=>match Mq P a s o with
 |some (b,s')=>bif b then K s' else none|none=>match KG P s o with
 |some s'=>K s'|none=>match LF o.op with
 |some x=>LG s x E|none=>bif R4 (y6 P a s o.op) then DX P a s o K else
  match Qz a s o.op with|some s'=>DX P a s' o K|none=>M0 a s o E K
def St.know(s:St)(x:Operand)(b:Bool):St:=match x with|.tmp t=>bif Nat.blt t s.n then{ s with fr:=(t,.val (.bool b))::s.fr } else s|_=>s
def nA(ops:Array Oper)(j:Nat):Operand:=match ops[j]? with
 |some o=>match o.dst with|some t => .tmp t|none => .const undef
 |none => .const undef
def L7{R:Type}(P:Program)(a:Tb)(ops:Array Oper)(E:AV->St->Option R)(s:St)(o:Oper)(K:St->Option R):Option R:=
 match o.guard with
 |none=>yT P a E s o K|some (j,want)=>match ze ops s j with
  |none=>none|some none=>match s.add o.dst (.val undef) [] with|some s'=>K s'|none=>none
  |some (some b)=>bif b then
    (bif want then yT P a E (s.know (nA ops j) true) o K else match(s.know (nA ops j) true).add o.dst (.val undef) [] with
     |some s'=>K s'| none=>none)
   else(bif want then(match(s.know (nA ops j) false).add o.dst (.val undef) [] with
     |some s'=>K s'| none=>none) else yT P a E (s.know (nA ops j) false) o K)
def hK{R:Type}(P:Program)(a:Tb)(ops:Array Oper)(E:AV->St->Option R):List Oper->St->(St->Option R)->Option R|[],s,K=>K s|o::l,s,K=>L7 P a ops E s o fun s'=>hK P a ops E l s' K
section
variable{P:Program}{q72:World}{q7w:Gh}{q7z:List (Nat×ag)}{G:Gh}{a:Act}{w:World}{R:Type}{tb:Tb}{s:St}{E:AV->St->Option R}
def QU(j:∀e∈tb.ents,e.Sound P)(l:aj q72 q7w q7z G s a w){o:Oper}{K:St->Option R}{x:R}(h:DX P tb s o K=some x){N:Act->World->Prop}(i:∀s',K s'=some x->∀G' c w',aj q72 q7w q7z G' s' c w'->N c w'):iw P o a w N:=by
 unfold DX at h;split at h
 ·rename_i q k;obtain⟨d,g,b⟩:=Rq.K_some h;split at b
  ·rename_i m s' f;exact Dm l f (PH j k g f) (i s' b)
  ·cases b
 ·cases h
def ux{o:Oper}{N:Act->World->Prop}(h:iw P o a w N):uw P TT o a w N:=fun d i b c k e f g j => .inl (h d i b c k e f g j)
def qtp(k:∀e∈tb.ents,e.Sound P)(l:aj q72 q7w q7z G s a w){o:Oper}{K:St->Option R}{x:R}(h:M0 tb s o E K=some x){N:Act->World->Prop}(j:∀s',K s'=some x->∀G' c w',aj q72 q7w q7z G' s' c w'->N c w')
  (i:∀t n s',E (f8 t n) s'=some x->∀G' c w',ji q72 q7w q7z G' s' c w'->TT [{ v:=wv t n,recovered:=false }] c w'):uw P TT o a w N:=by
 unfold M0 at h
 ·split at h
  ·rename_i q d;exact qcd k l d h j i
  ·split at h
   ·rename_i s' b;have:∃G',aj q72 q7w q7z G' s' a w:=by
     unfold Q0 at b;split at b
     ·split at b
      ·split at b
       ·simp at b;subst b;obtain⟨G1,g⟩:=l.frzL;exact g.coB
       ·cases b
      ·cases b
     ·cases b
    obtain⟨G',f⟩:=this;split at h
    ·rename_i q d;exact qcd k f d h j i
    ·cases h
   ·cases h
def Ky(j:∀e∈tb.ents,e.Sound P)(d:aj q72 q7w q7z G s a w){o:Oper}{K:St->Option R}{x:R}(h:yT P tb E s o K=some x){N:Act->World->Prop}(f:∀s',K s'=some x->∀G' i w',aj q72 q7w q7z G' s' i w'->N i w')
  (l:∀t n s',E (f8 t n) s'=some x->∀G' i w',ji q72 q7w q7z G' s' i w'->TT [{ v:=wv t n,recovered:=false }] i w'):uw P TT o a w N:=by
 unfold yT at h;split at h
 ·rename_i s' c;exact ux <| qse d c (f s' h)
 split at h
 ·rename_i s' c;exact ux <| qkj d c (f s' h)
 split at h
 ·rename_i m c;exact ux <| qo6 d c h f
 split at h
 ·rename_i m c;exact ux <| qn2 d c h f
 split at h
 ·rename_i b s' c;cases b<;>simp at h
  exact ux <| qpi d c (f s' h)
 split at h
 ·rename_i b s' c;cases b<;>simp at h
  exact ux <| qmi d c (f s' h)
 split at h
 ·rename_i m c;exact ux <| ql8 j d c h f
 split at h
 ·rename_i b s' c;cases b<;>simp at h
  exact ux <| qtc d c (f s' h)
 split at h
 ·rename_i s' c;exact ux <| qna d c (f s' h)
 split at h
 ·rename_i y q;exact qp2 d (qp1 q) h l
 cases p:R4 (y6 P tb s o.op)<;>rw[p]at h<;>simp at h
 ·split at h
  ·rename_i s' c;have:∃G',aj q72 q7w q7z G' s' a w:=by
    unfold Qz at c;split at c
    ·split at c
     ·split at c
      ·simp at c;subst c;obtain⟨G1,g⟩:=d.frzL;exact g.coB
      ·cases c
     ·split at c
      ·split at c
       ·simp at c;subst c;obtain⟨G1,g⟩:=d.frzL;exact g.coB
       ·cases c
      ·cases c
     ·cases c
    ·split at c
     ·simp at c;subst c;exact d.frzL
     ·cases c
    ·split at c
     ·simp at c;subst c;exact d.frzL
     ·cases c
    ·cases c
   obtain⟨G',k⟩:=this;exact ux <| QU j k h f
  ·exact qtp j d h f l
 ·exact ux <| QU j d h f
def aj.know(c:aj q72 q7w q7z G s a w){x:Operand}{b:Bool}(h:a.eval x = .bool b):aj q72 q7w q7z G (s.know x b) a w:=by
 unfold St.know;split
 ·rename_i t;cases g:Nat.blt t s.n
  ·exact c
  ·refine⟨c.defers,c.size,fun i y d => ?_,c.fresh,c.fin⟩
   simp[qT,af]at d;cases f:Nat.beq t i
   ·rw[f]at d;exact c.frame i y d
   ·rw[f]at d;simp at d;subst d;have:=qN f;subst this;have e:t<a.tmps.size:=by rw[c.size];exact Nat.lt_of_lt_of_le (Nat.lt_succ_self t) (Nat.le_of_ble_eq_true g)
    refine⟨a.tmps[t],by simp[e],?_⟩
    have h:a.tmps.getD t undef = .bool b:=h;simp[Array.getD,e,dif_pos]at h;exact h
 ·exact c
def q7f{ops:Array Oper}{j:Nat}{b:Bool}(h:yielded ops a.tmps j=some b):a.eval (nA ops j) = .bool b:=by
 unfold nA;unfold yielded at h
 cases d:ops[j]? with
 |none=>rw[d]at h;simp at h|some o=>
  rw[d]at h
  cases c:o.dst with
  |none=>simp[c]at h|some t=>
   simp[c,qB]at h ⊢;show a.tmps.getD t undef=_;rw[Array.getD_eq_getD_getElem?]
   cases f:a.tmps[t]? with
   |none=>rw[f]at h;simp at h|some v=>
    rw[f]at h;simp at h ⊢;split at h
    ·rename_i e;simp at h;subst h;exact qJ e
    ·cases h
def aj.skip(b:aj q72 q7w q7z G s a w){dst:Option Tmp}{s':St}(h:s.add dst (.val undef) []=some s'):aj q72 q7w q7z G s' (a.put dst undef) w:=jv b h rfl
def S8(u:∀e∈tb.ents,e.Sound P)(f:aj q72 q7w q7z G s a w){ops:Array Oper}{i:Nat}{o:Oper}(q:ops[i]? = some o){K:St->Option R}{x:R}(h:L7 P tb ops E s o K=some x){N:Act->World->Prop}(m:∀s',K s'=some x->∀G' k w',aj q72 q7w q7z G' s' k w'->N k w')
  (r:∀t n s',E (f8 t n) s'=some x->∀G' k w',ji q72 q7w q7z G' s' k w'->TT [{ v:=wv t n,recovered:=false }] k w'):ue P TT ops i N a w:=by
 have skip:∀{s:St},aj q72 q7w q7z G s a w->(match s.add o.dst (.val undef) [] with|some s'=>K s'|none=>none)=some x->¬Region.wanted o (yielded ops a.tmps)=true->ue P TT ops i N a w:=fun f h z=>by
  split at h
  ·rename_i s' y;exact Kh q z (m s' h _ _ _ (f.skip y))
  ·cases h
 unfold L7 at h;split at h
 ·rename_i c;exact DF q (by simp[Region.wanted,c]) (Ky u f h m r)
 ·rename_i j l c;split at h
  ·cases h
  ·rename_i d;have g:=Ef f d;exact skip f h (by simp[Region.wanted,c,g])
  ·rename_i b d;have g:=Ef f d;have p:=f.know (q7f g);cases b<;>cases l<;>simp at h
   ·exact DF q (by simp[Region.wanted,c,g]) (Ky u p h m r)
   ·exact skip p h (by simp[Region.wanted,c,g])
   ·exact skip p h (by simp[Region.wanted,c,g])
   ·exact DF q (by simp[Region.wanted,c,g]) (Ky u p h m r)
def SB(g:∀e∈tb.ents,e.Sound P){ops:Array Oper}{K:St->Option R}{x:R}{N:Act->World->Prop}(f:∀s',K s'=some x->∀G' b w',aj q72 q7w q7z G' s' b w'->N b w')
  (d:∀t n s',E (f8 t n) s'=some x->∀G' b w',ji q72 q7w q7z G' s' b w'->TT [{ v:=wv t n,recovered:=false }] b w') :
  ∀(l:List Oper)(i:Nat)(s:St)(G:Gh)(a:Act)(w:World),(∀j,j<l.length->ops[i+j]? = l[j]?)->hK P tb ops E l s K=some x->aj q72 q7w q7z G s a w->za P TT ops N (List.range' i l.length) a w
 |[],i,s,G,a,w,_,h,hr=>f s h G a w hr|o::l,i,s,G,a,w,hl,h,hr=>by
  simp;exact S8 g hr (by have:=hl 0 Te;simpa using this) h (fun s' k G' b w' c=>SB g f d l (i+1) s' G' b w' (fun j m=>by have:=hl (j+1) Td;simpa [Nat.add_assoc,Nat.add_comm 1 j] using this) k c) d
end
end Go.Sym
namespace Go.Sym
open Go.RowKit
variable{TT:List PanicEntry->Act->World->Prop}[LC]
def nT:List (Nat×Bool)->Nat->Option Bool|[],_=>none|(k,v)::r,i=>bif Nat.beq k i then some v else nT r i
def EV(t:Nat):List HR->Nat->Option Nat|[],_=>none|r::rs,j=>bif Nat.beq r.dst t then some j else EV t rs (j+1)
def RF(a:List Nat)(Rs:List HR)(b:List (Nat×Bool))(d:Op):Option Bool:=
 match d with
 |.pick (.tmp c) _ _=>match EV c Rs 0 with|some j=>bif cg a j then nT b j else none|none=>none
 |_=>none
def PD(P:Program)(f:Tb)(t:St)(a:List Nat)(Rs:List HR)(e:List (Nat×Bool))(c:Op):Option Rq:=
 match RF a Rs e c with|some d=>some (.tot (.b d))|none=>y6 P f t c
def nG{R:Type}(P:Program)(c:Tb)(t:St)(a:List Nat)(Rs:List HR)(b:List (Nat×Bool))(o:Oper)(K:AV->List (Nat×ag)->Option R):Option R:=
 match PD P c t a Rs b o.op with
 |some q=>q.K fun d=>match gq P t d o with|some (_,v,new)=>K v new|none=>none
 |none=>none
def zK:AV->Bool|.bool _=>true|_=>false
def yx(a:List Nat)(Rs:List HR)(j:Nat)(d:Bool)(b:List (Nat×Bool)):List (Nat×Bool):=match Rs[j]? with|some r=>bif cg a j&&zK r.v then(j,d)::b else b|none=>b
def EA{R:Type}(P:Program)(f:Tb)(ops:Array Oper)(t:St)(a:List Nat)(Rs:List HR)(e:List (Nat×Bool))(o:Oper)(K:AV->List (Nat×ag)->List (Nat×Bool)->Option R):Option R:=
 match o.guard with
 |none=>nG P f t a Rs e o fun v c=>K v c e
 |some (j,want)=>match ze ops t j with
  |none=>none|some none=>K (.val undef) [] e|some (some b)=>match(bif cg a j then nT e j else none) with
   |some d=>bif d==want then(nG P f t a Rs e o fun v c=>K v c e) else K (.val undef) [] e
   |none=>bif b then(bif want then(nG P f t a Rs (yx a Rs j true e) o fun v c=>K v c (yx a Rs j true e)) else K (.val undef) [] (yx a Rs j true e))
    else(bif want then K (.val undef) [] (yx a Rs j false e) else(nG P f t a Rs (yx a Rs j false e) o fun v c=>K v c (yx a Rs j false e)))
def Eh{R:Type}(P:Program)(b:Tb)(ops:Array Oper)(s:St)(K:List HR->List (Nat×Bool)->Option R):List Oper->Nat->List HR->List (Nat×Bool)->Option R
 |[],_,Rs,kn=>K Rs kn|o::l,i,Rs,kn=>match o.dst,pc Rs o.after.toList with
  |some d,some pred=>bif Nat.blt d s.n&&bq (s.nx+32*d) s.hp&&rh d Rs&&uq pred (lv ops o) Rs 0&&vc ops d pred i then
    EA P b ops (wg pred Rs 0 s) pred Rs kn o fun v new a=>Eh P b ops s K l (i+1) (Rs++[⟨d,v,new,pred⟩]) a
   else none
  |_,_=>none
def JY:List Oper->Nat->Nat|[],n=>n|o::l,n=>bif Nat.ble 2 n&&A2 o (n-2) then JY l (n-1) else n-1
def QX(ops:Array Oper):List Oper->Nat->Nat|[],n=>n|o::l,n=>bif SY ops o n then n else QX ops l (n+1)
def lm(ops:Array Oper):Nat:=QX ops (ops.toList.drop (JY ops.toList.reverse ops.toList.length)) (JY ops.toList.reverse ops.toList.length)
def cW(Rs:List HR)(a:List (Nat×Bool)):List (Nat×Bool)->St->St
 |[],s=>s|(j,_)::l,s=>match nT a j,Rs[j]? with|some d,some r=>(cW Rs a l s).know (.tmp r.dst) d|_,_=>cW Rs a l s
def Kq{R:Type}(P:Program)(c:Tb)(ops:Array Oper)(E:AV->St->Option R)(s:St)(K:St->Option R):Option R:=
 bif nz ops.toList 0&&qh ops (lm ops)&&Nat.ble (lm ops) ops.toList.length then
  Eh P c ops s (fun a b=>hK P c ops E (ops.toList.drop (lm ops)) (cW a b b (ov a s)) K) (ops.toList.take (lm ops)) 0 [] []
 else none
section
variable{P:Program}{q72:World}{q7w:Gh}{q7z:List (Nat×ag)}{G:Gh}{a:Act}{w:World}{R:Type}{tb:Tb}{s:St}{E:AV->St->Option R}
def nv(Rs:List HR)(b:List (Nat×Bool)):Prop:=∀j d,nT b j=some d->∃r,Rs[j]? = some r/\r.v = .bool d
def qhx{b:List Nat}{Rs:List HR}{j:Nat}{d:Bool}{l:List (Nat×Bool)}(f:nv Rs l)(h:∀r,Rs[j]? = some r->cg b j=true->zK r.v=true->r.v = .bool d):nv Rs (yx b Rs j d l):=by
 unfold yx;split
 ·rename_i r i;cases e:cg b j&&zK r.v
  ·exact f
  ·simp at e;intro k m c;simp[qT,nT]at c;cases g:Nat.beq j k
   ·rw[g]at c;exact f k m c
   ·rw[g]at c;simp at c;subst c;have:=qN g;subst this;exact⟨r,i,h r i e.1 e.2⟩
 ·exact f
def qaw{t:Nat}:∀{rs:List HR}{b j:Nat},EV t rs b=some j->∃k r,j=b+k/\rs[k]? = some r/\r.dst=t
 |[],b,j,h=>by cases h
 |r::rs,b,j,h=>by
  simp[EV]at h;cases c:Nat.beq r.dst t
  ·rw[c]at h;obtain⟨k,f,g,d,e⟩:=qaw h;exact⟨k+1,f,Ta,by simpa using d,e⟩
  ·rw[c]at h;simp at h;exact⟨0,r,Ta,Te,qN c⟩
def DW(L:∀e∈tb.ents,e.Sound P){t:St}{g:List Nat}{Rs:List HR}{J:List (Nat×Bool)}{o:Oper}{K:AV->List (Nat×ag)->Option R}{x:R}(B:nv Rs J)(N:∀j r,cg g j=true->Rs[j]? = some r->af t.fr r.dst=some r.v)
  (h:nG P tb t g Rs J o K=some x):∃ps d v new,gq P t d o=some (ps,v,new)/\ay ps/\K v new=some x:=by
 unfold nG at h;split at h
 ·rename_i q m;obtain⟨d,n,u⟩:=Rq.K_some h;split at u
  ·rename_i ps v new f;refine⟨ps,d,v,new,f,?_,u⟩;unfold PD at m;split at m
   ·rename_i p i;simp at m;subst m;have n:d = .b p:=n;subst n;unfold RF at i;split at i
    ·rename_i c y z l;split at i
     ·rename_i j M;obtain⟨k,r,rfl,H,O⟩:=qaw M;rw[wO]at i;cases F:cg g k<;>rw[F]at i<;>simp at i
      obtain⟨T,I,Q⟩:=B k p i;rw[H]at I;have:=qJ I;subst this;have C:=N k r F H;rw[O,Q]at C;unfold gq at f;rw[l]at f;have A:t.ev (.tmp c)=some (.bool p):=C;simp[d6,A]at f;split at f
      ·rename_i S U e;simp at f;obtain⟨rfl,_,_⟩:=f;split at e
       ·simp at e;obtain⟨rfl,_⟩:=e;exact⟨trivial,trivial⟩
       ·cases e
      ·unfold lg at f;rw[l]at f;cases f
     ·cases i
    ·cases i
   ·exact PG L m n f
  ·cases u
 ·cases h
def S9(I:∀e∈tb.ents,e.Sound P){ops:Array Oper}{t:St}{i:List Nat}{Rs:List HR}{y:List (Nat×Bool)}{o:Oper}{K:AV->List (Nat×ag)->List (Nat×Bool)->Option R}{x:R}(k:nv Rs y)
  (F:∀j r,cg i j=true->Rs[j]? = some r->af t.fr r.dst=some r.v) (S:∀(j:Nat)(r:HR),cg i j=true->Rs[j]? = some r->∃L:Oper,ops[j]? = some L/\L.dst=some r.dst)
  (h:EA P tb ops t i Rs y o K=some x):∃ps,∃c:xw,∃v new H,mq P ops t c o=some (ps,v,new)/\ay ps/\nv Rs H/\K v new H=some x:=by
 unfold EA at h;unfold mq;split at h
 ·rename_i l;obtain⟨ps,d,v,new,n,p,q⟩:=DW I k F h;exact⟨ps,(false,d),v,new,y,by rw[l];exact n,p,k,q⟩
 ·rename_i j m l;split at h
  ·cases h
  ·rename_i f;exact⟨[],(false,.none),_,_,y,by simp[l,f],trivial,k,h⟩
  ·rename_i b f;have M:∀r,Rs[j]? = some r->cg i j=true->zK r.v=true->r.v = .bool b:=fun r O B N=>by
    obtain⟨L,V,W⟩:=S j r B O;have T:=F j r B O;unfold ze at f;simp[V,W,T]at f;cases C:r.v<;>rw[C]at N<;>simp[zK,wJ]at N
    rw[C]at f;simp at f;subst f;rfl
   split at h
   ·rename_i d u;cases B:cg i j<;>rw[B]at u<;>simp at u
    obtain⟨r,U,Q⟩:=k j d u;have A:b=d:=by
     have:=M r U B (by rw[Q];rfl)
     rw[Q]at this;simpa using this.symm
    cases J:d==m<;>rw[J]at h<;>simp at h
    ·exact⟨[b=d],(d,.none),_,_,y,by simp[l,f,J],⟨A,trivial⟩,k,h⟩
    ·obtain⟨ps,z,v,new,n,p,q⟩:=DW I k F h;exact⟨(b=d)::ps,(d,z),v,new,y,by simp[l,f,J,n],⟨A,p⟩,k,q⟩
   ·have g:∀d,b=d->nv Rs (yx i Rs j d y):=fun d e=>qhx k (by subst e;exact M)
    cases b<;>cases m<;>simp at h
    ·obtain⟨ps,z,v,new,n,p,q⟩:=DW I (g false rfl) F h;exact⟨(false=false)::ps,(false,z),v,new,_,by simp[l,f,n],⟨rfl,p⟩,g false rfl,q⟩
    ·exact⟨[false=false],(false,.none),_,_,_,by simp[l,f],⟨rfl,trivial⟩,g false rfl,h⟩
    ·exact⟨[true=true],(true,.none),_,_,_,by simp[l,f],⟨rfl,trivial⟩,g true rfl,h⟩
    ·obtain⟨ps,z,v,new,n,p,q⟩:=DW I (g true rfl) F h;exact⟨(true=true)::ps,(true,z),v,new,_,by simp[l,f,n],⟨rfl,p⟩,g true rfl,q⟩
def Py{sel:List Nat}{d:Nat}:∀{rs:List HR}{j:Nat}{t:St},(∀r∈rs,r.dst≠d)->af (wg sel rs j t).fr d=af t.fr d
 |[],_,_,_=>rfl|r::rs,j,t,h=>by
  simp[wg];rw[Py (fun e b=>h e (qE _ b))]
  cases cg sel j
  ·rfl
  ·simp[qT,St.addR,af];have:=h r qH;cases c:Nat.beq r.dst d
   ·rfl
   ·exact absurd (qN c) this
def Px{sel:List Nat}:∀{rs:List HR}{j k:Nat}{t:St}{r:HR},rs[k]? = some r->cg sel (j+k)=true->(∀k' c,k<k'->rs[k']? = some c->c.dst≠r.dst)->af (wg sel rs j t).fr r.dst=some r.v
 |[],_,_,_,_,h,_,_=>by simp at h|r0::rs,j,0,t,r,h,hm,hd=>by
  simp at h;subst h;simp[wg];rw[Py (fun c b=>by
   obtain⟨k,d⟩:=List.getElem?_of_mem b;exact hd (k+1) c Ta (by simpa using d))]
  rw[Nat.add_zero]at hm;rw[hm];simp[St.addR,af]
 |r0::rs,j,k+1,t,r,h,hm,hd=>by
  simp[wg];exact Px (k:=k) (by simpa using h) (by rw[show j+1+k=j+(k+1) by omega];exact hm) (fun k' c d b=>hd (k'+1) c Ta (by simpa using b))
def Ps{d:Nat}:∀{rs:List HR}{t:St},(∀r∈rs,r.dst≠d)->af (ov rs t).fr d=af t.fr d
 |[],_,_=>rfl|r::rs,t,h=>by
  simp[ov];rw[Ps (fun e b=>h e (qE _ b))]
  show(bif Nat.beq r.dst d then some r.v else af t.fr d)=_
  cases c:Nat.beq r.dst d
  ·rfl
  ·exact absurd (qN c) (h r qH)
def Pr:∀{rs:List HR}{k:Nat}{t:St}{r:HR},rs[k]? = some r->(∀k' c,k<k'->rs[k']? = some c->c.dst≠r.dst)->af (ov rs t).fr r.dst=some r.v
 |[],_,_,_,h,_=>by simp at h|r0::rs,0,t,r,h,hd=>by
  simp at h;subst h;simp[ov];rw[Ps (fun c b=>by
   obtain⟨k,d⟩:=List.getElem?_of_mem b;exact hd (k+1) c Ta (by simpa using d))]
  show(bif Nat.beq r0.dst r0.dst then some r0.v else af t.fr r0.dst)=_
  simp
 |r0::rs,k+1,t,r,h,hd=>by
  simp[ov];exact Pr (k:=k) (by simpa using h) (fun k' c d b=>hd (k'+1) c Ta (by simpa using b))
def RG{Rs:List HR}(b:∀(k k':Nat)(r e:HR),k<k'->Rs[k]? = some r->Rs[k']? = some e->e.dst≠r.dst)(h:aj q72 q7w q7z G (ov Rs s) a w){o:List (Nat×Bool)}(c:nv Rs o):∀{l:List (Nat×Bool)},aj q72 q7w q7z G (cW Rs o l (ov Rs s)) a w
 |[]=>h|(j,_)::l=>by
  have n:=RG b h c (l:=l);unfold cW;split
  ·rename_i d r p g;obtain⟨e,m,q⟩:=c j d p;rw[g]at m;have:=qJ m;subst this;refine n.know ?_;obtain⟨v,u,f⟩:=h.frame r.dst _ (Pr g (fun k' e t i=>b j k' r e t g i))
   rw[q]at f;have f:v = .bool d:=f;subst f;show a.tmps.getD r.dst undef=_;rw[Array.getD_eq_getD_getElem?,u];rfl
  ·exact n
def Rn(U:∀e∈tb.ents,e.Sound P){ops:Array Oper}{K:List HR->List (Nat×Bool)->Option R}{x:R}:∀(l:List Oper)(i:Nat)(Rs:List HR)(J:List (Nat×Bool)),(∀j,j<l.length->ops[i+j]? = l[j]?)->Rs.length=i->nv Rs J ->
  (∀j o,j<i->ops[j]? = some o->wZ P ops s Rs j o)->Eh P tb ops s K l i Rs J=some x->∃g u,K g u=some x/\nv g u/\g.length=i+l.length/\∀j o,j<i+l.length->ops[j]? = some o->wZ P ops s g j o
 |[],i,Rs,J,_,ac,hkn,hH,h=>⟨Rs,J,h,hkn,ac,hH⟩|o::l,i,Rs,J,hl,ac,hkn,hH,h=>by
  have V:ops[i]? = some o:=by have:=hl 0 Te;simpa using this
  have z:∀j,j<i->∃m,ops[j]? = some m:=fun j n=>by
   have:i<ops.size:=(Array.getElem?_eq_some_iff.1 V).1;exact⟨ops[j],by simp[show j<ops.size by omega]⟩
  simp[Eh]at h;split at h
  ·rename_i d b hd hp;cases L:Nat.blt d s.n&&bq (s.nx+32*d) s.hp&&rh d Rs&&uq b (lv ops o) Rs 0&&vc ops d b i<;>rw[L]at h<;>simp at h
   simp only[qA]at L;obtain⟨⟨⟨⟨X,Y⟩,Z⟩,b4⟩,b5⟩:=L;have H:∀(j:Nat)(r:HR),Rs[j]? = some r->∃m:Oper,ops[j]? = some m/\m.dst=some r.dst:=fun j r p=>by
    have n:j<i:=by have:=(List.getElem?_eq_some_iff.1 p).1;omega
    obtain⟨m,f⟩:=z j n;obtain⟨C,_,_,B,Q,_⟩:=hH j m n f;rw[p]at B;have:=qJ B;subst this;exact⟨m,f,Q⟩
   have F:∀(k A:Nat)(r C:HR),k<A->Rs[k]? = some r->Rs[A]? = some C->C.dst≠r.dst:=fun k A r C N p q e=>by
    have I:A<i:=by have:=(List.getElem?_eq_some_iff.1 q).1;omega
    obtain⟨m,f⟩:=z A I;obtain⟨r2,_,_,B,_,_,_,_,k6,_⟩:=hH A m I f;rw[q]at B;have:=qJ B;subst this;exact cM.1 k6 r (List.mem_of_getElem? (i:=k) (by rw[List.getElem?_take,qX N];exact p)) e.symm
   obtain⟨ps,c,v,y,u,h1,h2,h3,h4⟩:=S9 U hkn (fun j r hm p=>Px (k:=j) p (by rw[wO];exact hm) (fun A C hk q=>F j A r C hk p q)) (fun j r _ p=>H j r p) h
   obtain⟨g,S,B,kk,Q,k3⟩:=Rn U l (i+1) (Rs++[⟨d,v,y,b⟩]) u (fun j n=>by have:=hl (j+1) Td;simpa [Nat.add_assoc,Nat.add_comm 1 j] using this) (by simp[ac])
    (fun j d' n=>by
     obtain⟨r,W,i2⟩:=h3 j d' n;exact⟨r,by rw[List.getElem?_append_left (List.getElem?_eq_some_iff.1 W).1];exact W,i2⟩)
    (fun j m n f=>by
     by_cases M:j<i
     ·obtain⟨r,T,c',j1,j2,j3,j4,j5,j6,j7,j8,j9,O⟩:=hH j m M f;have t:(Rs++[(⟨d,v,y,b⟩:HR)]).take j=Rs.take j:=by rw[List.take_append_of_le_length Ta]
      exact⟨r,T,c',by rw[List.getElem?_append_left Ta];exact j1,j2,j3,j4,by rw[t];exact j5,by rw[t];exact j6,by rw[t];exact j7,j8,by rw[t];exact j9,O⟩
     ·have:j=i:=Ta
      subst this;rw[V]at f;have:=qJ f;subst this;have t:(Rs++[(⟨d,v,y,b⟩:HR)]).take j=Rs:=by rw[← ac,List.take_left]
      exact⟨⟨d,v,y,b⟩,ps,c,by rw[← ac];simp,hd,Nat.lt_of_lt_of_le (Nat.lt_succ_self d) (Nat.le_of_ble_eq_true X),Y,by rw[t];exact hp,by rw[t];exact Z,by rw[t];exact b4,b5,by rw[t];exact h1,h2⟩)
    h4
   exact⟨g,S,B,kk,by rw[Q,qL];omega,fun j m n=>k3 j m (by rw[qL]at n;omega)⟩
  ·cases h
def My(p:∀e∈tb.ents,e.Sound P){ops:Array Oper}{K:St->Option R}{x:R}{n:Nat}{N:Act->World->Prop}(q:nz ops.toList 0=true)(r:qh ops n=true)(k:∀s',K s'=some x->∀G' d w',aj q72 q7w q7z G' s' d w'->N d w')
  (j:∀t n s',E (f8 t n) s'=some x->∀G' d w',ji q72 q7w q7z G' s' d w'->TT [{ v:=wv t n,recovered:=false }] d w') :
  ∀(l:List Oper)(m:Nat),n<=m->ops.toList.drop m=l->m<=ops.size->∀(s:St)(G:Gh)(a:Act)(w:World)(b:Array Bool),hK P tb ops E l s K=some x->aj q72 q7w q7z G s a w->bS ops m b->mv P TT ops N (ops.size-m) b a w
 |[],m,hn,hl,hm,s,G,a,w,b,h,hr,hu=>by
  have:m=ops.size:=by
   have:=congrArg List.length hl;simp at this;omega
  subst this;exact qtm hu (k s h G a w hr)
 |o::l,m,hn,hl,hm,s,G,a,w,b,h,hr,hu=>by
  have f:m<ops.size:=by
   have:=congrArg List.length hl;simp at this;omega
  have y:ops[m]? = some o:=by
   have:=congrArg (fun l=>l[0]?) hl
   simpa using this
  refine qtn q r hn f hu (S8 p hr y h (fun s' u G' d w' g c i => ?_) j)
  exact My p q r k j l (m+1) Ta (by rw[← List.drop_drop,hl];rfl) Ta s' G' d w' c u g i
def qlq(L:∀e∈tb.ents,e.Sound P)(W:P.follows .mixedOrders=true){ops:Array Oper}{K:St->Option R}{x:R}(h:Kq P tb ops E s K=some x){N:Act->World->Prop}(U:∀s',K s'=some x->∀G' g w',aj q72 q7w q7z G' s' g w'->N g w')
  (T:∀t n s',E (f8 t n) s'=some x->∀G' g w',ji q72 q7w q7z G' s' g w'->TT [{ v:=wv t n,recovered:=false }] g w')
  (A:aj q72 q7w q7z G s a w) (id:Nat) (b:Frame) (k:List Item) (cs:List Frame) (V:b.kind = .normal) :
  (∃g w',N g w'/\Steps P (lone (b.atR a.bs (.code (.region id ops true)::k)) cs w) (lone (b.atR g.bs k) cs w'))\/lf P b.fn TT (lone (b.atR a.bs (.code (.region id ops true)::k)) cs w) cs:=by
 unfold Kq at h;generalize lm ops=n at h;cases p:nz ops.toList 0&&qh ops n&&Nat.ble n ops.toList.length<;>rw[p]at h<;>simp at h
 simp only[qA]at p;obtain⟨⟨I,J⟩,S⟩:=p;have M:n<=ops.size:=by have:=Nat.le_of_ble_eq_true S;simpa using this
 have H:(ops.toList.take n).length=n:=by simp;omega
 obtain⟨Rs,kn,Z,kk,Q,B⟩:=Rn L (ops.toList.take n) 0 [] [] (fun j q=>by
  rw[H]at q;rw[List.getElem?_take,qX q,wO];simp) rfl (fun j d h=>by cases h) (fun j o q=>Ta) h
 rw[wO,H]at Q B;have m:∀(k l:Nat)(r F:HR),k<l->Rs[k]? = some r->Rs[l]? = some F->F.dst≠r.dst:=fun k l r F y A c e=>by
  have u:l<n:=by have:=(List.getElem?_eq_some_iff.1 c).1;omega
  obtain⟨C,z⟩:∃C,ops[l]? = some C:=⟨ops[l],by simp[show l<ops.size by omega]⟩
  obtain⟨r2,_,_,O,_,_,_,_,Y,_⟩:=B l C u z;rw[c]at O;have:=qJ O;subst this;exact cM.1 Y r (List.mem_of_getElem? (i:=k) (by rw[List.getElem?_take,qX y];exact A)) e.symm
 exact qlt M I J W Q B (fun G a w f c X=>My L I J U T _ n (wF _) rfl M _ G a w f Z (RG m c kk) X) A id b k cs V
end
end Go.Sym
