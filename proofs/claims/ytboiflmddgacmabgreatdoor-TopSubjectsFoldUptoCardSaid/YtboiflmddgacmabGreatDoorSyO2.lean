/- What the claim rests on, part 2: gathered texts. -/
import Derived.RangeFuncRecord
import Derived.Laws.RangeAny
import Derived.Laws.MakeOwn
import Derived.Laws.IdiomStrings
import Derived.Laws.Cover4
import Derived.Test.YtboiflmddgacmabGreatDoorSyO1
set_option linter.defProp false
set_option linter.unusedSimpArgs false
set_option linter.unusedVariables false
namespace Go.Sym
open Go.RowKit
variable[LC]
def St.ownNew(s:St)(k:Nat)(τ:Ty)(E:TypeId):St:={ s with hp:=(k,.row τ [] E)::s.hp }
def jb:AV->Bool|.val (.slice none 0 0)=>true|_=>false
def St.ownNil(s:St)(i:Nat)(τ:Ty)(E:TypeId):Option St:=
 match ae s.fr i with
 |some x=>bif jb x&&au (s.nx+32*i) s.hp then
   some { n:=s.n,fr:=(i,.own (s.nx+32*i))::s.fr,hp:=(s.nx+32*i,.row τ [] E)::s.hp,nx:=s.nx+32*s.n,df:=s.df } else none
 |none=>none
def St.ownCell(s:St)(b off:Nat)(τ:Ty)(E:TypeId):Option St:=
 match ae s.hp b with
 |some (.cells cs T)=>match cs[off]? with
  |some x=>bif jb x&&au s.nx s.hp then
    some { n:=s.n,fr:=s.fr,hp:=(b,.cells (cs.set off (.own s.nx)) T)::(s.nx,.row τ [] E)::s.hp,nx:=s.nx+32*s.n,df:=s.df } else none
  |none=>none
 |_=>none
section
variable{P:Program}{zw0:World}{zwv:Gh}{zwx:List (Nat×ag)}{G:Gh}{s:St}{a:Act}{w:World}
def ah.bump(hr:ah zw0 zwv zwx G s a w):ah zw0 zwv zwx G s.bump a w:=⟨hr.defers,hr.size,hr.frame,fun m hm hl=>hr.fresh m (by simp[St.bump]at hm;omega) hl,hr.fin⟩
mutual
def ai.frz{k:Nat}{y:AV}{G':Gh}(hle:G.le G')(hy:∀v,ai (.own k) G v->ai y G' v):∀{x:AV}{v:Value},ai x G v->ai (AV.frz k y x) G' v
 |.undef,_,_=>trivial|.int _ _,_,h=>h|.byte _,_,h=>h|.bool _,_,h=>h|.str _,_,h=>h|.val _,_,h=>h|.sl τ l,v,h=>(show ai (.sl τ l) G v from h).le hle|.yld n,v,h=>(show ai (.yld n) G v from h).le hle|.pn n,v,h=>(show ai (.pn n) G v from h).le hle|.arr τ l,v,h=>(show ai (.arr τ l) G v from h).le hle|.rop cs,v,h=>(show ai (.rop cs) G v from h).le hle|.ptr b off,v,h=>(show ai (.ptr b off) G v from h).le hle|.oel n sz i off,v,h=>(show ai (.oel n sz i off) G v from h).le hle|.osl n sz lo,v,h=>(show ai (.osl n sz lo) G v from h).le hle|.asl b n c,v,h=>(show ai (.asl b n c) G v from h).le hle|.agg cs,_,⟨vs,h1,h2⟩=>⟨vs,h1,aj.frz hle hy h2⟩|.tup cs,_,⟨vs,h1,h2⟩=>⟨vs,h1,aj.frz hle hy h2⟩|.own n,v,h=>by
  simp[AV.frz];cases hb:Nat.beq n k
  ·exact(show ai (.own n) G v from h).le hle
  ·have:=qN hb;subst this;exact hy v h
 |.fn f first cap,_,⟨fs,cs,h1,h2,h3⟩=>⟨fs,cs,h1,aj.frz hle hy h2,aj.frz hle hy h3⟩
 |.iface t x,_,⟨u,h1,h2⟩=>⟨u,h1,ai.frz hle hy h2⟩
def aj.frz{k:Nat}{y:AV}{G':Gh}(hle:G.le G')(hy:∀v,ai (.own k) G v->ai y G' v):∀{xs:List AV}{vs:List Value},aj xs G vs->aj (AV.frzs k y xs) G' vs|[],[],_=>trivial|_x::_xs,_v::_vs,h=>⟨ai.frz hle hy h.1,aj.frz hle hy h.2⟩|[],_::_,h=>h.elim|_::_,[],h=>h.elim
end
def qsr{k:Nat}{y:AV}:∀{fr:List (Nat×AV)}{i:Nat}{x:AV},ae (qcz k y fr) i=some x->∃x0,ae fr i=some x0/\x=AV.frz k y x0
 |[],i,x,h=>by cases h
 |(n,z)::r,i,x,h=>by
  simp[qcz,ae]at h ⊢;cases hb:Nat.beq n i
  ·rw[hb]at h;exact qsr h
  ·rw[hb]at h;simp only[qT,qI]at h ⊢;exact⟨z,rfl,h.symm⟩
def qss{k:Nat}{y:AV}:∀{hp:List (Nat×ag)}{i:Nat},ae (qc0 k y hp) i=(ae hp i).map (qia k y)
 |[],i=>rfl|(n,b)::r,i=>by
  simp[qc0,ae];cases hb:Nat.beq n i<;>simp[qss (hp:=r)]
def ah.freeze(hr:ah zw0 zwv zwx G s a w){k:Nat}{s':St}(h:s.freeze k=some s'):∃G',ah zw0 zwv zwx G' s' a w:=by
 unfold St.freeze at h;split at h
 ·rename_i τ l E hk;simp at h;subst h;have hl1:∀n bx,ae [(k,ag.row τ l E)] n=some bx->n=k/\bx = .row τ l E:=fun n bx h=>by
   simp[ae]at h;cases hb:Nat.beq k n
   ·rw[hb]at h;cases h
   ·rw[hb]at h;simp at h;exact⟨(qN hb).symm,h.symm⟩
  have hlk:ae [(k,ag.row τ l E)] k=some (.row τ l E):=by simp only[ae];rw[show Nat.beq k k=true by simp];rfl
  have hf1:Fin zw0 zwv zwx G ({ s with hp:=[(k,.row τ l E)] }:St).hp w:=by
   refine⟨⟨hr.fin.mem.agree,hr.fin.mem.one,fun n bx hb => ?_,fun n m bx bx' b h1 h2 _ _ => ?_,hr.fin.mem.tab⟩,hr.fin.bel,hr.fin.imm_le,hr.fin.imm_new,fun n bx b h1 h2 => ?_,hr.fin.keep,hr.fin.keepOwn⟩
   ·obtain⟨rfl,rfl⟩:=hl1 n bx hb;exact hr.fin.mem.holds _ _ hk
   ·obtain⟨rfl,_⟩:=hl1 n bx h1;obtain⟨rfl,_⟩:=hl1 m bx' h2;rfl
   ·obtain⟨rfl,rfl⟩:=hl1 n bx h1;exact hr.fin.base _ _ b hk h2
  obtain⟨z1,z2,z3,z4⟩:=qqv hf1
  let G':=G.allData [(k,.row τ l E)] w
  have hown:∀v,ai (.own k) G v->ai (.sl τ l) G' v:=fun v hv=>z4 k τ l E v hlk hv
  have hnew:∀b o v,G'.imm b o=some v->G.imm b o=some v\/G.at k (.row τ l E)=some b:=fun b o v h=>by
   simp[G',Gh.allData]at h
   cases hq:G.imm b o with
   |some u=>rw[hq]at h;exact .inl h|none=>
    rw[hq]at h;simp only at h;split at h
    ·rename_i hin;obtain⟨n,τ1,l1,E1,i1,i2,_⟩:=hin;obtain⟨rfl,e⟩:=hl1 n _ i1;rw[e]at i2;exact .inr i2
    ·cases h
  have hother:∀n bx B,n≠k->ae s.hp n=some bx->G.at n bx=some B->(∀o,G.imm B o=none)->∀o,G'.imm B o=none:=fun n bx B hn h1 h2 h3 o=>by
   cases hq:G'.imm B o with
   |none=>rfl|some v=>
    rcases hnew B o v hq with h|h
    ·rw[h3]at h;cases h
    ·exact absurd (hr.fin.mem.apart n k bx _ B h1 hk h2 h) hn
  have hlook:∀n bx,ae ((k,ag.dead)::qc0 k (.sl τ l) s.hp) n=some bx->bx = .dead\/(n≠k/\∃b0,ae s.hp n=some b0/\bx=qia k (.sl τ l) b0):=fun n bx h=>by
   simp[ae]at h;cases hb:Nat.beq k n
   ·rw[hb]at h;simp at h;rw[qss]at h
    cases hq:ae s.hp n with
    |none=>rw[hq]at h;cases h
    |some b0=>rw[hq]at h;simp at h;exact .inr ⟨fun e=>by subst e;simp at hb,b0,rfl,h.symm⟩
   ·rw[hb]at h;simp at h;exact .inl h.symm
  have hat:∀n b0,G'.at n (qia k (.sl τ l) b0)=G.at n b0:=fun n b0=>by cases b0<;>rfl
  refine⟨G',⟨hr.defers,hr.size,fun i x hx => ?_,fun m hm hl => ?_,⟨⟨z2.agree,z2.one,fun n bx hb => ?_,fun n m bx bx' b h1 h2 h3 h4 => ?_,z2.tab⟩,hr.fin.bel,fun b o v h=>z1.imm _ _ _ (hr.fin.imm_le b o v h),fun b o v h => ?_,fun n bx b h1 h2 => ?_,hr.fin.keep,hr.fin.keepOwn⟩⟩⟩
  ·obtain⟨x0,h1,rfl⟩:=qsr hx;obtain⟨v,h2,h3⟩:=hr.frame i x0 h1;exact⟨v,h2,ai.frz z1 hown h3⟩
  ·refine hr.fresh m hm ?_;simp[ae]at hl;cases hb:Nat.beq k m
   ·rw[hb]at hl;simp at hl;rw[qss]at hl
    cases hq:ae s.hp m with|none=>rfl|some b0=>rw[hq]at hl;cases hl
   ·rw[hb]at hl;cases hl
  ·rcases hlook n bx hb with rfl|⟨hn,b0,h0,rfl⟩
   ·trivial
   ·have hb0:=hr.fin.mem.holds n b0 h0;have ho:=hother n b0
    cases b0 with
    |cells cs T=>
     obtain⟨B,vs,h1,h2,h3,h4,h5⟩:=hb0;exact⟨B,vs,h1,h2,aj.frz z1 hown h3,h4,ho B hn h0 (by simp[Gh.at,h1]) h5⟩
    |loop st pe f j fr ps tag D=>
     obtain⟨B,tmps,DB,h1,h2,h3,h4,h5,h6⟩:=hb0;refine⟨B,tmps,DB,h1,h2,h3,h4,fun i x hx => ?_,ho B hn h0 (by simp[Gh.at,h1]) h6⟩
     obtain⟨x0,q1,rfl⟩:=qsr hx;obtain⟨v,q2,q3⟩:=h5 i x0 q1;exact⟨v,q2,ai.frz z1 hown q3⟩
    |dfr=>
     obtain⟨B,h1,h2,h3⟩:=hb0;exact⟨B,h1,h2,ho B hn h0 (by simp[Gh.at,h1]) h3⟩
    |it s0 p0=>
     obtain⟨B,h1,h2,h3⟩:=hb0;exact⟨B,h1,h2,ho B hn h0 (by simp[Gh.at,h1]) h3⟩
    |row τ1 l1 E1=>
     obtain⟨ad,c,h1,h3⟩:=hb0;refine⟨ad,c,h1,?_⟩;rcases h3 with h3|⟨g,vs,fz,k1,k2,k3,k4,k5,k6,k7,k8,k9⟩
     ·exact .inl h3
     ·exact .inr ⟨g,vs,fz,k1,k2,k3,k4,k5,k6,aj.data_le z1.imm k7,k8,ho g hn h0 (by subst k1;simp[Gh.at,h1]) k9⟩
    |dead=>trivial
  ·rcases hlook n bx h1 with rfl|⟨hn,b0,h0,rfl⟩
   ·cases h3
   ·rcases hlook m bx' h2 with rfl|⟨hm,b1,h5,rfl⟩
    ·cases h4
    ·rw[hat]at h3 h4;exact hr.fin.mem.apart n m b0 b1 b h0 h5 h3 h4
  ·rcases hnew b o v h with h|h
   ·exact hr.fin.imm_new b o v h
   ·exact .inr (hr.fin.base k _ b hk h)
  ·rcases hlook n bx h1 with rfl|⟨hn,b0,h0,rfl⟩
   ·cases h2
   ·rw[hat]at h2;exact hr.fin.base n b0 b h0 h2
 ·cases h
def q5o{x:AV}(h:jb x=true):x = .val (.slice none 0 0):=by
 unfold jb at h;split at h
 ·rfl
 ·cases h
def ah.ownNew(hr:ah zw0 zwv zwx G s a w){k:Nat}(τ:Ty)(E:TypeId)(hk:ae s.hp k=none)(hkx:s.nx<=k):∃G',G.le G'/\G'.own k=some (none,0,0)/\ah zw0 zwv zwx G' (s.ownNew k τ E) a w:=by
 obtain⟨hkb,hko⟩:=hr.fresh k hkx hk;have hle:G.le (G.addOwn k (none,0,0)):=Gh.addOwn_le hko;have hl1:∀n bx,ae [(k,ag.row τ [] E)] n=some bx->n=k/\bx = .row τ [] E:=fun n bx h=>by
  simp[ae]at h;cases hb:Nat.beq k n
  ·rw[hb]at h;cases h
  ·rw[hb]at h;simp at h;exact⟨(qN hb).symm,h.symm⟩
 refine⟨G.addOwn k (none,0,0),hle,Gh.addOwn_self,⟨by obtain⟨bs,q1,q2⟩:=hr.defers;exact⟨bs,q1,nw hle.box q2⟩,hr.size,fun j x hx => ?_,fun m hm hlm => ?_,?_⟩⟩
 ·obtain⟨v,h1,h2⟩:=hr.frame j x hx;exact⟨v,h1,h2.le hle⟩
 ·simp[St.ownNew,ae]at hlm;cases hq:Nat.beq k m
  ·rw[hq]at hlm;obtain⟨h1,h2⟩:=hr.fresh m hm hlm;refine⟨h1,?_⟩;show(bif Nat.beq m k then some _ else G.own m)=none
   cases hbm:Nat.beq m k
   ·exact h2
   ·have:=qN hbm;subst this;simp at hq
  ·rw[hq]at hlm;cases hlm
 ·refine hr.fin.extend (new:=[(k,.row τ [] E)]) hle ⟨rfl,rfl,rfl,wF _,fun _ _ _=>rfl⟩ (fun _ _ _ h => .inl h) hr.fin.mem.agree hr.fin.mem.one ?_ ?_ ?_
  ·intro n bx h;obtain⟨rfl,_⟩:=hl1 n bx h;exact hk
  ·intro n bx h;obtain⟨rfl,rfl⟩:=hl1 n bx h;exact⟨⟨none,0,Gh.addOwn_self,.inl ⟨rfl,rfl,rfl⟩⟩,fun b hb=>by simp only[Gh.at,Gh.addOwn_self]at hb;cases hb⟩
  ·intro n m bx bx' b h1 h2 _ _;obtain⟨rfl,_⟩:=hl1 n bx h1;obtain⟨rfl,_⟩:=hl1 m bx' h2;rfl
def ah.ownNil(hr:ah zw0 zwv zwx G s a w){i:Nat}{τ:Ty}{E:TypeId}{s':St}(h:s.ownNil i τ E=some s'):∃G',ah zw0 zwv zwx G' s' a w:=by
 unfold St.ownNil at h;split at h
 ·rename_i x hi;cases hb:jb x&&au (s.nx+32*i) s.hp<;>rw[hb]at h<;>simp at h
  subst h;simp at hb;have hx:=q5o hb.1;subst hx;obtain⟨G',hle,ho,hr'⟩:=hr.ownNew τ E (jc hb.2 _ (wF _) oA) oA
  refine⟨G',⟨hr'.defers,hr'.size,fun j x hx => ?_,fun m hm hl=>hr'.fresh m (by simp only at hm;show s.nx<=m;omega) hl,hr'.fin⟩⟩
  simp[ae]at hx;cases hq:Nat.beq i j
  ·rw[hq]at hx;exact hr'.frame j x hx
  ·rw[hq]at hx;simp at hx;subst hx;have:=qN hq;subst this;obtain⟨v,h1,h2⟩:=hr'.frame i _ hi;exact⟨v,h1,none,0,0,ho,h2⟩
 ·cases h
def ah.ownCell(hr:ah zw0 zwv zwx G s a w){b off:Nat}{τ:Ty}{E:TypeId}{s':St}(h:s.ownCell b off τ E=some s'):∃G',ah zw0 zwv zwx G' s' a w:=by
 unfold St.ownCell at h;split at h
 ·rename_i cs T hb0;split at h
  ·rename_i x hx0;cases hb:jb x&&au s.nx s.hp<;>rw[hb]at h<;>simp at h
   subst h;simp at hb;have hx:=q5o hb.1;subst hx;have hk:=jc hb.2 s.nx (wF _) oA
   obtain⟨G',hle,ho,hr'⟩:=hr.ownNew τ E hk (wF _);have hne:s.nx≠b:=fun e=>by rw[e,hb0]at hk;cases hk
   have hb1:ae (s.ownNew s.nx τ E).hp b=some (.cells cs T):=by
    simp[St.ownNew,ae];cases hq:Nat.beq s.nx b
    ·exact hb0
    ·exact absurd (qN hq) hne
   obtain⟨B,vs,k1,k2,k3,k4,k5⟩:=hr'.fin.mem.holds _ _ hb1;refine⟨G',⟨hr'.defers,hr'.size,hr'.frame,fun m hm hl=>hr'.fresh m (by simp only at hm;show s.nx<=m;omega) ?_,?_⟩⟩
   ·simp[ae]at hl;cases hq:Nat.beq b m
    ·rw[hq]at hl;exact hl
    ·rw[hq]at hl;cases hl
   ·have hv:vs.toList[off]? = some (.slice none 0 0):=by
     obtain⟨v,h1,h2⟩:=gw k3 hx0;simp[ai]at h2;subst h2;exact h1
    have hset:vs.toList.set off (.slice none 0 0)=vs.toList:=by
     obtain⟨hlt,he⟩:=List.getElem?_eq_some_iff.1 hv;rw[← he,List.set_getElem_self]
    refine hr'.fin.update (bx := .cells cs T) (bx' := .cells (cs.set off (.own s.nx)) T) hb1 (B:=B) k1 k1 ⟨rfl,rfl,rfl,wF _,fun _ _ _=>rfl⟩ ⟨B,vs,k1,k2,?_,k4,k5⟩ k5
    have:=qdo off k3 (x := .own s.nx) (v := .slice none 0 0) ⟨none,0,0,ho,rfl⟩
    rwa [hset]at this
  ·cases h
 ·cases h
end
def Ty.dec:(τ:Ty)->List AV->Option (τ.den×List AV)
 |.int k,x::r=>match x with|.int k' n=>bif decide (k'=k) then some (n,r) else none|.val (.int k' n)=>bif decide (k'=k) && !decide (k' = .u8) then some (n,r) else none|_=>none
 |.byte,x::r=>match x with|.byte c=>some (c,r)|.val (.int .u8 n)=>bif decide (0<=n)&&decide (n<256) then some (UInt8.ofNat n.toNat,r) else none|_=>none
 |.bool,x::r=>match x with|.bool b=>some (b,r)|.val (.bool b)=>some (b,r)|_=>none
 |.str,x::r=>match x with|.str s=>some (s,r)|_=>none
 |.unit,r=>some ((),r)|.prod a b,cs=>match a.dec cs with
  |some (x,r)=>match b.dec r with|some (y,r')=>some ((x,y),r')|none=>none
  |none=>none
 |.list a,x::r=>match x with
  |.sl a' l=>match Ty.eq? a' a with|some ⟨h⟩=>some (h▸l,r)|none=>none
  |.val (.slice none 0 0)=>some (([]:List a.den),r)|_=>none
 |.tree a,cs=>match a.dec cs with
  |some (v,x::r)=>match x with
   |.sl a' l=>match Ty.eq? a' (.tree a) with|some ⟨h⟩=>some (Tree.node v (h▸l:List (Ty.tree a).den),r)|none=>none
   |.val (.slice none 0 0)=>some (Tree.node v [],r)|_=>none
  |_=>none
 |_,[]=>none
def q9n{b:Bool}{hp:List (Nat×ag)}:∀{xs ys xs' ys':List AV}{ps ps':List Prop},a8 b hp xs ys=some ps->a8 b hp xs' ys'=some ps'->a8 b hp (xs++xs') (ys++ys')=some (ps++ps')
 |[],[],_,_,ps,ps',h,h'=>by simp only[a8,qI]at h;subst h;exact h'|x::xs,y::ys,xs',ys',ps,ps',h,h'=>by
  simp only[a8,wK]at h ⊢;split at h
  ·rename_i p1 h1;split at h
   ·rename_i p2 h2;simp only[qI]at h;subst h;rw[q9n h2 h',qS]
   ·cases h
  ·cases h
 |[],_::_,_,_,_,_,h,_=>by simp[a8]at h|_::_,[],_,_,_,_,h,_=>by simp[a8]at h
def dz(xs ys:List AV):Prop:=(∀ρ,AV.rens ρ xs=xs)/\∃ps,a8 false [] xs ys=some ps/\ao ps
def dz.append{xs ys xs' ys':List AV}(h:dz xs ys)(h':dz xs' ys'):dz (xs++xs') (ys++ys'):=by
 obtain⟨h1,ps,h2,h3⟩:=h;obtain⟨h1',ps',h2',h3'⟩:=h';exact⟨fun ρ=>by rw[AV.rens_append,h1,h1'],_,q9n h2 h2',cq.2 ⟨h3,h3'⟩⟩
def dz.one{x y:AV}(h:∀ρ,x.ren ρ=x){ps:List Prop}(hv:vw false [] x y=some ps)(hp:ao ps):dz [x] [y]:=
 ⟨fun ρ=>by simp[AV.rens,h],ps++[],by simp[a8,hv],cq.2 ⟨hp,trivial⟩⟩
def dz.same{x:AV}(h:∀ρ,x.ren ρ=x)(hv:vw false [] x x=some [x=x]):dz [x] [x]:=dz.one h hv ⟨rfl,trivial⟩
def q3m{a' a:Ty}(h:a'=a)(l:List a'.den):AV.sl a (h▸l)=AV.sl a' l:=by subst h;rfl
def pp:∀{τ:Ty}{cs:List AV}{d:τ.den}{r:List AV},τ.dec cs=some (d,r)->∃ab,cs=ab++r/\dz ab (τ.enc d)
 |.int k,x::cs,d,r,h=>by
  simp only[Ty.dec]at h;split at h
  ·rename_i k' n;cases hk:decide (k'=k)<;>rw[hk]at h<;>simp only[qT,qF,reduceCtorEq,qI]at h
   obtain⟨rfl,rfl⟩:=h;have:k'=k:=by simpa using hk
   subst this;exact⟨[.int k' d],rfl,dz.same (fun ρ=>rfl) rfl⟩
  ·rename_i k' n;cases hk:decide (k'=k) && !decide (k' = .u8)<;>rw[hk]at h<;>simp only[qT,qF,reduceCtorEq,qI]at h
   obtain⟨rfl,rfl⟩:=h;simp only[qA,decide_eq_true_eq,Bool.not_eq_true',decide_eq_false_iff_not]at hk;obtain⟨rfl,hk⟩:=hk;refine⟨[.val (.int k' d)],rfl,dz.one (y := .int k' d) (ps:=[AV.int k' d=lf (.int k' d)]) (fun ρ=>rfl) rfl ⟨?_,trivial⟩⟩
   cases k'<;>first|rfl|exact absurd rfl hk
  ·cases h
 |.byte,x::cs,d,r,h=>by
  simp only[Ty.dec]at h;split at h
  ·rename_i c;simp only[qI]at h;obtain⟨rfl,rfl⟩:=h;exact⟨[.byte d],rfl,dz.same (fun ρ=>rfl) rfl⟩
  ·rename_i n;cases hk:decide (0<=n)&&decide (n<256)<;>rw[hk]at h<;>simp only[qT,qF,reduceCtorEq,qI]at h
   obtain⟨rfl,rfl⟩:=h;refine⟨[.val (.int .u8 n)],rfl,dz.one (y := .byte (UInt8.ofNat n.toNat)) (ps:=[AV.byte (UInt8.ofNat n.toNat)=lf (.int .u8 n)]) (fun ρ=>rfl) rfl ⟨?_,trivial⟩⟩
   simp only[lf,hk,qT]
  ·cases h
 |.bool,x::cs,d,r,h=>by
  simp only[Ty.dec]at h;split at h
  ·rename_i b;simp only[qI]at h;obtain⟨rfl,rfl⟩:=h;exact⟨[.bool d],rfl,dz.same (fun ρ=>rfl) rfl⟩
  ·rename_i b;simp only[qI]at h;obtain⟨rfl,rfl⟩:=h;exact⟨[.val (.bool d)],rfl,dz.one (y := .bool d) (ps:=[AV.bool d=lf (.bool d)]) (fun ρ=>rfl) rfl ⟨rfl,trivial⟩⟩
  ·cases h
 |.str,x::cs,d,r,h=>by
  simp only[Ty.dec]at h;split at h
  ·rename_i b;simp only[qI]at h;obtain⟨rfl,rfl⟩:=h;exact⟨[.str d],rfl,dz.same (fun ρ=>rfl) rfl⟩
  ·cases h
 |.unit,cs,d,r,h=>by
  simp only[Ty.dec,qI]at h;obtain⟨_,rfl⟩:=h;exact⟨[],rfl,fun ρ=>rfl,[],rfl,trivial⟩
 |.prod a b,cs,d,r,h=>by
  simp only[Ty.dec]at h;split at h
  ·rename_i x r1 h1;split at h
   ·rename_i y r2 h2;simp only[qI]at h;obtain⟨rfl,rfl⟩:=h;obtain⟨p1,rfl,s1⟩:=pp h1;obtain⟨p2,rfl,s2⟩:=pp h2;exact⟨p1++p2,oC,s1.append s2⟩
   ·cases h
  ·cases h
 |.list a,x::cs,d,r,h=>by
  simp only[Ty.dec]at h;split at h
  ·rename_i a' l;split at h
   ·rename_i hh _;simp only[qI,qP]at h;obtain⟨rfl,rfl⟩:=h;exact⟨[.sl a' l],rfl,dz.one (y := .sl a (hh▸l)) (ps:=[AV.sl a (hh▸l)=AV.sl a' l]) (fun ρ=>rfl) rfl ⟨q3m hh l,trivial⟩⟩
   ·cases h
  ·simp only[qI]at h;obtain⟨rfl,rfl⟩:=h;exact⟨[.val (.slice none 0 0)],rfl,dz.one (y := .sl a []) (ps:=[([]:List a.den).length=0]) (fun ρ=>rfl) rfl ⟨rfl,trivial⟩⟩
  ·cases h
 |.tree a,cs,d,r,h=>by
  simp only[Ty.dec]at h;split at h
  ·rename_i v x r1 h1;obtain⟨p1,rfl,s1⟩:=pp h1;split at h
   ·rename_i a' l;split at h
    ·rename_i hh _;simp only[qI]at h;obtain⟨rfl,rfl⟩:=h;exact⟨p1++[.sl a' l],oC,s1.append (dz.one (y := .sl (.tree a) (hh▸l)) (ps:=[AV.sl (.tree a) (hh▸l)=AV.sl a' l]) (fun ρ=>rfl) rfl ⟨q3m hh l,trivial⟩)⟩
    ·cases h
   ·simp only[qI]at h;obtain⟨rfl,rfl⟩:=h;exact⟨p1++[.val (.slice none 0 0)],oC,s1.append (dz.one (y := .sl (.tree a) []) (ps:=[([]:List (Ty.tree a).den).length=0]) (fun ρ=>rfl) rfl ⟨rfl,trivial⟩)⟩
   ·cases h
  ·cases h
 |.int _,[],_,_,h=>by simp[Ty.dec]at h|.byte,[],_,_,h=>by simp[Ty.dec]at h|.bool,[],_,_,h=>by simp[Ty.dec]at h|.str,[],_,_,h=>by simp[Ty.dec]at h|.list _,[],_,_,h=>by simp[Ty.dec]at h
inductive CV:Type
 |nilS
 |int (k:IntKind) (n:Int)
 |bool (b:Bool)
 |unit
 |nilFunc
 |nilIface
def CV.val:CV->Value|.nilS => .slice none 0 0|.int k n => .int k n|.bool b => .bool b|.unit => .tuple #[]|.nilFunc => .nilFunc|.nilIface => .nilIface
def CV.is:CV->AV->Bool|.nilS,.val (.slice none 0 0)=>true|.int k n,.val (.int k' n')=>decide (k'=k)&&decide (n'=n)|.bool b,.val (.bool b')=>b'==b|.unit,.val (.tuple vs)=>Nat.beq vs.size 0|.nilFunc,.val .nilFunc=>true|.nilIface,.val .nilIface=>true|_,_=>false
inductive Pt:Type
 |h (τ:Ty)
 |c (v:CV)
 |agg (ps:List Pt)
 |tup (ps:List Pt)
 |ptr (b off:Nat)
 |own (k:Nat)
 |arr (τ:Ty)
 |el (k sz:Nat)
 |iel (t:TypeId) (k sz:Nat)
 |yld (n:Nat)
 |pn (n:Nat)
 |fn (f:FuncId) (cap:List Pt)
 |u
mutual
def Pt.den:Pt->Type|.h τ=>τ.den|.agg ps=>Pts.den ps|.tup ps=>Pts.den ps|.fn _ cap=>Pts.den cap|.arr τ=>List τ.den|_=>Unit
def Pts.den:List Pt->Type|[]=>Unit|p::ps=>p.den×Pts.den ps
end
def Ty.av:(τ:Ty)->τ.den->AV|.int k,n => .int k n|.byte,c => .byte c|.bool,b => .bool b|.str,s => .str s|.list a,l => .sl a l|.unit,_ => .agg []|.prod a b,x => .agg ((Ty.prod a b).enc x)|.tree a,x => .agg ((Ty.tree a).enc x)
def nv(τ:Ty)(x:AV):Option τ.den:=match τ.dec [x] with|some (d,[])=>some d|_=>none
def qcs(τ:Ty)(x:AV):Option τ.den:=match x with
 |.agg cs=>match τ.dec cs with|some (d,[])=>some d|_=>none
 |_=>none
def Ty.getAV:(τ:Ty)->AV->Option τ.den|.int k,x=>nv (.int k) x|.byte,x=>nv .byte x|.bool,x=>nv .bool x|.str,x=>nv .str x|.list a,x=>nv (.list a) x|.unit,x=>qcs .unit x|.prod a b,x=>qcs (.prod a b) x|.tree a,x=>qcs (.tree a) x
mutual
def Pt.put:(p:Pt)->p.den->AV|.h τ,x=>τ.av x|.c v,_ => .val v.val|.agg ps,x => .agg (Pts.put ps x)|.tup ps,x => .tup (Pts.put ps x)|.ptr b off,_ => .ptr b off|.own k,_ => .own k|.arr τ,l => .arr τ l|.el k sz,_ => .oel k sz 0 0|.iel t k sz,_ => .iface t (.oel k sz 0 0)|.yld n,_ => .yld n|.pn n,_ => .pn n|.fn f cap,x => .fn (.func f) [] (Pts.put cap x)|.u,_ => .undef
def Pts.put:(ps:List Pt)->Pts.den ps->List AV|[],_=>[]|p::ps,x=>p.put x.1::Pts.put ps x.2
end
abbrev NM:=List (Nat×Nat)
def l8(nm:NM)(b b':Nat):Option NM:=match ar nm b with|some x=>bif Nat.beq x b' then some nm else none|none=>some ((b,b')::nm)
def asAgg:AV->Option (List AV)|.agg xs=>some xs|_=>none
def qg4:AV->Option (List AV)|.tup xs=>some xs|_=>none
def qg3:AV->Option (Nat×Nat)|.ptr b off=>some (b,off)|_=>none
def qg1:AV->Option Nat|.own k=>some k|_=>none
def qq4(τ:Ty):AV->Option (List τ.den)
 |.arr τ' l=>match Ty.eq? τ' τ with|some ⟨h⟩=>some (h▸l)|none=>none
 |_=>none
def qch:AV->Option (Nat×Nat)|.oel k sz 0 0=>some (k,sz)|_=>none
def zee{τ:Ty}{x:AV}{l:List τ.den}(h:qq4 τ x=some l):x = .arr τ l:=by
 cases x<;>simp[qq4,reduceCtorEq]at h
 split at h
 ·rename_i τ' l' e he;simp at h;subst h;cases e;rfl
 ·cases h
def q2s{x:AV}{k sz:Nat}(h:qch x=some (k,sz)):x = .oel k sz 0 0:=by
 unfold qch at h;split at h
 ·simp at h;obtain⟨rfl,rfl⟩:=h;rfl
 ·cases h
def qg0:AV->Option (TypeId×Nat×Nat)
 |.iface t x=>match qch x with|some (k,sz)=>some (t,k,sz)|none=>none
 |_=>none
def zeg{x:AV}{t:TypeId}{k sz:Nat}(h:qg0 x=some (t,k,sz)):x = .iface t (.oel k sz 0 0):=by
 cases x<;>simp[qg0,reduceCtorEq]at h
 split at h
 ·rename_i k' sz' e;simp at h;obtain⟨rfl,rfl,rfl⟩:=h;rw[q2s e]
 ·cases h
def qg5:AV->Option Nat|.yld k=>some k|_=>none
def qg2:AV->Option Nat|.pn k=>some k|_=>none
def qgz:AV->Option (FuncId×List AV)
 |.fn f first xs=>match f with
  |.func f'=>match first with|[]=>some (f',xs)|_=>none
  |_=>none
 |_=>none
def zed{x:AV}{xs:List AV}(h:asAgg x=some xs):x = .agg xs:=by
 cases x<;>simp[asAgg,reduceCtorEq,qI]at h;subst h;rfl
def zek{x:AV}{xs:List AV}(h:qg4 x=some xs):x = .tup xs:=by
 cases x<;>simp[qg4,reduceCtorEq,qI]at h;subst h;rfl
def zej{x:AV}{b off:Nat}(h:qg3 x=some (b,off)):x = .ptr b off:=by
 cases x<;>simp[qg3,reduceCtorEq,qI,qP]at h;obtain⟨rfl,rfl⟩:=h;rfl
def zeh{x:AV}{k:Nat}(h:qg1 x=some k):x = .own k:=by
 cases x<;>simp[qg1,reduceCtorEq,qI]at h;subst h;rfl
def zel{x:AV}{k:Nat}(h:qg5 x=some k):x = .yld k:=by
 cases x<;>simp[qg5,reduceCtorEq,qI]at h;subst h;rfl
def zei{x:AV}{k:Nat}(h:qg2 x=some k):x = .pn k:=by
 cases x<;>simp[qg2,reduceCtorEq,qI]at h;subst h;rfl
def zef{x:AV}{f:FuncId}{xs:List AV}(h:qgz x=some (f,xs)):x = .fn (.func f) [] xs:=by
 cases x<;>simp[qgz,reduceCtorEq]at h
 split at h
 ·split at h
  ·simp at h;obtain⟨rfl,rfl⟩:=h;rfl
  ·cases h
 ·cases h
mutual
def Pt.get:(p:Pt)->AV->NM->Option (p.den×NM)
 |.h τ,x,nm=>match τ.getAV x with|some d=>some (d,nm)|none=>none
 |.c v,x,nm=>bif v.is x then some ((),nm) else none|.agg ps,x,nm=>match asAgg x with|some xs=>Pts.get ps xs nm|none=>none
 |.tup ps,x,nm=>match qg4 x with|some xs=>Pts.get ps xs nm|none=>none
 |.ptr b off,x,nm=>match qg3 x with
  |some (b',off')=>bif Nat.beq off' off then(match l8 nm b b' with|some nm'=>some ((),nm')|none=>none) else none
  |none=>none
 |.own k,x,nm=>match qg1 x with
  |some k'=>match l8 nm k k' with|some nm'=>some ((),nm')|none=>none
  |none=>none
 |.arr τ,x,nm=>match qq4 τ x with|some d=>some (d,nm)|none=>none
 |.el k sz,x,nm=>match qch x with
  |some (k',sz')=>bif Nat.beq sz' sz then(match l8 nm k k' with|some nm'=>some ((),nm')|none=>none) else none
  |none=>none
 |.iel t k sz,x,nm=>match qg0 x with
  |some (t',k',sz')=>bif Nat.beq t' t&&Nat.beq sz' sz then(match l8 nm k k' with|some nm'=>some ((),nm')|none=>none) else none
  |none=>none
 |.yld k,x,nm=>match qg5 x with
  |some k'=>match l8 nm k k' with|some nm'=>some ((),nm')|none=>none
  |none=>none
 |.pn k,x,nm=>match qg2 x with
  |some k'=>match l8 nm k k' with|some nm'=>some ((),nm')|none=>none
  |none=>none
 |.fn f cap,x,nm=>match qgz x with|some (f',xs)=>bif Nat.beq f' f then Pts.get cap xs nm else none|none=>none
 |.u,_,nm=>some ((),nm)
def Pts.get:(ps:List Pt)->List AV->NM->Option (Pts.den ps×NM)
 |[],xs,nm=>match xs with|[]=>some ((),nm)|_=>none
 |p::ps,xs,nm=>match xs with
  |x::xs=>match p.get x nm with
   |some (d,nm')=>match Pts.get ps xs nm' with|some (ds,nm'')=>some ((d,ds),nm'')|none=>none
   |none=>none
  |[]=>none
end
def ce(nm nm':NM):Prop:=∀n m,ar nm n=some m->ar nm' n=some m
def ce.refl(nm:NM):ce nm nm:=fun _ _ h=>h
def ce.trans{a b c:NM}(h:ce a b)(k:ce b c):ce a c:=fun n m x=>k n m (h n m x)
def rh{nm nm':NM}{b b':Nat}(h:l8 nm b b'=some nm'):ce nm nm'/\ar nm' b=some b':=by
 unfold l8 at h;split at h
 ·rename_i x hx;cases hq:Nat.beq x b'<;>rw[hq]at h<;>simp at h
  subst h;have:=qN hq;subst this;exact⟨ce.refl _,hx⟩
 ·rename_i hx;simp at h;subst h;refine⟨fun n m hn => ?_,by simp[ar]⟩
  simp[ar];cases hq:Nat.beq b n
  ·exact hn
  ·have:=qN hq;subst this;rw[hx]at hn;cases hn
def kq(N:NM)(x y:AV):Prop:=∃ps,vw false [] (x.ren (ap N)) y=some ps/\ao ps
def uq(N:NM)(xs ys:List AV):Prop:=∃ps,a8 false [] (AV.rens (ap N) xs) ys=some ps/\ao ps
def uq.cons{N:NM}{x y:AV}{xs ys:List AV}(h:kq N x y)(k:uq N xs ys):uq N (x::xs) (y::ys):=by
 obtain⟨ps,h1,h2⟩:=h;obtain⟨qs,k1,k2⟩:=k;exact⟨ps++qs,by simp[AV.rens,a8,h1,k1],cq.2 ⟨h2,k2⟩⟩
def dz.seens{xs ys:List AV}(h:dz xs ys)(N:NM):uq N xs ys:=by
 obtain⟨h1,ps,h2,h3⟩:=h;exact⟨ps,by rw[h1];exact h2,h3⟩
def qcr{τ:Ty}{x:AV}{d:τ.den}(h:nv τ x=some d){y:AV}(hy:τ.enc d=[y])(N:NM):kq N x y:=by
 unfold nv at h;split at h
 ·rename_i d' hd;simp at h;subst h;obtain⟨ab,e,hs⟩:=pp hd;simp at e;subst e;rw[hy]at hs;obtain⟨ps,h1,h2⟩:=hs.seens N;simp only[AV.rens,a8]at h1;split at h1
  ·rename_i qs hq;simp only[qI]at h1;subst h1;exact⟨qs,hq,(cq.1 h2).1⟩
  ·cases h1
 ·cases h
def qr3{τ:Ty}{x:AV}{d:τ.den}(h:qcs τ x=some d)(N:NM):kq N x (.agg (τ.enc d)):=by
 unfold qcs at h;split at h
 ·split at h
  ·rename_i d' hd;simp at h;subst h;obtain⟨ab,e,hs⟩:=pp hd;simp at e;subst e;obtain⟨ps,h1,h2⟩:=hs.seens N;exact⟨ps,by simp[AV.ren,vw];exact h1,h2⟩
  ·cases h
 ·cases h
def zg2{N:NM}:∀{τ:Ty}{x:AV}{d:τ.den},τ.getAV x=some d->kq N x (τ.av d)|.int _,_,_,h=>qcr h rfl N|.byte,_,_,h=>qcr h rfl N|.bool,_,_,h=>qcr h rfl N|.str,_,_,h=>qcr h rfl N|.list _,_,_,h=>qcr h rfl N|.unit,_,_,h=>qr3 h N|.prod _ _,_,_,h=>qr3 h N|.tree _,_,_,h=>qr3 h N
def CV.is_seen{v:CV}{x:AV}(h:v.is x=true)(N:NM):kq N x (.val v.val):=by
 have:x = .val v.val:=by
  unfold CV.is at h;split at h
  ·rfl
  ·simp at h;obtain⟨rfl,rfl⟩:=h;rfl
  ·simp at h;subst h;rfl
  ·rename_i vs;have:=Array.eq_empty_of_size_eq_zero (qN h);subst this;rfl
  ·rfl
  ·rfl
  ·cases h
 subst this;exact⟨[AV.val v.val=AV.val v.val],rfl,rfl,trivial⟩
mutual
def Pt.get_seen:∀{p:Pt}{x:AV}{nm nm':NM}{d:p.den},p.get x nm=some (d,nm')->ce nm nm'/\∀N,c7 N=true->ce nm' N->kq N x (p.put d)
 |.h τ,x,nm,nm',d,h=>by
  simp[Pt.get]at h;split at h
  ·rename_i d' hd;simp at h;obtain⟨rfl,rfl⟩:=h;exact⟨ce.refl _,fun N _ _=>zg2 hd⟩
  ·cases h
 |.c v,x,nm,nm',d,h=>by
  simp[Pt.get]at h;cases hv:v.is x<;>rw[hv]at h<;>simp at h
  obtain⟨_,rfl⟩:=h;exact⟨ce.refl _,fun N _ _=>CV.is_seen hv N⟩
 |.u,x,nm,nm',d,h=>by
  simp[Pt.get,qI]at h;obtain⟨_,rfl⟩:=h;refine⟨ce.refl _,fun N _ _=>⟨[],?_,trivial⟩⟩
  show vw false [] _ .undef=_;cases AV.ren (ap N) x<;>rfl
 |.agg ps,x,nm,nm',d,h=>by
  simp[Pt.get]at h;split at h
  rotate_left
  ·cases h
  rename_i xs hx;have hx:=zed hx;subst hx;obtain⟨h1,h2⟩:=Pts.get_seen h;exact⟨h1,fun N hN hs=>by obtain⟨qs,q1,q2⟩:=h2 N hN hs;exact⟨qs,q1,q2⟩⟩
 |.tup ps,x,nm,nm',d,h=>by
  simp[Pt.get]at h;split at h
  rotate_left
  ·cases h
  rename_i xs hx;have hx:=zek hx;subst hx;obtain⟨h1,h2⟩:=Pts.get_seen h;exact⟨h1,fun N hN hs=>by obtain⟨qs,q1,q2⟩:=h2 N hN hs;exact⟨qs,q1,q2⟩⟩
 |.ptr b off,x,nm,nm',d,h=>by
  simp[Pt.get]at h;split at h
  rotate_left
  ·cases h
  rename_i b' off' hx;have hx:=zej hx;subst hx;cases hq:Nat.beq off' off<;>rw[hq]at h<;>simp at h
  split at h
  ·rename_i nm1 hb;simp at h;obtain⟨_,rfl⟩:=h;obtain⟨h1,h2⟩:=rh hb;have:=qN hq;subst this;refine⟨h1,fun N hN hs => ?_⟩
   have:=qb hN (hs _ _ h2);refine⟨[AV.ptr b off'=AV.ptr b off'],?_,rfl,trivial⟩;show vw false [] (match ap N b' with|some b''=>AV.ptr b'' off'|none => .undef) (AV.ptr b off')=_
   rw[this];rfl
  ·cases h
 |.own k,x,nm,nm',d,h=>by
  simp[Pt.get]at h;split at h
  rotate_left
  ·cases h
  rename_i k' hx;have hx:=zeh hx;subst hx;split at h
  ·rename_i nm1 hb;simp at h;obtain⟨_,rfl⟩:=h;obtain⟨h1,h2⟩:=rh hb;refine⟨h1,fun N hN hs => ?_⟩
   have:=qb hN (hs _ _ h2);refine⟨[AV.own k=AV.own k],?_,rfl,trivial⟩;show vw false [] (match ap N k' with|some b''=>AV.own b''|none => .undef) (AV.own k)=_
   rw[this];rfl
  ·cases h
 |.arr τ,x,nm,nm',d,h=>by
  simp[Pt.get]at h;split at h
  ·rename_i d' hd;simp at h;obtain⟨rfl,rfl⟩:=h;have hd:=zee hd;subst hd;exact⟨ce.refl _,fun N _ _=>⟨[AV.arr τ d=AV.arr τ d],rfl,rfl,trivial⟩⟩
  ·cases h
 |.el k sz,x,nm,nm',d,h=>by
  simp[Pt.get]at h;split at h
  rotate_left
  ·cases h
  rename_i k' sz' hx;have hx:=q2s hx;subst hx;cases hq:Nat.beq sz' sz<;>rw[hq]at h<;>simp at h
  split at h
  ·rename_i nm1 hb;simp at h;obtain⟨_,rfl⟩:=h;obtain⟨h1,h2⟩:=rh hb;have:=qN hq;subst this;refine⟨h1,fun N hN hs => ?_⟩
   have:=qb hN (hs _ _ h2);refine⟨[AV.oel k sz' 0 0=AV.oel k sz' 0 0],?_,rfl,trivial⟩;show vw false [] (match ap N k' with|some b''=>AV.oel b'' sz' 0 0|none => .undef) (AV.oel k sz' 0 0)=_
   rw[this];rfl
  ·cases h
 |.iel t k sz,x,nm,nm',d,h=>by
  simp[Pt.get]at h;split at h
  rotate_left
  ·cases h
  rename_i t' k' sz' hx;have hx:=zeg hx;subst hx;cases hq:Nat.beq t' t&&Nat.beq sz' sz<;>rw[hq]at h<;>simp at h
  simp only[qA]at hq;split at h
  ·rename_i nm1 hb;simp only[qI]at h;obtain⟨_,rfl⟩:=h;obtain⟨h1,h2⟩:=rh hb;have:=qN hq.1;subst this;have:=qN hq.2;subst this;refine⟨h1,fun N hN hs => ?_⟩
   have:=qb hN (hs _ _ h2);refine⟨[AV.iface t' (AV.oel k sz' 0 0)=AV.iface t' (AV.oel k sz' 0 0)],?_,rfl,trivial⟩;show vw false [] (.iface t' (match ap N k' with|some b''=>AV.oel b'' sz' 0 0|none => .undef)) (AV.iface t' (AV.oel k sz' 0 0))=_
   rw[this];rfl
  ·cases h
 |.yld k,x,nm,nm',d,h=>by
  simp[Pt.get]at h;split at h
  rotate_left
  ·cases h
  rename_i k' hx;have hx:=zel hx;subst hx;split at h
  ·rename_i nm1 hb;simp at h;obtain⟨_,rfl⟩:=h;obtain⟨h1,h2⟩:=rh hb;refine⟨h1,fun N hN hs => ?_⟩
   have:=qb hN (hs _ _ h2);refine⟨[AV.yld k=AV.yld k],?_,rfl,trivial⟩;show vw false [] (match ap N k' with|some b''=>AV.yld b''|none => .undef) (AV.yld k)=_
   rw[this];rfl
  ·cases h
 |.pn k,x,nm,nm',d,h=>by
  simp[Pt.get]at h;split at h
  rotate_left
  ·cases h
  rename_i k' hx;have hx:=zei hx;subst hx;split at h
  ·rename_i nm1 hb;simp at h;obtain⟨_,rfl⟩:=h;obtain⟨h1,h2⟩:=rh hb;refine⟨h1,fun N hN hs => ?_⟩
   have:=qb hN (hs _ _ h2);refine⟨[AV.pn k=AV.pn k],?_,rfl,trivial⟩;show vw false [] (match ap N k' with|some b''=>AV.pn b''|none => .undef) (AV.pn k)=_
   rw[this];rfl
  ·cases h
 |.fn f cap,x,nm,nm',d,h=>by
  simp[Pt.get]at h;split at h
  rotate_left
  ·cases h
  rename_i f' xs hx;have hx:=zef hx;subst hx;cases hq:Nat.beq f' f
  ·rw[hq]at h;exact absurd (show(none:Option ((Pt.fn f cap).den×NM))=some (d,nm') from h) oC
  have h:Pts.get cap xs nm=some (d,nm'):=by rw[hq]at h;exact h
  obtain⟨h1,h2⟩:=Pts.get_seen h;have:=qN hq;subst this;refine⟨h1,fun N hN hs => ?_⟩
  obtain⟨qs,q1,q2⟩:=h2 N hN hs;refine⟨(Fn.func f'=Fn.func f')::([]++qs),?_,rfl,q2⟩;show(match a8 false [] (AV.rens (ap N) []) [],a8 false [] (AV.rens (ap N) xs) (Pts.put cap d) with
   |some ps,some qs=>some ((Fn.func f'=Fn.func f')::(ps++qs))| _,_=>none)=_
  rw[q1];rfl
def Pts.get_seen:∀{ps:List Pt}{xs:List AV}{nm nm':NM}{d:Pts.den ps},Pts.get ps xs nm=some (d,nm')->ce nm nm'/\∀N,c7 N=true->ce nm' N->uq N xs (Pts.put ps d)
 |[],xs,nm,nm',d,h=>by
  cases xs with
  |nil=>
   have h:some (((),nm):Unit×NM)=some (d,nm'):=h;have e:nm=nm':=congrArg Prod.snd (qJ h);subst e;exact⟨ce.refl _,fun N _ _=>⟨[],rfl,trivial⟩⟩
  |cons x xs=>exact absurd (show(none:Option (Unit×NM))=some (d,nm') from h) oC
 |p::ps,xs,nm,nm',d,h=>by
  cases xs with
  |nil=>exact absurd (show(none:Option ((p.den×Pts.den ps)×NM))=some (d,nm') from h) oC|cons x xs=>
   have h:(match p.get x nm with
    |some (d,nm')=>match Pts.get ps xs nm' with|some (ds,nm'')=>some ((d,ds),nm'')|none=>none
    | none=>none)=some (d,nm'):=h
   split at h
   ·rename_i d1 nm1 h1;split at h
    ·rename_i d2 nm2 h2;simp at h;obtain⟨rfl,rfl⟩:=h;obtain⟨a1,a2⟩:=Pt.get_seen h1;obtain⟨b1,b2⟩:=Pts.get_seen h2;exact⟨a1.trans b1,fun N hN hs=>uq.cons (a2 N hN (b1.trans hs)) (b2 N hN hs)⟩
    ·cases h
   ·cases h
end
def mg:List (Nat×Pt)->Type|[]=>Unit|(_,p)::r=>p.den×mg r
def ig:(l:List (Nat×Pt))->mg l->List (Nat×AV)|[],_=>[]|(i,p)::r,x=>(i,p.put x.1)::ig r x.2
def sc(fr:List (Nat×AV)):(l:List (Nat×Pt))->NM->Option (mg l×NM)
 |[],nm=>some ((),nm)|(i,p)::r,nm=>match ae fr i with
  |some x=>match p.get x nm with
   |some (d,nm')=>match sc fr r nm' with|some (ds,nm'')=>some ((d,ds),nm'')|none=>none
   |none=>none
  |none=>none
def qh0{fr:List (Nat×AV)}:∀{l:List (Nat×Pt)}{nm nm':NM}{d:mg l},sc fr l nm=some (d,nm')->ce nm nm'/\∀N,c7 N=true->ce nm' N->∀i y,ae (ig l d) i=some y->∃x,ae fr i=some x/\kq N x y
 |[],nm,nm',d,h=>by
  have e:nm=nm':=congrArg Prod.snd (qJ (show some (((),nm):Unit×NM)=some (d,nm') from h))
  subst e;exact⟨ce.refl _,fun N _ _ i y hy=>by cases hy⟩
 |(j,p)::r,nm,nm',d,h=>by
  have h:(match ae fr j with
   |some x=>match p.get x nm with
    |some (d,nm')=>match sc fr r nm' with|some (ds,nm'')=>some ((d,ds),nm'')|none=>none
    |none=>none
   | none=>none)=some (d,nm'):=h
  split at h
  ·rename_i x hx;split at h
   ·rename_i d1 nm1 h1;split at h
    ·rename_i d2 nm2 h2;simp at h;obtain⟨rfl,rfl⟩:=h;obtain⟨a1,a2⟩:=Pt.get_seen h1;obtain⟨b1,b2⟩:=qh0 h2;refine⟨a1.trans b1,fun N hN hs i y hy => ?_⟩
     have hy:(bif Nat.beq j i then some (p.put d1) else ae (ig r d2) i)=some y:=hy
     cases hb:Nat.beq j i
     ·rw[hb]at hy;exact b2 N hN hs i y hy
     ·rw[hb]at hy;simp at hy;subst hy;have:=qN hb;subst this;exact⟨x,hx,a2 N hN (b1.trans hs)⟩
    ·cases h
   ·cases h
  ·cases h
inductive aw:Type
 |cells (ps:List Pt) (T:TypeId)
 |row (τ:Ty) (E:TypeId)
 |loop (st:LoopState) (pe:Option cr) (f:FuncId) (n:Nat) (fr:List (Nat×Pt)) (ps:List Tmp) (tag:Nat) (D:Nat)
 |dfr
 |it
 |dead
 |dat (τ:Ty) (T:TypeId)
def aw.den:aw->Type|.cells ps _=>Pts.den ps|.row τ _=>List τ.den|.loop _ _ _ _ fr _ _ _=>mg fr|.dfr=>Unit|.it=>List UInt8×Nat|.dead=>Unit|.dat τ _=>τ.den
def aw.put:(p:aw)->p.den->ag|.cells ps T,x => .cells (Pts.put ps x) T|.row τ E,l => .row τ l E|.loop st pe f n fr ps tag D,x => .loop st pe f n (ig fr x) ps tag D|.dfr,_ => .dfr|.it,x => .it x.1 x.2|.dead,_ => .dead|.dat τ T,x => .cells (τ.enc x) T
def cr.beq:Option cr->Option cr->Bool|none,none=>true|some .ret,some .ret=>true|some (.exit i),some (.exit j)=>Nat.beq i j|_,_=>false
def cr.beq_eq:∀{a b:Option cr},cr.beq a b=true->a=b|none,none,_=>rfl|some .ret,some .ret,_=>rfl|some (.exit i),some (.exit j),h=>by rw[qN (show Nat.beq i j=true from h)]|none,some _,h=>by simp[cr.beq]at h|some _,none,h=>by simp[cr.beq]at h|some .ret,some (.exit _),h=>by simp[cr.beq]at h|some (.exit _),some .ret,h=>by simp[cr.beq]at h
def mc:List Nat->List Nat->Bool|[],[]=>true|x::xs,y::ys=>Nat.beq x y&&mc xs ys|_,_=>false
def qhu:∀{a b:List Nat},mc a b=true->a=b
 |[],[],_=>rfl|x::xs,y::ys,h=>by
  simp only[mc,qA]at h;rw[qN h.1,qhu h.2]
 |[],_::_,h=>by simp[mc]at h|_::_,[],h=>by simp[mc]at h
def aw.get:(p:aw)->ag->NM->Option (p.den×NM)
 |.cells ps T,b,nm=>match b with|.cells cs T'=>bif Nat.beq T' T then Pts.get ps cs nm else none|_=>none
 |.row τ E,b,nm=>match b with
  |.row τ' l E'=>match Ty.eq? τ' τ with|some ⟨h⟩=>bif Nat.beq E' E then some ((h▸l:List τ.den),nm) else none|none=>none
  |_=>none
 |.loop st pe f n fr ps tag D,b,nm=>match b with
  |.loop st' pe' f' n' fr' ps' tag' D'=>bif decide (st'=st)&&cr.beq pe' pe&&Nat.beq f' f&&Nat.beq n' n&&mc ps' ps&&Nat.beq tag' tag then
    (match l8 nm D D' with
    |some nm1=>sc fr' fr nm1| none=>none) else none
  |_=>none
 |.dfr,b,nm=>match b with|.dfr=>some ((),nm)|_=>none
 |.it,b,nm=>match b with|.it s p=>some ((s,p),nm)|_=>none
 |.dead,_,nm=>some ((),nm)|.dat τ T,b,nm=>match b with
  | .cells cs T'=>bif Nat.beq T' T then(match τ.dec cs with
    |some (d,[])=>some (d,nm)| _=>none) else none
  |_=>none
def qqc(N:NM)(b b':ag):Prop:=∃ps,tm (cw (ap N) b) b'=some ps/\ao ps
def q8m{N:NM}{fr:List (Nat×AV)}:∀{fr':List (Nat×AV)},(∀e∈fr',∃x,ae fr e.1=some x/\kq N x e.2)->∃ps,we (lg (ap N) fr) fr'=some ps/\ao ps
 |[],_=>⟨[],rfl,trivial⟩|(i,y)::r,h=>by
  obtain⟨x,hx,ps,h1,h2⟩:=h (i,y) qH;obtain⟨qs,k1,k2⟩:=q8m (fr':=r) (fun e he=>h e (qE _ he))
  have hl:∀(fr:List (Nat×AV)),ae fr i=some x->ae (lg (ap N) fr) i=some (x.ren (ap N)):=by
   intro fr
   induction fr with
   |nil=>intro h;cases h
   |cons e r ih=>
    obtain⟨j,z⟩:=e;intro h;simp[lg,ae]at h ⊢;cases hb:Nat.beq j i
    ·rw[hb]at h;exact ih h
    ·rw[hb]at h;simp at h;subst h;rfl
  exact⟨ps++qs,by simp[we,hl fr hx,h1,k1],cq.2 ⟨h2,k2⟩⟩
def q4r{fr:List (Nat×AV)}:∀{l:List (Nat×Pt)}{nm nm':NM}{d:mg l},sc fr l nm=some (d,nm')->∀N,c7 N=true->ce nm' N->∀e∈ig l d,∃x,ae fr e.1=some x/\kq N x e.2
 |[],nm,nm',d,h,N,_,_,e,he=>by cases he
 |(j,p)::r,nm,nm',d,h,N,hN,hs,e,he=>by
  have h:(match ae fr j with
   |some x=>match p.get x nm with
    |some (d,nm')=>match sc fr r nm' with|some (ds,nm'')=>some ((d,ds),nm'')|none=>none
    |none=>none
   | none=>none)=some (d,nm'):=h
  split at h
  ·rename_i x hx;split at h
   ·rename_i d1 nm1 h1;split at h
    ·rename_i d2 nm2 h2;simp at h;obtain⟨rfl,rfl⟩:=h;rcases List.mem_cons.1 (show e∈(j,p.put d1)::ig r d2 from he) with rfl|he
     ·exact⟨x,hx,(Pt.get_seen h1).2 N hN ((qh0 h2).1.trans hs)⟩
     ·exact q4r h2 N hN hs e he
    ·cases h
   ·cases h
  ·cases h
def aw.get_seen:∀{p:aw}{b:ag}{nm nm':NM}{d:p.den},p.get b nm=some (d,nm')->ce nm nm'/\∀N,c7 N=true->ce nm' N->qqc N b (p.put d)
 |.cells ps T,b,nm,nm',d,h=>by
  cases b with
  |cells cs T'=>
   have h:(bif Nat.beq T' T then Pts.get ps cs nm else none)=some (d,nm'):=h
   cases hq:Nat.beq T' T
   ·rw[hq]at h;cases h
   ·rw[hq]at h;have h:Pts.get ps cs nm=some (d,nm'):=h;obtain⟨h1,h2⟩:=Pts.get_seen h;have:=qN hq;subst this;refine⟨h1,fun N hN hs => ?_⟩
    obtain⟨qs,q1,q2⟩:=h2 N hN hs;refine⟨qs,?_,q2⟩;show(bif Nat.beq T' T' then a8 false [] (AV.rens (ap N) cs) (Pts.put ps d) else none)=some qs
    rw[show Nat.beq T' T'=true by simp,q1];rfl
  |_=>exact absurd (show(none:Option ((aw.cells ps T).den×NM))=some (d,nm') from h) oC
 |.row τ E,b,nm,nm',d,h=>by
  cases b with
  |row τ' l E'=>
   have h:(match Ty.eq? τ' τ with
    |some ⟨h⟩=>bif Nat.beq E' E then some ((h▸l:List τ.den),nm) else none| none=>none)=some (d,nm'):=h
   split at h
   ·rename_i hh _;cases hq:Nat.beq E' E
    ·rw[hq]at h;cases h
    ·rw[hq]at h;simp at h;obtain⟨rfl,rfl⟩:=h;have:=qN hq;subst this;subst hh;exact⟨ce.refl _,fun N _ _=>⟨[ag.row τ' l E'=ag.row τ' l E'],rfl,rfl,trivial⟩⟩
   ·cases h
  |_=>exact absurd (show(none:Option ((aw.row τ E).den×NM))=some (d,nm') from h) oC
 |.loop st pe f n fr ps tag D,b,nm,nm',d,h=>by
  cases b with
  |loop st' pe' f' n' fr' ps' tag' D'=>
   have h:(bif decide (st'=st)&&cr.beq pe' pe&&Nat.beq f' f&&Nat.beq n' n&&mc ps' ps&&Nat.beq tag' tag then
    (match l8 nm D D' with
    |some nm1=>sc fr' fr nm1| none=>none) else none)=some (d,nm'):=h
   cases hq:decide (st'=st)&&cr.beq pe' pe&&Nat.beq f' f&&Nat.beq n' n&&mc ps' ps&&Nat.beq tag' tag
   ·rw[hq]at h;cases h
   ·rw[hq]at h;simp at h;simp only[qA,decide_eq_true_eq]at hq;obtain⟨⟨⟨⟨⟨q1,q2⟩,q3⟩,q4⟩,q5⟩,q6⟩:=hq;have q2:=cr.beq_eq q2;have q3:=qN q3;have q4:=qN q4;have q5:=qhu q5;have q6:=qN q6;subst q1 q2 q3 q4 q5 q6;split at h
    ·rename_i nm1 hb;obtain⟨b1,b2⟩:=rh hb;obtain⟨c1,_⟩:=qh0 h;refine⟨b1.trans c1,fun N hN hs => ?_⟩
     have hD:=qb hN (hs _ _ (c1 _ _ b2));obtain⟨qs,k1,k2⟩:=q8m (q4r h N hN hs);refine⟨([st'=st',pe'=pe',f'=f',n'=n',ps'=ps',tag'=tag',D=D]:List Prop)++qs,?_,cq.2 ⟨⟨rfl,rfl,rfl,rfl,rfl,rfl,rfl,trivial⟩,k2⟩⟩;show tm (match ap N D' with|some D' => .loop st' pe' f' n' (lg (ap N) fr') ps' tag' D'|none => .dead) (.loop st' pe' f' n' (ig fr d) ps' tag' D)=_
     rw[hD];show(match we (lg (ap N) fr') (ig fr d) with
      |some qs=>some (([st'=st',pe'=pe',f'=f',n'=n',ps'=ps',tag'=tag',D=D]:List Prop)++qs)| none=>none)=_
     rw[k1]
    ·cases h
  |_=>exact absurd (show(none:Option ((aw.loop st pe f n fr ps tag D).den×NM))=some (d,nm') from h) oC
 |.dat τ T,b,nm,nm',d,h=>by
  cases b with
  |cells cs T'=>
   have h:(bif Nat.beq T' T then(match τ.dec cs with
    |some (d,[])=>some (d,nm)| _=>none) else none)=some (d,nm'):=h
   cases hq:Nat.beq T' T
   ·rw[hq]at h;cases h
   ·rw[hq]at h;simp at h;have:=qN hq;subst this;split at h
    ·rename_i d0 hd;have h:(some (d0,nm):Option (τ.den×NM))=some (d,nm'):=h;cases h
     obtain⟨ab,e,hs⟩:=pp hd;rw[List.append_nil]at e;subst e;refine⟨ce.refl _,fun N hN _ => ?_⟩
     obtain⟨qs,q1,q2⟩:=hs.seens N;refine⟨qs,?_,q2⟩;show(bif Nat.beq T' T' then a8 false [] (AV.rens (ap N) _) (τ.enc d) else none)=some qs
     rw[show Nat.beq T' T'=true by simp,q1];rfl
    ·cases h
  |_=>exact absurd (show(none:Option ((aw.dat τ T).den×NM))=some (d,nm') from h) oC
 |.dfr,b,nm,nm',d,h=>by
  cases b with
  |dfr=>
   have e:nm=nm':=congrArg Prod.snd (qJ (show some (((),nm):Unit×NM)=some (d,nm') from h))
   subst e;exact⟨ce.refl _,fun N _ _=>⟨[],rfl,trivial⟩⟩
  |_=>exact absurd (show(none:Option (aw.dfr.den×NM))=some (d,nm') from h) oC
 |.it,b,nm,nm',d,h=>by
  cases b with
  |it s p=>
   have e:=qJ (show some ((s,p),nm)=some (d,nm') from h)
   have e1:nm=nm':=congrArg Prod.snd e;have e2:(s,p)=d:=congrArg Prod.fst e;subst e1;subst e2;exact⟨ce.refl _,fun N _ _=>⟨[s=s,p=p],rfl,rfl,rfl,trivial⟩⟩
  |_=>exact absurd (show(none:Option (aw.it.den×NM))=some (d,nm') from h) oC
 |.dead,b,nm,nm',d,h=>by
  have e:nm=nm':=congrArg Prod.snd (qJ (show some (((),nm):Unit×NM)=some (d,nm') from h))
  subst e;refine⟨ce.refl _,fun N _ _ => ?_⟩
  show ∃ps,tm (cw (ap N) b) .dead=some ps/\ao ps;cases cw (ap N) b<;>exact⟨[],rfl,trivial⟩
def eh:List (Nat×aw)->Type|[]=>Unit|(_,p)::r=>p.den×eh r
def bt:(l:List (Nat×aw))->eh l->List (Nat×ag)|[],_=>[]|(n,p)::r,x=>(n,p.put x.1)::bt r x.2
def nq(hp:List (Nat×ag)):(l:List (Nat×aw))->NM->Option (eh l×NM)
 |[],nm=>some ((),nm)|(n,p)::r,nm=>match ar nm n with
  |some old=>match ae hp old with
   |some b=>match p.get b nm with
    |some (d,nm')=>match nq hp r nm' with|some (ds,nm'')=>some ((d,ds),nm'')|none=>none
    |none=>none
   |none=>none
  |none=>none
def uv{hp:List (Nat×ag)}:∀{l:List (Nat×aw)}{nm nm':NM}{d:eh l},nq hp l nm=some (d,nm')->ce nm nm'/\∀N,c7 N=true->ce nm' N ->
  (∀m b',ae (bt l d) m=some b'->∃old b,ar N m=some old/\ae hp old=some b/\qqc N b b')/\∀m,ae (bt l d) m=none->∀e∈l,e.1≠m
 |[],nm,nm',d,h=>by
  have e:nm=nm':=congrArg Prod.snd (qJ (show some (((),nm):Unit×NM)=some (d,nm') from h))
  subst e;exact⟨ce.refl _,fun N _ _=>⟨fun m b' hb=>(by cases hb),fun m _ e he=>(by cases he)⟩⟩
 |(j,p)::r,nm,nm',d,h=>by
  have h:(match ar nm j with
   |some old=>match ae hp old with
    |some b=>match p.get b nm with
     |some (d,nm')=>match nq hp r nm' with|some (ds,nm'')=>some ((d,ds),nm'')|none=>none
     |none=>none
    |none=>none
   | none=>none)=some (d,nm'):=h
  split at h
  ·rename_i old ho;split at h
   ·rename_i b hb;split at h
    ·rename_i d1 nm1 h1;split at h
     ·rename_i d2 nm2 h2;simp at h;obtain⟨rfl,rfl⟩:=h;obtain⟨a1,a2⟩:=aw.get_seen h1;obtain⟨b1,b2⟩:=uv h2;refine⟨a1.trans b1,fun N hN hs=>⟨fun m b' hm => ?_,fun m hm e he => ?_⟩⟩
      ·have hm:(bif Nat.beq j m then some (p.put d1) else ae (bt r d2) m)=some b':=hm
       cases hq:Nat.beq j m
       ·rw[hq]at hm;exact(b2 N hN hs).1 m b' hm
       ·rw[hq]at hm;simp at hm;subst hm;have:=qN hq;subst this;exact⟨old,b,hs _ _ (b1 _ _ (a1 _ _ ho)),hb,a2 N hN (b1.trans hs)⟩
      ·have hm:(bif Nat.beq j m then some (p.put d1) else ae (bt r d2) m)=none:=hm
       cases hq:Nat.beq j m
       ·rw[hq]at hm;rcases List.mem_cons.1 he with rfl|he
        ·intro e;subst e;simp at hq
        ·exact(b2 N hN hs).2 m hm e he
       ·rw[hq]at hm;cases hm
     ·cases h
    ·cases h
   ·cases h
  ·cases h
def ux:NM->List Nat->List Nat->Option NM
 |nm,[],[]=>some nm|nm,n::ns,m::ms=>match l8 nm n m with|some nm'=>ux nm' ns ms|none=>none
 |_,_,_=>none
def q21:∀{nm nm':NM}{ns ms:List Nat},ux nm ns ms=some nm'->ce nm nm'/\ns.map (ar nm')=ms.map some
 |nm,nm',[],[],h=>by simp only[ux,qI]at h;subst h;exact⟨ce.refl _,rfl⟩|nm,nm',n::ns,m::ms,h=>by
  simp only[ux]at h;split at h
  ·rename_i nm1 hb;obtain⟨h1,h2⟩:=rh hb;obtain⟨h3,h4⟩:=q21 h;exact⟨h1.trans h3,by simp[List.map_cons,h4,h3 _ _ h2]⟩
  ·cases h
 |_,_,[],_::_,h=>by simp[ux]at h|_,_,_::_,[],h=>by simp[ux]at h
def qid(n:Nat):List (Nat×aw)->Bool|[]=>false|(m,_)::r=>Nat.beq m n||qid n r
def q5f{n:Nat}:∀{l:List (Nat×aw)},qid n l=true->∃e∈l,e.1=n
 |[],h=>by cases h
 |(m,p)::r,h=>by
  simp only[qid,Bool.or_eq_true]at h;rcases h with h|h
  ·exact⟨(m,p),qH,qN h⟩
  ·obtain⟨e,he,h⟩:=q5f h;exact⟨e,qE _ he,h⟩
def pg:NM->List (Nat×aw)->Bool|[],_=>true|(n,_)::r,l=>qid n l&&pg r l
def qqw{l:List (Nat×aw)}:∀{nm:NM},pg nm l=true->∀n m,ar nm n=some m->∃e∈l,e.1=n
 |[],_,n,m,h=>by cases h
 |(k,v)::r,ha,n,m,h=>by
  simp[pg,qA]at ha;simp[ar]at h;cases hb:Nat.beq k n
  ·rw[hb]at h;exact qqw ha.2 n m h
  ·have:=qN hb;subst this;exact q5f ha.1
structure LS where
 n:Nat
 fr:List (Nat×Pt)
 hp:List (Nat×aw)
 nx:Nat
 df:List Nat
def LS.den(ls:LS):Type:=mg ls.fr×eh ls.hp
def LS.st(ls:LS)(d:ls.den):St:={ n:=ls.n,fr:=ig ls.fr d.1,hp:=bt ls.hp d.2,nx:=ls.nx,df:=ls.df }
def LS.get(ls:LS)(ids:NM)(s:St):Option ls.den:=
 bif Nat.beq s.n ls.n then
  match sc s.fr ls.fr ids with
  |some (d1,nm1)=>match ux nm1 ls.df s.df with
   |some nm2=>match nq s.hp ls.hp nm2 with|some (d2,nm3)=>bif c7 nm3&&pg nm3 ls.hp then some (d1,d2) else none|none=>none
   |none=>none
  |none=>none
 else none
section
variable{P:Program}{zw0:World}{zwv:Gh}{zwx:List (Nat×ag)}{G:Gh}{s:St}{a:Act}{w:World}
def kq.rep{N:NM}{x y:AV}(h:kq N x y){v:Value}(hv:ai x G v):ai y (G.view N) v:=by
 obtain⟨ps,h1,h2⟩:=h;exact quz (Gh.le.refl _) (fun e=>by cases e) h1 h2 (ai.ren (G:=G) (G':=G.view N) (fun _ _ _ h=>h) (ol N) (qh N) hv)
def Fin.fit{hp l:List (Nat×ag)}(hf:Fin zw0 zwv zwx G hp w){N:NM}(hN:c7 N=true)(hid:∀n bx,ae zwx n=some bx->ar N n=some n)
  (hl:∀m b',ae l m=some b'->∃old b,ar N m=some old/\ae hp old=some b/\qqc N b b'):Fin zw0 zwv zwx (G.view N) l w:=by
 have eb:∀m n,ar N m=some n->(G.view N).box m=G.box n:=fun m n hm=>by simp[Gh.view,hm]
 have eo:∀m n,ar N m=some n->(G.view N).own m=G.own n:=fun m n hm=>by simp[Gh.view,hm]
 have hbox:∀m n b,ar N m=some n->ae hp n=some b->ck (G.view N) w m (cw (ap N) b):=fun m n b h1 h2=>
  ck.ren (G:=G) (G':=G.view N) (ρ:=ap N) (n:=n) (fun _ _ _ h=>h) (fun _ _ _ h=>h) (ol N) (qh N) (fun B hB=>by rw[eb m n h1];exact hB) (fun B hB=>by rw[eo m n h1];exact hB) (hf.mem.holds n b h2)
 have hat:∀m b' c,ae l m=some b'->(G.view N).at m b'=some c->∃n b,ar N m=some n/\ae hp n=some b/\G.at n b=some c:=fun m b' c h1 h2=>by
  obtain⟨n,b,i1,i2,ps,i3,i4⟩:=hl m b' h1;exact⟨n,b,i1,i2,np (eb m n i1) (eo m n i1) ((zk i3 i4 (hbox m n b i1 i2)).2 c h2)⟩
 refine⟨⟨hf.mem.agree,hf.mem.one,fun m b' h => ?_,fun m m' b b' c h1 h2 h3 h4 => ?_,hf.mem.tab⟩,hf.bel,hf.imm_le,hf.imm_new,fun m b c h1 h2 => ?_,fun n bx B h1 h2 => ?_,fun n bx B h1 h2 => ?_⟩
 ·obtain⟨n,b,i1,i2,ps,i3,i4⟩:=hl m b' h;exact(zk i3 i4 (hbox m n b i1 i2)).1
 ·obtain⟨n,b0,i1,i2,i3⟩:=hat m b c h1 h3;obtain⟨n',b0',j1,j2,j3⟩:=hat m' b' c h2 h4;have:=hf.mem.apart n n' b0 b0' c i2 j2 i3 j3;subst this;exact yn hN m m' n i1 j1
 ·obtain⟨n,b0,i1,i2,i3⟩:=hat m b c h1 h2;exact hf.base n b0 c i2 i3
 ·rw[eb n n (hid n bx h1)];exact hf.keep n bx B h1 h2
 ·rw[eo n n (hid n bx h1)];exact hf.keepOwn n bx B h1 h2
def ah.fit(hr:ah zw0 zwv zwx G s a w){ls:LS}{ids:NM}{d:ls.den}(hid:∀n bx,ae zwx n=some bx->ar ids n=some n)(h:ls.get ids s=some d):∃G',ah zw0 zwv zwx G' (ls.st d) a w:=by
 unfold LS.get at h;cases hn:Nat.beq s.n ls.n<;>rw[hn]at h<;>simp at h
 have hn:=qN hn;split at h
 ·rename_i d1 nm1 h1;split at h
  ·rename_i nm2 h2;split at h
   ·rename_i d2 nm3 h3;cases hq:c7 nm3&&pg nm3 ls.hp<;>rw[hq]at h<;>simp at h
    have h:((d1,d2):ls.den)=d:=qJ h;subst h;simp at hq;obtain⟨q1,q2⟩:=hq;obtain⟨f1,f2⟩:=qh0 h1;obtain⟨l1,l2⟩:=q21 h2;obtain⟨b1,b2⟩:=uv h3;obtain⟨b3,b4⟩:=b2 nm3 q1 (ce.refl _);refine⟨G.view nm3,⟨?_,by rw[hr.size];exact hn,fun i x hx => ?_,fun m _ hl => ?_,hr.fin.fit q1 (fun n bx hb=>b1 _ _ (l1 _ _ (f1 _ _ (hid n bx hb)))) b3⟩⟩
    ·obtain⟨bs,e1,e2⟩:=hr.defers;refine⟨bs,e1,e2.trans ?_⟩;have:∀(ns ms:List Nat),ns.map (ar nm2)=ms.map some->ms.map G.box=ns.map (G.view nm3).box:=by
      intro ns
      induction ns with
      |nil=>intro ms h;cases ms with|nil=>rfl|cons=>simp at h
      |cons n ns ih=>
       intro ms h
       cases ms with
       |nil=>simp at h|cons m ms=>
        simp at h ⊢;refine⟨?_,ih ms h.2⟩;show _=(ar nm3 n).bind G.box;rw[b1 _ _ h.1];rfl
     exact this _ _ l2
    ·obtain⟨y,hy,hs⟩:=f2 nm3 q1 (l1.trans b1) i x hx;obtain⟨v,v1,v2⟩:=hr.frame i y hy;exact⟨v,v1,hs.rep v2⟩
    ·have hno:ar nm3 m=none:=by
      cases hc:ar nm3 m with
      |none=>rfl|some o=>
       obtain⟨e,he,hem⟩:=qqw q2 m o hc;exact absurd hem (b4 m hl e he)
     simp[Gh.view,hno]
   ·cases h
  ·cases h
 ·cases h
end
def cm{α β γ:Type}(o:α ⊕ β)(f:α->γ)(g:β->γ):γ:=match o with|.inl a=>f a|.inr b=>g b
inductive Sp:Type->Type 1
 |one {α:Type} (d:α->D):Sp α
 |two {α β:Type} (l:Sp α) (r:Sp β):Sp (α ⊕ β)
def Sp.K{R:Type}:{α:Type}->Sp α->α->(D->Option R)->Option R|_,.one d,x,k=>k (d x)|_,.two l r,x,k=>cm x (fun a=>l.K a k) (fun b=>r.K b k)
def Sp.Out:{α:Type}->Sp α->α->D->Prop|_,.one d,x,e=>e=d x|_,.two l _,.inl a,e=>l.Out a e|_,.two _ r,.inr b,e=>r.Out b e
def Sp.K_some{R:Type}{k:D->Option R}{y:R}:∀{α:Type}{sp:Sp α}{x:α},sp.K x k=some y->∃d,sp.Out x d/\k d=some y
 |_,.one d,x,h=>⟨d x,rfl,h⟩|_,.two l r,.inl a,h=>by obtain⟨d,h1,h2⟩:=Sp.K_some (sp:=l) (x:=a) h;exact⟨d,h1,h2⟩
 |_,.two l r,.inr b,h=>by obtain⟨d,h1,h2⟩:=Sp.K_some (sp:=r) (x:=b) h;exact⟨d,h1,h2⟩
inductive Rq:Type 1
 |tot (d:D)
 |ifb (b:Bool) (d:D)
 |bnd {α:Type} (o:Option α) (sp:Sp α)
 |br (b:Bool) (d1 d2:D)
def Rq.K{R:Type}(q:Rq)(k:D->Option R):Option R:=match q with
 |.tot d=>k d|.ifb b d=>bif b then k d else none|.bnd o sp=>o.bind fun x=>sp.K x k
 |.br b d1 d2=>bif b then k d1 else k d2
def Rq.Out(q:Rq)(e:D):Prop:=match q with|.tot d=>e=d|.ifb b d=>b=true/\e=d|.bnd o sp=>∃x,o=some x/\sp.Out x e|.br b d1 d2=>(b=true/\e=d1)\/(b=false/\e=d2)
def Rq.K_some{R:Type}{k:D->Option R}{y:R}{q:Rq}(h:q.K k=some y):∃d,q.Out d/\k d=some y:=by
 cases q with
 |tot d=>exact⟨d,rfl,h⟩|ifb b d=>
  cases b with|true=>exact⟨d,⟨rfl,rfl⟩,h⟩|false=>cases h
 |bnd o sp=>
  cases o with
  |none=>cases h
  |some x=>obtain⟨d,h1,h2⟩:=Sp.K_some (sp:=sp) (x:=x) h;exact⟨d,⟨x,rfl,h1⟩,h2⟩
 |br b d1 d2=>
  cases b with|true=>exact⟨d1,.inl ⟨rfl,rfl⟩,h⟩|false=>exact⟨d2,.inr ⟨rfl,rfl⟩,h⟩
inductive RS:Type->Type 1
 |one {α:Type} (p:Pt) (hp:List (Nat×aw)) (to:α->p.den×eh hp) (fro:p.den×eh hp->α) (ok:∀y,to (fro y)=y):RS α
 |two {α β:Type} (l:RS α) (r:RS β):RS (α ⊕ β)
def RS.res:{α:Type}->RS α->α->AV×List (Nat×ag)|_,.one p hp to _ _,x=>(p.put (to x).1,bt hp (to x).2)|_,.two l r,x=>cm x (fun a=>l.res a) (fun b=>r.res b)
def RS.sp(mk:AV->List (Nat×ag)->D):{α:Type}->RS α->Sp α
 |_,.one p hp to _ _ => .one fun x=>mk (p.put (to x).1) (bt hp (to x).2)
 |_,.two l r => .two (l.sp mk) (r.sp mk)
def RS.sp_out{mk:AV->List (Nat×ag)->D}:∀{α:Type}{r:RS α}{x:α}{d:D},(r.sp mk).Out x d->d=mk (r.res x).1 (r.res x).2|_,.one _ _ _ _ _,_,_,h=>h|_,.two l _,.inl a,_,h=>RS.sp_out (r:=l) (x:=a) h|_,.two _ r,.inr b,_,h=>RS.sp_out (r:=r) (x:=b) h
inductive qx:Type
 |fn (f:FuncId)
 |yld (tag:Nat)
 |ext (f:FuncId)
def qem(P:Program)(f:FuncId)(xs:List AV)(r:AV):Prop:=
 ∀(w:World)(G:Gh)(vs:List Value),bp G [] w->aj xs G vs->∃v,(callFunc f vs.toArray).run P w = .ok (.value v) w/\ai r G v
structure cu:Type 1 where
 key:qx
 args:List Pt
 hp:List (Nat×aw)
 R:Type
 F:Pts.den args->eh hp->Option R
 out:RS R
def cu.Sound(P:Program)(e:cu):Prop:=∀d d' r,e.F d d'=some r->match e.key with|.fn f=>ni P f/\bu P f (Pts.put e.args d) (bt e.hp d') (e.out.res r).1 (e.out.res r).2|.yld m=>q10 P m (Pts.put e.args d) (bt e.hp d') (e.out.res r).1 (e.out.res r).2|.ext f=>qem P f (Pts.put e.args d) (e.out.res r).1
def ak{α:Type}(l:List α)(n:Int):Option α:=if 0<=n then l[n.toNat]? else none
def qc5{α:Type}{l:List α}{n:Int}{x:α}(h:ak l n=some x):0<=n/\l[n.toNat]? = some x:=by
 unfold ak at h;split at h
 ·rename_i h0;exact⟨h0,h⟩
 ·cases h
def qhh{α:Type}(l:List α)(lo hi:Option Int):Rq:=
 match lo,hi with|none,none => .tot .none|some a,none => .ifb (decide (0<=a/\a<=l.length)) .none|none,some b => .ifb (decide (0<=b/\b<=l.length)) .none|some a,some b => .ifb (decide (0<=a/\a<=b/\b<=l.length)) .none
def q33{α:Type}{l:List α}{lo hi:Option Int}{d:D}(h:(qhh l lo hi).Out d):ao (cut l lo hi).1:=by
 unfold qhh at h;unfold cut;split at h
 ·trivial
 ·exact⟨of_decide_eq_true h.1,trivial⟩
 ·exact⟨of_decide_eq_true h.1,trivial⟩
 ·exact⟨of_decide_eq_true h.1,trivial⟩
def sj:AV->Bool|.val _=>true|_=>false
def og(c:Bool)(b:Bool):Option Rq:=bif c then(bif b then some (.tot .none) else none) else some (.ifb b .none)
def tg{c b:Bool}{q:Rq}{d:D}(h:og c b=some q)(ho:q.Out d):b=true:=by
 unfold og at h;cases c
 ·simp only[qF,qI]at h;subst h;exact ho.1
 ·cases b
  ·cases h
  ·rfl
def uw(op:BinOp)(x y:AV):Option Rq:=
 match op with
 |.quo=>match y.sym with|.int _ b=>og (sj y) (decide (b≠0))|.byte b=>og (sj y) (decide (b≠0))|_=>some (.tot .none)
 |.rem=>match y.sym with|.int _ b=>og (sj y) (decide (b≠0))|.byte b=>og (sj y) (decide (b≠0))|_=>some (.tot .none)
 |.shl=>match y.sym with|.int _ b=>og (sj y) (decide (0<=b))|_=>some (.tot .none)
 |.shr=>match y.sym with|.int _ b=>og (sj y) (decide (0<=b))|_=>some (.tot .none)
 |.add=>match x.sym,y.sym with|.str a,.str b=>some (.ifb (decide (a.length+b.length<=bf)) .none)|_,_=>some (.tot .none)
 |_=>some (.tot .none)
def q20{P:Program}{op:BinOp}{t:TypeId}{x y:AV}{q:Rq}{d:D}(h:uw op x y=some q)(ho:q.Out d){ps:List Prop}{r:AV}(ha:o9 P op t x.sym y.sym=some (ps,r)):ao ps:=by
 have key:∀(xs ys:AV),(op = .quo\/op = .rem->(∀k b,ys = .int k b->b≠0)/\∀b,ys = .byte b->b≠0)->(op = .shl\/op = .shr->∀k b,ys = .int k b->0<=b)->(op = .add->∀a b,xs = .str a->ys = .str b->a.length+b.length<=bf) ->
   ∀{ps r},o9 P op t xs ys=some (ps,r)->ao ps:=by
  intro xs ys k1 k2 k3 ps r ha;unfold o9 at ha;split at ha
  ·rename_i k a k' b;cases hc:decide (op = .shl)||decide (op = .shr)||decide (k=k')<;>rw[hc]at ha<;>simp only[qT,qF,reduceCtorEq]at ha
   cases hc8:decide (k = .u8)||decide (k' = .u8)<;>rw[hc8]at ha<;>simp only[qT,qF,reduceCtorEq]at ha
   cases op<;>simp only[xx,qI,qP]at ha<;>obtain⟨rfl,_⟩:=ha<;>first
    |trivial
    |exact⟨(k1 (.inl rfl)).1 _ _ rfl,trivial⟩
    |exact⟨(k1 (.inr rfl)).1 _ _ rfl,trivial⟩
    |exact⟨k2 (.inl rfl) _ _ rfl,trivial⟩
    |exact⟨k2 (.inr rfl) _ _ rfl,trivial⟩
  ·rename_i a b;cases op<;>simp only[qgn,qI,qP,reduceCtorEq]at ha<;>obtain⟨rfl,_⟩:=ha<;>first
    |trivial
    |exact⟨(k1 (.inl rfl)).2 _ rfl,trivial⟩
    |exact⟨(k1 (.inr rfl)).2 _ rfl,trivial⟩
  ·split at ha
   ·simp only[qI,qP]at ha;obtain⟨rfl,_⟩:=ha;exact⟨k2 (.inl rfl) _ _ rfl,trivial⟩
   ·simp only[qI,qP]at ha;obtain⟨rfl,_⟩:=ha;exact⟨k2 (.inr rfl) _ _ rfl,trivial⟩
   ·cases ha
  ·rename_i k a b;cases hk:decide (k = .u8)<;>rw[hk]at ha<;>simp only[qT,qF,reduceCtorEq]at ha
   split at ha
   ·simp only[qI,qP]at ha;obtain⟨rfl,_⟩:=ha;trivial
   ·simp only[qI,qP]at ha;obtain⟨rfl,_⟩:=ha;trivial
   ·cases ha
  ·rename_i a b;cases op<;>simp only[qgp,qI,qP,reduceCtorEq]at ha<;>obtain⟨rfl,_⟩:=ha<;>first
    |trivial
    |exact⟨k3 rfl _ _ rfl rfl,trivial⟩
  ·split at ha
   ·split at ha
    ·simp only[qI,qP]at ha;obtain⟨rfl,_⟩:=ha;trivial
    ·cases ha
   ·split at ha
    ·simp only[qI,qP]at ha;obtain⟨rfl,_⟩:=ha;trivial
    ·cases ha
   ·cases ha
 refine key x.sym y.sym (fun hop => ?_) (fun hop => ?_) (fun hop a b e1 e2 => ?_) ha
 ·rcases hop with rfl|rfl
  ·simp only[uw]at h;exact⟨fun k b e=>by rw[e]at h;exact of_decide_eq_true (tg h ho),fun b e=>by rw[e]at h;exact of_decide_eq_true (tg h ho)⟩
  ·simp only[uw]at h;exact⟨fun k b e=>by rw[e]at h;exact of_decide_eq_true (tg h ho),fun b e=>by rw[e]at h;exact of_decide_eq_true (tg h ho)⟩
 ·rcases hop with rfl|rfl
  ·simp only[uw]at h;exact fun k b e=>by rw[e]at h;exact of_decide_eq_true (tg h ho)
  ·simp only[uw]at h;exact fun k b e=>by rw[e]at h;exact of_decide_eq_true (tg h ho)
 ·subst hop;simp only[uw]at h;rw[e1,e2]at h;simp only[qI]at h;subst h;exact of_decide_eq_true ho.1
def quh(s:St):AV->Option (List UInt8)
 |.sl τ l=>match Ty.eq? τ .byte with|some ⟨h⟩=>some (h▸l:List Ty.byte.den)|none=>none
 |.own k=>match ae s.hp k with
  |some (.row τ l _)=>match Ty.eq? τ .byte with|some ⟨h⟩=>some (h▸l:List Ty.byte.den)|none=>none
  |_=>none
 |.val (.slice none 0 0)=>some []|_=>none
def zlf{s:St}{v:AV}{b:List UInt8}(h:quh s v=some b){flat:List AV}{n:Nat}(hs:dw s v=some (flat,n)):flat=b.map AV.byte/\n=b.length:=by
 unfold quh at h;split at h
 ·rename_i τ l;split at h
  ·rename_i hh _;subst hh;have h:l=b:=qJ h;subst h;simp only[dw,qI,qP]at hs;obtain⟨rfl,rfl⟩:=hs;exact⟨qcx l,rfl⟩
  ·cases h
 ·rename_i k;split at h
  ·rename_i τ l E hl;split at h
   ·rename_i hh _;subst hh;have h:l=b:=qJ h;subst h;simp only[dw,hl,qI,qP]at hs;obtain⟨rfl,rfl⟩:=hs;exact⟨qcx l,rfl⟩
   ·cases h
  ·cases h
 ·simp only[qI]at h;subst h;simp only[dw,qI,qP]at hs;obtain⟨rfl,rfl⟩:=hs;exact⟨rfl,rfl⟩
 ·cases h
def tyE(P:Program)(E:TypeId):Option Ty:=match P.underlying E with|some (.int k)=>some (bif decide (k = .u8) then .byte else .int k)|some .bool=>some .bool|some .string=>some .str|_=>none
def qts:Ty->AV->Bool|.int _,.int _ _=>true|.byte,.byte _=>true|.bool,.bool _=>true|.str,.str _=>true|_,_=>false
def zjd:∀{τ:Ty}{y:AV}{d:τ.den},nv τ y=some d->qts τ y=true->y=τ.av d
 |.int k,.int k' n,d,h,_=>by
  simp only[nv,Ty.dec]at h;cases hk:decide (k'=k)<;>rw[hk]at h
  ·cases h
  ·have:=of_decide_eq_true hk;subst this;have h:n=d:=qJ h;subst h;rfl
 |.byte,.byte c,d,h,_=>by have h:c=d:=qJ h;subst h;rfl|.bool,.bool c,d,h,_=>by have h:c=d:=qJ h;subst h;rfl|.str,.str c,d,h,_=>by have h:c=d:=qJ h;subst h;rfl
def yl(τ:Ty):List AV->Option (List τ.den)
 |[]=>some []|x::xs=>match nv τ x.sym,yl τ xs with|some d,some ds=>bif qts τ x.sym then some (d::ds) else none|_,_=>none
def qr4{τ:Ty}:∀{xs:List AV}{ds:List τ.den},yl τ xs=some ds->xs.map AV.sym=ds.map τ.av
 |[],ds,h=>by simp only[yl,qI]at h;subst h;rfl|x::xs,ds,h=>by
  simp only[yl]at h;split at h
  ·rename_i d ds' h1 h2;cases hb:qts τ x.sym<;>rw[hb]at h<;>simp only[qT,qF,reduceCtorEq,qI]at h
   subst h;rw[List.map_cons,List.map_cons,qr4 h2,← zjd h1 hb]
  ·cases h
def qdr(s:St):AV->Option (List Int)
 |.sl (.int .i32) l=>some l|.own k=>match ae s.hp k with|some (.row (.int .i32) l _)=>some l|_=>none
 |.val (.slice none 0 0)=>some []|_=>none
def q8h{s:St}{v:AV}{l:List Int}(hl:qdr s v=some l):dw s v=some (List.flatMap (β:=AV) (Ty.int .i32).enc l,l.length):=by
 unfold qdr at hl;split at hl
 ·have hl:=qJ hl;subst hl;rfl
 ·rename_i k;split at hl
  ·rename_i hk;have hl:=qJ hl;subst hl;show(match ae s.hp k with|some (.row τ l _)=>some (l.flatMap τ.enc,l.length)|_=>none)=_;rw[hk];rfl
  ·cases hl
 ·have hl:=qJ hl;subst hl;rfl
 ·cases hl
def qc4(P:Program)(s:St)(t:TypeId)(x:AV)(i:Operand):Option Rq:=
 match x,s.evy i with
 |.str b,some (.int _ n)=>some (.bnd (ak b n) (.one fun c => .cs [.byte c]))
 |.str b,some (.byte n)=>some (.bnd b[n.toNat]? (.one fun c => .cs [.byte c]))
 |.agg cs,some (.int _ n)=>match s.ev i with
  |some (.val _)=>match(cs.map AV.sym)[n.toNat]? with|some y=>bif decide (0<=n) then some (.tot (.cs [y])) else none|none=>none
  |_=>match P.underlying t with
   |some (.array _ E)=>match tyE P E with
    |some τ=>match yl τ cs with
     |some l=>some (.bnd (ak l n) (.one fun y => .cs [τ.av y]))
     |none=>none
    |none=>none
   |_=>none
 |_,_=>none
def xz(P:Program)(s:St)(t:TypeId)(x:AV)(i:Operand):Option Rq:=
 match x,s.evy i with
 |.sl τ l,some (.int _ n)=>some (.bnd (ak l n) (.one fun y => .cs (τ.enc y)))
 |.own k,some (.int _ n)=>match ae s.hp k with|some (.row _ l _)=>some (.ifb (decide (0<=n/\n.toNat<l.length)) .none)|_=>none
 |.asl _ m _,some (.int _ n)=>match s.ev i with|some j=>og (sj j) (decide (0<=n/\n.toNat<m))|_=>none
 |.ptr _ _,some (.int _ n)=>match P.underlying t,s.ev i with|some (.array len _),some j=>og (sj j) (decide (0<=n/\n<len))|_,_=>none
 |_,_=>none
def lz(P:Program)(s:St)(op:Op):Option Rq:=
 match op with
 |.pick c _ _=>match s.ev c with|some (.bool b)=>some (.br b (.b true) (.b false))|_=>some (.tot .none)
 |.load _ x=>match s.ev x with
  |some (.oel k _ i _)=>match ae s.hp k with
   |some (.row τ l _)=>some (.bnd l[i]? (.one fun y => .cs (τ.enc y)))
   |_=>none
  |_=>some (.tot .none)
 |.slice _ x lo hi _=>match f7 s lo,f7 s hi,s.ev x with|some a,some b,some (.str l)=>some (qhh l a b)|some a,some b,some (.sl _ l)=>some (qhh l a b)|some none,some none,some (.ptr _ _)=>some (.tot .none)|some none,some none,some (.rop _)=>some (.tot .none)|_,_,_=>none
 |.binOp op _ x y _=>match s.ev x,s.ev y with|some a,some b=>uw op a b|_,_=>none
 |.convert _ _ x=>match s.ev x with
  |some v=>match quh s v with
   |some b=>some (.tot (.cs [.str b]))|none=>match qdr s v with|some l=>some (.tot (.cs [.sl (.int .i32) l]))|none=>some (.tot .none)
  |none=>none
 |.index t x i=>match s.ev x with|some v=>qc4 P s t v i|none=>none
 |.indexAddr t x i=>match s.ev x with|some v=>xz P s t v i|none=>none
 |_=>some (.tot .none)
def zhf{P:Program}{s:St}{t:TypeId}{x j:AV}{i:Operand}{q:Rq}{d:D}(hj:s.evy i=some j)(h:qc4 P s t x i=some q)(ho:q.Out d){ps:List Prop}{r:AV}(ha:qb6 P t x j d=some (ps,r)):ao ps:=by
 unfold qb6 at ha;split at ha
 ·simp[qc4,hj,qI]at h;subst h;obtain⟨y,h1,h2⟩:=ho;simp only[Sp.Out,D.cs.injEq,List.cons.injEq,AV.byte.injEq,and_true]at h2;subst h2;simp at ha;obtain⟨rfl,_⟩:=ha;exact⟨qc5 h1,trivial⟩
 ·simp[qc4,hj,qI]at h;subst h;obtain⟨y,h1,h2⟩:=ho;simp only[Sp.Out,D.cs.injEq,List.cons.injEq,AV.byte.injEq,and_true]at h2;subst h2;simp at ha;obtain⟨rfl,_⟩:=ha;exact⟨h1,trivial⟩
 ·rename_i len E cs k n y hu;simp only[qc4,hj]at h;split at ha
  ·cases hq:Nat.beq cs.length len<;>rw[hq]at ha<;>simp only[qT,qF,reduceCtorEq,qI,qP]at ha
   obtain⟨rfl,_⟩:=ha;refine⟨?_,trivial⟩;split at h
   ·split at h
    ·rename_i z hz;cases hd:decide (0<=n)<;>rw[hd]at h<;>simp only[qT,qF,reduceCtorEq,qI]at h
     subst h;have ho:D.cs [y]=D.cs [z]:=ho;simp only[D.cs.injEq,List.cons.injEq,and_true]at ho;subst ho;exact⟨of_decide_eq_true hd,hz⟩
    ·cases h
   ·simp[hu]at h;split at h
    ·rename_i τ hτ;split at h
     ·rename_i l hl;simp at h;subst h;obtain⟨z,h1,h2⟩:=ho;simp[Sp.Out,D.cs.injEq,List.cons.injEq,and_true]at h2;subst h2;obtain⟨h3,h4⟩:=qc5 h1;refine⟨h3,?_⟩;rw[qr4 hl,List.getElem?_map,h4];rfl
     ·cases h
    ·cases h
  ·cases ha
 ·cases ha
def zdv{P:Program}{s:St}{t:TypeId}{x j:AV}{i:Operand}{q:Rq}{d:D}(hj:s.evy i=some j)(h:xz P s t x i=some q)(ho:q.Out d){ps:List Prop}{r:AV}(ha:xw P s t x j d=some (ps,r)):ao ps:=by
 unfold xw at ha;split at ha
 ·split at ha
  ·rename_i sz k n hsz;split at ha
   ·rename_i τ l cs;cases hq:Nat.beq τ.sz sz<;>rw[hq]at ha<;>simp at ha
    obtain⟨rfl,_⟩:=ha;simp[xz,hj,qI]at h;subst h;obtain⟨y,h1,h2⟩:=ho;have h2:D.cs cs=D.cs (τ.enc y):=h2;simp at h2;exact⟨⟨(qc5 h1).1,y,(qc5 h1).2,h2.symm⟩,trivial⟩
   ·split at ha
    ·rename_i τ l E hl;cases hq:Nat.beq τ.sz sz<;>rw[hq]at ha<;>simp at ha
     obtain⟨rfl,_⟩:=ha;simp only[xz,hj,hl,qI]at h;subst h;exact⟨of_decide_eq_true ho.1,trivial⟩
    ·cases ha
   ·simp at ha;obtain⟨rfl,_⟩:=ha;simp only[xz,hj]at h;split at h
    ·exact⟨of_decide_eq_true (tg h ho),trivial⟩
    ·cases h
   ·cases ha
  ·cases ha
 ·rename_i len E hu;split at ha
  ·rename_i sz k n b off hsz;simp at ha;obtain⟨rfl,_⟩:=ha;simp only[xz,hj,hu]at h;split at h
   ·rename_i len' _ j' he _;simp only[qI,TypeDesc.array.injEq]at he;obtain⟨rfl,rfl⟩:=he;exact⟨of_decide_eq_true (tg h ho),trivial⟩
   ·cases h
  ·cases ha
 ·cases ha
def q2o{P:Program}{s:St}{op:Op}{q:Rq}{d:D}(h:lz P s op=some q)(ho:q.Out d){ps:List Prop}{v:AV}(ha:ci P s d op=some (ps,v)):ao ps:=by
 have triv:∀{x:AV}{ps:List Prop}{v:AV},(some (([]:List Prop),x):Option (List Prop×AV))=some (ps,v)->ao ps:=fun e=>by
  simp at e;obtain⟨rfl,_⟩:=e;trivial
 have cnd:∀{b:Bool}{x:AV}{ps:List Prop}{v:AV},(bif b then some (([]:List Prop),x) else none)=some (ps,v)->ao ps:=fun{b} _ _ _ e=>by
  cases b
  ·cases e
  ·exact triv e
 unfold ci at ha;split at ha
 ·split at ha
  ·exact triv ha
  ·cases ha
 ·split at ha
  ·exact triv ha
  ·cases ha
 ·split at ha
  ·rename_i c x y b t hc;split at ha
   ·simp at ha;obtain⟨rfl,_⟩:=ha;simp[lz,hc,qI]at h;subst h;rcases ho with⟨h1,h2⟩|⟨h1,h2⟩
    ·simp at h2;subst h2;exact⟨h1,trivial⟩
    ·simp at h2;subst h2;exact⟨h1,trivial⟩
   ·cases ha
  ·split at ha
   ·exact triv ha
   ·cases ha
  ·cases ha
 ·unfold xu at ha;split at ha
  ·split at ha
   ·split at ha
    ·split at ha
     ·exact triv ha
     ·cases ha
    ·cases ha
   ·split at ha
    ·split at ha
     ·exact triv ha
     ·cases ha
    ·cases ha
   ·cases ha
  ·cases ha
 ·unfold qb8 at ha;split at ha
  ·split at ha
   ·split at ha
    ·exact triv ha
    ·cases ha
   ·cases ha
  ·split at ha
   ·exact triv ha
   ·cases ha
  ·rename_i k sz i off hx;split at ha
   ·rename_i τ l E cs hl;cases hq:Nat.beq sz τ.sz<;>rw[hq]at ha<;>simp at ha
    split at ha
    ·simp at ha;obtain⟨rfl,_⟩:=ha;simp[lz,hx,hl,qI]at h;subst h;obtain⟨y,h1,h2⟩:=ho;have h2:D.cs cs=D.cs (τ.enc y):=h2;simp at h2;exact⟨⟨y,h1,h2.symm⟩,trivial⟩
    ·cases ha
   ·cases ha
  ·cases ha
 ·unfold qb9 at ha;split at ha
  ·rename_i h1 h2 h3;split at ha
   ·simp at ha;obtain⟨rfl,_⟩:=ha;simp[lz,h1,h2,h3,qI]at h;subst h;exact q33 ho
   ·cases ha
  ·rename_i τ l h1 h2 h3;split at ha
   ·split at ha
    ·rename_i sz hsz;cases hq:Nat.beq τ.sz sz<;>rw[hq]at ha<;>simp at ha
     obtain⟨rfl,_⟩:=ha;simp[lz,h1,h2,h3,qI]at h;subst h;exact q33 ho
    ·cases ha
   ·cases ha
  ·split at ha
   ·split at ha
    ·exact triv ha
    ·cases ha
   ·cases ha
  ·split at ha
   ·rename_i n E hu;split at ha
    ·split at ha
     ·split at ha
      ·rw[cond_eq_ite]at ha;split at ha
       ·exact triv ha
       ·cases ha
      ·cases ha
     ·cases ha
    ·cases ha
   ·cases ha
  ·cases ha
 ·split at ha
  ·rename_i a b hx hy;simp[lz,hx,hy]at h;unfold qgo at ha;split at ha
   ·split at ha
    ·exact triv ha
    ·exact q20 h ho ha
   ·exact q20 h ho ha
  ·cases ha
 ·split at ha
  ·split at ha
   ·exact triv ha
   ·cases ha
  ·cases ha
 ·rename_i src dst x;split at ha
  ·rename_i v' hs hx;split at ha
   ·rename_i r' hc;simp at ha;subst ha;have key:∀{y:AV}{ps:List Prop}{v:AV},nk P dst y=some (ps,v)->ao ps:=fun e=>by
     unfold nk at e;split at e
     ·rename_i k _ _ _;cases hk:decide (k = .u8)<;>rw[hk]at e<;>exact triv e
     ·rename_i k _ _;cases hk:decide (k = .u8)<;>rw[hk]at e<;>simp only[qT,qF]at e
      ·cases hk8:decide (k = .i8)<;>rw[hk8]at e<;>simp only[qT,qF,reduceCtorEq]at e
       exact triv e
      ·exact triv e
     ·exact triv e
     ·cases e
    unfold qz at hc;split at hc
    ·split at hc
     ·exact triv hc
     ·exact key hc
    ·exact key hc
   ·split at ha
    ·unfold qca at ha;split at ha
     ·rename_i E flat n b hu hsrc;split at ha
      ·cases ha
      ·simp at ha;obtain⟨rfl,_⟩:=ha;simp[lz,hx]at h;split at h
       ·rename_i b' hb;simp at h;subst h;have ho:D.cs [.str b]=D.cs [.str b']:=ho;simp at ho;subst ho;obtain⟨h1,h2⟩:=zlf hb hsrc;exact⟨h1,h2,trivial⟩
       ·split at h
        ·rename_i l' _;simp at h;subst h;exact absurd (show D.cs [.str b]=D.cs [.sl (.int .i32) l'] from ho) oC
        ·simp at h;subst h;exact absurd (show D.cs [.str b]=D.none from ho) oC
      ·cases ha
     ·rename_i E flat n l hu hsrc;split at ha
      ·cases ha
      ·simp at ha;obtain⟨rfl,_⟩:=ha;simp[lz,hx]at h;split at h
       ·rename_i b' _;simp at h;subst h;exact absurd (show D.cs [.sl (.int .i32) l]=D.cs [.str b'] from ho) oC
       ·split at h
        ·rename_i l' hl;simp at h;subst h;have ho:D.cs [.sl (.int .i32) l]=D.cs [.sl (.int .i32) l']:=ho;have ho:l=l':=by injection ho with ho;injection ho with ho;injection ho with _ ho
         subst ho;have h1:=q8h hl;rw[hsrc]at h1;simp at h1;exact⟨h1.1,h1.2,trivial⟩
        ·simp at h;subst h;exact absurd (show D.cs [.sl (.int .i32) l]=D.none from ho) oC
      ·cases ha
     ·cases ha
    ·cases ha
  ·cases ha
 ·split at ha
  ·unfold qgl at ha;split at ha
   ·split at ha
    ·split at ha
     ·exact triv ha
     ·cases ha
    ·cases ha
   ·cases ha
  ·cases ha
 ·split at ha
  ·unfold qgm at ha;split at ha
   ·split at ha
    ·split at ha
     ·rename_i sz _;cases hz:Nat.beq sz 0<;>rw[hz]at ha<;>simp at ha
      split at ha
      ·exact triv ha
      ·exact cnd ha
      ·exact triv ha
      ·cases ha
     ·cases ha
    ·cases ha
   ·cases ha
  ·cases ha
 ·split at ha
  ·split at ha
   ·exact triv ha
   ·cases ha
  ·cases ha
 ·split at ha
  ·rename_i v' j hx hj;simp[lz,hx]at h;exact zhf hj h ho ha
  ·cases ha
 ·split at ha
  ·rename_i v' j hx hj;simp[lz,hx]at h;exact zdv hj h ho ha
  ·cases ha
 ·split at ha
  ·exact triv ha
  ·cases ha
 ·split at ha
  ·split at ha
   ·unfold qb7 at ha;split at ha
    ·exact triv ha
    ·exact triv ha
    ·split at ha
     ·exact triv ha
     ·cases ha
    ·exact triv ha
    ·exact triv ha
    ·cases ha
   ·cases ha
  ·cases ha
 ·split at ha
  ·split at ha
   ·unfold qqh at ha;split at ha
    ·exact cnd ha
    ·cases ha
   ·cases ha
  ·cases ha
 ·split at ha
  ·split at ha
   ·unfold qqi at ha;split at ha
    ·exact cnd ha
    ·cases ha
   ·cases ha
  ·cases ha
 ·split at ha
  ·exact cnd ha
  ·cases ha
 ·cases ha
mutual
def y4(hp:List (Nat×ag)):AV->AV
 |.own k=>match ae hp k with|some (.row τ l _) => .sl τ l|_ => .own k
 |.agg xs => .agg (ml hp xs)|x=>x
def ml(hp:List (Nat×ag)):List AV->List AV|[]=>[]|x::xs=>y4 hp x::ml hp xs
end
mutual
def q5g:AV->Bool|.own _=>true|.agg xs=>n8 xs|_=>false
def n8:List AV->Bool|[]=>false|x::xs=>q5g x||n8 xs
end
mutual
def sw:AV->Bool
 |.iface _ x=>match x with|.oel _ _ _ _=>true|_=>false
 |.agg xs=>gq xs|.tup xs=>gq xs|.fn _ xs ys=>gq xs&&gq ys|_=>true
def gq:List AV->Bool|[]=>true|x::xs=>sw x&&gq xs
end
def qtj:∀{xs ys:List AV},gq xs=true->gq ys=true->gq (xs++ys)=true
 |[],_,_,h=>h|x::xs,ys,h,k=>by
  simp[gq,qA,wK]at h ⊢;exact⟨h.1,qtj h.2 k⟩
def qdi:∀{τ:Ty}{d:τ.den},gq (τ.enc d)=true|.int _,_=>rfl|.byte,_=>rfl|.bool,_=>rfl|.str,_=>rfl|.unit,_=>rfl|.prod _ _,_=>qtj qdi qdi|.list _,_=>rfl|.tree _,_=>qtj qdi rfl
def zir:∀{τ:Ty}{d:τ.den},sw (τ.av d)=true|.int _,_=>rfl|.byte,_=>rfl|.bool,_=>rfl|.str,_=>rfl|.unit,_=>rfl|.prod a b,d=>qdi (τ := .prod a b) (d:=d)|.list _,_=>rfl|.tree a,d=>qdi (τ := .tree a) (d:=d)
mutual
def zis:∀{p:Pt}{d:p.den},sw (p.put d)=true|.h _,_=>zir|.c _,_=>rfl|.agg ps,d=>vm (ps:=ps) (d:=d)|.tup ps,d=>vm (ps:=ps) (d:=d)|.ptr _ _,_=>rfl|.own _,_=>rfl|.arr _,_=>rfl|.el _ _,_=>rfl|.iel _ _ _,_=>rfl|.yld _,_=>rfl|.pn _,_=>rfl|.fn _ cap,d=>vm (ps:=cap) (d:=d)|.u,_=>rfl
def vm:∀{ps:List Pt}{d:Pts.den ps},gq (Pts.put ps d)=true
 |[],_=>rfl|p::ps,d=>by
  show(sw (p.put d.1)&&gq (Pts.put ps d.2))=true;rw[zis,vm];rfl
end
mutual
def fe{b:Bool}{hp:List (Nat×ag)}:∀{x y:AV}{ps:List Prop},sw y=true->vw false [] (x.ren (ap [])) y=some ps->ao ps->∃qs,vw b hp x y=some qs/\ao qs
 |.agg xs,y,ps,hn,h,hp=>by
  cases y<;>first
   |exact zm (xs:=xs) hn h hp
   |exact⟨_,rfl,trivial⟩
   |(exfalso;have:=qJ h;subst this;exact absurd hp.1 oC)
 |.tup xs,y,ps,hn,h,hp=>by
  cases y<;>first
   |exact zm (xs:=xs) hn h hp
   |exact⟨_,rfl,trivial⟩
   |(exfalso;have:=qJ h;subst this;exact absurd hp.1 oC)
 |.fn f xs ys,y,ps,hn,h,hp=>by
  cases y with
  |fn f' xs' ys'=>
   simp[sw,qA]at hn;have h:(match a8 false [] (AV.rens (ap []) xs) xs',a8 false [] (AV.rens (ap []) ys) ys' with
    |some ps,some qs=>some ((f'=f)::(ps++qs))| _,_=>none)=some ps:=h
   split at h
   ·rename_i p1 p2 h1 h2;have:=qJ h;subst this;obtain⟨q1,e1,a1⟩:=zm (b:=b) (hp:=‹_›) hn.1 h1 (cq.1 hp.2).1;obtain⟨q2,e2,a2⟩:=zm (b:=b) (hp:=‹_›) hn.2 h2 (cq.1 hp.2).2;exact⟨(f'=f)::(q1++q2),by simp[vw,e1,e2],hp.1,cq.2 ⟨a1,a2⟩⟩
   ·cases h
  |undef=>exact⟨_,rfl,trivial⟩|_=>exfalso;have:=qJ h;subst this;exact absurd hp.1 oC
 |.val v,y,ps,hn,h,hp=>by cases y<;>exact⟨ps,h,hp⟩
 |.undef,y,ps,hn,h,hp=>by cases y<;>exact⟨ps,h,hp⟩
 |.int _ _,y,ps,hn,h,hp=>by cases y<;>exact⟨ps,h,hp⟩
 |.byte _,y,ps,hn,h,hp=>by cases y<;>exact⟨ps,h,hp⟩
 |.bool _,y,ps,hn,h,hp=>by cases y<;>exact⟨ps,h,hp⟩
 |.str _,y,ps,hn,h,hp=>by cases y<;>exact⟨ps,h,hp⟩
 |.sl _ _,y,ps,hn,h,hp=>by cases y<;>exact⟨ps,h,hp⟩
 |.arr _ _,y,ps,hn,h,hp=>by cases y<;>exact⟨ps,h,hp⟩
 |.rop _,y,ps,hn,h,hp=>by cases y<;>exact⟨ps,h,hp⟩
 |.iface t x,y,ps,hn,h,hp=>by
  cases y with
  |undef=>exact⟨_,rfl,trivial⟩|iface t' x'=>
   have:=qJ h;subst this;cases x'<;>simp[sw,wJ]at hn
   have e:AV.iface t' (AV.oel _ _ _ _)=AV.iface t (AV.ren (ap []) x):=hp.1;injection e with e1 e2
   exfalso;revert e2;cases x<;>simp[AV.ren,ap,ld]
  |_=>exfalso;have:=qJ h;subst this;exact absurd hp.1 (by simp[AV.ren])
 |.ptr _ _,y,ps,hn,h,hp=>by
  cases y<;>first
   |exact⟨_,rfl,trivial⟩
   |(exfalso;have:=qJ h;subst this;have e:_=AV.undef:=hp.1;cases e)
 |.own _,y,ps,hn,h,hp=>by
  cases y<;>first
   |exact⟨_,rfl,trivial⟩
   |(exfalso;have:=qJ h;subst this;have e:_=AV.undef:=hp.1;cases e)
 |.oel _ _ _ _,y,ps,hn,h,hp=>by
  cases y<;>first
   |exact⟨_,rfl,trivial⟩
   |(exfalso;have:=qJ h;subst this;have e:_=AV.undef:=hp.1;cases e)
 |.osl _ _ _,y,ps,hn,h,hp=>by
  cases y<;>first
   |exact⟨_,rfl,trivial⟩
   |(exfalso;have:=qJ h;subst this;have e:_=AV.undef:=hp.1;cases e)
 |.asl _ _ _,y,ps,hn,h,hp=>by
  cases y<;>first
   |exact⟨_,rfl,trivial⟩
   |(exfalso;have:=qJ h;subst this;have e:_=AV.undef:=hp.1;cases e)
 |.yld _,y,ps,hn,h,hp=>by
  cases y<;>first
   |exact⟨_,rfl,trivial⟩
   |(exfalso;have:=qJ h;subst this;have e:_=AV.undef:=hp.1;cases e)
 |.pn _,y,ps,hn,h,hp=>by
  cases y<;>first
   |exact⟨_,rfl,trivial⟩
   |(exfalso;have:=qJ h;subst this;have e:_=AV.undef:=hp.1;cases e)
def zm{b:Bool}{hp:List (Nat×ag)}:∀{xs ys:List AV}{ps:List Prop},gq ys=true->a8 false [] (AV.rens (ap []) xs) ys=some ps->ao ps->∃qs,a8 b hp xs ys=some qs/\ao qs
 |[],[],ps,_,h,hp=>⟨[],rfl,trivial⟩|x::xs,y::ys,ps,hn,h,hp=>by
  simp[gq,qA]at hn;simp[AV.rens,a8]at h;split at h
  ·rename_i p1 h1;split at h
   ·rename_i p2 h2;have:=qJ h;subst this;obtain⟨q1,e1,a1⟩:=fe (b:=b) (hp:=‹_›) hn.1 h1 (cq.1 hp).1;obtain⟨q2,e2,a2⟩:=zm (b:=b) (hp:=‹_›) hn.2 h2 (cq.1 hp).2;exact⟨q1++q2,by simp[a8,e1,e2],cq.2 ⟨a1,a2⟩⟩
   ·cases h
  ·cases h
 |[],_::_,_,_,h,_=>by simp[AV.rens,a8]at h|_::_,[],_,_,h,_=>by simp[AV.rens,a8]at h
end
mutual
def zmb{hp:List (Nat×ag)}:∀{x y:AV},sw y=true->kq [] (y4 hp x) y->∃qs,vw true hp x y=some qs/\ao qs
 |.own k,y,hn,⟨ps,h1,h2⟩=>by
  simp only[y4]at h1;split at h1
  ·rename_i τ l E hl
   cases y with
   |undef=>exact⟨_,rfl,trivial⟩|sl τ' l'=>
    have:=qJ h1;subst this;exact⟨[AV.sl τ' l'=AV.sl τ l],by simp[vw,hl,qT],h2.1,trivial⟩
   |_=>exfalso;have:=qJ h1;subst this;exact absurd h2.1 (by simp[AV.ren])
  ·exact fe hn h1 h2
 |.agg xs,y,hn,⟨ps,h1,h2⟩=>by
  simp[y4,AV.ren]at h1
  cases y with
  |undef=>exact⟨_,rfl,trivial⟩|agg ys=>
   have h1':a8 false [] (AV.rens (ap []) (ml hp xs)) ys=some ps:=h1;have hn':gq ys=true:=hn;obtain⟨qs,k1,k2⟩:=qjv (xs:=xs) hn' ⟨ps,h1',h2⟩;exact⟨qs,k1,k2⟩
  |_=>exfalso;have:=qJ h1;subst this;exact absurd h2.1 oC
 |.undef,y,hn,⟨ps,h1,h2⟩=>fe (x := .undef) hn h1 h2|.int k n,y,hn,⟨ps,h1,h2⟩=>fe (x := .int k n) hn h1 h2|.byte c,y,hn,⟨ps,h1,h2⟩=>fe (x := .byte c) hn h1 h2|.bool c,y,hn,⟨ps,h1,h2⟩=>fe (x := .bool c) hn h1 h2|.str c,y,hn,⟨ps,h1,h2⟩=>fe (x := .str c) hn h1 h2|.sl τ l,y,hn,⟨ps,h1,h2⟩=>fe (x := .sl τ l) hn h1 h2|.arr τ l,y,hn,⟨ps,h1,h2⟩=>fe (x := .arr τ l) hn h1 h2|.rop c,y,hn,⟨ps,h1,h2⟩=>fe (x := .rop c) hn h1 h2|.val c,y,hn,⟨ps,h1,h2⟩=>fe (x := .val c) hn h1 h2|.tup c,y,hn,⟨ps,h1,h2⟩=>fe (x := .tup c) hn h1 h2|.ptr b o,y,hn,⟨ps,h1,h2⟩=>fe (x := .ptr b o) hn h1 h2|.oel k z i o,y,hn,⟨ps,h1,h2⟩=>fe (x := .oel k z i o) hn h1 h2|.osl k z l,y,hn,⟨ps,h1,h2⟩=>fe (x := .osl k z l) hn h1 h2|.asl k n c,y,hn,⟨ps,h1,h2⟩=>fe (x := .asl k n c) hn h1 h2|.yld n,y,hn,⟨ps,h1,h2⟩=>fe (x := .yld n) hn h1 h2|.pn n,y,hn,⟨ps,h1,h2⟩=>fe (x := .pn n) hn h1 h2|.fn f a c,y,hn,⟨ps,h1,h2⟩=>fe (x := .fn f a c) hn h1 h2|.iface t x,y,hn,⟨ps,h1,h2⟩=>fe (x := .iface t x) hn h1 h2
def qjv{hp:List (Nat×ag)}:∀{xs ys:List AV},gq ys=true->uq [] (ml hp xs) ys->∃qs,a8 true hp xs ys=some qs/\ao qs
 |[],[],_,_=>⟨[],rfl,trivial⟩|x::xs,y::ys,hn,⟨ps,h,hp⟩=>by
  simp[gq,qA]at hn;simp[ml,AV.rens,a8]at h;split at h
  ·rename_i p1 h1;split at h
   ·rename_i p2 h2;have:=qJ h;subst this;obtain⟨q1,e1,a1⟩:=zmb hn.1 ⟨_,h1,(cq.1 hp).1⟩;obtain⟨q2,e2,a2⟩:=qjv hn.2 ⟨_,h2,(cq.1 hp).2⟩;exact⟨q1++q2,by simp[a8,e1,e2],cq.2 ⟨a1,a2⟩⟩
   ·cases h
  ·cases h
 |[],_::_,_,⟨_,h,_⟩=>by simp[ml,AV.rens,a8]at h|_::_,[],_,⟨_,h,_⟩=>by simp[ml,AV.rens,a8]at h
end
def Ty.noRef:Ty->Bool|.list _=>false|.tree _=>false|.prod a b=>a.noRef&&b.noRef|_=>true
def q6p:∀{xs ys:List AV},fc xs=true->fc ys=true->fc (xs++ys)=true
 |[],_,_,h=>h|x::xs,ys,h,k=>by
  simp[fc,qA,wK]at h ⊢;exact⟨h.1,q6p h.2 k⟩
def qtl:∀{τ:Ty},τ.noRef=true->∀{d:τ.den},fc (τ.enc d)=true
 |.int _,_,_=>rfl|.byte,_,_=>rfl|.bool,_,_=>rfl|.str,_,_=>rfl|.unit,_,_=>rfl|.prod a b,h,_=>by
  simp[Ty.noRef,qA]at h;exact q6p (qtl h.1) (qtl h.2)
def qje:List (Nat×aw)->Bool|[]=>true|(_,.row τ _)::r=>τ.noRef&&qje r|_::_=>false
def q77:∀{l:List (Nat×aw)},qje l=true->∀{d:eh l},ao (ij (bt l d))
 |[],_,_=>trivial|(n,.row τ E)::r,h,d=>by
  simp[qje,qA]at h;exact⟨fun x _=>qtl h.1,q77 h.2 (d:=d.2)⟩
 |(_,.cells _ _)::_,h,_=>by cases h
 |(_,.loop _ _ _ _ _ _ _ _)::_,h,_=>by cases h
 |(_,.dfr)::_,h,_=>by cases h
 |(_,.it)::_,h,_=>by cases h
 |(_,.dat _ _)::_,h,_=>by cases h
 |(_,.dead)::_,h,_=>by cases h
mutual
def q68:Pt->Bool|.h τ=>τ.noRef|.agg ps=>qi3 ps|.tup ps=>qi3 ps|.fn _ ps=>qi3 ps|_=>true
def qi3:List Pt->Bool|[]=>true|p::ps=>q68 p&&qi3 ps
end
def RS.rows:{α:Type}->RS α->Bool|_,.one p hp _ _ _=>q68 p&&qje hp|_,.two l r=>l.rows&&r.rows
def RS.rows_ok:∀{α:Type}{r:RS α},r.rows=true->∀{x:α},ao (ij (r.res x).2)
 |_,.one _ hp _ _ _,h,_=>q77 (l:=hp) (by simp[RS.rows,qA]at h;exact h.2)|_,.two l r,h,.inl a=>by
  simp[RS.rows,qA]at h;exact RS.rows_ok (r:=l) h.1 (x:=a)
 |_,.two l r,h,.inr b=>by
  simp[RS.rows,qA]at h;exact RS.rows_ok (r:=r) h.2 (x:=b)
def qis(s:St)(τ:Ty):AV->Option (List τ.den)
 |.sl τ' l=>match Ty.eq? τ' τ with|some ⟨h⟩=>some (h▸l)|none=>none
 |.str b=>match Ty.eq? .byte τ with|some ⟨h⟩=>some (h▸(b:List Ty.byte.den))|none=>none
 |.own k=>match ae s.hp k with
  |some (.row τ' l _)=>match Ty.eq? τ' τ with|some ⟨h⟩=>some (h▸l)|none=>none
  |_=>none
 |.asl b _ _=>match ae s.hp b with|some (.cells cs _)=>yl τ cs|_=>none
 |.val (.slice none 0 0)=>some []|_=>none
def q57{s:St}{τ:Ty}{v:AV}{l:List τ.den}(h:qis s τ v=some l){flat:List AV}{n:Nat}(hs:dw s v=some (flat,n)):flat=l.flatMap τ.enc/\n=l.length:=by
 unfold qis at h;split at h
 ·split at h
  ·rename_i hh _;subst hh;have h:=qJ h;subst h;simp[dw,qI,qP]at hs;obtain⟨rfl,rfl⟩:=hs;exact⟨rfl,rfl⟩
  ·cases h
 ·split at h
  ·rename_i hh _;subst hh;have h:=qJ h;subst h;simp[dw,qI,qP]at hs;obtain⟨rfl,rfl⟩:=hs;exact⟨(qcx _).symm,rfl⟩
  ·cases h
 ·split at h
  ·rename_i hl;split at h
   ·rename_i hh _;subst hh;have h:=qJ h;subst h;simp[dw,hl,qI,qP]at hs;obtain⟨rfl,rfl⟩:=hs;exact⟨rfl,rfl⟩
   ·cases h
  ·cases h
 ·rename_i b m c;split at h
  ·rename_i cs T hl;simp[dw,hl]at hs;cases hq:Nat.beq m c&&Nat.beq cs.length m&&allData (cs.map AV.sym)<;>rw[hq]at hs<;>simp at hs
   obtain⟨rfl,rfl⟩:=hs;simp at hq;have e1:=qr4 h;have e2:cs.length=l.length:=by have:=congrArg List.length e1;simpa using this
   refine⟨?_,oA⟩
   rw[e1];have hd:∀x∈l.map τ.av,py x=true:=by
    intro x hx;rw[← e1]at hx;have:∀{xs:List AV},allData xs=true->∀x∈xs,py x=true:=by
     intro xs
     induction xs with
     |nil=>intro _ x hx;cases hx
     |cons y ys ih=>
      intro hy x hx;simp[allData,qA]at hy;rcases List.mem_cons.1 hx with q|q
      ·rw[q];exact hy.1
      ·exact ih hy.2 x q
    exact this hq.2 x hx
   clear e1 e2 hq h
   induction l with
   |nil=>rfl|cons y l ih=>
    rw[List.map_cons,List.flatMap_cons,ih (fun x hx=>hd x (by rw[List.map_cons];exact qE _ hx))]
    have hy:=hd (τ.av y) (by rw[List.map_cons];exact qH)
    have:τ.enc y=[τ.av y]:=by cases τ<;>first|rfl|(simp[Ty.av,py]at hy)
    rw[this];rfl
  ·cases h
 ·have h:=qJ h;subst h;simp[dw,qI,qP]at hs;obtain⟨rfl,rfl⟩:=hs;exact⟨rfl,rfl⟩
 ·cases h
def qhj(τ:Ty):Nat->List AV->Option (List τ.den)
 |0,[]=>some []|n+1,cs=>match τ.dec cs with
  |some (d,r)=>match qhj τ n r with|some ds=>some (d::ds)|none=>none
  |none=>none
 |_,_=>none
def q4a{τ:Ty}:∀{n:Nat}{cs:List AV}{l:List τ.den},qhj τ n cs=some l->dz cs (l.flatMap τ.enc)/\l.length=n
 |0,[],l,h=>by have h:=qJ h;subst h;exact⟨⟨fun _=>rfl,[],rfl,trivial⟩,rfl⟩
 |0,_::_,l,h=>by cases h
 |n+1,cs,l,h=>by
  simp[qhj]at h;split at h
  ·rename_i d r hd;split at h
   ·rename_i ds hds;have h:=qJ h;subst h;obtain⟨ab,rfl,hs⟩:=pp hd;obtain⟨h1,h2⟩:=q4a hds;exact⟨hs.append h1,by simp[h2]⟩
   ·cases h
  ·cases h
structure Tb:Type 1 where
 ents:List cu
 ety:List (Nat×Ty)
 sub:Bool
def qdg:NM->Bool|[]=>true|_=>false
def qtg:List (Nat×aw)->Bool|[]=>true|_=>false
def n9(f:FuncId):qx->Bool|.fn f'=>Nat.beq f' f|_=>false
def qg9(s:St)(f:FuncId)(xs:List AV)(e:cu):Option Rq:=
 bif n9 f e.key&&qtg e.hp&&(!(n8 xs)||e.out.rows) then
  match Pts.get e.args (ml s.hp xs) [] with
  |some (d,nm)=>match nq s.hp e.hp nm with
   |some (d',nm')=>bif qdg nm' then some (.bnd (e.F d d') (e.out.sp fun r hp' => .res (n8 xs) (Pts.put e.args d) r hp')) else none
   |none=>none
  |none=>none
 else none
def order(nm:NM):List (Nat×aw)->NM
 |[]=>[]|(n,_)::r=>match ar nm n with|some m=>(n,m)::order nm r|none=>order nm r
def qiu(s:St)(ys:List AV)(nm0:NM)(e:cu):Option Rq:=
 match Pts.get e.args ys nm0 with
 |some (d,nm)=>match nq s.hp e.hp nm with
  |some (d',nm')=>bif c7 (order nm' e.hp)&&pg nm' e.hp then
    some (.bnd (e.F d d') (e.out.sp fun r hp' => .mem (order nm' e.hp) (Pts.put e.args d) (bt e.hp d') r hp')) else none
  |none=>none
 |none=>none
def qco(s:St)(f:FuncId)(ys:List AV)(e:cu):Option Rq:=bif n9 f e.key then qiu s ys [] e else none
def zb9(s:St)(m:Nat)(ys:List AV)(e:cu):Option Rq:=match e.key with|.yld m'=>qiu s ys [(m',m)] e|_=>none
def u7(g:cu->Option Rq):List cu->Option Rq
 |[]=>none|e::es=>match g e with|some q=>some q|none=>u7 g es
def qcg(P:Program)(tb:Tb)(s:St)(t:TypeId)(x y:AV):Option Rq:=
 match x with
 |.own k=>match ae s.hp k with
  |some (.row τ l E)=>match qis s τ y with|some m=>some (.ifb (decide ((l++m).length<=aq)) (.row (.row τ (l++m) E)))|none=>none
  |_=>none
 |_=>match P.underlying t with
  |some (.slice E)=>match ae tb.ety E with
   |some τ=>match qis s τ y with|some m=>some (.ifb (decide (m.length<=aq)) (.row (.row τ m E)))|none=>none
   |none=>none
  |_=>none
def q8u(P:Program)(tb:Tb)(s:St)(t:TypeId)(len:Nat)(parts:List (Nat×Operand)):Option Rq:=
 match P.underlying t with
 |some (.slice E)=>match ae tb.ety E,c8 P E,lv s parts with
  |none,_,_=>some (.tot (.b true))|some τ,some sz,some ps=>match pd (fun i=>some (i*sz,sz)) (qdz (len*sz)) ps with
   |some cs=>match qhj τ len cs with|some l=>some (.tot (.row (.row τ l E)))|none=>none
   |none=>none
  |_,_,_=>none
 |_=>none
def q83(s:St)(k i off:Nat)(v:AV):Option Rq:=match ae s.hp k with
 |some (.row τ l E)=>bif Nat.ble (off+v.cells.length) τ.sz then
   some (.bnd l[i]? (.one fun x=>match τ.dec (dv (τ.enc x) off v.cells) with
    |some (y,[]) => .put (((τ.enc y).drop off).take v.cells.length) (.row τ (l.set i y) E)| _ => .none))
  else none
 |_=>none
def lw(P:Program)(tb:Tb)(s:St)(op:Op):Option Rq:=
 match op with
 |.alloc _=>some (.tot .none)|.box _ _=>some (.tot .none)|.buildSlice t len parts=>q8u P tb s t len parts.toList|.convert _ _ x=>match s.ev x with|some (.str b)=>some (.ifb (decide (b.length<=maxLen)) .none)|_=>none
 |.store _ x y=>match s.ev x with
  |some (.ptr _ _)=>some (.tot .none)|some (.oel k _ i off)=>match s.ev y with|some v=>q83 s k i off v|none=>none
  |_=>none
 |.call { callee := .builtin .append,args,argTypes }=>match args.toList,argTypes.toList with
  |[x,y],[t,_]=>match s.ev x,s.ev y with|some a,some b=>qcg P tb s t a b|_,_=>none
  |_,_=>none
 |.call { callee := .value g,args,argTypes:=_ }=>match s.ev g,s.evs args.toList with
  |some (.fn (.func f) [] cap),some xs=>match u7 (qg9 s f (xs++cap)) tb.ents with|some q=>some q|none=>u7 (qco s f (xs++cap)) tb.ents
  |some (.yld m),some ys=>u7 (zb9 s m ys) tb.ents|_,_=>none
 |_=>none
def p6(P:Program):Op->Bool
 |.alloc _=>false|.box _ _=>false|.buildSlice _ _ _=>false|.store _ _ _=>false|.convert _ dst _=>match P.underlying dst with|some (.slice _)=>false|_=>true
 |.call { callee := .builtin .append,args:=_,argTypes:=_ }=>false|.call { callee := .value _,args:=_,argTypes:=_ }=>false|_=>true
def pi(P:Program)(tb:Tb)(s:St)(op:Op):Option Rq:=bif p6 P op then lz P s op else lw P tb s op
mutual
def zh5{hp:List (Nat×ag)}:∀{x:AV},q5g x=false->y4 hp x=x
 |.agg xs,h=>by simp[y4];rw[qs8 (xs:=xs) h]|.own k,h=>by cases h
 |.undef,_=>rfl|.int _ _,_=>rfl|.byte _,_=>rfl|.bool _,_=>rfl|.str _,_=>rfl|.sl _ _,_=>rfl|.arr _ _,_=>rfl|.rop _,_=>rfl|.val _,_=>rfl|.tup _,_=>rfl|.ptr _ _,_=>rfl|.oel _ _ _ _,_=>rfl|.osl _ _ _,_=>rfl|.asl _ _ _,_=>rfl|.yld _,_=>rfl|.pn _,_=>rfl|.fn _ _ _,_=>rfl|.iface _ _,_=>rfl
def qs8{hp:List (Nat×ag)}:∀{xs:List AV},n8 xs=false->ml hp xs=xs
 |[],_=>rfl|x::xs,h=>by
  simp[n8,Bool.or_eq_false_iff]at h;simp[ml,qs8 h.2,zh5 h.1]
end
def q6k{nm:NM}(h:qdg nm=true):nm=[]:=by cases nm with|nil=>rfl|cons _ _=>cases h
def zfa:∀{l:List (Nat×aw)}{d:eh l},qtg l=true->bt l d=[]|[],_,_=>rfl|_::_,_,h=>by cases h
def qs5{f:FuncId}{k:qx}(h:n9 f k=true):k = .fn f:=by
 cases k with
 |fn f'=>rw[qN (show Nat.beq f' f=true from h)]|yld _=>cases h
 |ext _=>cases h
def va{g:cu->Option Rq}:∀{es:List cu}{q:Rq},u7 g es=some q->∃e∈es,g e=some q
 |[],_,h=>by cases h
 |e::es,q,h=>by
  simp[u7]at h;split at h
  ·rename_i q' hq;have h:=qJ h;subst h;exact⟨e,qH,hq⟩
  ·obtain⟨e',h1,h2⟩:=va h;exact⟨e',qE _ h1,h2⟩
def q3k{P:Program}{s:St}{f:FuncId}{xs:List AV}{e:cu}{q:Rq}{d:D}(he:e.Sound P)(h:qg9 s f xs e=some q)(ho:q.Out d) :
  ∃b ys r hp' ps,d = .res b ys r hp'/\a8 b s.hp xs ys=some ps/\ao ps/\ni P f/\bu P f ys [] r hp'/\(b=true->ao (ij hp')):=by
 unfold qg9 at h;cases hk:n9 f e.key&&qtg e.hp&&(!(n8 xs)||e.out.rows)<;>rw[hk]at h<;>simp at h
 simp at hk;obtain⟨⟨hk1,hk2⟩,hk3⟩:=hk;split at h
 ·rename_i x nm hg;split at h
  ·rename_i x' nm' hg';cases hn:qdg nm'<;>rw[hn]at h<;>simp at h
   subst h;have hn:=q6k hn;subst hn;obtain⟨y,hy,hd⟩:=ho;have hd:=RS.sp_out hd;have hs:=he x x' y hy;rw[qs5 hk1]at hs;simp only at hs;rw[zfa hk2]at hs;have hseen:=(Pts.get_seen hg).2 [] rfl (fun n m hh=>by have:=(uv hg').1 n m hh;cases this)
   have key:∃ps,a8 (n8 xs) s.hp xs (Pts.put e.args x)=some ps/\ao ps:=by
    cases hb:n8 xs
    ·rw[qs8 hb]at hseen;obtain⟨ps,h1,h2⟩:=hseen;exact zm vm h1 h2
    ·exact qjv vm hseen
   obtain⟨ps,k1,k2⟩:=key;refine⟨n8 xs,Pts.put e.args x,_,_,ps,hd,k1,k2,hs.1,hs.2,fun hb => ?_⟩
   rw[hb]at hk3;exact RS.rows_ok (by simpa using hk3)
  ·cases h
 ·cases h
def qtq{nm:NM}:∀{l:List (Nat×aw)}{n m:Nat},ar nm n=some m->(∃e∈l,e.1=n)->ar (order nm l) n=some m
 |[],n,m,_,⟨e,he,_⟩=>by cases he
 |(k,p)::r,n,m,h,⟨e,he,hn⟩=>by
  simp[order];cases hq:Nat.beq k n
  ·have hr:∃e∈r,e.1=n:=by
    rcases List.mem_cons.1 he with rfl|he
    ·simp only at hn;subst hn;simp at hq
    ·exact⟨e,he,hn⟩
   split
   ·simp[ar,hq,qF];exact qtq h hr
   ·exact qtq h hr
  ·have:=qN hq;subst this;rw[h];simp[ar]
def q2z{hp:List (Nat×ag)}{N M:NM}(hN:c7 N=true):∀{l:List (Nat×aw)}{nm nm':NM}{d:eh l},nq hp l nm=some (d,nm')->ce nm' M->ce nm' N->∀{hpv:List (Nat×ag)}{ps:List Prop},
  fm (ap N) hp (order M l)=some hpv->ie hpv (bt l d)=some ps->ao ps
 |[],nm,nm',d,h,_,_,hpv,ps,hv,hw=>by
  simp[order,fm,qI]at hv;subst hv;have:=qJ (show some []=some ps from hw);subst this;trivial
 |(j,p)::r,nm,nm',d,h,hM,hS,hpv,ps,hv,hw=>by
  have h:(match ar nm j with
   |some old=>match ae hp old with
    |some b=>match p.get b nm with
     |some (d,nm')=>match nq hp r nm' with|some (ds,nm'')=>some ((d,ds),nm'')|none=>none
     |none=>none
    |none=>none
   | none=>none)=some (d,nm'):=h
  split at h
  ·rename_i old ho;split at h
   ·rename_i b hb;split at h
    ·rename_i d1 nm1 h1;split at h
     ·rename_i d2 nm2 h2;simp at h;obtain⟨rfl,rfl⟩:=h;obtain⟨a1,a2⟩:=aw.get_seen h1;obtain⟨b1,_⟩:=uv h2;have hj:ar M j=some old:=hM _ _ (b1 _ _ (a1 _ _ ho));simp[order,hj,fm,hb]at hv;split at hv
      ·rename_i b' l' e1 e2;simp at e1 hv;subst e1 hv;have hw:(bif Nat.beq j j then(match tm (cw (ap N) b) (p.put d1),ie l' (bt r d2) with
        |some ps,some qs=>some (ps++qs)| _,_=>none) else none)=some ps:=hw
       rw[show Nat.beq j j=true by simp]at hw
       simp at hw;split at hw
       ·rename_i p1 p2 w1 w2;have:=qJ hw;subst this;obtain⟨p1',s1,s2⟩:=a2 N hN (b1.trans hS);rw[w1]at s1;have:=qJ s1;subst this;exact cq.2 ⟨s2,q2z hN h2 hM hS e2 w2⟩
       ·cases hw
      ·cases hv
     ·cases h
    ·cases h
   ·cases h
  ·cases h
def qiv{s:St}{ys:List AV}{nm0:NM}{e:cu}{q:Rq}{d:D}(h:qiu s ys nm0 e=some q)(ho:q.Out d) :
  ∃N x x' y,e.F x x'=some y/\d = .mem N (Pts.put e.args x) (bt e.hp x') (e.out.res y).1 (e.out.res y).2/\c7 N=true/\ce nm0 N /\
   (∀ps,a8 false [] (AV.rens (ap N) ys) (Pts.put e.args x)=some ps->ao ps)/\∀hpv ps,fm (ap N) s.hp N=some hpv->ie hpv (bt e.hp x')=some ps->ao ps:=by
 unfold qiu at h;split at h
 ·rename_i x nm hg;split at h
  ·rename_i x' nm' hg';cases hk:c7 (order nm' e.hp)&&pg nm' e.hp<;>rw[hk]at h<;>simp at h
   subst h;simp at hk;obtain⟨y,hy,hd⟩:=ho;have hsub:ce nm' (order nm' e.hp):=fun n m hh=>qtq hh (qqw hk.2 n m hh)
   obtain⟨g1,g2⟩:=Pts.get_seen hg;obtain⟨g1',_⟩:=uv hg';refine⟨order nm' e.hp,x,x',y,hy,RS.sp_out hd,hk.1,g1.trans (g1'.trans hsub),fun ps hv => ?_,fun hpv ps hv hw=>q2z hk.1 hg' (ce.refl _) hsub hv hw⟩
   obtain⟨ps',h1,h2⟩:=g2 _ hk.1 (g1'.trans hsub);rw[hv]at h1;have:=qJ h1;subst this;exact h2
  ·cases h
 ·cases h
def q6c{s s':St}{q:Prop}{ys xs:List AV}{names:List (Nat×Nat)}{hp hp':List (Nat×ag)}{r:AV}{t:Nat}{ps:List Prop}(h:ss s q ys names xs hp r hp' t=some (ps,s'))(hq:q)
  (h1:∀ps,a8 false [] (AV.rens (ap names) ys) xs=some ps->ao ps) (h2:∀hpv ps,fm (ap names) s.hp names=some hpv->ie hpv hp=some ps->ao ps):ao ps:=by
 unfold ss at h;cases hb:c7 names&&ny names&&au (s.nx+32*t) s.hp&&Nat.blt t s.n<;>rw[hb]at h<;>simp at h
 split at h
 ·rename_i hpv ps1 e1 e2;split at h
  ·rename_i ps2 e3;simp at h;obtain⟨rfl,_⟩:=h;exact⟨hq,cq.2 ⟨h1 _ e2,h2 _ _ e1 e3⟩⟩
  ·cases h
 ·cases h
def q5s{P:Program}{s:St}{d:D}{op:Op}(h:p6 P op=false):ci P s d op=none:=by
 unfold p6 at h;split at h<;>first
  |rfl
  |cases h
  | (split at h
     ·rename_i src dst x _ E hE;simp[ci,hE];have hc:∀v,nk P dst v=none:=fun v=>by
       unfold nk;rw[hE]
      have hc':∀v,qz P dst v=none:=fun v=>by
       unfold qz;split
       ·rw[hc]
       ·rw[hc]
      cases P.underlying src<;>cases s.ev x<;>simp[hc']
     ·cases h)
def q5r{P:Program}{s:St}{d:D}{o:Oper}(h:p6 P o.op=true):ft P s d o=none:=by
 obtain⟨dst,op,ty,pos,after,guard⟩:=o;simp only at h
 cases hA:ft P s d ⟨dst,op,ty,pos,after,guard⟩ with
 |none=>rfl|some R=>
  exfalso;unfold ft at hA;split at hA
  ·rename_i e _;simp only at e;subst e;cases h
  ·rename_i e _;simp only at e;subst e;cases h
  ·rename_i e _;simp only at e;subst e;cases h
  ·rename_i e _;simp only at e;subst e;cases h
  ·rename_i e _;simp only at e;subst e;cases h
  ·rename_i e _;simp only at e;subst e;split at hA
   ·rename_i e2 _;simp only[p6,e2]at h;cases h
   ·cases hA
  ·cases hA
def zht{P:Program}{s:St}{d:D}{o:Oper}(h:p6 P o.op=true):lu P s d o=none:=by
 obtain⟨dst,op,ty,pos,after,guard⟩:=o;simp only at h
 cases hA:lu P s d ⟨dst,op,ty,pos,after,guard⟩ with
 |none=>rfl|some R=>
  exfalso;unfold lu at hA;split at hA
  ·rename_i e;simp only at e;subst e;cases h
  ·rename_i e;simp only at e;subst e;cases h
  ·rename_i e;simp only at e;subst e;cases h
  ·cases hA
def zd5{P:Program}{tb:Tb}{s:St}{t t2:TypeId}{y:AV}{q:Rq}{d:D}{ps:List Prop}{b:ag}(h:qcg P tb s t (.val (.slice none 0 0)) y=some q)(ho:q.Out d)(ha:ku P s d t t2 [] 0 y=some (ps,b)):ao ps:=by
 unfold qcg at h;simp only at h;unfold ku at ha;split at h
 ·rename_i E hE;split at h
  ·rename_i τ hτ;split at h
   ·rename_i m hm;have h:=qJ h;subst h;obtain⟨h1,rfl⟩:=ho;simp only[hE]at ha;split at ha
    ·rename_i sz flat n e1 e2;obtain⟨k1,k2⟩:=q57 hm e2;cases hq:Nat.beq τ.sz sz&&Nat.beq E E&&ji P E&&vo P t2<;>rw[hq]at ha<;>simp only[qT,qF,reduceCtorEq,qI,qP]at ha
     obtain⟨rfl,_⟩:=ha;exact⟨by rw[k1];rfl,oA,of_decide_eq_true h1,trivial⟩
    ·cases ha
   ·cases h
  ·cases h
 ·cases h
def zd6{P:Program}{tb:Tb}{s:St}{t t2:TypeId}{k:Nat}{τ0:Ty}{l0:List τ0.den}{E0:TypeId}{y:AV}{q:Rq}{d:D}{ps:List Prop}{b:ag}(hk:ae s.hp k=some (.row τ0 l0 E0))(h:qcg P tb s t (.own k) y=some q)(ho:q.Out d)(ha:ku P s d t t2 (l0.flatMap τ0.enc) l0.length y=some (ps,b)):ao ps:=by
 unfold qcg at h;simp only[hk]at h;unfold ku at ha;split at h
 ·rename_i m hm;have h:=qJ h;subst h;obtain⟨h1,rfl⟩:=ho;split at ha
  ·rename_i E _ _ _ e0 ed;simp only[D.row.injEq,ag.row.injEq]at ed;obtain⟨rfl,ed,rfl⟩:=ed;have ed:=eq_of_heq ed;subst ed;split at ha
   ·rename_i sz flat n e1 e2;obtain⟨k1,k2⟩:=q57 hm e2;cases hq:Nat.beq τ0.sz sz&&Nat.beq E E0&&ji P E&&vo P t2<;>rw[hq]at ha<;>simp only[qT,qF,reduceCtorEq,qI,qP]at ha
    obtain⟨rfl,_⟩:=ha;exact⟨by rw[k1,List.flatMap_append],by rw[k2,qM],of_decide_eq_true h1,trivial⟩
   ·cases ha
  ·cases ha
 ·cases h
def q2n{P:Program}{tb:Tb}{s:St}{o:Oper}{q:Rq}{d:D}{ps:List Prop}{v:AV}{new:List (Nat×ag)}(hT:∀e∈tb.ents,e.Sound P)(hv:p6 P o.op=false)(h:lw P tb s o.op=some q)(ho:q.Out d)(ha:ft P s d o=some (ps,v,new)):ao ps:=by
 obtain⟨dst,op,ty,pos,after,guard⟩:=o;simp only at h hv;have cnd:∀{b:Bool}{x:AV}{y:List (Nat×ag)}{ps0 ps:List Prop}{v:AV}{new:List (Nat×ag)},(bif b then some (ps0,x,y) else none)=some (ps,v,new)->ao ps0->ao ps:=fun{b} _ _ _ _ _ _ e k=>by
  cases b
  ·cases e
  ·simp at e;obtain⟨rfl,_⟩:=e;exact k
 unfold ft at ha;split at ha
 ·split at ha
  ·exact cnd ha trivial
  ·cases ha
 ·split at ha
  ·exact cnd ha trivial
  ·cases ha
 ·rename_i g args ats t e _;simp only at e;subst e;split at ha
  ·rename_i f cap xs b xs' r hp' e1 e2;split at ha
   ·rename_i ps1 hps;refine cnd ha ?_;simp[lw,e1,e2]at h;have key:∀e∈tb.ents,qg9 s f (xs++cap) e=some q->ao (ni P f::bu P f xs' [] r hp'::(ps1++(bif b then ij hp' else[]))):=fun e he hc=>by
     obtain⟨b1,ys,r1,hp1,ps2,k1,k2,k3,k4,k5,k6⟩:=q3k (hT e he) hc ho;simp at k1;obtain⟨rfl,rfl,rfl,rfl⟩:=k1;rw[hps]at k2;have:=qJ k2;subst this;refine⟨k4,k5,cq.2 ⟨k3,?_⟩⟩;cases b
     ·trivial
     ·exact k6 rfl
    split at h
    ·rename_i q' hq;have h:=qJ h;subst h;obtain⟨e,he,hc⟩:=va hq;exact key e he hc
    ·exfalso;obtain⟨e,he,hc⟩:=va h;unfold qco at hc;cases hk:n9 f e.key<;>rw[hk]at hc<;>simp at hc
     obtain⟨N,x,x',y,_,k2,_⟩:=qiv hc ho;cases k2
   ·cases ha
  ·cases ha
 ·rename_i args ats tt e _;simp only at e;subst e;split at ha
  ·rename_i x y t t2 e1 e2;split at ha
   ·rename_i v' e3 e4;split at ha
    ·rename_i ps1 b e5;refine cnd ha ?_;simp[lw,e1,e2,e3,e4]at h;exact zd5 h ho e5
    ·cases ha
   ·cases ha
  ·cases ha
 ·rename_i t len parts tt e _;simp only at e;subst e;split at ha
  ·rename_i ps1 b e1;refine cnd ha ?_;simp[lw]at h;unfold q8u at h;unfold qy at e1;split at h
   ·rename_i E hE;split at h
    ·have h:=qJ h;subst h;have ho:d=_:=ho;subst ho;simp[hE]at e1
    ·rename_i τ sz ps2 i1 i2 i3;split at h
     ·rename_i cs hcs;split at h
      ·rename_i l hl;have h:=qJ h;subst h;have ho:d=_:=ho;subst ho;simp only[hE,i2,i3,hcs]at e1;cases hq:Nat.beq τ.sz sz&&Nat.beq E E&&ji P E&&Nat.ble (len*τ.sz) 16777216&&AV.ones cs<;>rw[hq]at e1<;>simp at e1
       obtain⟨⟨j1,ps3,j2,j3⟩,j4⟩:=q4a hl;rw[j2]at e1;simp at e1;obtain⟨rfl,_⟩:=e1;exact cq.2 ⟨j3,j4,j1 _,trivial⟩
      ·cases h
     ·cases h
    ·cases h
   ·cases h
  ·split at ha
   ·exact cnd ha trivial
   ·cases ha
 ·rename_i src dst x tt e _;simp only at e;subst e;split at ha
  ·rename_i E b e1 e2 e3;split at ha
   ·refine cnd ha ?_;simp[lw,e3,qI]at h;subst h;exact⟨of_decide_eq_true ho.1,trivial⟩
   ·cases ha
  ·cases ha
 ·cases ha
def qug:∀(ys a b:List AV)(k:Nat),dv (a++b) (a.length+k) ys=a++dv b k ys
 |[],_,_,_=>rfl|y::ys,a,b,k=>by
  simp only[dv];rw[List.set_append_right _ _ oA,Nat.add_sub_cancel_left,Nat.add_assoc]
  exact qug ys a (b.set k y) (k+1)
def q8x:∀(ys a b:List AV)(k:Nat),k+ys.length<=a.length->dv (a++b) k ys=dv a k ys++b
 |[],_,_,_,_=>rfl|y::ys,a,b,k,h=>by
  simp at h;simp[dv];rw[List.set_append_left _ _ oA]
  exact q8x ys (a.set k y) b (k+1) (by rw[List.length_set];omega)
def ze:∀(ys a:List AV)(k j:Nat),k+ys.length<=a.length->(dv a k ys)[j]? = if k<=j/\j<k+ys.length then ys[j-k]? else a[j]?
 |[],a,k,j,_=>by simp only[dv,qZ];rw[qW oA]|y::ys,a,k,j,h=>by
  simp at h;simp only[dv];rw[ze ys (a.set k y) (k+1) j (by rw[List.length_set];omega)]
  simp only[qL];by_cases h1:k+1<=j/\j<k+1+ys.length
  ·rw[qX h1,qX,show j-k=(j-(k+1))+1 by omega];simp
  ·rw[qW h1];by_cases h2:j=k
   ·subst h2;rw[qX];simp[show j<a.length by omega]
   ·rw[qW oA,List.getElem?_set_ne oA]
def q8y{τ:Ty}{y:τ.den}{ys:List AV}{off:Nat}:∀{l:List τ.den}{i:Nat}{x:τ.den},l[i]? = some x->off+ys.length<=τ.sz->τ.enc y=dv (τ.enc x) off ys->(l.set i y).flatMap τ.enc=dv (l.flatMap τ.enc) (i*τ.sz+off) ys
 |[],_,_,h,_,_=>by simp at h|z::l,0,x,h,ho,he=>by
  simp at h;subst h;simp;rw[q8x _ _ _ _ (by rw[τ.enc_length];exact ho),he]
 |z::l,i+1,x,h,ho,he=>by
  simp at h;simp;rw[show(i+1)*τ.sz+off=(τ.enc z).length+(i*τ.sz+off) by rw[τ.enc_length,Nat.succ_mul];omega,qug,q8y h ho he]
def qu0{b:Bool}{hp:List (Nat×ag)}:∀{xs ys:List AV}{ps:List Prop},a8 b hp xs ys=some ps->ao ps->∀(j:Nat)(x y:AV),xs[j]? = some x->ys[j]? = some y->∃qs,vw b hp x y=some qs/\ao qs
 |x::xs,y::ys,ps,h,hp,j,u,v,hu,hv=>by
  simp[a8]at h;split at h
  ·rename_i p1 h1;split at h
   ·rename_i p2 h2;have:=qJ h;subst this
    cases j with|zero=>simp at hu hv;subst hu hv;exact⟨p1,h1,(cq.1 hp).1⟩|succ j=>exact qu0 h2 (cq.1 hp).2 j u v (by simpa using hu) (by simpa using hv)
   ·cases h
  ·cases h
 |[],[],_,_,_,j,_,_,hu,_=>by simp at hu|[],_::_,_,h,_,_,_,_,_,_=>by simp[a8]at h|_::_,[],_,h,_,_,_,_,_,_=>by simp[a8]at h
def q9m{b:Bool}{hp:List (Nat×ag)}:∀{xs ys:List AV}{ps:List Prop},a8 b hp xs ys=some ps->(∀(j:Nat)(x y:AV),xs[j]? = some x->ys[j]? = some y->∃qs,vw b hp x y=some qs/\ao qs)->ao ps
 |x::xs,y::ys,ps,h,hq=>by
  simp[a8]at h;split at h
  ·rename_i p1 h1;split at h
   ·rename_i p2 h2;have:=qJ h;subst this;obtain⟨q1,e1,a1⟩:=hq 0 x y rfl rfl;rw[h1]at e1;have:=qJ e1;subst this;exact cq.2 ⟨a1,q9m h2 fun j u v hu hv=>hq (j+1) u v (by simpa using hu) (by simpa using hv)⟩
   ·cases h
  ·cases h
 |[],[],_,h,_=>by simp[a8,qI]at h;subst h;trivial|[],_::_,_,h,_=>by simp[a8]at h|_::_,[],_,h,_=>by simp[a8]at h
def qcu:∀{τ:Ty}{d:τ.den},∀x∈τ.enc d,py x=true
 |.int _,_,x,h=>by simp[Ty.enc,List.mem_singleton]at h;subst h;rfl|.byte,_,x,h=>by simp[Ty.enc,List.mem_singleton]at h;subst h;rfl|.bool,_,x,h=>by simp[Ty.enc,List.mem_singleton]at h;subst h;rfl|.str,_,x,h=>by simp[Ty.enc,List.mem_singleton]at h;subst h;rfl|.unit,_,x,h=>by simp[Ty.enc]at h|.prod a b,d,x,h=>by
  rcases List.mem_append.1 h with h|h
  ·exact qcu x h
  ·exact qcu x h
 |.list _,_,x,h=>by simp[Ty.enc,List.mem_singleton]at h;subst h;rfl|.tree a,d,x,h=>by
  rcases List.mem_append.1 h with h|h
  ·exact qcu x h
  ·simp at h;subst h;rfl
def zma{x y:AV}(hx:py x=true)(hy:py y=true){qs:List Prop}(h:vw false [] x y=some qs)(hq:ao qs):y=x:=by
 cases x<;>first|cases hx|skip
 all_goals (cases y<;>first|cases hy|skip)
 all_goals (have:=qJ h;subst this;exact hq.1)
def q7k{ρ:Nat->Option Nat}:∀{xs:List AV}{j:Nat},(AV.rens ρ xs)[j]? = (xs[j]?).map (AV.ren ρ)|[],j=>by simp[AV.rens]|x::xs,0=>by simp[AV.rens]|x::xs,j+1=>by simp[AV.rens,List.getElem?_cons_succ];exact q7k
def zk8{τ:Ty}{l:List τ.den}{i off:Nat}{x y:τ.den}{c:List AV}{ps:List Prop}(ho:off+c.length<=τ.sz)(hx:l[i]? = some x)(hd:τ.dec (dv (τ.enc x) off c)=some (y,[]))
  (hv:a8 false [] c (((τ.enc y).drop off).take c.length)=some ps) :
  ao (ps++[i*τ.sz+off+c.length<=l.length*τ.sz,(l.set i y).flatMap τ.enc=dv (l.flatMap τ.enc) (i*τ.sz+off) (((τ.enc y).drop off).take c.length),(l.set i y).length=l.length,AV.rens (fun _=>none) c=c]):=by
 obtain⟨ab,e1,hr,qs,hq1,hq2⟩:=pp hd;simp at e1;subst e1;have hle:off+c.length<=(τ.enc x).length:=by rw[τ.enc_length];exact ho
 have ac:(((τ.enc y).drop off).take c.length).length=c.length:=by simp[τ.enc_length];omega
 have hseg:∀(j:Nat)(z u:AV),c[j]? = some z->(((τ.enc y).drop off).take c.length)[j]? = some u->∃qs,vw false [] z u=some qs/\ao qs:=fun j z u h1 h2=>by
  have hj:j<c.length:=(List.getElem?_eq_some_iff.1 h1).1;refine qu0 hq1 hq2 (off+j) z u ?_ ?_
  ·rw[ze _ _ _ _ hle,qX,Nat.add_sub_cancel_left];exact h1
  ·rw[List.getElem?_take,qX hj,List.getElem?_drop]at h2;exact h2
 have he:τ.enc y=dv (τ.enc x) off (((τ.enc y).drop off).take c.length):=by
  apply List.ext_getElem?;intro j;rw[ze _ _ _ _ (by rw[ac];exact hle),ac]
  by_cases hj:off<=j/\j<off+c.length
  ·rw[qX hj,List.getElem?_take,qX,List.getElem?_drop,show off+(j-off)=j by omega]
  ·rw[qW hj]
   cases hz:(τ.enc x)[j]? with
   |none=>
    have:=List.getElem?_eq_none_iff.1 hz;rw[τ.enc_length]at this;exact List.getElem?_eq_none_iff.2 (by rw[τ.enc_length];exact this)
   |some z=>
    have hjl:j<τ.sz:=by have:=(List.getElem?_eq_some_iff.1 hz).1;rwa [τ.enc_length]at this
    have hu:∃u,(τ.enc y)[j]? = some u:=⟨_,List.getElem?_eq_getElem (by rw[τ.enc_length];exact hjl)⟩
    obtain⟨u,hu⟩:=hu;obtain⟨q,q1,q2⟩:=qu0 hq1 hq2 j z u (by rw[ze _ _ _ _ hle,qW hj];exact hz) hu
    rw[hu,zma (qcu z (List.mem_of_getElem? hz)) (qcu u (List.mem_of_getElem? hu)) q1 q2]
 refine cq.2 ⟨q9m hv hseg,?_,q8y hx (by rw[ac];exact ho) he,oC,?_,trivial⟩
 ·have hi:i<l.length:=(List.getElem?_eq_some_iff.1 hx).1;have:(i+1)*τ.sz<=l.length*τ.sz:=Nat.mul_le_mul_right _ hi;rw[Nat.succ_mul]at this;omega
 ·apply List.ext_getElem?;intro j;have h:=congrArg (fun l=>l[off+j]?) (hr (fun _=>none))
  simp[q7k]at h ⊢;by_cases hj:j<c.length
  ·rw[ze _ _ _ _ hle,qX,Nat.add_sub_cancel_left]at h;exact h
  ·rw[List.getElem?_eq_none_iff.2 oA];rfl
def zd8{P:Program}{tb:Tb}{s:St}{o:Oper}{q:Rq}{d:D}{ps:List Prop}{s':St}(hT:∀e∈tb.ents,e.Sound P)(h:lw P tb s o.op=some q)(ho:q.Out d)(ha:lu P s d o=some (ps,s')):ao ps:=by
 obtain⟨dst,op,ty,pos,after,guard⟩:=o;simp only at h;have cnd:∀{b:Bool}{x:St}{ps:List Prop}{s':St},(bif b then some (([]:List Prop),x) else none)=some (ps,s')->ao ps:=fun{b} _ _ _ e=>by
  cases b
  ·cases e
  ·simp at e;obtain⟨rfl,_⟩:=e;trivial
 unfold lu at ha;split at ha
 ·rename_i t x y e;simp only at e;subst e;split at ha
  ·split at ha
   ·exact cnd ha
   ·cases ha
  ·rename_i k sz i off v n e1 e2 e3 _;split at ha
   ·rename_i τ0 l0 E0 ys τ l E e4;simp[lw,e1,e2,q83,e4]at h;cases hbb:Nat.ble (off+v.cells.length) τ0.sz<;>rw[hbb]at h<;>simp at h
    subst h;obtain⟨x0,hx0,hd⟩:=ho;simp[Sp.Out]at hd;split at hd
    ·rename_i y0 hdec;simp at hd;obtain⟨rfl,rfl,hl,rfl⟩:=hd;have hl:=eq_of_heq hl;subst hl;cases hb:Nat.beq v.cells.length n&&AV.ones v.cells&&Nat.beq sz τ.sz&&Nat.beq τ.sz τ.sz&&Nat.beq E E<;>rw[hb]at ha<;>simp only[qT,qF,reduceCtorEq]at ha
     simp only[qA]at hb;obtain⟨⟨⟨⟨b1,_⟩,b3⟩,_⟩,_⟩:=hb;have b1:=qN b1;have b3:=qN b3;subst b1 b3;split at ha
     ·rename_i ps1 hvs;simp only[qI,qP]at ha;obtain⟨rfl,_⟩:=ha;exact zk8 (Nat.le_of_ble_eq_true hbb) hx0 hdec hvs
     ·cases ha
    ·cases hd
   ·cases ha
  ·cases ha
 ·rename_i args ats e;simp only at e;subst e;split at ha
  ·rename_i x y t t2 tt e1 e2 _;split at ha
   ·rename_i k v e3 e4;split at ha
    ·rename_i τ0 l0 E0 e5;split at ha
     ·rename_i ps1 τ l E e6;simp[lw,e1,e2,e3,e4]at h;cases hb:au (s.nx+32*tt) s.hp&&Nat.beq τ.sz τ0.sz&&Nat.beq E E0&&Nat.blt tt s.n<;>rw[hb]at ha<;>simp at ha
      obtain⟨rfl,_⟩:=ha;exact zd6 e5 h ho e6
     ·cases ha
    ·cases ha
   ·cases ha
  ·cases ha
 ·rename_i g args ats e;simp only at e;subst e;split at ha
  ·rename_i f cap ys names xs hp r hp' t e1 e2 e3;simp[lw,e1,e2]at h;split at h
   ·rename_i q' hq;have h:=qJ h;subst h;obtain⟨e,he,hc⟩:=va hq;obtain⟨b1,ys1,r1,hp1,ps2,k1,_⟩:=q3k (hT e he) hc ho;cases k1
   ·obtain⟨e,he,hc⟩:=va h;unfold qco at hc;cases hk:n9 f e.key<;>rw[hk]at hc<;>simp at hc
    obtain⟨N,x,x',y,k1,k2,k3,k4,k5,k6⟩:=qiv hc ho;simp at k2;obtain⟨rfl,rfl,rfl,rfl,rfl⟩:=k2;have hs:=hT e he x x' y k1;rw[qs5 hk]at hs;exact q6c ha hs k5 k6
  ·rename_i m ys names xs hp r hp' t e1 e2 e3;simp[lw,e1,e2]at h;obtain⟨e,he,hc⟩:=va h;unfold zb9 at hc;split at hc
   ·rename_i m' hm';obtain⟨N,x,x',y,k1,k2,k3,k4,k5,k6⟩:=qiv hc ho;simp at k2;obtain⟨rfl,rfl,rfl,rfl,rfl⟩:=k2;have hs:=hT e he x x' y k1;rw[hm']at hs;have hr:ap names m=some m':=qb k3 (k4 _ _ (by simp[ar]))
    simp[hr]at ha;exact q6c ha hs k5 k6
   ·cases hc
  ·cases ha
 ·cases ha
def q2q{P:Program}{tb:Tb}{s:St}{o:Oper}{q:Rq}{d:D}{ps:List Prop}{s':St}(hT:∀e∈tb.ents,e.Sound P)(h:pi P tb s o.op=some q)(ho:q.Out d)(ha:lr P s d o=some (ps,s')):ao ps:=by
 unfold pi at h;unfold lr at ha;cases hv:p6 P o.op<;>rw[hv]at h<;>simp at h
 ·split at ha
  ·rename_i ps' v new e;unfold dt at e;rw[q5s hv]at e;split at ha
   ·simp at ha;obtain⟨rfl,_⟩:=ha;exact q2n hT hv h ho e
   ·cases ha
  ·exact zd8 hT h ho ha
 ·split at ha
  ·rename_i ps' v new e;unfold dt at e;split at e
   ·rename_i ps1 v1 e1;simp at e;obtain⟨rfl,rfl,rfl⟩:=e;split at ha
    ·simp at ha;obtain⟨rfl,_⟩:=ha;exact q2o h ho e1
    ·cases ha
   ·rw[q5r hv]at e;cases e
  ·rw[zht hv]at ha;cases ha
def q2p{P:Program}{tb:Tb}{s:St}{o:Oper}{q:Rq}{d:D}{ps:List Prop}{v:AV}{new:List (Nat×ag)}(hT:∀e∈tb.ents,e.Sound P)(h:pi P tb s o.op=some q)(ho:q.Out d)(ha:dt P s d o=some (ps,v,new)):ao ps:=by
 unfold pi at h;unfold dt at ha;cases hv:p6 P o.op<;>rw[hv]at h<;>simp at h
 ·rw[q5s hv]at ha;exact q2n hT hv h ho ha
 ·split at ha
  ·rename_i ps1 v1 e1;simp at ha;obtain⟨rfl,rfl,rfl⟩:=ha;exact q2o h ho e1
  ·rw[q5r hv]at ha;cases ha
def qui(P:Program)(tb:Tb)(s:St)(o:Oper):Option (Bool×St):=
 bif tb.sub then
  match o.op with
  |.slice t x lo hi mx=>match s.ev x,o.dst,mx with
   |some (.own k),some tt,none=>match ae s.hp k,P.underlying t with
    |some (.row τ l E),some (.slice E')=>match c8 P E' with
     |some sz'=>bif Nat.beq τ.sz sz'&&Nat.blt tt s.n&&au (s.nx+32*tt) s.hp then
       (match f7 s lo,f7 s hi with
       |some (some a),some none=>some (decide (0<=a/\a.toNat<l.length),{ s with fr:=(tt,.osl k τ.sz a.toNat)::s.fr })|some none,some (some b)=>some (decide (0<=b/\b<=l.length),{ s with fr:=(tt,.own (s.nx+32*tt))::s.fr,hp:=(s.nx+32*tt,.row τ (l.take b.toNat) E)::(k,.dead)::s.hp })| _,_=>none)
      else none
     |none=>none
    |_,_=>none
   |_,_,_=>none
  |.call { callee := .builtin .clear,args,argTypes }=>match args.toList,argTypes.toList,o.dst with
   |[x],[t],none=>match s.ev x with
    |some (.osl k sz lo)=>match ae s.hp k,P.underlying t with
     |some (.row τ l E),some (.slice E')=>match tf P E' with
      |some zs=>match τ.dec zs with|some (z,[])=>bif Nat.beq sz τ.sz&&Nat.blt 0 τ.sz&&AV.ones zs then some (true,{ s with hp:=(k,.row τ (l.take lo++List.replicate (l.length-lo) z) E)::s.hp }) else none|_=>none
      |none=>none
     |_,_=>none
    |_=>none
   |_,_,_=>none
  |_=>none
 else none
section
variable{P:Program}{zw0:World}{zwv:Gh}{zwx:List (Nat×ag)}{G:Gh}{s:St}{a:Act}{w:World}{tb:Tb}
def zky:∀(ys b:List AV),ys.length=b.length->dv b 0 ys=ys:=fun ys b h=>by
 apply List.ext_getElem?;intro j;rw[ze _ _ _ _ oA]
 by_cases hj:0<=j/\j<0+ys.length
 ·rw[qX hj];rfl
 ·rw[qW hj,List.getElem?_eq_none_iff.2 oA,List.getElem?_eq_none_iff.2 oA]
def q40{τ:Ty}{z:τ.den}:∀(n:Nat),(List.replicate n z).flatMap τ.enc=(List.replicate n (τ.enc z)).flatten|0=>rfl|n+1=>by simp[List.replicate_succ,q40 n]
def q7x{xs:List AV}{vs:List Value}(h:aj xs G vs):∀(n:Nat),aj (List.replicate n xs).flatten G (List.replicate n vs).flatten|0=>trivial|n+1=>by simp[List.replicate_succ,List.flatten_cons];exact s8 h (q7x h n)
def qh7{β:Type}(l:List β):∀(n:Nat),(List.replicate n l).flatten.length=n*l.length|0=>by simp|n+1=>by rw[List.replicate_succ,List.flatten_cons,qM,qh7 l n,Nat.succ_mul,Nat.add_comm]
def q4z{β:Type}(l:List β):∀(n i:Nat),i<n*l.length->(List.replicate n l).flatten[i]? = l[i%l.length]?
 |0,i,h=>by simp at h|n+1,i,h=>by
  rw[List.replicate_succ,List.flatten_cons];by_cases hi:i<l.length
  ·rw[List.getElem?_append_left hi,Nat.mod_eq_of_lt hi]
  ·have hh:i<n*l.length+l.length:=by rw[← Nat.succ_mul];exact h
   rw[List.getElem?_append_right oA,q4z l n (i-l.length) oA,← Nat.mod_eq_sub_mod oA]
def zwp(cs:Array Value)(n:Nat):(Builtin.zeroCells cs n).toList=(List.replicate n cs.toList).flatten:=by
 apply List.ext_getElem?;intro i;by_cases hi:i<n*cs.size
 ·rw[q4z _ n i (by simpa using hi)]
  have h0:0<cs.size:=by
   rcases Nat.eq_zero_or_pos cs.size with h|h;· rw[h]at hi;simp at hi
   ·exact h
  simp[Builtin.zeroCells,hi,Nat.mod_lt _ h0]
 ·rw[List.getElem?_eq_none_iff.2 (by simp[Builtin.zeroCells];omega),List.getElem?_eq_none_iff.2 (by rw[qh7];simp;omega)]
def zlg(hr:ah zw0 zwv zwx G s a w){o:Oper}{s':St}(h:qui P tb s o=some (true,s')){N:Act->World->Prop}(hN:∀G' a' w',ah zw0 zwv zwx G' s' a' w'->N a' w'):ez P o a w N:=by
 obtain⟨dst,op,ty,pos,after,guard⟩:=o;unfold qui at h;cases hsub:tb.sub<;>rw[hsub]at h<;>simp only[qT,qF,reduceCtorEq]at h
 split at h
 ·rename_i t x lo hi mx;split at h
  ·rename_i k tt hx;split at h
   ·rename_i τ l E E' hl hu;split at h
    ·rename_i sz' hsz;cases hb:Nat.beq τ.sz sz'&&Nat.blt tt s.n&&au (s.nx+32*tt) s.hp<;>rw[hb]at h<;>simp only[qT,qF,reduceCtorEq]at h
     simp only[qA,Nat.blt_eq]at hb;obtain⟨⟨b1,b2⟩,b3⟩:=hb;have b1:=qN b1;subst b1;obtain⟨ad,c,us,h1,h3,h4,h5⟩:=(hr.fin.mem.holds _ _ hl).rowAt;obtain⟨ad0,n0,c0,ho0,hxe⟩:=a6 hr hx;rw[h1]at ho0;simp only[qI,qP]at ho0;obtain⟨rfl,rfl,rfl⟩:=ho0;have hc:l.length<=c:=by
      rcases h3.2 with⟨_,q,_⟩|⟨_,_,_,_,_,_,q,_⟩<;>omega
     split at h
     ·rename_i i0 hlo hhi;simp only[qI,qP,decide_eq_true_eq]at h;obtain⟨⟨g0,g1⟩,rfl⟩:=h;rcases me hr hlo with⟨_,e⟩|⟨xo,kx,mm,rfl,e,hxv⟩
      ·cases e
      injection e with e;subst e
      rcases me hr hhi with⟨rfl,_⟩|⟨_,_,_,_,e,_⟩
      rotate_left
      ·cases e
      have r1:(Instr.sliceBounds true l.length c ((some xo).map a.eval) (Option.map a.eval none) none).run P w = .ok (i0.toNat,l.length,c) w:=by
       simp[Instr.sliceBounds,hxv,mv (P:=P) (w:=w) g0 (show i0<=(l.length:Int) by omega)]
      have hne:l≠[]:=fun e=>by subst e;simp at g1
      rcases h3.2 with⟨_,q,_⟩|⟨g,vs,fz,rfl,k2,k3,k4,k5,k6,k7,k8⟩
      ·exact absurd (List.eq_nil_of_length_eq_zero q) hne
      ·have hrun:(execOp a.eval ⟨some tt,.slice t x (some xo) none none,ty,pos,after,guard⟩).run P w = .ok (.value (.slice (some ⟨g,i0.toNat*τ.sz,none⟩) (l.length-i0.toNat) (c-i0.toNat))) w:=by
        simp only[wQ,Option.map_none]at r1;simp[execOp,Instr.sliceAt,Instr.slice,bc hu,hxe,r1,ep hsz,show c≠i0.toNat by omega,iu]
       refine de oC ?_
       unfold Oper.wp;rw[hrun];exact hN _ _ _ (eq (v := .osl k τ.sz i0.toNat) hr (by have hb2:Nat.blt tt s.n=true:=(by simpa using b2);simp[St.add,hb2,qT,List.nil_append]) ⟨g,l.length,c,h1,g1,rfl⟩)
     ·rename_i i0 hlo hhi;simp at h;obtain⟨⟨g0,g1⟩,rfl⟩:=h;rcases me hr hhi with⟨_,e⟩|⟨xo,kx,mm,rfl,e,hxv⟩
      ·cases e
      injection e with e;subst e
      rcases me hr hlo with⟨rfl,_⟩|⟨_,_,_,_,e,_⟩
      rotate_left
      ·cases e
      have r1:(Instr.sliceBounds true l.length c (Option.map a.eval none) ((some xo).map a.eval) none).run P w = .ok (0,i0.toNat,c) w:=by
       simp[Instr.sliceBounds,hxv,mv (P:=P) (w:=w) g0 (show i0<=(c:Int) by omega)]
      have hlt:(l.take i0.toNat).length=i0.toNat:=by simp;omega
      have hrun:(execOp a.eval ⟨some tt,.slice t x none (some xo) none,ty,pos,after,guard⟩).run P w = .ok (.value (.slice ad i0.toNat c)) w:=by
       simp at r1
       have had:(if c=0 then ad else ad.map (·.add (0*τ.sz)))=ad:=by
        split
        ·rfl
        ·rcases h3.2 with⟨rfl,_,_⟩|⟨g,vs,fz,rfl,_⟩
         ·rfl
         ·simp[iu]
       simp[execOp,Instr.sliceAt,wQ,Option.map_none];simp[Instr.slice,bc hu,hxe,r1,ep hsz];simpa using had
      refine de oC ?_
      unfold Oper.wp;rw[hrun];have hk':=jc b3 (s.nx+32*tt) (wF _) oA
      obtain⟨f1,f2⟩:=hr.fresh _ oA hk'
      have hrow:d8 w E τ.sz ad (l.take i0.toNat).length c (us.take (i0.toNat*τ.sz)):=by
       rw[hlt];have hm:i0.toNat*τ.sz<=l.length*τ.sz:=Nat.mul_le_mul_right _ oA
       refine⟨by rw[List.length_take,h3.1];omega,?_⟩
       rcases h3.2 with⟨q1,q2,q3⟩|⟨g,vs,fz,q1,q2,q3,q4,q5,q6,q7,q8⟩
       ·exact .inl ⟨q1,oA,q3⟩
       ·exact .inr ⟨g,vs,fz,q1,q2,q3,oA,q5,q6,by rw[← q7,List.take_take,Nat.min_eq_left hm],q8⟩
      have hreps:aj ((l.take i0.toNat).flatMap τ.enc) G.data (us.take (i0.toNat*τ.sz)):=by
       have:=za (i0.toNat*τ.sz) h4;have e:(l.flatMap τ.enc).take (i0.toNat*τ.sz)=(l.take i0.toNat).flatMap τ.enc:=by
        have e1:l.flatMap τ.enc=(l.take i0.toNat).flatMap τ.enc++(l.drop i0.toNat).flatMap τ.enc:=by rw[← List.flatMap_append,List.take_append_drop]
        rw[e1,List.take_append_of_le_length (by rw[jw,hlt];exact wF _),List.take_of_length_le (by rw[jw,hlt];exact wF _)]
       rwa [e]at this
      have hfin:=hr.fin.take hl h1 hk' f2 h5 (w':=w) ⟨rfl,rfl,rfl,wF _,fun _ _ _=>rfl⟩ (.inl rfl) hrow hreps
      have hle:G.le (G.addOwn (s.nx+32*tt) (ad,(l.take i0.toNat).length,c)):=Gh.addOwn_le f2;refine hN _ _ _ ⟨by obtain⟨bs,q1,q2⟩:=hr.defers;exact⟨bs,q1,nw hle.box q2⟩,by simp[Act.put,hr.size],fun i z hz => ?_,fun m hm hlm => ?_,hfin⟩
      ·simp[ae]at hz;cases hbq:Nat.beq tt i
       ·rw[hbq]at hz;simp at hz;have hne:tt≠i:=fun e=>by subst e;simp at hbq
        obtain⟨u,u1,u2⟩:=hr.frame i z hz;exact⟨u,by simp[Act.put,hne,u1],u2.le hle⟩
       ·rw[hbq]at hz;simp at hz;subst hz;have:=qN hbq;subst this;exact⟨_,by simp[Act.put,hr.size,b2],ad,i0.toNat,c,by rw[Gh.addOwn_self,hlt],rfl⟩
      ·simp[ae]at hlm;cases hbq:Nat.beq (s.nx+32*tt) m
       ·rw[hbq]at hlm;simp at hlm;cases hbk:Nat.beq k m
        ·rw[hbk]at hlm;obtain⟨g1,g2⟩:=hr.fresh m hm hlm;refine⟨g1,?_⟩;show(bif Nat.beq m (s.nx+32*tt) then some _ else G.own m)=none
         cases hbm:Nat.beq m (s.nx+32*tt)
         ·exact g2
         ·have:=qN hbm;subst this;simp at hbq
        ·rw[hbk]at hlm;cases hlm
       ·rw[hbq]at hlm;cases hlm
     ·cases h
    ·cases h
   ·cases h
  ·cases h
 ·rename_i args ats;split at h
  ·rename_i x t ha hty;split at h
   ·rename_i k sz lo hx;split at h
    ·rename_i τ l E E' hl hu;split at h
     ·rename_i zs hzs;split at h
      ·rename_i z hdec;cases hb:Nat.beq sz τ.sz&&Nat.blt 0 τ.sz&&AV.ones zs<;>rw[hb]at h<;>simp at h
       subst h;simp only[qA]at hb;obtain⟨⟨b1,b2⟩,b3⟩:=hb;have b1:=qN b1;have b2:0<τ.sz:=by simpa using b2
       subst b1;have e1:args=#[x]:=by rw[← Array.toArray_toList (xs:=args),ha]
       have e2:ats=#[t]:=by rw[← Array.toArray_toList (xs:=ats),hty]
       subst e1 e2;obtain⟨g,n,c,o1,o2,hxe⟩:=a6 hr hx;obtain⟨ad,c',q1,q2⟩:=hr.fin.mem.holds _ _ hl;rw[o1]at q1;simp at q1;obtain⟨rfl,rfl,rfl⟩:=q1;rcases q2 with⟨q,_⟩|⟨g',vs,fz,q,k2,k3,k4,k5,k6,k7,k8,k9⟩
       ·cases q
       ·simp at q;subst q;obtain⟨ab,e,hsd⟩:=pp hdec;simp at e;subst e;obtain⟨zv,hz1,hz2⟩:=qjg (P:=P) hzs w G.data;obtain⟨ps,hv1,hv2⟩:=hsd.2;have hz3:aj (τ.enc z) G.data zv.cells.toList:=io (Gh.le.refl _) (fun e=>by cases e) hv1 hv2 hz2
        have hone:∀v∈zv.cells.toList,v.oneCell'=true:=lh hz2 b3;have hzl:zv.cells.toList.length=τ.sz:=by rw[← hz3.length,τ.enc_length]
        have hzc:=zwp zv.cells (l.length-lo);have hones:∀v∈(List.replicate (l.length-lo) zv.cells.toList).flatten,v.oneCell'=true:=fun v hv=>by
         obtain⟨ys,h1,h2⟩:=List.mem_flatten.1 hv;rw[List.eq_of_mem_replicate h1]at h2;exact hone v h2
        have hfrl:(List.replicate (l.length-lo) zv.cells.toList).flatten.length=(l.length-lo)*τ.sz:=by rw[qh7,hzl]
        have hmul:lo*τ.sz+(l.length-lo)*τ.sz=l.length*τ.sz:=by rw[← Nat.add_mul];congr 1;omega
        have hcl:l.length*τ.sz<=c*τ.sz:=Nat.mul_le_mul_right _ k4;obtain⟨w',cur',s1,s2,s3,s4⟩:=zd (P:=P) g (lo*τ.sz) E fz (List.replicate (l.length-lo) zv.cells.toList).flatten 0 vs w k2 (by rw[hfrl];omega) k3 hones
        have hrun:(execOp a.eval ⟨none,.call { callee := .builtin .clear,args:=#[x],argTypes:=#[t] },ty,pos,after,guard⟩).run P w = .ok (.value (.tuple #[])) w':=by
         obtain⟨m,hm⟩:∃m,l.length-lo=m+1:=⟨l.length-lo-1,oA⟩
         rw[hm]at s1 hzc;simp[execOp,resolve,invoke,builtin,hxe,hm,Builtin.clear_,bc hu,hz1,hzc,s1]
        refine de oC ?_
        unfold Oper.wp;rw[hrun];have hat:G.at k (.row τ l E)=some g:=by simp[Gh.at,o1]
        have hl':(l.take lo++List.replicate (l.length-lo) z).length=l.length:=by simp;omega
        have hfl:(l.take lo++List.replicate (l.length-lo) z).flatMap τ.enc=dv (l.flatMap τ.enc) (lo*τ.sz) (List.replicate (l.length-lo) (τ.enc z)).flatten:=by
         have e1:l.flatMap τ.enc=(l.take lo).flatMap τ.enc++(l.drop lo).flatMap τ.enc:=by rw[← List.flatMap_append,List.take_append_drop]
         have e2:((l.take lo).flatMap τ.enc).length=lo*τ.sz:=by rw[jw,List.length_take,Nat.min_eq_left oA]
         have e3:((l.drop lo).flatMap τ.enc).length=(l.length-lo)*τ.sz:=by rw[jw,List.length_drop]
         rw[List.flatMap_append,q40,e1];have:=qug (List.replicate (l.length-lo) (τ.enc z)).flatten ((l.take lo).flatMap τ.enc) ((l.drop lo).flatMap τ.enc) 0;rw[e2,Nat.add_zero]at this;rw[this,zky _ _ (by rw[e3,qh7,τ.enc_length])]
        refine hN G _ _ ⟨hr.defers,hr.size,hr.frame,fun m hm hlm=>hr.fresh m hm ?_,hr.fin.update (bx' := .row τ (l.take lo++List.replicate (l.length-lo) z) E) hl hat (by simp[Gh.at,o1]) s4 ?_ k9⟩
        ·simp[ae]at hlm;cases hbq:Nat.beq k m
         ·rw[hbq]at hlm;exact hlm
         ·rw[hbq]at hlm;cases hlm
        ·have hsz:cur'.size=vs.size:=by
          have:=congrArg List.length s3;rw[zi]at this;simpa using this
         refine⟨some ⟨g,0,none⟩,c,by rw[hl'];exact o1,.inr ⟨g,cur',fz,rfl,s2,by rw[hsz];exact k3,by rw[hl'];exact k4,k5,by rw[hsz];exact k6,?_,?_,k9⟩⟩
         ·rw[hl',hfl,s3,Nat.add_zero,qux _ _ _ _ (by have:vs.toList.length=vs.size:=Array.length_toList;omega)]
          exact qi9 _ k7 (q7x hz3 _)
         ·intro u hu';rw[s3]at hu';rcases zj _ _ _ _ hu' with hu'|hu'
          ·exact k8 u hu'
          ·exact hones u hu'
      ·cases h
     ·cases h
    ·cases h
   ·cases h
  ·cases h
 ·cases h
end
def qsn(P:Program)(s:St)(o:Oper):Option (Bool×St):=
 match o.op,o.dst with
 |.convert src dst x,some tt=>match s.ev x with
  |some (.own k)=>match ae s.hp k,P.underlying src,P.underlying dst with
   |some (.row τ l E),some (.slice _),some (.slice e)=>match P.underlying e with|some (.int .u8)=>bif Nat.beq src dst&&Nat.blt tt s.n then some (decide (0<l.length),{ s with fr:=(tt,.own k)::s.fr,hp:=(k,.row τ l E)::s.hp }) else none|_=>none
   |_,_,_=>none
  |_=>none
 |_,_=>none
section
variable{P:Program}{zw0:World}{zwv:Gh}{zwx:List (Nat×ag)}{G:Gh}{s:St}{a:Act}{w:World}
def zgz(hr:ah zw0 zwv zwx G s a w){o:Oper}{s':St}(h:qsn P s o=some (true,s')){N:Act->World->Prop}(hN:∀G' a' w',ah zw0 zwv zwx G' s' a' w'->N a' w'):ez P o a w N:=by
 obtain⟨dst,op,ty,pos,after,guard⟩:=o;unfold qsn at h;split at h
 ·rename_i src dst x tt e1 e2;simp only at e1 e2;subst e1 e2;split at h
  ·rename_i k hx;split at h
   ·rename_i τ l E E1 E2 hl hus hud;split at h
    ·rename_i hue;cases hb:Nat.beq src dst&&Nat.blt tt s.n<;>rw[hb]at h<;>simp only[qT,qF,reduceCtorEq,qI,qP,decide_eq_true_eq]at h
     obtain⟨hpos,rfl⟩:=h;simp only[qA]at hb;have hsd:=qN hb.1;subst hsd;rw[hus]at hud;cases hud;obtain⟨ad0,n0,c0,o1,hxe⟩:=a6 hr hx;obtain⟨ad,c',q1,q2⟩:=hr.fin.mem.holds _ _ hl;rw[o1]at q1;simp only[qI,qP]at q1;obtain⟨rfl,rfl,rfl⟩:=q1;rcases q2 with⟨_,q,_⟩|⟨g,vs,fz,rfl,k2,k3,k4,k5,k6,k7,k8,k9⟩
     ·subst q;simp at hpos
     ·have hw:(w.freeze ⟨g,vs.size,none⟩ 1).heap[g]? = some (.cells vs E (if fz.1==fz.2 then(vs.size,vs.size+1) else(min fz.1 vs.size,max fz.2 (vs.size+1)))):=by
       simp only[World.freeze,Nat.one_ne_zero,if_false,Array.getElem?_modify,k2];simp
      have hshape:w.shape? g=some (E,vs.size):=by simp only[World.shape?,k2]
      have hrun:(execOp a.eval ⟨some tt,.convert src src x,ty,pos,after,guard⟩).run P w = .ok (.value (.slice (some ⟨g,0,none⟩) l.length c0)) (w.freeze ⟨g,vs.size,none⟩ 1):=by
       simp[execOp,hxe,convert,bc hus,bc hue,markStringish,hshape]
      refine de oC ?_
      unfold Oper.wp;rw[hrun];have hat:G.at k (.row τ l E)=some g:=by simp[Gh.at,o1]
      have hbel:bm (fun b=>b=g) w (w.freeze ⟨g,vs.size,none⟩ 1):=by
       refine⟨rfl,rfl,rfl,?_,fun j hj hne => ?_⟩
       ·simp[World.freeze]
       ·simp only[World.freeze,Nat.one_ne_zero,if_false,Array.getElem?_modify];rw[qW (fun q=>hne q.symm)]
      have hok:ck G (w.freeze ⟨g,vs.size,none⟩ 1) k (.row τ l E):=by
       refine⟨some ⟨g,0,none⟩,c0,o1,.inr ⟨g,vs,_,rfl,hw,?_,k4,k5,k6,k7,k8,k9⟩⟩;refine .inr ?_;split
       ·exact wF _
       ·rename_i hne;rcases k3 with rfl|k3
        ·simp at hne
        ·simp only;omega
      have hfin:=hr.fin.update (bx' := .row τ l E) hl hat hat hbel hok k9;have hb2:Nat.blt tt s.n=true:=hb.2;refine hN G _ _ ?_;have hr2:ah zw0 zwv zwx G { s with hp:=(k,.row τ l E)::s.hp } a (w.freeze ⟨g,vs.size,none⟩ 1):=⟨hr.defers,hr.size,hr.frame,fun m hm hlm=>hr.fresh m hm (by
       simp only[ae]at hlm;cases hbq:Nat.beq k m
       ·rw[hbq]at hlm;exact hlm
       ·rw[hbq]at hlm;cases hlm),hfin⟩
      exact eq (v := .own k) hr2 (by simp only[St.add,hb2,qT,List.nil_append]) ⟨_,_,_,o1,rfl⟩
    ·cases h
   ·cases h
  ·cases h
 ·cases h
end
def qs4(f:FuncId):qx->Bool|.ext f'=>Nat.beq f' f|_=>false
def qht(f:FuncId):List cu->Option cu|[]=>none|e::es=>bif qs4 f e.key then some e else qht f es
def qsj{R:Type}(tb:Tb)(s:St)(o:Oper)(K:St->Option R):Option (Option R):=
 match o.op,o.dst with
 |.call { callee := .value g,args,argTypes:=_ },some tt=>match s.ev g,s.evs args.toList with
  |some (.fn (.func f) [] []),some xs=>match qht f tb.ents with
   |some e=>match Pts.get e.args (ml s.hp xs) [] with
    |some (d,nm)=>match nq s.hp e.hp nm with
     |some (d',nm')=>bif qdg nm'&&Nat.blt tt s.n then
       some ((e.F d d').bind fun r=>bif noRef (e.out.res r).1 then K { s with fr:=(tt,(e.out.res r).1)::s.fr } else none) else none
     |none=>none
    |none=>none
   |none=>none
  |_,_=>none
 |_,_=>none
def qsd{f:FuncId}:∀{es:List cu}{e:cu},qht f es=some e->e∈es/\e.key = .ext f
 |[],e,h=>by cases h
 |e'::es,e,h=>by
  unfold qht at h;cases hb:qs4 f e'.key<;>rw[hb]at h<;>simp only[qT,qF,qI]at h
  ·exact⟨qE _ (qsd h).1,(qsd h).2⟩
  ·subst h;refine⟨qH,?_⟩;unfold qs4 at hb;split at hb
   ·rename_i f' hk;rw[hk,qN hb]
   ·cases hb
section
variable{P:Program}{zw0:World}{zwv:Gh}{zwx:List (Nat×ag)}{G:Gh}{s:St}{a:Act}{w:World}{R:Type}{tb:Tb}
def zgw(hT:∀e∈tb.ents,e.Sound P)(hr:ah zw0 zwv zwx G s a w){o:Oper}{K:St->Option R}{r:Option R}{x:R}(h:qsj tb s o K=some r)(hx:r=some x){N:Act->World->Prop}(hN:∀s',K s'=some x->∀G' a' w',ah zw0 zwv zwx G' s' a' w'->N a' w'):ez P o a w N:=by
 obtain⟨dst,op,ty,pos,after,guard⟩:=o;unfold qsj at h;split at h
 ·rename_i g args ats tt e1 e2;simp only at e1 e2;subst e1 e2;split at h
  ·rename_i f xs hg hargs;split at h
   ·rename_i e he;split at h
    ·rename_i d nm hget;split at h
     ·rename_i d' nm' hbg;cases hb:qdg nm'&&Nat.blt tt s.n<;>rw[hb]at h<;>simp only[qT,qF,reduceCtorEq,qI]at h
      simp only[qA]at hb;have hn:=q6k hb.1;subst hn;rw[hx]at h;obtain⟨y,hy,h⟩:=Option.bind_eq_some_iff.1 h;cases hnr:noRef (e.out.res y).1<;>rw[hnr]at h<;>simp only[qT,qF,reduceCtorEq]at h
      obtain⟨hmem,hkey⟩:=qsd he;have hs:=hT e hmem d d' y hy;rw[hkey]at hs;have hs:qem P f (Pts.put e.args d) (e.out.res y).1:=hs;have hseen:=(Pts.get_seen hget).2 [] rfl (fun n m hh=>by have:=(uv hbg).1 n m hh;cases this)
      obtain⟨ps,k1,k2⟩:=qjv (vm (ps:=e.args) (d:=d)) hseen;obtain⟨z1,z2,z3,z4⟩:=qqv hr.fin;obtain⟨fs,cs,hge,hfs,hcs⟩:=a6 hr hg;have hfs0:fs=#[]:=Array.eq_empty_of_size_eq_zero (by have:=hfs.length;simpa using this.symm)
      have hcs0:cs=#[]:=Array.eq_empty_of_size_eq_zero (by have:=hcs.length;simpa using this.symm)
      subst hfs0 hcs0;have hreps:=io z1 (fun _=>z4) k1 k2 (u6 hr hargs)
      obtain⟨v,hv1,hv2⟩:=hs w _ _ z2 hreps;have hv3:ai (e.out.res y).1 G v:=qiy (G:=G.allData s.hp w) (G':=G) (fun _ _ q=>q) (fun _ _ q=>q) hnr hv2
      have hrun:(execOp a.eval ⟨some tt,.call { callee := .value g,args:=args,argTypes:=ats },ty,pos,after,guard⟩).run P w = .ok (.value v) w:=by
       have e3:(args.toList.map a.eval).toArray=args.map a.eval:=by rw[← Array.toArray_toList (xs:=args.map a.eval),Array.toList_map]
       try rw[e3]at hv1
       simp[execOp,resolve,hge,Deferred.ofValue,invoke,hv1]
      refine de oC ?_
      unfold Oper.wp;rw[hrun];have hb2:Nat.blt tt s.n=true:=hb.2;exact hN _ h _ _ _ (eq (v:=(e.out.res y).1) hr (by simp only[St.add,hb2,qT,List.nil_append]) hv3)
     ·cases h
    ·cases h
   ·cases h
  ·cases h
 ·cases h
end
def qut(P:Program)(t:TypeId):Option Ty:=match P.underlying t with
 |some (.int k)=>match k with|.u8=>some .byte|k=>some (.int k)
 |some .bool=>some .bool|some .string=>some .str|_=>none
def Ty.zero1:(τ:Ty)->Option τ.den|.int _=>some (0:Int)|.byte=>some (0:UInt8)|.bool=>some false|.str=>some ([]:List UInt8)|_=>none
def oq:Ty->AV->Bool
 |.int k,x=>match x with|.int k' n=>decide (k'=k)&&decide (n=0)|_=>false
 |.byte,x=>match x with|.byte c=>decide (c=0)|_=>false
 |.bool,x=>match x with|.bool b => !b|_=>false
 |.str,x=>match x with|.str s=>s.isEmpty|_=>false
 |_,_=>false
def ph(τ:Ty):List AV->Bool|[]=>true|x::xs=>oq τ x&&ph τ xs
def Ty.is1:Ty->Bool|.int _=>true|.byte=>true|.bool=>true|.str=>true|_=>false
def rf(P:Program)(T:TypeId):Bool:=match P.underlying T with|some (.array n _)=>Nat.blt 32 n|_=>false
def qq3(P:Program)(s:St)(o:Oper):Option (Bool×St):=
 match o.op,o.dst with
 |.alloc T,some t=>match P.underlying T with
  |some (.array n E)=>bif Nat.blt 32 n then
    match qut P E,tf P T with
    |some τ,some zs=>match τ.zero1 with
     |some z=>bif Nat.beq zs.length n&&ph τ zs&&Nat.ble n 65536&&AV.ones zs&&au (s.nx+32*t) s.hp&&Nat.blt t s.n then
       some (true,{ s with fr:=(t,.oel (s.nx+32*t) 1 0 0)::s.fr,hp:=(s.nx+32*t,.row τ (List.replicate n z) T)::s.hp }) else none
     |none=>none
    |_,_=>none
   else none
  |_=>none
 |.load T x,some t=>bif rf P T then match s.ev x with
  |some (.oel k sz 0 0)=>match ae s.hp k,tc P T,c8 P T with|some (.row τ l _),some true,some n=>bif τ.is1&&Nat.beq sz 1&&Nat.blt t s.n then some (decide (l.length=n),{ s with fr:=(t,.arr τ l)::s.fr }) else none|_,_,_=>none
  |_=>none else none
 |.store T x y,none=>bif rf P T then match s.ev x,s.ev y with
  |some (.oel k sz 0 0),some (.arr τ l)=>match ae s.hp k,c8 P T with|some (.row τ0 l0 E0),some n=>bif τ.is1&&τ0.is1&&Nat.beq sz 1 then some (decide (l.length=l0.length)&&decide (l.length=n),{ s with hp:=(k,.row τ l E0)::s.hp }) else none|_,_=>none
  |_,_=>none else none
 |.indexAddr T x i,some t=>bif rf P T then match P.underlying T with
  |some (.array n E)=>match s.ev x,c8 P E with
   |some (.oel k sz 0 0),some 1=>bif Nat.beq sz 1&&Nat.blt t s.n then
     match s.evy i with|some (.int _ j)=>some (decide (0<=j)&&decide (j<n),{ s with fr:=(t,.oel k 1 j.toNat 0)::s.fr })|some (.byte c)=>some (Nat.ble 256 n||decide (c.toNat<n),{ s with fr:=(t,.oel k 1 c.toNat 0)::s.fr })|_=>none
    else none
   |_,_=>none
  |_=>none else none
 |_,_=>none
def yy{τ:Ty}(h:τ.is1=true):τ.sz=1:=by cases τ<;>first|rfl|cases h
def qw3{τ:Ty}{z:τ.den}(h:τ.zero1=some z):τ.is1=true:=by cases τ<;>first|rfl|cases h
def zwq{τ:Ty}{x:AV}{z:τ.den}{G:Gh}{v:Value}(h:oq τ x=true)(hz:τ.zero1=some z)(hr:ai x G v):aj (τ.enc z) G [v]:=by
 cases τ with
 |int k=>
  cases x<;>simp only[oq,wJ,qA,decide_eq_true_eq]at h
  obtain⟨rfl,rfl⟩:=h;cases hz;exact⟨hr,trivial⟩
 |byte=>
  cases x<;>simp[oq,wJ,decide_eq_true_eq]at h
  subst h;cases hz;exact⟨hr,trivial⟩
 |bool=>
  cases x with
  |bool b=>
   cases b
   ·cases hz;exact⟨hr,trivial⟩
   ·cases h
  |_=>cases h
 |str=>
  cases x with
  |str l=>
   cases l
   ·cases hz;exact⟨hr,trivial⟩
   ·cases h
  |_=>cases h
 |_=>cases hz
def q2l{τ:Ty}{z:τ.den}{G:Gh}(hz:τ.zero1=some z):∀{zs:List AV}{vs:List Value},ph τ zs=true->aj zs G vs->aj ((List.replicate zs.length z).flatMap τ.enc) G vs
 |[],[],_,_=>trivial|x::zs,v::vs,h,hr=>by
  simp[ph,qA]at h;rw[qL,List.replicate_succ,List.flatMap_cons];exact s8 (vs:=[v]) (zwq h.1 hz hr.1) (q2l hz h.2 hr.2)
 |[],_::_,_,h=>h.elim|_::_,[],_,h=>h.elim
def zgn{τ:Ty}(h:τ.is1=true)(x:τ.den):τ.enc x=[τ.av x]:=by cases τ<;>first|rfl|cases h
def q2w{τ:Ty}(h:τ.is1=true){x:τ.den}{G:Gh}{v:Value}:ai (τ.av x) G v↔τ.V1 G.imm x v:=by cases τ<;>first|exact Iff.rfl|cases h
def qh6{τ:Ty}(h:τ.is1=true):∀(l:List τ.den),l.flatMap τ.enc=l.map τ.av|[]=>rfl|x::l=>by rw[List.flatMap_cons,zgn h,qh6 h l];rfl
def zec{τ:Ty}(h:τ.is1=true){l:List τ.den}{G:Gh}{v:Value}(hv:ai (.arr τ l) G v):∃vs:Array Value,v = .agg vs/\aj (l.flatMap τ.enc) G.data vs.toList:=by
 obtain⟨vs,rfl,h1,h2⟩:=hv;refine⟨vs,rfl,?_⟩;rw[qh6 h];have:∀(l:List τ.den)(us:List Value),us.length=l.length->(∀(j:Nat)(x:τ.den),l[j]? = some x->∃u,us[j]? = some u/\τ.V1 G.imm x u)->aj (l.map τ.av) G.data us:=by
  intro l
  induction l with
  |nil=>intro us hl _;rw[List.eq_nil_of_length_eq_zero hl];trivial|cons x l ih=>
   intro us hl hu
   cases us with
   |nil=>cases hl
   |cons u us=>
    refine⟨?_,ih us (by simpa using hl) (fun j y hy=>hu (j+1) y (by simpa using hy))⟩
    obtain⟨u',e,k⟩:=hu 0 x rfl;simp at e;subst e;exact(q2w h (G:=G.data)).2 k
 exact this l vs.toList (by simpa using h1) (fun j x hx=>by obtain⟨u,k1,k2⟩:=h2 j x hx;exact⟨u,by simpa using k1,k2⟩)
def qt0{τ:Ty}(h:τ.is1=true){l:List τ.den}{G:Gh}{vs:List Value}(hv:aj (l.flatMap τ.enc) G.data vs):ai (.arr τ l) G (.agg vs.toArray):=by
 rw[qh6 h]at hv;refine⟨vs.toArray,rfl,by simpa using hv.length.symm,fun j x hx => ?_⟩
 obtain⟨u,k1,k2⟩:=gw hv (i:=j) (x:=τ.av x) (by simp[hx])
 exact⟨u,by simpa using k1,(q2w h (G:=G.data)).1 k2⟩
section
variable{P:Program}{zw0:World}{zwv:Gh}{zwx:List (Nat×ag)}{G:Gh}{s:St}{a:Act}{w:World}
def zeb(hr:ah zw0 zwv zwx G s a w){o:Oper}{s':St}(h:qq3 P s o=some (true,s')){N:Act->World->Prop}(hN:∀G' a' w',ah zw0 zwv zwx G' s' a' w'->N a' w'):ez P o a w N:=by
 obtain⟨dst,op,ty,pos,after,guard⟩:=o;unfold qq3 at h;split at h
 ·rename_i T t e1 e2;simp only at e1 e2;subst e1 e2;split at h
  ·rename_i n E hu;cases hn:Nat.blt 32 n<;>rw[hn]at h<;>simp only[qT,qF,reduceCtorEq]at h
   split at h
   ·rename_i τ zs hτ hzs;split at h
    ·rename_i z hz;cases hb:Nat.beq zs.length n&&ph τ zs&&Nat.ble n 65536&&AV.ones zs&&au (s.nx+32*t) s.hp&&Nat.blt t s.n<;>rw[hb]at h<;>simp only[qT,qF,reduceCtorEq,qI,qP,true_and]at h
     subst h;simp only[qA]at hb;obtain⟨⟨⟨⟨⟨b1,b2⟩,b3⟩,b4⟩,b5⟩,b6⟩:=hb;have b1:=qN b1;have b3:n<=65536:=Nat.le_of_ble_eq_true b3;have hsz:τ.sz=1:=yy (qw3 hz);obtain⟨Z,hz1,hz2⟩:=qjg (P:=P) hzs w G.data;have ac:Z.cells.toList.length=n:=by rw[← hz2.length,b1]
     have hreps:=q2l hz b2 hz2;rw[b1]at hreps;have hone:=lh hz2 b4;have hrun:(execOp a.eval ⟨some t,.alloc T,ty,pos,after,guard⟩).run P w = .ok (.value (.pointer (some ⟨w.heap.size,0,none⟩))) (w.alloc (.cells Z.cells T)):=by
      simp[execOp,Instr.alloc,hz1,newVar,newRow]
     refine de oC ?_
     unfold Oper.wp;rw[hrun];have hrow:d8 (w.alloc (.cells Z.cells T)) T τ.sz (some ⟨w.heap.size,0,none⟩) (List.replicate n z).length n Z.cells.toList:=by
      refine⟨by rw[hsz,ac];simp,.inr ⟨w.heap.size,Z.cells,(0,0),rfl,mj _ _,.inl rfl,oC,?_,?_,?_,hone⟩⟩
      ·exact Nat.le_trans b3 oE
      ·rw[hsz,← ac];simp
      ·rw[List.take_of_length_le];rw[hsz,ac];simp
     obtain⟨G',hG⟩:=q75 (t:=t) (v := .oel (s.nx+32*t) 1 0 0) (u := .pointer (some ⟨w.heap.size,0,none⟩)) (s':={ s with fr:=(t,.oel (s.nx+32*t) 1 0 0)::s.fr,hp:=(s.nx+32*t,.row τ (List.replicate n z) T)::s.hp }) hr b5 (qdt _ _) hrow hreps
      (fun b hb=>by injection hb with hb;subst hb;exact wF _) (fun G' hG'=>⟨w.heap.size,_,n,hG',oC⟩)
      (by have hb2:Nat.blt t s.n=true:=b6;simp only[St.add,hb2,qT];rfl)
     exact hN _ _ _ hG
    ·cases h
   ·cases h
  ·cases h
 ·rename_i T x t e1 e2;simp only at e1 e2;subst e1 e2;cases hbig:rf P T<;>rw[hbig]at h<;>simp only[qT,qF,reduceCtorEq]at h
  split at h
  ·rename_i k sz hx;split at h
   ·rename_i τ l E n hl hagg hn;cases hb:τ.is1&&Nat.beq sz 1&&Nat.blt t s.n<;>rw[hb]at h<;>simp only[qT,qF,reduceCtorEq,qI,qP,decide_eq_true_eq]at h
    obtain⟨ac,rfl⟩:=h;simp only[qA]at hb;obtain⟨⟨b1,b2⟩,b3⟩:=hb;have hsz:τ.sz=1:=yy b1;obtain⟨B,n0,c0,ho,hxe⟩:=a6 hr hx;obtain⟨ad,c',h1,h3⟩:=hr.fin.mem.holds _ _ hl;rw[ho]at h1;simp only[qI,qP]at h1;obtain⟨rfl,rfl,rfl⟩:=h1;rcases h3 with⟨h3,_⟩|⟨g,vs,fz,k1,k2,k3,k4,k5,k6,k7,k8,k9⟩
    ·cases h3
    ·simp only[qI,Addr.mk.injEq,and_true]at k1;subst k1;have hfl:(l.flatMap τ.enc).length=n:=by rw[jw,hsz,ac,Nat.mul_one]
     have hload:jp P T (l.flatMap τ.enc) 0=some (.agg (l.flatMap τ.enc)):=by
      unfold jp;rw[hagg,hn];have:Nat.ble (0+n) (l.flatMap τ.enc).length=true:=by rw[hfl,wO];simp
      simp only[this,qT,List.drop_zero];rw[List.take_of_length_le (by rw[hfl];exact wF _)]
     obtain⟨u,hu,us,rfl,hru⟩:=v7 (P:=P) (w:=w) hload (B:=B) (o:=0) k7 (fun j u hu=>by
      rw[List.getElem?_take]at hu;split at hu
      ·rw[wO];exact cell_of_heap k2 hu
      ·cases hu)
     have hrun:(execOp a.eval ⟨some t,.load T x,ty,pos,after,guard⟩).run P w = .ok (.value (.agg us)) w:=by
      simp only[Nat.add_zero]at hu;simp[execOp,hxe,Instr.loadAt,Instr.sureAddr,hu]
     refine de oC ?_
     unfold Oper.wp;rw[hrun];have hb2:Nat.blt t s.n=true:=b3;have:=qt0 (G:=G) b1 hru;exact hN _ _ _ (eq (v := .arr τ l) hr (by simp only[St.add,hb2,qT,List.nil_append]) (by simpa using this))
   ·cases h
  ·cases h
 ·rename_i T x y e1 e2;simp only at e1 e2;subst e1 e2;cases hbig:rf P T<;>rw[hbig]at h<;>simp only[qT,qF,reduceCtorEq]at h
  split at h
  ·rename_i k sz τ l hx hy;split at h
   ·rename_i τ0 l0 E0 n hl hn;cases hb:τ.is1&&τ0.is1&&Nat.beq sz 1<;>rw[hb]at h<;>simp only[qT,qF,reduceCtorEq,qI,qP,qA,decide_eq_true_eq]at h
    obtain⟨⟨ac,hlen2⟩,rfl⟩:=h;simp only[qA]at hb;obtain⟨⟨b1,b2⟩,b3⟩:=hb;have hsz:τ.sz=1:=yy b1;have hsz0:τ0.sz=1:=yy b2;obtain⟨B,n0,c0,ho0,hxe⟩:=a6 hr hx;obtain⟨us,hye,hus⟩:=zec b1 (a6 hr hy);obtain⟨ad,c,h1,h3⟩:=hr.fin.mem.holds _ _ hl;rw[ho0]at h1;simp only[qI,qP]at h1;obtain⟨rfl,rfl,rfl⟩:=h1;rcases h3 with⟨h3,_⟩|⟨g,vs,fz,k1,k2,k3,k4,k5,k6,k7,k8,k9⟩
    ·cases h3
    ·simp only[qI,Addr.mk.injEq,and_true]at k1;subst k1;have hul:us.toList.length=n:=by rw[← hus.length,jw,hsz,hlen2,Nat.mul_one]
     have hones:∀v∈us.toList,v.oneCell'=true:=lh hus (by
      rw[qh6 b1];have:∀l:List τ.den,AV.ones (l.map τ.av)=true:=by
       intro l
       induction l with
       |nil=>rfl|cons x l ih=>
        simp only[List.map_cons,AV.ones,ih,Bool.and_true];cases τ<;>first|rfl|cases b1
      exact this l)
     have hle:l0.length<=vs.size:=by rw[k6,hsz0,Nat.mul_one];exact k4
     obtain⟨w',cur',m1,m2,m3,m4⟩:=zd (P:=P) B 0 E0 fz us.toList 0 vs w k2 oA k3 hones
     have hrun:(execOp a.eval ⟨none,.store T x y,ty,pos,after,guard⟩).run P w = .ok .skip w':=by
      have hul':us.size=n:=by simpa using hul
      simp[execOp,Instr.storeAt,hxe,hye,Instr.sureAddr,storeVar,ep hn,Value.cells,hul',m1]
     refine de oC ?_
     unfold Oper.wp;rw[hrun];have hcs:cur'.size=vs.size:=by rw[← Array.length_toList,m3,zi,Array.length_toList]
     refine hN G _ _ ⟨hr.defers,hr.size,hr.frame,fun m hm hlm=>hr.fresh m hm ?_,?_⟩
     ·simp only[ae]at hlm;cases hbq:Nat.beq k m
      ·rw[hbq]at hlm;exact hlm
      ·rw[hbq]at hlm;cases hlm
     ·refine hr.fin.update (bx' := .row τ l E0) hl (B:=B) (by simp[Gh.at,ho0]) (by simp[Gh.at,ho0]) m4 ⟨some ⟨B,0,none⟩,c0,by rw[ac];exact ho0,.inr ⟨B,cur',fz,rfl,m2,by rw[hcs];exact k3,by rw[ac];exact k4,k5,by rw[hcs,hsz,← hsz0];exact k6,?_,?_,k9⟩⟩ k9
      ·rw[m3,hsz,Nat.mul_one,Nat.add_zero];have:=quw us.toList vs.toList 0 (by simp only[Array.length_toList]at hul ⊢;omega)
       rw[wO,List.take_zero,List.nil_append]at this;rw[hlen2,← hul,this];exact hus
      ·intro u hu;rw[m3]at hu;rcases zj _ _ _ _ hu with hu|hu
       ·exact k8 u hu
       ·exact hones u hu
   ·cases h
  ·cases h
 ·rename_i T x i t e1 e2;simp only at e1 e2;subst e1 e2;cases hbig:rf P T<;>rw[hbig]at h<;>simp only[qT,qF,reduceCtorEq]at h
  split at h
  ·rename_i n E hu;split at h
   ·rename_i k sz hx hsz;cases hb:Nat.beq sz 1&&Nat.blt t s.n<;>rw[hb]at h<;>simp only[qT,qF,reduceCtorEq]at h
    simp only[qA]at hb;have b1:=qN hb.1;subst b1;obtain⟨B,n0,c0,ho,hxe⟩:=a6 hr hx;have hb2:Nat.blt t s.n=true:=hb.2;have key:∀(j:Nat)(kk:IntKind),a.eval i = .int kk (j:Int)->j<n->s'={ s with fr:=(t,.oel k 1 j 0)::s.fr }->ez P ⟨some t,.indexAddr T x i,ty,pos,after,guard⟩ a w N:=by
     intro j kk hi hj hs';have hrun:(execOp a.eval ⟨some t,.indexAddr T x i,ty,pos,after,guard⟩).run P w = .ok (.value (.pointer (some ⟨B,j,none⟩))) w:=by
      simp[execOp,hxe,hi,Instr.indexAt,asIntOf,bc hu,ep hsz,iu,Instr.sureAddr,hj]
     refine de oC ?_
     unfold Oper.wp;rw[hrun];subst hs';exact hN _ _ _ (eq (v := .oel k 1 j 0) hr (by simp[St.add,hb2,qT,List.nil_append]) ⟨B,n0,c0,ho,oC⟩)
    split at h
    ·rename_i kk j hi;simp at h;obtain⟨⟨h1,h2⟩,h3⟩:=h;have hie:a.eval i = .int kk j:=gp hr hi;exact key j.toNat kk (by rw[Int.toNat_of_nonneg h1];exact hie) oA h3.symm
    ·rename_i c hi;simp only[qI,qP,Bool.or_eq_true,decide_eq_true_eq]at h;obtain⟨h1,h3⟩:=h;have hie:a.eval i = .int .u8 c.toNat:=gp hr hi;have hlt:c.toNat<n:=by
      rcases h1 with h1|h1
      ·have:=Nat.le_of_ble_eq_true h1;have:=c.toNat_lt;omega
      ·exact h1
     exact key c.toNat .u8 hie hlt h3.symm
    ·cases h
   ·cases h
  ·cases h
 ·cases h
end
def qtm:TypeDesc->Bool|.interface _=>false|_=>true
def qth(P:Program)(s:St)(o:Oper):Option (Bool×St):=
 match o.op,o.dst with
 |.makeInterface T x,some tt=>match s.ev x,P.underlying T with|some v,some d=>bif qtm d&&Nat.blt tt s.n then some (true,{ s with fr:=(tt,.iface T v)::s.fr }) else none|_,_=>none
 |.build T parts,some tt=>bif rf P T then match parts.toList with
  |[]=>match P.underlying T with
   |some (.array n E)=>match qut P E,xu P s T [] with
    |some τ,some ([],.agg zs)=>match τ.zero1 with|some z=>bif Nat.beq zs.length n&&ph τ zs&&Nat.blt tt s.n then some (true,{ s with fr:=(tt,.arr τ (List.replicate n z))::s.fr }) else none|none=>none
    |_,_=>none
   |_=>none
  |_=>none else none
 |.binOp op t x y _,some tt=>match s.ev y,P.underlying t with
  | some (.val (.slice none 0 0)),some (.slice _)=>bif Nat.blt tt s.n then(match s.ev x,op with
   |some (.own k),.eql=>match ae s.hp k with|some (.row _ l _)=>some (decide (0<l.length),{ s with fr:=(tt,.val (.bool false))::s.fr })|_=>none
   |some (.own k),.neq=>match ae s.hp k with|some (.row _ l _)=>some (decide (0<l.length),{ s with fr:=(tt,.val (.bool true))::s.fr })|_=>none
   |some (.val (.slice none 0 0)),.eql=>some (true,{ s with fr:=(tt,.val (.bool true))::s.fr })|some (.val (.slice none 0 0)),.neq=>some (true,{ s with fr:=(tt,.val (.bool false))::s.fr })| _,_=>none) else none
  |_,_=>none
 |_,_=>none
def zca{τ:Ty}{x:AV}{z:τ.den}{G G':Gh}{v:Value}(h:oq τ x=true)(hz:τ.zero1=some z)(hr:ai x G v):aj (τ.enc z) G' [v]:=by
 cases τ with
 |int k=>
  cases x<;>simp only[oq,wJ,qA,decide_eq_true_eq]at h
  obtain⟨rfl,rfl⟩:=h;cases hz;exact⟨hr,trivial⟩
 |byte=>
  cases x<;>simp only[oq,wJ,decide_eq_true_eq]at h
  subst h;cases hz;exact⟨hr,trivial⟩
 |bool=>
  cases x with
  |bool b=>
   cases b
   ·cases hz;exact⟨hr,trivial⟩
   ·cases h
  |_=>cases h
 |str=>
  cases x with
  |str l=>
   cases l
   ·cases hz;exact⟨hr,trivial⟩
   ·cases h
  |_=>cases h
 |_=>cases hz
def q2k{τ:Ty}{z:τ.den}{G G':Gh}(hz:τ.zero1=some z):∀{zs:List AV}{vs:List Value},ph τ zs=true->aj zs G vs->aj ((List.replicate zs.length z).flatMap τ.enc) G' vs
 |[],[],_,_=>trivial|x::zs,v::vs,h,hr=>by
  simp only[ph,qA]at h;rw[qL,List.replicate_succ,List.flatMap_cons];exact s8 (vs:=[v]) (zca h.1 hz hr.1) (q2k hz h.2 hr.2)
 |[],_::_,_,h=>h.elim|_::_,[],_,h=>h.elim
section
variable{P:Program}{zw0:World}{zwv:Gh}{zwx:List (Nat×ag)}{G:Gh}{s:St}{a:Act}{w:World}
def zki{P:Program}{t E:TypeId}(hu:P.underlying t=some (.slice E))(d:Nat)(x:Option Addr)(n c:Nat)(w:World)(h:x=none->n=0/\c=0) :
  (Op.equalIn (d+1) t (.slice x n c) (.slice none 0 0)).run P w = .ok x.isNone w:=by
 cases x with
 |none=>obtain⟨rfl,rfl⟩:=h rfl;simp[Op.equalIn,bc hu]
 |some a=>simp[Op.equalIn,bc hu]
def zkh{P:Program}{t E:TypeId}(hu:P.underlying t=some (.slice E))(x:Option Addr)(n c:Nat)(w:World)(h:x=none->n=0/\c=0) :
  (Op.equal t (.slice x n c) (.slice none 0 0)).run P w = .ok x.isNone w:=zki hu 9999 x n c w h
def zin(hr:ah zw0 zwv zwx G s a w){o:Oper}{s':St}(h:qth P s o=some (true,s')){N:Act->World->Prop}(hN:∀G' a' w',ah zw0 zwv zwx G' s' a' w'->N a' w'):ez P o a w N:=by
 obtain⟨dst,op,ty,pos,after,guard⟩:=o;unfold qth at h;split at h
 ·rename_i T x tt e1 e2;simp only at e1 e2;subst e1 e2;split at h
  ·rename_i v d hx hu;cases hb:qtm d&&Nat.blt tt s.n<;>rw[hb]at h<;>simp only[qT,qF,reduceCtorEq,qI,qP,true_and]at h
   subst h;simp only[qA]at hb;refine de oC ?_
   unfold Oper.wp;have hrun:(execOp a.eval ⟨some tt,.makeInterface T x,ty,pos,after,guard⟩).run P w = .ok (.value (.iface T (a.eval x))) w:=by
    have h1:=hb.1;cases d<;>simp only[qtm,wJ]at h1<;>simp[execOp,Instr.makeInterface,bc hu]
   rw[hrun];exact hN G _ _ (eq (v := .iface T v) hr oO ⟨_,rfl,a6 hr hx⟩)
  ·cases h
 ·rename_i T parts tt e1 e2;simp only at e1 e2;subst e1 e2;cases hbig:rf P T<;>rw[hbig]at h<;>simp only[qT,qF,reduceCtorEq]at h
  split at h
  ·rename_i hp;split at h
   ·rename_i n E hu;split at h
    ·rename_i τ zs hτ hbu;split at h
     ·rename_i z hz;cases hb:Nat.beq zs.length n&&ph τ zs&&Nat.blt tt s.n<;>rw[hb]at h<;>simp only[qT,qF,reduceCtorEq,qI,qP,true_and]at h
      subst h;simp only[qA]at hb;have b1:=qN hb.1.1;rw[← hp]at hbu;obtain⟨u,hu1,us,rfl,hu3⟩:=q15 hr hbu;refine de oC ?_
      unfold Oper.wp;have hrun:(execOp a.eval ⟨some tt,.build T parts,ty,pos,after,guard⟩).run P w = .ok (.value (.agg us)) w:=by
       simp only[execOp,Sem.run_bind,hu1,Result.andThen_ok];rfl
      rw[hrun];have hrep:=q2k (G':=G.data) hz hb.1.2 hu3;rw[b1]at hrep;have:=qt0 (qw3 hz) (G:=G) hrep;exact hN G _ _ (eq (v := .arr τ (List.replicate n z)) hr oO this)
     ·cases h
    ·cases h
   ·cases h
  ·cases h
 ·rename_i op t x y p tt e1 e2;simp only at e1 e2;subst e1 e2;split at h
  ·rename_i E hy hu;cases hb:Nat.blt tt s.n<;>rw[hb]at h<;>simp only[qT,qF,reduceCtorEq]at h
   have hye:a.eval y = .slice none 0 0:=a6 hr hy;have go:∀(op:BinOp)(q:Bool)(ad:Option Addr)(n c:Nat),a.eval x = .slice ad n c->(ad=none->n=0/\c=0)->(op = .eql/\q=ad.isNone\/op = .neq/\q = !ad.isNone) ->
     s'={ s with fr:=(tt,.val (.bool q))::s.fr }->ez P ⟨some tt,.binOp op t x y p,ty,pos,after,guard⟩ a w N:=by
    intro op q ad n c hxe hnil hq hs';subst hs';refine de oC ?_
    unfold Oper.wp;have hq':=zkh (P:=P) hu ad n c w hnil;have hrun:(execOp a.eval ⟨some tt,.binOp op t x y p,ty,pos,after,guard⟩).run P w = .ok (.value (.bool q)) w:=by
     rcases hq with⟨rfl,rfl⟩|⟨rfl,rfl⟩<;>simp[execOp,hxe,hye,eqGuard,binOp,hq']
    rw[hrun];exact hN G _ _ (eq (v := .val (.bool q)) hr (by simp only[St.add,hb,qT,List.nil_append]) rfl)
   have owned:∀{k:Nat}{τ:Ty}{l:List τ.den}{E:TypeId},s.ev x=some (.own k)->ae s.hp k=some (.row τ l E)->0<l.length->∃ad n c,a.eval x = .slice (some ad) n c:=by
    intro k τ l E hx hl hpos;obtain⟨ad0,n0,c0,o1,hxe⟩:=a6 hr hx;obtain⟨ad,c',q1,q2⟩:=hr.fin.mem.holds _ _ hl;rw[o1]at q1;simp only[qI,qP]at q1;obtain⟨rfl,rfl,rfl⟩:=q1;rcases q2 with⟨_,q,_⟩|⟨g,vs,fz,rfl,_⟩
    ·subst q;simp at hpos
    ·exact⟨_,_,_,hxe⟩
   split at h
   ·rename_i k hx;split at h
    ·rename_i hl;simp only[qI,qP,decide_eq_true_eq]at h;obtain⟨ad,n,c,he⟩:=owned hx hl h.1;exact go _ false _ _ _ he (fun q=>by cases q) (.inl ⟨rfl,rfl⟩) h.2.symm
    ·cases h
   ·rename_i k hx;split at h
    ·rename_i hl;simp only[qI,qP,decide_eq_true_eq]at h;obtain⟨ad,n,c,he⟩:=owned hx hl h.1;exact go _ true _ _ _ he (fun q=>by cases q) (.inr ⟨rfl,rfl⟩) h.2.symm
    ·cases h
   ·rename_i hx;simp only[qI,qP,true_and]at h;exact go _ true _ _ _ (a6 hr hx) (fun _=>⟨rfl,rfl⟩) (.inl ⟨rfl,rfl⟩) h.symm
   ·rename_i hx;simp only[qI,qP,true_and]at h;exact go _ false _ _ _ (a6 hr hx) (fun _=>⟨rfl,rfl⟩) (.inr ⟨rfl,rfl⟩) h.symm
   ·cases h
  ·cases h
 ·cases h
end
def bz(s:List UInt8)(p:Nat):Nat×Nat:=Utf8.decode ⟨s.toArray⟩ p
def qsz{R:Type}(P:Program)(s:St)(o:Oper)(K:St->Option R):Option (Option R):=
 match o.op,o.dst with
 |.range T x,some t=>match P.underlying T,s.ev x with
  |some .string,some (.str l)=>bif au (s.nx+32*t) s.hp&&Nat.blt t s.n then
    some (K { s with fr:=(t,.ptr (s.nx+32*t) 0)::s.fr,hp:=(s.nx+32*t,.it l 0)::s.hp }) else none
  |_,_=>none
 |.next x true,some t=>match s.ev x with
  |some (.ptr b 0)=>match ae s.hp b with
   |some (.it l p)=>bif Nat.blt t s.n then
     some (bif Nat.blt p l.length then K { s with fr:=(t,.tup [.val (.bool true),.int .i64 p,.int .i32 (bz l p).1])::s.fr,hp:=(b,.it l (p+(bz l p).2))::s.hp }
      else K { s with fr:=(t,.tup [.val (.bool false)])::s.fr }) else none
   |_=>none
  |_=>none
 |.convert src dst x,some t=>match P.underlying src,P.underlying dst,s.evy x with|some _,some .string,some (.int _ n)=>bif Nat.blt t s.n then some (K { s with fr:=(t,.str (ib n))::s.fr }) else none|_,_,_=>none
 |_,_=>none
section
variable{P:Program}{zw0:World}{zwv:Gh}{zwx:List (Nat×ag)}{G:Gh}{s:St}{a:Act}{w:World}
def zex(w:World)(B:Nat)(o:Obj):bm (fun b=>b=B) w (w.putObj B o):=
 ⟨rfl,rfl,rfl,oC,fun k _ hne=>World.putObj_heap_other hne⟩
def ah.setBox(hr:ah zw0 zwv zwx G s a w){n:Nat}{bx bx':ag}{B:Nat}(hn:ae s.hp n=some bx)(hB:G.at n bx=some B)(hB':∀c,G.at n bx'=some c->c=B){o:Obj}
  (hok:ck G (w.putObj B o) n bx') (hi:∀o,G.imm B o=none):ah zw0 zwv zwx G { s with hp:=(n,bx')::s.hp } a (w.putObj B o):=
 ⟨hr.defers,hr.size,hr.frame,fun m hm hl=>hr.fresh m hm (by
  simp only[ae]at hl;cases hb:Nat.beq n m
  ·rw[hb]at hl;exact hl
  ·rw[hb]at hl;cases hl),hr.fin.update' hn hB hB' (zex w B o) hok hi⟩
def Gh.addBox(G:Gh)(k:Nat)(B:Nat):Gh:={ imm:=G.imm,box:=fun m=>bif Nat.beq m k then some B else G.box m,own:=G.own }
def Gh.addBox_le{k B:Nat}(h:G.box k=none):G.le (G.addBox k B):=
 ⟨fun _ _ _ h=>h,fun n B' hn=>by
  show(bif Nat.beq n k then some B else G.box n)=_
  cases hb:Nat.beq n k
  ·exact hn
  ·(have:=qN hb;subst this;rw[h]at hn;cases hn),fun _ _ h=>h⟩
def Gh.addBox_self{k B:Nat}:(G.addBox k B).box k=some B:=by show(bif Nat.beq k k then some B else G.box k)=_;simp
def Gh.addBox_ne{k B m:Nat}(h:m≠k):(G.addBox k B).box m=G.box m:=by
 show(bif Nat.beq m k then some B else G.box m)=_
 cases hb:Nat.beq m k
 ·rfl
 ·exact absurd (qN hb) h
def ah.newBox(hr:ah zw0 zwv zwx G s a w){k:Nat}{bx:ag}{o:Obj}(hk:ae s.hp k=none)(hkx:s.nx<=k)(hat:∀b,(G.addBox k w.heap.size).at k bx=some b->b=w.heap.size)
  (hok:ck (G.addBox k w.heap.size) (w.alloc o) k bx):ah zw0 zwv zwx (G.addBox k w.heap.size) { s with hp:=(k,bx)::s.hp } a (w.alloc o):=by
 obtain⟨hkb,hko⟩:=hr.fresh k hkx hk;have hle:G.le (G.addBox k w.heap.size):=Gh.addBox_le hkb;have hl1:∀n b,ae [(k,bx)] n=some b->n=k/\b=bx:=fun n b h=>by
  simp only[ae]at h;cases hb:Nat.beq k n
  ·rw[hb]at h;cases h
  ·rw[hb]at h;simp only[qT,qI]at h;exact⟨(qN hb).symm,h.symm⟩
 have hlt:∀b o v,G.imm b o=some v->b<w.heap.size:=fun b o v h=>World.block_lt_of_cell? _ _ (hr.fin.mem.agree _ _ _ h)
 refine⟨by obtain⟨bs,h1,h2⟩:=hr.defers;exact⟨bs,h1,nw hle.box h2⟩,hr.size,fun i x hx=>by obtain⟨v,h1,h2⟩:=hr.frame i x hx;exact⟨v,h1,h2.le hle⟩,fun m hm hl => ?_,?_⟩
 ·simp only[ae]at hl;cases hb:Nat.beq k m
  ·rw[hb]at hl;obtain⟨h1,h2⟩:=hr.fresh m hm hl;exact⟨by rw[Gh.addBox_ne (fun e=>by subst e;simp at hb)];exact h1,h2⟩
  ·rw[hb]at hl;cases hl
 ·refine hr.fin.extend (new:=[(k,bx)]) hle (qdt _ _) (fun _ _ _ h => .inl h) (fun b o v h => ?_) hr.fin.mem.one ?_ ?_ ?_
  ·rw[World.cell?_alloc_lt _ _ _ (hlt b o v h)];exact hr.fin.mem.agree _ _ _ h
  ·intro n b h;obtain⟨rfl,_⟩:=hl1 n b h;exact hk
  ·intro n b h;obtain⟨rfl,rfl⟩:=hl1 n b h;exact⟨hok,fun b hb=>by rw[hat b hb];exact wF _⟩
  ·intro n m b b' c h1 h2 _ _;obtain⟨rfl,_⟩:=hl1 n b h1;obtain⟨rfl,_⟩:=hl1 m b' h2;rfl
def fj(l:List UInt8):(⟨l.toArray⟩:ByteArray).size=l.length:=by simp[ByteArray.size]
def zhu{R:Type}(hr:ah zw0 zwv zwx G s a w){o:Oper}{K:St->Option R}{r:Option R}{x:R}(h:qsz P s o K=some r)(hx:r=some x){N:Act->World->Prop}(hN:∀s',K s'=some x->∀G' a' w',ah zw0 zwv zwx G' s' a' w'->N a' w'):ez P o a w N:=by
 obtain⟨dst,op,ty,pos,after,guard⟩:=o;unfold qsz at h;split at h
 ·rename_i T y t e1 e2;simp only at e1 e2;subst e1 e2;split at h
  ·rename_i l hu hy;cases hb:au (s.nx+32*t) s.hp&&Nat.blt t s.n<;>rw[hb]at h<;>simp only[qT,qF,reduceCtorEq,qI]at h
   simp only[qA]at hb;subst h;have hk:=jc hb.1 _ (wF _) oA
   have he:a.eval y = .string ⟨l.toArray⟩:=a6 hr hy;refine de oC ?_
   unfold Oper.wp;have hrun:(execOp a.eval ⟨some t,.range T y,ty,pos,after,guard⟩).run P w = .ok (.value (.pointer (some ⟨w.heap.size,0,none⟩))) (w.iter ⟨l.toArray⟩ 0):=by
    simp[execOp,he,run_range_string w T ⟨l.toArray⟩ hu]
   rw[hrun];have hr1:=hr.newBox (k:=s.nx+32*t) (bx := .it l 0) (o := .stringIter ⟨l.toArray⟩ 0) hk oA (fun b hb=>by
    have hb:(G.addBox (s.nx+32*t) w.heap.size).box (s.nx+32*t)=some b:=hb;rw[Gh.addBox_self]at hb;injection hb with hb;exact hb.symm)
    ⟨w.heap.size,Gh.addBox_self,mj _ _,fun o=>by
     cases hq:(G.addBox (s.nx+32*t) w.heap.size).imm w.heap.size o with
     |none=>rfl|some v=>
      have:=World.block_lt_of_cell? _ _ (hr.fin.mem.agree _ _ _ hq);simp at this⟩
   exact hN _ hx _ _ _ (eq (v := .ptr (s.nx+32*t) 0) hr1 oO ⟨w.heap.size,Gh.addBox_self,rfl⟩)
  ·cases h
 ·rename_i y t e1 e2;simp only at e1 e2;subst e1 e2;split at h
  ·rename_i b hy;split at h
   ·rename_i l p hb;cases ht:Nat.blt t s.n<;>rw[ht]at h<;>simp only[qT,qF,reduceCtorEq,qI]at h
    subst h;obtain⟨B,hB,he⟩:=a6 hr hy;obtain⟨B',k1,k2,k3⟩:=hr.fin.mem.holds b _ hb;rw[hB]at k1;injection k1 with k1;subst k1
    refine de oC ?_
    unfold Oper.wp;cases hp:Nat.blt p l.length<;>rw[hp]at hx<;>simp only[qT,qF]at hx
    ·have hp':¬p<(⟨l.toArray⟩:ByteArray).size:=fun hlt=>by
      rw[fj]at hlt;have:Nat.blt p l.length=true:=Nat.ble_eq_true_of_le hlt;rw[hp]at this;cases this
     have hrun:(execOp a.eval ⟨some t,.next y true,ty,pos,after,guard⟩).run P w = .ok (.value (.tuple #[.bool false])) w:=by
      simp[execOp,he,Instr.next,getObj,Sem.run,k2,hp']
     rw[hrun];exact hN _ hx _ _ _ (eq (v := .tup [.val (.bool false)]) hr (by simp only[St.add,ht,qT,List.nil_append]) ⟨_,rfl,rfl,trivial⟩)
    ·have hp':p<(⟨l.toArray⟩:ByteArray).size:=by
      rw[fj];exact Nat.le_of_ble_eq_true hp
     have hlt:=(Array.getElem?_eq_some_iff.1 k2).1;have hrun:(execOp a.eval ⟨some t,.next y true,ty,pos,after,guard⟩).run P w = .ok (.value (.tuple #[.bool true,.int .i64 p,.int .i32 (bz l p).1])) (w.putObj B (.stringIter ⟨l.toArray⟩ (p+(bz l p).2))):=by
      simp[execOp,he,Instr.next,getObj,setObj,Sem.run,k2,hp',goInt,bz,World.putObj]
     rw[hrun];have hr1:=hr.setBox (bx' := .it l (p+(bz l p).2)) (o := .stringIter ⟨l.toArray⟩ (p+(bz l p).2)) hb (show G.at b (.it l p)=some B from hB) (fun c hc=>by
      have hc:G.box b=some c:=hc;rw[hB]at hc;exact(qJ hc).symm) ⟨B,hB,World.putObj_heap_same hlt,k3⟩ k3
     exact hN _ hx _ _ _ (eq (v := .tup [.val (.bool true),.int .i64 p,.int .i32 (bz l p).1]) hr1 (by simp only[St.add,ht,qT,List.nil_append]) ⟨_,rfl,rfl,rfl,rfl,trivial⟩)
   ·cases h
  ·cases h
 ·rename_i src d y t e1 e2;simp only at e1 e2;subst e1 e2;split at h
  ·rename_i ds k n hs hd hy;cases ht:Nat.blt t s.n<;>rw[ht]at h<;>simp only[qT,qF,reduceCtorEq,qI]at h
   subst h;have he:a.eval y = .int k n:=gp hr hy;refine de oC ?_
   unfold Oper.wp;have hrun:(execOp a.eval ⟨some t,.convert src d y,ty,pos,after,guard⟩).run P w = .ok (.value (.string ⟨(ib n).toArray⟩)) w:=by
    simp[execOp,he,convert,run_underlying hs,run_underlying hd,Conv.intToString,ib]
   rw[hrun];exact hN _ hx _ _ _ (eq (v := .str (ib n)) hr (by simp only[St.add,ht,qT,List.nil_append]) rfl)
  ·cases h
 ·cases h
end
def qum{R:Type}(P:Program)(s:St)(o:Oper)(K:St->Option R):Option (Option R):=
 match o.op,o.dst with
 |.indexAddr T (.global g) i,some t=>match LC.glob g,P.underlying T with
  |some ⟨τ,l⟩,some (.array n E)=>match c8 P E with
   |some sz=>bif Nat.beq sz τ.sz&&(Nat.ble l.length n&&Nat.blt t s.n) then
     match s.evy i with
     |some (.int _ j)=>some (match ak l j with|some y=>K { s with fr:=(t,.rop (τ.enc y))::s.fr }|none=>none)
     |some (.byte c)=>some (match l[c.toNat]? with|some y=>K { s with fr:=(t,.rop (τ.enc y))::s.fr }|none=>none)
     |_=>none
    else none
   |none=>none
  |_,_=>none
 |_,_=>none
section
variable{P:Program}{zw0:World}{zwv:Gh}{zwx:List (Nat×ag)}{G:Gh}{s:St}{a:Act}{w:World}
def zlk{R:Type}(hr:ah zw0 zwv zwx G s a w){o:Oper}{K:St->Option R}{r:Option R}{x:R}(h:qum P s o K=some r)(hx:r=some x){N:Act->World->Prop}(hN:∀s',K s'=some x->∀G' a' w',ah zw0 zwv zwx G' s' a' w'->N a' w'):ez P o a w N:=by
 obtain⟨dst,op,ty,pos,after,guard⟩:=o;unfold qum at h;split at h
 ·rename_i T g i t e1 e2;simp only at e1 e2;subst e1 e2;split at h
  ·rename_i τ l n E hg hu;split at h
   ·rename_i sz hsz;cases hb:Nat.beq sz τ.sz&&(Nat.ble l.length n&&Nat.blt t s.n)<;>rw[hb]at h<;>simp only[qT,qF,reduceCtorEq]at h
    simp only[qA]at hb;obtain⟨b1,b2,b3⟩:=hb;have b1:=qN b1;have b2:=Nat.le_of_ble_eq_true b2;subst b1;have key:∀(j:Nat)(kk:IntKind)(y:τ.den),a.eval i = .int kk (j:Int)->l[j]? = some y->K { s with fr:=(t,.rop (τ.enc y))::s.fr }=some x->ez P ⟨some t,.indexAddr T (.global g) i,ty,pos,after,guard⟩ a w N:=by
     intro j kk y hi hy hk;have hj:j<n:=Nat.lt_of_lt_of_le (List.getElem?_eq_some_iff.1 hy).1 b2;have hrun:(execOp a.eval ⟨some t,.indexAddr T (.global g) i,ty,pos,after,guard⟩).run P w = .ok (.value (.pointer (some ⟨g,j*τ.sz,none⟩))) w:=by
      have hge:a.eval (.global g) = .pointer (some ⟨g,0,none⟩):=by simp[Act.eval]
      simp[execOp,hge,hi,Instr.indexAt,asIntOf,bc hu,ep hsz,iu,Instr.sureAddr,hj]
     refine de oC ?_
     unfold Oper.wp;rw[hrun];exact hN _ hk _ _ _ (eq (v := .rop (τ.enc y)) hr (by simp only[St.add,b3,qT,List.nil_append]) ⟨g,j*τ.sz,rfl,ne.2 (hr.fin.mem.tab.1 g τ l hg j y hy)⟩)
    split at h
    ·rename_i kk j hi;have h:=qJ h;rw[← h]at hx;split at hx
     ·rename_i y hy;have hie:a.eval i = .int kk j:=gp hr hi;obtain⟨h1,h2⟩:=qc5 hy;exact key j.toNat kk y (by rw[Int.toNat_of_nonneg h1];exact hie) h2 hx
     ·cases hx
    ·rename_i c hi;have h:=qJ h;rw[← h]at hx;split at hx
     ·rename_i y hy;exact key c.toNat .u8 y (gp hr hi) hy hx
     ·cases hx
    ·cases h
   ·cases h
  ·cases h
 ·cases h
end
def qe(s:List UInt8):Nat->Nat->List Int|0,_=>[]|f+1,i=>bif Nat.blt i s.length then((bz s i).1:Int)::qe s f (i+(bz s i).2) else[]
def eg(s:List UInt8):List Int:=qe s s.length 0
def qte{R:Type}(P:Program)(s:St)(o:Oper)(K:St->Option R):Option (Option R):=
 match o.op,o.dst with
 |.makeSlice T x y,some t=>match P.underlying T with
  |some (.slice E)=>match qut P E,tf P E,c8 P E,s.evy x,s.evy y with
   |some τ,some [z0],some 1,some (.int _ n),some (.int _ m)=>match τ.zero1 with
    |some z=>bif oq τ z0&&ji P E&&au (s.nx+32*t) s.hp&&Nat.blt t s.n then
      some (bif decide (0<=n/\n=m/\n<=4294967296) then K { s with fr:=(t,.own (s.nx+32*t))::s.fr,hp:=(s.nx+32*t,.row τ (List.replicate n.toNat z) E)::s.hp } else none) else none
    |none=>none
   |_,_,_,_,_=>none
  |_=>none
 |.convert src dst x,some t=>match P.underlying src,P.underlying dst with
  |some .string,some (.slice E)=>match P.underlying E,s.ev x with
   |some (.int .i32),some (.str b)=>bif au (s.nx+32*t) s.hp&&Nat.blt t s.n then
     some (bif decide (b.length<=4294967296) then K { s with fr:=(t,.own (s.nx+32*t))::s.fr,hp:=(s.nx+32*t,.row (.int .i32) (eg b) E)::s.hp } else none) else none
   |_,_=>none
  |some (.slice E),some .string=>match P.underlying E,s.ev x with
   |some (.int .i32),some v=>match qdr s v with|some l=>bif Nat.blt t s.n then some (K { s with fr:=(t,.str (gd l))::s.fr }) else none|none=>none
   |_,_=>none
  |_,_=>none
 |.slice T x lo (some hi) (some mx),some t=>match P.underlying T with
  |some (.slice E)=>match c8 P E,f7 s lo,s.evy hi,s.evy mx,s.ev x with
   |some sz,some a,some (.int _ b),some (.int _ c),some (.sl τ l)=>bif Nat.beq τ.sz sz&&Nat.blt t s.n then
     some (bif decide (0<=a.getD 0/\a.getD 0<=b/\b<=c/\c<=(l.length:Int)) then K { s with fr:=(t,.sl τ ((l.drop (a.getD 0).toNat).take (b.toNat-(a.getD 0).toNat)))::s.fr } else none) else none
   |_,_,_,_,_=>none
  |_=>none
 |_,_=>none
def q8g(s:List UInt8):∀(f i:Nat)(acc:Array Value),Conv.runesFrom ⟨s.toArray⟩ f i acc=acc++((qe s f i).map (Value.int .i32)).toArray
 |0,i,acc=>by simp[Conv.runesFrom,qe]|f+1,i,acc=>by
  unfold Conv.runesFrom qe;rw[fj];by_cases h:i<s.length
  ·have hb:Nat.blt i s.length=true:=Nat.ble_eq_true_of_le h;rw[qX h,hb];simp;rw[show Utf8.decode (⟨s.toArray⟩:ByteArray) i=bz s i from rfl]
   rw[q8g s f];simp
  ·have hb:Nat.blt i s.length=false:=by
    cases hq:Nat.blt i s.length
    ·rfl
    ·exact absurd (Nat.le_of_ble_eq_true hq) h
   rw[qW h,hb];simp
def q8i(s:List UInt8):∀(f i:Nat),(qe s f i).length<=f
 |0,_=>wF _|f+1,i=>by
  unfold qe;cases Nat.blt i s.length
  ·simp
  ·simp;have:=q8i s f (i+(bz s i).2);omega
def q4j(G:Gh):∀(l:List Int),aj (List.flatMap (β:=AV) (Ty.int .i32).enc l) G (l.map (Value.int .i32))
 |[]=>trivial|_::l=>⟨rfl,q4j G l⟩
section
variable{P:Program}{zw0:World}{zwv:Gh}{zwx:List (Nat×ag)}{G:Gh}{s:St}{a:Act}{w:World}
def zk7(w:World)(o:Obj):bg w (w.drew.alloc o):=⟨rfl,rfl,rfl,oC,fun k hk _=>Below.heap_alloc w.drew _ k hk⟩
def zwt{τ:Ty}{z:τ.den}{x:AV}{G G':Gh}{v:Value}(h:oq τ x=true)(hz:τ.zero1=some z)(hr:ai x G v)(n:Nat):aj ((List.replicate n z).flatMap τ.enc) G' (List.replicate n v):=by
 induction n with
 |zero=>trivial|succ n ih=>
  rw[List.replicate_succ,List.replicate_succ,List.flatMap_cons];exact s8 (vs:=[v]) (zca h hz hr) ih
def zif{R:Type}(hr:ah zw0 zwv zwx G s a w){o:Oper}{K:St->Option R}{r:Option R}{x:R}(h:qte P s o K=some r)(hx:r=some x){N:Act->World->Prop}(hN:∀s',K s'=some x->∀G' a' w',ah zw0 zwv zwx G' s' a' w'->N a' w'):ez P o a w N:=by
 obtain⟨dst,op,ty,pos,after,guard⟩:=o;unfold qte at h;split at h
 ·rename_i T y1 y2 t e1 e2;simp only at e1 e2;subst e1 e2;split at h
  ·rename_i E hu;split at h
   ·rename_i τ z0 kn n km m hτ hz0 hs1 hn hm;split at h
    ·rename_i z hz;cases hb:oq τ z0&&ji P E&&au (s.nx+32*t) s.hp&&Nat.blt t s.n<;>rw[hb]at h<;>simp only[qT,qF,reduceCtorEq,qI]at h
     simp only[qA]at hb;subst h;cases hd:decide (0<=n/\n=m/\n<=4294967296)<;>rw[hd]at hx<;>simp only[qT,qF,reduceCtorEq]at hx
     obtain⟨h0,rfl,h2⟩:=of_decide_eq_true hd;have en:a.eval y1 = .int kn n:=gp hr hn;have em:a.eval y2 = .int km n:=gp hr hm;obtain⟨i,zv,hi,hzv,q1,_,q3,q4,q5⟩:=qek hb.1.1.2 hs1;unfold tf at hz0;rw[hi]at hz0;simp only[hzv,qI]at hz0;obtain⟨v,hv,hzo⟩:∃v,zv.cells.toList=[v]/\z0=lf v:=by
      cases hq:zv.cells.toList with
      |nil=>rw[hq]at hz0;cases hz0
      |cons v l=>rw[hq]at hz0;cases l with|nil=>simp only[qdj,List.cons.injEq,and_true]at hz0;exact⟨v,rfl,hz0.symm⟩|cons _ _=>simp[qdj]at hz0
     have hvc:zv.cells=#[v]:=by rw[← Array.toArray_toList (xs:=zv.cells),hv]
     have hv1:v.oneCell'=true:=q4 v (by rw[hv];exact List.mem_singleton.2 rfl)
     have hbytes:(i.bytes:Int)*n<=281474976710656:=by
      have:(i.bytes:Int)*n<=32768*4294967296:=Int.mul_le_mul oA h2 h0 oA
      omega
     have hr1:=run_make (P:=P) w T E i zv hu hi hzv kn km n n h0 (Int.le_refl _) hbytes oA
     have hmc:madeCells zv.cells (n.toNat*i.size)=Array.replicate n.toNat v:=by
      rw[q5,Nat.mul_one,hvc];apply Array.ext
      ·simp[madeCells]
      ·intro j h1 h2;simp[madeCells,Nat.mod_one]
     rw[hmc]at hr1;have hsz:τ.sz=1:=yy (qw3 hz);have hz0v:ai z0 G v:=by rw[hzo];exact qi7 G v
     have ac:(List.replicate n.toNat z).length=n.toNat:=List.length_replicate;obtain⟨G',hG⟩:=qdq (τ:=τ) (l:=List.replicate n.toNat z) (E:=E) (ad:=some ⟨w.heap.size,0,none⟩) (c:=n.toNat) (us:=List.replicate n.toNat v) (w':=w.alloc (.cells (Array.replicate n.toNat v) E)) hr hb.1.2 (qdt _ _)
      ⟨by rw[ac,hsz];simp,.inr ⟨w.heap.size,Array.replicate n.toNat v,(0,0),rfl,mj _ _,.inl rfl,by rw[ac];exact wF _,oL,by simp[hsz],by rw[ac,hsz];simp,fun u hu=>by
       rw[Array.toList_replicate]at hu;rw[(List.mem_replicate.1 hu).2];exact hv1⟩⟩ (zwt hb.1.1.1 hz hz0v _) (fun b hb=>by injection hb with hb;simp at hb;omega)
      (s':={ s with fr:=(t,.own (s.nx+32*t))::s.fr,hp:=(s.nx+32*t,.row τ (List.replicate n.toNat z) E)::s.hp }) oT
     refine de oC ?_
     unfold Oper.wp;rw[show(execOp a.eval ⟨some t,.makeSlice T y1 y2,ty,pos,after,guard⟩).run P w = .ok (.value (.slice (some ⟨w.heap.size,0,none⟩) n.toNat n.toNat)) (w.alloc (.cells (Array.replicate n.toNat v) E)) by simp[execOp,en,em,hr1]]
     rw[ac]at hG;exact hN _ hx _ _ _ hG
    ·cases h
   ·cases h
  ·cases h
 ·rename_i src dst y t e1 e2;simp only at e1 e2;subst e1 e2;split at h
  ·rename_i E hs hd;split at h
   ·rename_i b he hy;cases hb:au (s.nx+32*t) s.hp&&Nat.blt t s.n<;>rw[hb]at h<;>simp only[qT,qF,reduceCtorEq,qI]at h
    simp only[qA]at hb;subst h;cases hdd:decide (b.length<=4294967296)<;>rw[hdd]at hx<;>simp only[qT,qF,reduceCtorEq]at hx
    have hbl:=of_decide_eq_true hdd;have hev:a.eval y = .string ⟨b.toArray⟩:=a6 hr hy;have hrf:Conv.runesFrom (⟨b.toArray⟩:ByteArray) (⟨b.toArray⟩:ByteArray).size 0 #[]=((eg b).map (Value.int .i32)).toArray:=by
     rw[q8g,fj];simp[eg]
    have hlr:(eg b).length<=b.length:=q8i b _ _;have hrun:=run_runes_of_string (P:=P) w src dst E (⟨b.toArray⟩:ByteArray) hs hd he (by rw[hrf];simp;omega)
    rw[hrf]at hrun;simp only[List.size_toArray,wC]at hrun;have hcap:(eg b).length<=grownCap w (eg b).length 0 E:=grownCap_ge _ _ _ _;have hcap2:grownCap w (eg b).length 0 E<=maxLen:=grownCap_le_maxLen _ _ _ _ oL
    obtain⟨G',hG⟩:=qdq (τ := .int .i32) (l:=eg b) (E:=E) (ad:=some ⟨w.heap.size,0,none⟩) (c:=grownCap w (eg b).length 0 E) (us:=(eg b).map (Value.int .i32)) (w':=w.drew.alloc (.cells (((eg b).map (Value.int .i32)).toArray++Array.replicate (grownCap w (eg b).length 0 E-(eg b).length) (.int .i32 0)) E)) hr hb.1 (zk7 _ _)
     ⟨by rw[wC];exact(Nat.mul_one _).symm,.inr ⟨w.heap.size,_,(0,0),rfl,mj w.drew _,.inl rfl,hcap,hcap2,by rw[show(Ty.int IntKind.i32).sz=1 from rfl,Nat.mul_one,Array.size_append,Array.size_replicate,List.size_toArray,wC];omega,by rw[show(Ty.int IntKind.i32).sz=1 from rfl,Nat.mul_one,Array.toList_append,show List.length (α:=(Ty.int IntKind.i32).den) (eg b)=((eg b).map (Value.int .i32)).length from(wC _).symm];exact List.take_left' rfl,fun u hu=>by
      simp only[Array.toList_append,wA,List.mem_map,Array.toList_replicate,List.mem_replicate]at hu;rcases hu with⟨c,_,rfl⟩|⟨_,rfl⟩<;>rfl⟩⟩ (q4j _ _) (fun b hb=>by injection hb with hb;simp at hb;omega)
     (s':={ s with fr:=(t,.own (s.nx+32*t))::s.fr,hp:=(s.nx+32*t,.row (.int .i32) (eg b) E)::s.hp }) oT
    refine de oC ?_
    unfold Oper.wp;rw[show(execOp a.eval ⟨some t,.convert src dst y,ty,pos,after,guard⟩).run P w = .ok (.value (.slice (some ⟨w.heap.size,0,none⟩) (eg b).length (grownCap w (eg b).length 0 E))) (w.drew.alloc (.cells (((eg b).map (Value.int .i32)).toArray++Array.replicate (grownCap w (eg b).length 0 E-(eg b).length) (.int .i32 0)) E)) by simp[execOp,hev,hrun]]
    exact hN _ hx _ _ _ hG
   ·cases h
  ·rename_i E hs hd;split at h
   ·rename_i v he hy;split at h
    ·rename_i l hl;cases ht:Nat.blt t s.n<;>rw[ht]at h<;>simp only[qT,qF,reduceCtorEq,qI]at h
     subst h;have hsrc:=q8h hl;have hrun:(convert src dst (a.eval y)).run P w = .ok (.string ⟨(gd l).toArray⟩) w:=by
      rcases qds hr (a6 hr hy) hsrc with⟨b',rfl,_⟩|⟨ad,c,us,he1,h1,h2,h3⟩
      ·simp[qdr]at hl
      ·rw[he1];have hus:=qt2 h1
       cases ad with
       |none=>
        have:l=[]:=by
         rcases h3 with h3|⟨_,_,h3,_⟩
         ·rw[hus]at h3;simpa using h3
         ·cases h3
        subst this;rw[run_convert_runes_nil w src dst E _ c hs he hd];rfl
       |some ad=>
        have hlc:=zb (P:=P) (w:=w) (ad:=ad) h3;have ac:us.length=l.length:=by rw[hus];simp
        rw[ac,hus]at hlc;rw[run_convert_runes_string w src dst E _ _ _ hs he hd,run_runesToString w ad l.length c l hlc,q8f]
     refine de oC ?_
     unfold Oper.wp;rw[show(execOp a.eval ⟨some t,.convert src dst y,ty,pos,after,guard⟩).run P w = .ok (.value (.string ⟨(gd l).toArray⟩)) w by simp[execOp,hrun]]
     exact hN _ hx _ _ _ (eq (v := .str (gd l)) hr (by simp only[St.add,ht,qT,List.nil_append]) rfl)
    ·cases h
   ·cases h
  ·cases h
 ·rename_i T y lo hi mx t e1 e2;simp only at e1 e2;subst e1 e2;split at h
  ·rename_i E hu;split at h
   ·rename_i sz lo' kb b kc c τ l hsz hlo hhi hmx hy;cases hb:Nat.beq τ.sz sz&&Nat.blt t s.n<;>rw[hb]at h<;>simp only[qT,qF,reduceCtorEq,qI]at h
    simp only[qA]at hb;subst h;cases hdd:decide (0<=lo'.getD 0/\lo'.getD 0<=b/\b<=c/\c<=(l.length:Int))<;>rw[hdd]at hx<;>simp only[qT,qF,reduceCtorEq]at hx
    obtain⟨g0,g1,g2,g3⟩:=of_decide_eq_true hdd;have hq:=qN hb.1;subst hq;obtain⟨ad,cp,hv,hc,hl⟩:=a6 hr hy;have eb:a.eval hi = .int kb b:=gp hr hhi;have ec:a.eval mx = .int kc c:=gp hr hmx;have hbounds:(Instr.sliceBounds true l.length cp (lo.map a.eval) (some (a.eval hi)) (some (a.eval mx))).run P w = .ok ((lo'.getD 0).toNat,b.toNat,c.toNat) w:=by
     rcases me hr hlo with⟨rfl,rfl⟩|⟨xo,kx,m,rfl,rfl,hxo⟩
     ·simp[Instr.sliceBounds,eb,ec,mv (P:=P) (w:=w) (show 0<=c by omega) (show c<=(cp:Int) by omega),mv (P:=P) (w:=w) (show 0<=b by omega) (show b<=(c.toNat:Int) by omega)]
     ·simp only[Option.getD_some]at g0 g1;simp[Instr.sliceBounds,eb,ec,hxo,mv (P:=P) (w:=w) (show 0<=c by omega) (show c<=(cp:Int) by omega),mv (P:=P) (w:=w) (show 0<=b by omega) (show b<=(c.toNat:Int) by omega),mv (P:=P) (w:=w) g0 (show m<=(b.toNat:Int) by omega)]
    generalize lo'.getD 0=i0 at *
    have hrun:(Instr.sliceAt T (a.eval y) (lo.map a.eval) (some (a.eval hi)) (some (a.eval mx))).run P w = .ok (.slice (if c.toNat=i0.toNat then ad else ad.map (·.add (i0.toNat*τ.sz))) (b.toNat-i0.toNat) (c.toNat-i0.toNat)) w:=by
     simp[Instr.sliceAt,Instr.slice,bc hu,hv,hbounds,ep hsz]
    refine de oC ?_
    unfold Oper.wp
    rw[show(execOp a.eval ⟨some t,.slice T y lo (some hi) (some mx),ty,pos,after,guard⟩).run P w = .ok (.value (.slice (if c.toNat=i0.toNat then ad else ad.map (·.add (i0.toNat*τ.sz))) (b.toNat-i0.toNat) (c.toNat-i0.toNat))) w by simp[execOp,hrun]]
    refine hN _ hx _ _ _ (eq (v := .sl τ ((l.drop i0.toNat).take (b.toNat-i0.toNat))) hr (by simp[St.add,hb.2,qT,List.nil_append]) ?_)
    have ac:((l.drop i0.toNat).take (b.toNat-i0.toNat)).length=b.toNat-i0.toNat:=by simp;omega
    refine⟨_,_,by rw[ac],by rw[ac];omega,?_⟩
    rcases hl with rfl|⟨B,o,rfl,hcells⟩
    ·exact .inl oC
    ·by_cases hci:c.toNat=i0.toNat
     ·exact .inl (List.eq_nil_of_length_eq_zero (by rw[ac];omega))
     ·refine .inr ⟨B,o+i0.toNat*τ.sz,by rw[qW hci];simp[iu],fun k y hy => ?_⟩
      rw[List.getElem?_take]at hy;split at hy
      ·rw[List.getElem?_drop]at hy;have:=hcells _ _ hy
       rwa [show o+i0.toNat*τ.sz+k*τ.sz=o+(i0.toNat+k)*τ.sz by rw[Nat.add_mul];omega]
      ·cases hy
   ·cases h
  ·cases h
 ·cases h
end
def q8n(P:Program)(T:TypeId):Bool:=match P.underlying T with
 |some (.struct fs)=>match fs.toList with
  |[f,g]=>match P.underlying f.type,P.underlying g.type with|some (.pointer T'),some (.slice _)=>Nat.beq T' T|_,_=>false
  |_=>false
 |_=>false
def qik:AV->Bool|.val (.pointer none)=>true|_=>false
def q6l(n:Nat):List AV->List AV|[]=>[]|x::cs=>(bif qik x then .pn n else x)::cs
def quc(P:Program)(s:St)(o:Oper):Option St:=
 match o.op,o.dst with
 | .alloc T,some t=>bif q8n P T then(match lr P s .none o with
  |some ([],s1)=>match ae s1.hp (s.nx+32*t) with|some (.cells cs T')=>some { s1 with hp:=(s.nx+32*t,.cells (q6l (s.nx+32*t) cs) T')::s1.hp }|_=>none
  | _=>none) else none
 |_,_=>none
section
variable{P:Program}{zw0:World}{zwv:Gh}{zwx:List (Nat×ag)}{G:Gh}{s:St}{a:Act}{w:World}
def ah.rebox{n:Nat}{bx bx':ag}(hr:ah zw0 zwv zwx G s a w)(h:ae s.hp n=some bx)(hat:G.at n bx'=G.at n bx)(hok:ck G w n bx') :
  ah zw0 zwv zwx G { s with hp:=(n,bx')::s.hp } a w:=by
 have key:∀m b,ae ((n,bx')::s.hp) m=some b->(m=n/\b=bx')\/ae s.hp m=some b:=fun m b hh=>by
  simp only[ae]at hh;cases hb:Nat.beq n m
  ·rw[hb]at hh;exact .inr hh
  ·rw[hb]at hh;simp only[qT,qI]at hh;exact .inl ⟨(qN hb).symm,hh.symm⟩
 have old:∀m b,ae ((n,bx')::s.hp) m=some b->∃b0,ae s.hp m=some b0/\G.at m b0=G.at m b:=fun m b hh=>by
  rcases key m b hh with⟨rfl,rfl⟩|h1
  ·exact⟨bx,h,hat.symm⟩
  ·exact⟨b,h1,rfl⟩
 refine⟨hr.defers,hr.size,hr.frame,fun m hm hl=>hr.fresh m hm ?_,⟨⟨hr.fin.mem.agree,hr.fin.mem.one,fun m b hh => ?_,fun m m' b b' c h1 h2 h3 h4 => ?_,hr.fin.mem.tab⟩,hr.fin.bel,hr.fin.imm_le,hr.fin.imm_new,fun m b c h1 h2 => ?_,hr.fin.keep,hr.fin.keepOwn⟩⟩
 ·simp only[ae]at hl;cases hb:Nat.beq n m
  ·rw[hb]at hl;exact hl
  ·rw[hb]at hl;cases hl
 ·rcases key m b hh with⟨rfl,rfl⟩|h1
  ·exact hok
  ·exact hr.fin.mem.holds m b h1
 ·obtain⟨c1,k1,e1⟩:=old m b h1;obtain⟨c2,k2,e2⟩:=old m' b' h2;exact hr.fin.mem.apart m m' c1 c2 c k1 k2 (e1.trans h3) (e2.trans h4)
 ·obtain⟨c1,k1,e1⟩:=old m b h1;exact hr.fin.base m c1 c k1 (e1.trans h2)
def zhr{x:AV}(h:qik x=true):x = .val (.pointer none):=by
 unfold qik at h;split at h
 ·rfl
 ·cases h
def zj5{n B:Nat}(hB:G.box n=some B):∀{cs:List AV}{vs:List Value},aj cs G vs->aj (q6l n cs) G vs
 |[],[],_=>trivial|x::cs,v::vs,⟨h1,h2⟩=>by
  refine⟨?_,h2⟩;cases hb:qik x
  ·exact h1
  ·have:=zhr hb;subst this;exact⟨B,hB,.inl h1⟩
 |[],_::_,h=>h.elim|_::_,[],h=>h.elim
def zkp(hr:ah zw0 zwv zwx G s a w){o:Oper}{s':St}(h:quc P s o=some s'){N:Act->World->Prop}(hN:∀G' a' w',ah zw0 zwv zwx G' s' a' w'->N a' w'):ez P o a w N:=by
 unfold quc at h;split at h
 ·rename_i T t _ _;cases hs:q8n P T<;>rw[hs]at h<;>simp only[qT,qF,reduceCtorEq]at h
  split at h
  ·rename_i s1 ha;split at h
   ·rename_i cs T' hl;simp only[qI]at h;subst h;refine qgt hr ha trivial fun G' a' w' hr'=>hN G' a' w' ?_
    obtain⟨B,vs,h1,h2,h3,h4,h5⟩:=hr'.fin.mem.holds _ _ hl;exact hr'.rebox hl rfl ⟨B,vs,h1,h2,zj5 h1 h3,h4,h5⟩
   ·cases h
  ·cases h
 ·cases h
end
def qsx:Operand->Bool|.const .nilIface=>true|_=>false
def qhf(P:Program)(s:St)(t:TypeId)(x y:Operand):Option Bool:=
 match P.underlying t with
 | some (.interface _)=>bif qsx y then(match s.ev x with
  |some (.val .nilIface)=>some true|some (.iface _ _)=>some false| _=>none) else none
 |_=>none
def q5q(P:Program)(T:TypeId):Bool:=match P.underlying T with
 |some (.array _ E)=>match P.underlying E with|some .string=>true|some (.struct _)=>true|_=>false
 |_=>false
def qrr(P:Program)(s:St)(o:Oper):Option St:=
 match o.op,o.dst with
 | .binOp op t x y _,some tt=>bif Nat.blt tt s.n then(match op with
  |.eql=>match qhf P s t x y with|some b=>some { s with fr:=(tt,.val (.bool b))::s.fr }|none=>none
  |.neq=>match qhf P s t x y with|some b=>some { s with fr:=(tt,.val (.bool (!b)))::s.fr }|none=>none
  | _=>none) else none
 | .store T (.tmp t) _,none=>bif q5q P T&&Nat.blt t s.n then(match ae s.fr t with
  |some (.ptr b 0)=>match lr P s .none o with
   |some ([],s1)=>match ae s1.hp b,ae s1.fr t with|some (.cells cs _),some (.ptr b' 0)=>bif Nat.beq b' b&&Nat.blt t s1.n then(bif allData (cs.map AV.sym) then some { s1 with fr:=(t,.rop (cs.map AV.sym))::s1.fr,hp:=(b,.dead)::s1.hp } else none) else none|_,_=>none
   |_=>none
  | _=>none) else none
 |_,_=>none
section
variable{P:Program}{zw0:World}{zwv:Gh}{zwx:List (Nat×ag)}{G:Gh}{s:St}{a:Act}{w:World}
def ah.ropBox(hr:ah zw0 zwv zwx G s a w){b t:Nat}{cs:List AV}{T:TypeId}(hb:ae s.hp b=some (.cells cs T))(hd:allData (cs.map AV.sym)=true)(ht:ae s.fr t=some (.ptr b 0)) :
  ∃G',ah zw0 zwv zwx G' { s with fr:=(t,.rop (cs.map AV.sym))::s.fr,hp:=(b,.dead)::s.hp } a w:=by
 obtain⟨B,vs,h1,h2,h3,h4,h5⟩:=hr.fin.mem.holds _ _ hb
 let G':Gh:={ imm:=fun c o=>if c=B then vs[o]? else G.imm c o,box:=G.box,own:=G.own }
 have hi:∀c o v,G.imm c o=some v->G'.imm c o=some v:=fun c o v h=>by
  show(if c=B then vs[o]? else G.imm c o)=some v
  split
  ·rename_i e;subst e;rw[h5]at h;cases h
  ·exact h
 have hB:∀o,G'.imm B o=vs[o]? := fun o=>qX rfl
 have hne:∀c,c≠B->∀o,G'.imm c o=G.imm c o:=fun c h o=>qW h
 have hle:G.le G':=⟨hi,fun _ _ h=>h,fun _ _ h=>h⟩
 have hat:∀n bx,G'.at n bx=G.at n bx:=fun n bx=>by cases bx<;>rfl
 have hatB:G.at b (.cells cs T)=some B:=h1;have hlook:∀n bx,ae ((b,ag.dead)::s.hp) n=some bx->bx = .dead\/(n≠b/\ae s.hp n=some bx):=fun n bx h=>by
  simp[ae]at h;cases hq:Nat.beq b n
  ·rw[hq]at h;exact .inr ⟨fun e=>by subst e;simp at hq,h⟩
  ·rw[hq]at h;simp at h;exact .inl h.symm
 have hother:∀n bx c,n≠b->ae s.hp n=some bx->G.at n bx=some c->(∀o,G.imm c o=none)->∀o,G'.imm c o=none:=fun n bx c hn k1 k2 k3 o=>by
  by_cases e:c=B
  ·subst e;exact absurd (hr.fin.mem.apart n b bx _ _ k1 hb k2 hatB) hn
  ·rw[hne c e];exact k3 o
 have hcell:∀o v,vs[o]? = some v->w.cell? ⟨B,o,none⟩=some v:=fun o v h=>cell_of_heap h2 (by simpa using h)
 refine⟨G',⟨hr.defers,hr.size,fun i x hx => ?_,fun m hm hl => ?_,⟨⟨fun c o v h => ?_,fun c o v h => ?_,fun n bx hn => ?_,fun n m bx bx' c k1 k2 k3 k4 => ?_,LC.mono hi (fun _ _ _ _=>rfl) hr.fin.mem.tab⟩,hr.fin.bel,fun c o v h=>hi _ _ _ (hr.fin.imm_le c o v h),fun c o v h => ?_,fun n bx c k1 k2 => ?_,hr.fin.keep,hr.fin.keepOwn⟩⟩⟩
 ·simp[ae]at hx;cases hq:Nat.beq t i
  ·rw[hq]at hx;obtain⟨v,k1,k2⟩:=hr.frame i x hx;exact⟨v,k1,k2.le hle⟩
  ·rw[hq]at hx;simp at hx;subst hx;have:=qN hq;subst this;obtain⟨v,k1,B',k2,k3⟩:=hr.frame t _ ht;rw[h1]at k2;injection k2 with k2;subst k2
   refine⟨v,k1,B,0,k3,qtz hi (qt1 hd (qi8 h3)) fun i u hu => ?_⟩
   rw[wO,hB];simpa using hu
 ·refine hr.fresh m hm ?_;simp[ae]at hl;cases hq:Nat.beq b m
  ·rw[hq]at hl;exact hl
  ·rw[hq]at hl;cases hl
 ·by_cases e:c=B
  ·subst e;rw[hB]at h;exact hcell o v h
  ·rw[hne c e]at h;exact hr.fin.mem.agree c o v h
 ·by_cases e:c=B
  ·subst e;rw[hB]at h;exact h4 v (by obtain⟨k,e⟩:=Array.getElem?_eq_some_iff.1 h;rw[← e];simp)
  ·rw[hne c e]at h;exact hr.fin.mem.one c o v h
 ·rcases hlook n bx hn with rfl|⟨hnb,k0⟩
  ·trivial
  ·have hb0:=hr.fin.mem.holds n bx k0;have ho:=hother n bx
   cases bx with
   |cells cs T=>
    obtain⟨C,vs,q1,q2,q3,q4,q5⟩:=hb0;exact⟨C,vs,q1,q2,q3.le hle,q4,ho C hnb k0 (by simp[Gh.at,q1]) q5⟩
   |loop st pe f j fr ps tag D=>
    obtain⟨C,tmps,DB,q1,q2,q3,q4,q5,q6⟩:=hb0;exact⟨C,tmps,DB,q1,q2,q3,q4,fun i x hx=>by obtain⟨v,r1,r2⟩:=q5 i x hx;exact⟨v,r1,r2.le hle⟩,ho C hnb k0 (by simp[Gh.at,q1]) q6⟩
   |dfr=>
    obtain⟨C,q1,q2,q3⟩:=hb0;exact⟨C,q1,q2,ho C hnb k0 (by simp[Gh.at,q1]) q3⟩
   |it s0 p0=>
    obtain⟨C,q1,q2,q3⟩:=hb0;exact⟨C,q1,q2,ho C hnb k0 (by simp[Gh.at,q1]) q3⟩
   |row τ1 l1 E1=>
    obtain⟨ad,c,q1,q3⟩:=hb0;refine⟨ad,c,q1,?_⟩;rcases q3 with q3|⟨g,vs,fz,r1,r2,r3,r4,r5,r6,r7,r8,r9⟩
    ·exact .inl q3
    ·exact .inr ⟨g,vs,fz,r1,r2,r3,r4,r5,r6,aj.data_le hi r7,r8,ho g hnb k0 (by subst r1;simp[Gh.at,q1]) r9⟩
   |dead=>trivial
 ·rcases hlook n bx k1 with rfl|⟨hn,j1⟩
  ·cases k3
  ·rcases hlook m bx' k2 with rfl|⟨hm,j2⟩
   ·cases k4
   ·rw[hat]at k3 k4;exact hr.fin.mem.apart n m bx bx' c j1 j2 k3 k4
 ·by_cases e:c=B
  ·subst e;exact .inr (hr.fin.base b _ _ hb hatB)
  ·rw[hne c e]at h;exact hr.fin.imm_new c o v h
 ·rcases hlook n bx k1 with rfl|⟨hn,j1⟩
  ·cases k2
  ·rw[hat]at k2;exact hr.fin.base n bx c j1 k2
def q3x{t:TypeId}{x y:Operand}{p:String}{b:Bool}(hx:∀v,s.ev x=some v->ai v G (a.eval x))(h:qhf P s t x y=some b) :
  (∀q:Unit,(do eqGuard .eql t x y (a.eval x) (a.eval y);binOp .eql t (a.eval x) (a.eval y):Sem Value).run P w = .ok (.bool b) w) /\
  (do eqGuard .neq t x y (a.eval x) (a.eval y);binOp .neq t (a.eval x) (a.eval y):Sem Value).run P w = .ok (.bool (!b)) w:=by
 unfold qhf at h;split at h
 ·rename_i ms hu;cases hy:qsx y<;>rw[hy]at h<;>simp at h
  have hy:y = .const .nilIface:=by
   unfold qsx at hy;split at hy
   ·rfl
   ·cases hy
  subst hy;have hye:a.eval (.const .nilIface) = .nilIface:=rfl;have q1:∀d,(Op.equalIn (d+1) t .nilIface .nilIface).run P w = .ok true w:=fun d=>by simp[Op.equalIn,bc hu]
  have q2:∀d t' v,(Op.equalIn (d+1) t (.iface t' v) .nilIface).run P w = .ok false w:=fun d t' v=>by simp[Op.equalIn,bc hu]
  have eq1:(Op.equal t .nilIface .nilIface).run P w = .ok true w:=q1 9999;have eq2:∀t' v,(Op.equal t (.iface t' v) .nilIface).run P w = .ok false w:=q2 9999;split at h
  ·rename_i e;simp at h;subst h;have:=hx _ e;simp[ai]at this;rw[this,hye];constructor<;>simp[eqGuard,binOp,eq1]
  ·rename_i e;simp at h;subst h;obtain⟨u,hu2,_⟩:=hx _ e;rw[hu2,hye];constructor<;>simp[eqGuard,binOp,eq2]
  ·cases h
 ·cases h
def zfv(hr:ah zw0 zwv zwx G s a w){o:Oper}{s':St}(h:qrr P s o=some s'){N:Act->World->Prop}(hN:∀G' a' w',ah zw0 zwv zwx G' s' a' w'->N a' w'):ez P o a w N:=by
 obtain⟨dst,op,ty,pos,after,guard⟩:=o;unfold qrr at h;split at h
 ·rename_i op t x y p tt e1 e2;simp only at e1 e2;subst e1 e2;cases hb:Nat.blt tt s.n<;>rw[hb]at h<;>simp only[qT,qF,reduceCtorEq]at h
  have go:∀(q:Bool),(do eqGuard op t x y (a.eval x) (a.eval y);binOp op t (a.eval x) (a.eval y):Sem Value).run P w = .ok (.bool q) w->s'={ s with fr:=(tt,.val (.bool q))::s.fr }->ez P ⟨some tt,.binOp op t x y p,ty,pos,after,guard⟩ a w N:=by
   intro q hq hs';subst hs';refine de oC ?_
   unfold Oper.wp;have hrun:(execOp a.eval ⟨some tt,.binOp op t x y p,ty,pos,after,guard⟩).run P w = .ok (.value (.bool q)) w:=by
    simp only[execOp,Sem.run_bind,hq,Result.andThen_ok];rfl
   rw[hrun];exact hN G _ _ (eq (v := .val (.bool q)) hr (by simp[St.add,hb,qT,List.nil_append]) rfl)
  split at h
  ·split at h
   ·rename_i b hc;simp at h;exact go b ((q3x (p := "") (fun v hv => a6 hr hv) hc).1 ()) h.symm
   ·cases h
  ·split at h
   ·rename_i b hc;simp at h;exact go (!b) (q3x (p := "") (fun v hv => a6 hr hv) hc).2 h.symm
   ·cases h
  ·cases h
 ·rename_i T t y e1 e2;simp only at e1 e2;subst e1 e2;cases hb:q5q P T&&Nat.blt t s.n<;>rw[hb]at h<;>simp at h
  split at h
  ·rename_i b _;split at h
   ·rename_i s1 ha;split at h
    ·rename_i cs T' b' hl ht;cases hq:Nat.beq b' b&&Nat.blt t s1.n<;>rw[hq]at h<;>simp at h
     simp only[qA]at hq;have:=qN hq.1;subst this;cases hs:allData (cs.map AV.sym)<;>rw[hs]at h<;>simp at h
     subst h;refine qgt hr ha trivial fun G' a' w' hr' => ?_
     obtain⟨G2,hr2⟩:=hr'.ropBox hl hs ht;exact hN _ _ _ hr2
    ·cases h
   ·cases h
  ·cases h
 ·cases h
end
mutual
def q63:AV->List Nat|.own k=>[k]|.agg xs=>vt xs|.tup xs=>vt xs|.fn _ _ xs=>vt xs|_=>[]
def vt:List AV->List Nat|[]=>[]|x::xs=>q63 x++vt xs
end
mutual
def qib:Pt->AV->List Nat
 |.h _,x=>q63 x|.agg ps,x=>match x with|.agg xs=>vc ps xs|_=>[]
 |.tup ps,x=>match x with|.tup xs=>vc ps xs|_=>[]
 |.fn _ ps,x=>match x with|.fn _ _ xs=>vc ps xs|_=>[]
 |_,_=>[]
def vc:List Pt->List AV->List Nat
 |[],_=>[]|p::ps,xs=>match xs with|x::xs=>qib p x++vc ps xs|[]=>[]
end
def frzL:List Nat->St->St
 |[],s=>s|k::ks,s=>match s.freeze k with|some s'=>frzL ks s'|none=>frzL ks s
mutual
def nmP:Pt->AV->NM
 |.ptr b _,x=>match qg3 x with|some (b',_)=>[(b,b')]|none=>[]
 |.own k,x=>match qg1 x with|some k'=>[(k,k')]|none=>[]
 |.el k _,x=>match qch x with|some (k',_)=>[(k,k')]|none=>[]
 |.iel _ k _,x=>match qg0 x with|some (_,k',_)=>[(k,k')]|none=>[]
 |.yld k,x=>match qg5 x with|some k'=>[(k,k')]|none=>[]
 |.pn k,x=>match qg2 x with|some k'=>[(k,k')]|none=>[]
 |.agg ps,x=>match asAgg x with|some xs=>sv ps xs|none=>[]
 |.tup ps,x=>match qg4 x with|some xs=>sv ps xs|none=>[]
 |.fn _ ps,x=>match qgz x with|some (_,xs)=>sv ps xs|none=>[]
 |_,_=>[]
def sv:List Pt->List AV->NM
 |[],_=>[]|p::ps,xs=>match xs with|x::xs=>nmP p x++sv ps xs|[]=>[]
end
def qiq:List (Nat×aw)->Nat->Option aw|[],_=>none|(k,v)::r,i=>bif Nat.beq k i then some v else qiq r i
def coB1(bs:List (Nat×aw))(b:Nat):List Pt->Nat->St->St
 |[],_,s=>s|p::ps,off,s=>match p,ae s.hp b with
  |.own k,some (.cells cs _)=>match qiq bs k,cs[off]? with
   | some (.row τ E),some x=>bif jb x then(match s.ownCell b off τ E with
     |some s'=>coB1 bs b ps (off+1) s'| none=>coB1 bs b ps (off+1) s) else coB1 bs b ps (off+1) s
   |_,_=>coB1 bs b ps (off+1) s
  |p,some (.cells cs _)=>match cs[off]? with|some x=>coB1 bs b ps (off+1) (frzL (qib p x) s)|none=>coB1 bs b ps (off+1) s
  |_,_=>coB1 bs b ps (off+1) s
def coB(bs:List (Nat×aw))(nm:NM):List (Nat×aw)->St->St
 |[],s=>s|(n,p)::r,s=>match p,ar nm n with
  |.cells ps _,some b=>coB bs nm r (coB1 bs b ps 0 s)|.dat _ _,some b=>match ae s.hp b with|some (.cells cs _)=>coB bs nm r (frzL (vt cs) s)|_=>coB bs nm r s
  |_,_=>coB bs nm r s
def coF(bs:List (Nat×aw)):List (Nat×Pt)->St->St
 |[],s=>s|(i,p)::r,s=>match p,ae s.fr i with
  | .own k,some x=>bif jb x then(match qiq bs k with
    |some (.row τ E)=>match s.ownNil i τ E with|some s'=>coF bs r s'|none=>coF bs r s
    | _=>coF bs r s) else coF bs r s
  |p,some x=>coF bs r (frzL (qib p x) s)|_,none=>coF bs r s
def nmF(fr:List (Nat×AV)):List (Nat×Pt)->NM
 |[]=>[]|(i,p)::r=>match ae fr i with|some x=>nmP p x++nmF fr r|none=>nmF fr r
def p8(s:St):List (Nat×aw)->NM->NM
 |[],nm=>nm|(n,p)::r,nm=>match ar nm n with
  |some b=>match p,ae s.hp b with|.cells ps _,some (.cells cs _)=>p8 s r (nm++sv ps cs)|.loop _ _ _ _ fr _ _ D,some (.loop _ _ _ _ fr' _ _ D')=>p8 s r (nm++((D,D')::nmF fr' fr))|_,_=>p8 s r nm
  |none=>p8 s r nm
def LS.co(ls:LS)(ids:NM)(s:St):St:=coF ls.hp ls.fr (coB ls.hp (p8 s ls.hp (ids++nmF s.fr ls.fr)) ls.hp s)
section
variable{P:Program}{zw0:World}{zwv:Gh}{zwx:List (Nat×ag)}{a:Act}{w:World}
def ah.frzL:∀{ks:List Nat}{s:St}{G:Gh},ah zw0 zwv zwx G s a w->∃G',ah zw0 zwv zwx G' (frzL ks s) a w
 |[],s,G,hr=>⟨G,hr⟩|k::ks,s,G,hr=>by
  simp[Sym.frzL];split
  ·rename_i s' h;obtain⟨G',hr'⟩:=hr.freeze h;exact ah.frzL hr'
  ·exact ah.frzL hr
def ah.coB1{bs:List (Nat×aw)}{b:Nat}:∀{ps:List Pt}{off:Nat}{s:St}{G:Gh},ah zw0 zwv zwx G s a w->∃G',ah zw0 zwv zwx G' (coB1 bs b ps off s) a w
 |[],_,s,G,hr=>⟨G,hr⟩|p::ps,off,s,G,hr=>by
  unfold Sym.coB1;split
  ·split
   ·rename_i x _ _;cases hb:jb x<;>simp
    ·exact ah.coB1 hr
    ·split
     ·rename_i h;obtain⟨G',hr'⟩:=hr.ownCell h;exact ah.coB1 hr'
     ·exact ah.coB1 hr
   ·exact ah.coB1 hr
  ·split
   ·obtain⟨G',hr'⟩:=hr.frzL;exact ah.coB1 hr'
   ·exact ah.coB1 hr
  ·exact ah.coB1 hr
def ah.coB{bs:List (Nat×aw)}{nm:NM}:∀{l:List (Nat×aw)}{s:St}{G:Gh},ah zw0 zwv zwx G s a w->∃G',ah zw0 zwv zwx G' (coB bs nm l s) a w
 |[],s,G,hr=>⟨G,hr⟩|(n,p)::r,s,G,hr=>by
  unfold Sym.coB;split
  ·obtain⟨G',hr'⟩:=hr.coB1;exact ah.coB hr'
  ·split
   ·obtain⟨G',hr'⟩:=hr.frzL;exact ah.coB hr'
   ·exact ah.coB hr
  ·exact ah.coB hr
def ah.coF{bs:List (Nat×aw)}:∀{l:List (Nat×Pt)}{s:St}{G:Gh},ah zw0 zwv zwx G s a w->∃G',ah zw0 zwv zwx G' (coF bs l s) a w
 |[],s,G,hr=>⟨G,hr⟩|(i,p)::r,s,G,hr=>by
  unfold Sym.coF;split
  ·rename_i x _;cases hb:jb x<;>simp
   ·exact ah.coF hr
   ·split
    ·split
     ·rename_i h;obtain⟨G',hr'⟩:=hr.ownNil h;exact ah.coF hr'
     ·exact ah.coF hr
    ·exact ah.coF hr
  ·obtain⟨G',hr'⟩:=hr.frzL;exact ah.coF hr'
  ·exact ah.coF hr
def ah.co{s:St}{G:Gh}(hr:ah zw0 zwv zwx G s a w)(ls:LS)(ids:NM):∃G',ah zw0 zwv zwx G' (ls.co ids s) a w:=by
 obtain⟨G',hr'⟩:=hr.coB (bs:=ls.hp) (nm:=p8 s ls.hp (ids++nmF s.fr ls.fr)) (l:=ls.hp);exact hr'.coF
end
def nmY(k:qx)(m:Nat):NM:=match k with|.yld m'=>[(m',m)]|_=>[]
def qhs(g:cu->Bool):List cu->Option cu|[]=>none|e::es=>bif g e then some e else qhs g es
def q3y(tb:Tb)(s:St)(op:Op):Option St:=
 match op with
 |.call { callee := .value g,args,argTypes:=_ }=>match s.ev g,s.evs args.toList with
  |some (.fn (.func f) [] cap),some xs=>match qhs (fun e=>n9 f e.key) tb.ents with|some e=>some (coB e.hp (p8 s e.hp (sv e.args (xs++cap))) e.hp (frzL (vc e.args (xs++cap)) s))|none=>none
  |some (.yld m),some ys=>match ae s.hp m with
   | some (.loop _ _ _ _ _ _ tag _)=>match qhs (fun e=>match e.key with
     |.yld m'=>match qiq e.hp m' with|some (.loop _ _ _ _ _ _ tag' _)=>Nat.beq tag' tag|_=>false
     | _=>false) tb.ents with
    |some e=>some (coB e.hp (p8 s e.hp (nmY e.key m++sv e.args ys)) e.hp (frzL (vc e.args ys) s))|none=>none
   |_=>none
  |_,_=>none
 |.slice _ x _ _ _=>match s.ev x with|some (.own k)=>some (frzL [k] s)|_=>none
 |.buildSlice _ _ parts=>match s.evs (parts.toList.map (·.2)) with|some xs=>some (frzL (vt xs) s)|none=>none
 |_=>none
def exq{R:Type}(P:Program)(tb:Tb)(s:St)(o:Oper)(K:St->Option R):Option R:=
 match pi P tb s o.op with
 |some q=>q.K fun d=>match lr P s d o with|some (_,s')=>K s'|none=>none
 |none=>none
def q5p:Option Rq->Bool|some _=>true|none=>false
def ex1{R:Type}(P:Program)(tb:Tb)(s:St)(o:Oper)(K:St->Option R):Option R:=
 match quc P s o with
 |some s'=>K s'|none=>match qrr P s o with
 |some s'=>K s'|none=>match qte P s o K with
 |some r=>r|none=>match qum P s o K with
 |some r=>r|none=>match qsz P s o K with
 |some r=>r|none=>match qth P s o with
 |some (b,s')=>bif b then K s' else none|none=>match qq3 P s o with
 |some (b,s')=>bif b then K s' else none|none=>match qsn P s o with
 |some (b,s')=>bif b then K s' else none|none=>match qsj tb s o K with
 |some r=>r|none=>match qui P tb s o with
 |some (b,s')=>bif b then K s' else none|none=>bif q5p (pi P tb s o.op) then exq P tb s o K else
  match q3y tb s o.op with|some s'=>exq P tb s' o K|none=>none
def St.know(s:St)(x:Operand)(b:Bool):St:=match x with|.tmp t=>bif Nat.blt t s.n then{ s with fr:=(t,.val (.bool b))::s.fr } else s|_=>s
def yp(ops:Array Oper)(j:Nat):Operand:=match ops[j]? with
 |some o=>match o.dst with|some t => .tmp t|none => .const undef
 |none => .const undef
def op1{R:Type}(P:Program)(tb:Tb)(ops:Array Oper)(s:St)(o:Oper)(K:St->Option R):Option R:=
 match o.guard with
 |none=>ex1 P tb s o K|some (j,want)=>match pu ops s j with
  |none=>none|some none=>match s.add o.dst (.val undef) [] with|some s'=>K s'|none=>none
  |some (some b)=>bif b then
    (bif want then ex1 P tb (s.know (yp ops j) true) o K else match(s.know (yp ops j) true).add o.dst (.val undef) [] with
     |some s'=>K s'| none=>none)
   else(bif want then(match(s.know (yp ops j) false).add o.dst (.val undef) [] with
     |some s'=>K s'| none=>none) else ex1 P tb (s.know (yp ops j) false) o K)
def vq{R:Type}(P:Program)(tb:Tb)(ops:Array Oper):List Oper->St->(St->Option R)->Option R|[],s,K=>K s|o::l,s,K=>op1 P tb ops s o fun s'=>vq P tb ops l s' K
section
variable{P:Program}{zw0:World}{zwv:Gh}{zwx:List (Nat×ag)}{G:Gh}{a:Act}{w:World}{R:Type}{tb:Tb}{s:St}
def q4q(hT:∀e∈tb.ents,e.Sound P)(hr:ah zw0 zwv zwx G s a w){o:Oper}{K:St->Option R}{x:R}(h:exq P tb s o K=some x){N:Act->World->Prop}(hN:∀s',K s'=some x->∀G' a' w',ah zw0 zwv zwx G' s' a' w'->N a' w'):ez P o a w N:=by
 unfold exq at h;split at h
 ·rename_i q hq;obtain⟨d,h1,h2⟩:=Rq.K_some h;split at h2
  ·rename_i ps s' ha;exact qgt hr ha (q2q hT hq h1 ha) (hN s' h2)
  ·cases h2
 ·cases h
def qsg(hT:∀e∈tb.ents,e.Sound P)(hr:ah zw0 zwv zwx G s a w){o:Oper}{K:St->Option R}{x:R}(h:ex1 P tb s o K=some x){N:Act->World->Prop}(hN:∀s',K s'=some x->∀G' a' w',ah zw0 zwv zwx G' s' a' w'->N a' w'):ez P o a w N:=by
 unfold ex1 at h;split at h
 ·rename_i s' hs;exact zkp hr hs (hN s' h)
 split at h
 ·rename_i s' hs;exact zfv hr hs (hN s' h)
 split at h
 ·rename_i r' hs;exact zif hr hs h hN
 split at h
 ·rename_i r' hs;exact zlk hr hs h hN
 split at h
 ·rename_i r' hs;exact zhu hr hs h hN
 split at h
 ·rename_i b s' hs;cases b<;>simp at h
  exact zin hr hs (hN s' h)
 split at h
 ·rename_i b s' hs;cases b<;>simp at h
  exact zeb hr hs (hN s' h)
 split at h
 ·rename_i b s' hs;cases b<;>simp at h
  exact zgz hr hs (hN s' h)
 split at h
 ·rename_i r' hs;exact zgw hT hr hs h hN
 split at h
 ·rename_i b s' hs;cases b<;>simp at h
  exact zlg hr hs (hN s' h)
 cases hq:q5p (pi P tb s o.op)<;>rw[hq]at h<;>simp at h
 ·split at h
  ·rename_i s' hs;have:∃G',ah zw0 zwv zwx G' s' a w:=by
    unfold q3y at hs;split at hs
    ·split at hs
     ·split at hs
      ·simp at hs;subst hs;obtain⟨G1,hr1⟩:=hr.frzL;exact hr1.coB
      ·cases hs
     ·split at hs
      ·split at hs
       ·simp at hs;subst hs;obtain⟨G1,hr1⟩:=hr.frzL;exact hr1.coB
       ·cases hs
      ·cases hs
     ·cases hs
    ·split at hs
     ·simp at hs;subst hs;exact hr.frzL
     ·cases hs
    ·split at hs
     ·simp at hs;subst hs;exact hr.frzL
     ·cases hs
    ·cases hs
   obtain⟨G',hr'⟩:=this;exact q4q hT hr' h hN
  ·cases h
 ·exact q4q hT hr h hN
def ah.know(hr:ah zw0 zwv zwx G s a w){x:Operand}{b:Bool}(h:a.eval x = .bool b):ah zw0 zwv zwx G (s.know x b) a w:=by
 unfold St.know;split
 ·rename_i t;cases hb:Nat.blt t s.n
  ·exact hr
  ·refine⟨hr.defers,hr.size,fun i y hy => ?_,hr.fresh,hr.fin⟩
   simp[qT,ae]at hy;cases hq:Nat.beq t i
   ·rw[hq]at hy;exact hr.frame i y hy
   ·rw[hq]at hy;simp at hy;subst hy;have:=qN hq;subst this;have hlt:t<a.tmps.size:=by rw[hr.size];exact Nat.lt_of_lt_of_le (Nat.lt_succ_self t) (Nat.le_of_ble_eq_true hb)
    refine⟨a.tmps[t],by simp[hlt],?_⟩
    have h:a.tmps.getD t undef = .bool b:=h;simp[Array.getD,hlt,dif_pos]at h;exact h
 ·exact hr
def zwo{ops:Array Oper}{j:Nat}{b:Bool}(h:yielded ops a.tmps j=some b):a.eval (yp ops j) = .bool b:=by
 unfold yp;unfold yielded at h
 cases ho:ops[j]? with
 |none=>rw[ho]at h;simp at h|some o=>
  rw[ho]at h
  cases hd:o.dst with
  |none=>simp[hd]at h|some t=>
   simp[hd,qB]at h ⊢;show a.tmps.getD t undef=_;rw[Array.getD_eq_getD_getElem?]
   cases hv:a.tmps[t]? with
   |none=>rw[hv]at h;simp at h|some v=>
    rw[hv]at h;simp at h ⊢;split at h
    ·rename_i e;simp at h;subst h;exact qJ e
    ·cases h
def ah.skip(hr:ah zw0 zwv zwx G s a w){dst:Option Tmp}{s':St}(h:s.add dst (.val undef) []=some s'):ah zw0 zwv zwx G s' (a.put dst undef) w:=eq hr h rfl
def q6x(hT:∀e∈tb.ents,e.Sound P)(hr:ah zw0 zwv zwx G s a w){ops:Array Oper}{i:Nat}{o:Oper}(ho:ops[i]? = some o){K:St->Option R}{x:R}(h:op1 P tb ops s o K=some x){N:Act->World->Prop}(hN:∀s',K s'=some x->∀G' a' w',ah zw0 zwv zwx G' s' a' w'->N a' w'):nu P ops i N a w:=by
 have skip:∀{s:St},ah zw0 zwv zwx G s a w->(match s.add o.dst (.val undef) [] with|some s'=>K s'|none=>none)=some x->¬Region.wanted o (yielded ops a.tmps)=true->nu P ops i N a w:=fun hr h hw=>by
  split at h
  ·rename_i s' hs;exact qrz ho hw (hN s' h _ _ _ (hr.skip hs))
  ·cases h
 unfold op1 at h;split at h
 ·rename_i hg;exact yh ho (by simp[Region.wanted,hg]) (qsg hT hr h hN)
 ·rename_i j want hg;split at h
  ·cases h
  ·rename_i hgo;have hy:=qic hr hgo;exact skip hr h (by simp[Region.wanted,hg,hy])
  ·rename_i b hgo;have hy:=qic hr hgo;have hk:=hr.know (zwo hy);cases b<;>cases want<;>simp at h
   ·exact yh ho (by simp[Region.wanted,hg,hy]) (qsg hT hk h hN)
   ·exact skip hk h (by simp[Region.wanted,hg,hy])
   ·exact skip hk h (by simp[Region.wanted,hg,hy])
   ·exact yh ho (by simp[Region.wanted,hg,hy]) (qsg hT hk h hN)
def q60(hT:∀e∈tb.ents,e.Sound P){ops:Array Oper}{K:St->Option R}{x:R}{N:Act->World->Prop}(hN:∀s',K s'=some x->∀G' a' w',ah zw0 zwv zwx G' s' a' w'->N a' w') :
  ∀(l:List Oper)(i:Nat)(s:St)(G:Gh)(a:Act)(w:World),(∀j,j<l.length->ops[i+j]? = l[j]?)->vq P tb ops l s K=some x->ah zw0 zwv zwx G s a w->po P ops N (List.range' i l.length) a w
 |[],i,s,G,a,w,_,h,hr=>hN s h G a w hr|o::l,i,s,G,a,w,hl,h,hr=>by
  simp;exact q6x hT hr (by have:=hl 0 oC;simpa using this) h (fun s' h' G' a' w' hr'=>q60 hT hN l (i+1) s' G' a' w' (fun j hj=>by have:=hl (j+1) oD;simpa [Nat.add_assoc,Nat.add_comm 1 j] using this) h' hr')
end
end Go.Sym
namespace Go.Sym
open Go.RowKit
variable[LC]
def y5:List (Nat×Bool)->Nat->Option Bool|[],_=>none|(k,v)::r,i=>bif Nat.beq k i then some v else y5 r i
def qjf(t:Nat):List HR->Nat->Option Nat|[],_=>none|r::rs,j=>bif Nat.beq r.dst t then some j else qjf t rs (j+1)
def q50(pred:List Nat)(Rs:List HR)(kn:List (Nat×Bool))(op:Op):Option Bool:=
 match op with
 |.pick (.tmp c) _ _=>match qjf c Rs 0 with|some j=>bif a7 pred j then y5 kn j else none|none=>none
 |_=>none
def q2m(P:Program)(tb:Tb)(t:St)(pred:List Nat)(Rs:List HR)(kn:List (Nat×Bool))(op:Op):Option Rq:=
 match q50 pred Rs kn op with|some d=>some (.tot (.b d))|none=>pi P tb t op
def yu{R:Type}(P:Program)(tb:Tb)(t:St)(pred:List Nat)(Rs:List HR)(kn:List (Nat×Bool))(o:Oper)(K:AV->List (Nat×ag)->Option R):Option R:=
 match q2m P tb t pred Rs kn o.op with
 |some q=>q.K fun d=>match dt P t d o with|some (_,v,new)=>K v new|none=>none
 |none=>none
def qc8:AV->Bool|.bool _=>true|_=>false
def pa(pred:List Nat)(Rs:List HR)(j:Nat)(d:Bool)(kn:List (Nat×Bool)):List (Nat×Bool):=match Rs[j]? with|some r=>bif a7 pred j&&qc8 r.v then(j,d)::kn else kn|none=>kn
def opH{R:Type}(P:Program)(tb:Tb)(ops:Array Oper)(t:St)(pred:List Nat)(Rs:List HR)(kn:List (Nat×Bool))(o:Oper)(K:AV->List (Nat×ag)->List (Nat×Bool)->Option R):Option R:=
 match o.guard with
 |none=>yu P tb t pred Rs kn o fun v new=>K v new kn
 |some (j,want)=>match pu ops t j with
  |none=>none|some none=>K (.val undef) [] kn|some (some b)=>match(bif a7 pred j then y5 kn j else none) with
   |some d=>bif d==want then(yu P tb t pred Rs kn o fun v new=>K v new kn) else K (.val undef) [] kn
   |none=>bif b then(bif want then(yu P tb t pred Rs (pa pred Rs j true kn) o fun v new=>K v new (pa pred Rs j true kn)) else K (.val undef) [] (pa pred Rs j true kn))
    else(bif want then K (.val undef) [] (pa pred Rs j false kn) else(yu P tb t pred Rs (pa pred Rs j false kn) o fun v new=>K v new (pa pred Rs j false kn)))
def qie{R:Type}(P:Program)(tb:Tb)(ops:Array Oper)(s:St)(K:List HR->List (Nat×Bool)->Option R):List Oper->Nat->List HR->List (Nat×Bool)->Option R
 |[],_,Rs,kn=>K Rs kn|o::l,i,Rs,kn=>match o.dst,kg Rs o.after.toList with
  |some d,some pred=>bif Nat.blt d s.n&&au (s.nx+32*d) s.hp&&mi d Rs&&oc pred (gv ops o) Rs 0&&om ops d pred i then
    opH P tb ops (nn pred Rs 0 s) pred Rs kn o fun v new kn'=>qie P tb ops s K l (i+1) (Rs++[⟨d,v,new,pred⟩]) kn'
   else none
  |_,_=>none
def qro:List Oper->Nat->Nat|[],n=>n|o::l,n=>bif Nat.ble 2 n&&qd2 o (n-2) then qro l (n-1) else n-1
def q4u(ops:Array Oper):List Oper->Nat->Nat|[],n=>n|o::l,n=>bif q7e ops o n then n else q4u ops l (n+1)
def f8(ops:Array Oper):Nat:=q4u ops (ops.toList.drop (qro ops.toList.reverse ops.toList.length)) (qro ops.toList.reverse ops.toList.length)
def sr(Rs:List HR)(kn:List (Nat×Bool)):List (Nat×Bool)->St->St
 |[],s=>s|(j,_)::l,s=>match y5 kn j,Rs[j]? with|some d,some r=>(sr Rs kn l s).know (.tmp r.dst) d|_,_=>sr Rs kn l s
def qr7{R:Type}(P:Program)(tb:Tb)(ops:Array Oper)(s:St)(K:St->Option R):Option R:=
 bif ju ops.toList 0&&kh ops (f8 ops)&&Nat.ble (f8 ops) ops.toList.length then
  qie P tb ops s (fun Rs kn=>vq P tb ops (ops.toList.drop (f8 ops)) (sr Rs kn kn (ir Rs s)) K) (ops.toList.take (f8 ops)) 0 [] []
 else none
section
variable{P:Program}{zw0:World}{zwv:Gh}{zwx:List (Nat×ag)}{G:Gh}{a:Act}{w:World}{R:Type}{tb:Tb}{s:St}
def jo(Rs:List HR)(kn:List (Nat×Bool)):Prop:=∀j d,y5 kn j=some d->∃r,Rs[j]? = some r/\r.v = .bool d
def zdu{pred:List Nat}{Rs:List HR}{j:Nat}{d:Bool}{kn:List (Nat×Bool)}(hk:jo Rs kn)(h:∀r,Rs[j]? = some r->a7 pred j=true->qc8 r.v=true->r.v = .bool d):jo Rs (pa pred Rs j d kn):=by
 unfold pa;split
 ·rename_i r hr;cases hb:a7 pred j&&qc8 r.v
  ·exact hk
  ·simp at hb;intro j' d' h';simp[qT,y5]at h';cases hq:Nat.beq j j'
   ·rw[hq]at h';exact hk j' d' h'
   ·rw[hq]at h';simp at h';subst h';have:=qN hq;subst this;exact⟨r,hr,h r hr hb.1 hb.2⟩
 ·exact hk
def q8a{t:Nat}:∀{rs:List HR}{j0 j:Nat},qjf t rs j0=some j->∃k r,j=j0+k/\rs[k]? = some r/\r.dst=t
 |[],j0,j,h=>by cases h
 |r::rs,j0,j,h=>by
  simp[qjf]at h;cases hq:Nat.beq r.dst t
  ·rw[hq]at h;obtain⟨k,r',h1,h2,h3⟩:=q8a h;exact⟨k+1,r',oA,by simpa using h2,h3⟩
  ·rw[hq]at h;simp at h;exact⟨0,r,oA,oC,qN hq⟩
def qhw(hT:∀e∈tb.ents,e.Sound P){t:St}{pred:List Nat}{Rs:List HR}{kn:List (Nat×Bool)}{o:Oper}{K:AV->List (Nat×ag)->Option R}{x:R}(hkn:jo Rs kn)(hv:∀j r,a7 pred j=true->Rs[j]? = some r->ae t.fr r.dst=some r.v)
  (h:yu P tb t pred Rs kn o K=some x):∃ps d v new,dt P t d o=some (ps,v,new)/\ao ps/\K v new=some x:=by
 unfold yu at h;split at h
 ·rename_i q hq;obtain⟨d,h1,h2⟩:=Rq.K_some h;split at h2
  ·rename_i ps v new ha;refine⟨ps,d,v,new,ha,?_,h2⟩;unfold q2m at hq;split at hq
   ·rename_i d' hd;simp at hq;subst hq;have h1:d = .b d':=h1;subst h1;unfold q50 at hd;split at hd
    ·rename_i c y z hop;split at hd
     ·rename_i j hj;obtain⟨k,r,rfl,i1,i2⟩:=q8a hj;rw[wO]at hd;cases hm:a7 pred k<;>rw[hm]at hd<;>simp at hd
      obtain⟨r',j1,j2⟩:=hkn k d' hd;rw[i1]at j1;have:=qJ j1;subst this;have hl:=hv k r hm i1;rw[i2,j2]at hl;unfold dt at ha;rw[hop]at ha;have hev:t.ev (.tmp c)=some (.bool d'):=hl;simp[ci,hev]at ha;split at ha
      ·rename_i ps1 v1 e;simp at ha;obtain⟨rfl,_,_⟩:=ha;split at e
       ·simp at e;obtain⟨rfl,_⟩:=e;exact⟨trivial,trivial⟩
       ·cases e
      ·unfold ft at ha;rw[hop]at ha;cases ha
     ·cases hd
    ·cases hd
   ·exact q2p hT hq h1 ha
  ·cases h2
 ·cases h
def q6y(hT:∀e∈tb.ents,e.Sound P){ops:Array Oper}{t:St}{pred:List Nat}{Rs:List HR}{kn:List (Nat×Bool)}{o:Oper}{K:AV->List (Nat×ag)->List (Nat×Bool)->Option R}{x:R}(hkn:jo Rs kn)
  (hv:∀j r,a7 pred j=true->Rs[j]? = some r->ae t.fr r.dst=some r.v) (hd:∀(j:Nat)(r:HR),a7 pred j=true->Rs[j]? = some r->∃oj:Oper,ops[j]? = some oj/\oj.dst=some r.dst)
  (h:opH P tb ops t pred Rs kn o K=some x):∃ps,∃c:qn,∃v new kn',jr P ops t c o=some (ps,v,new)/\ao ps/\jo Rs kn'/\K v new kn'=some x:=by
 unfold opH at h;unfold jr;split at h
 ·rename_i hg;obtain⟨ps,d,v,new,h1,h2,h3⟩:=qhw hT hkn hv h;exact⟨ps,(false,d),v,new,kn,by rw[hg];exact h1,h2,hkn,h3⟩
 ·rename_i j want hg;split at h
  ·cases h
  ·rename_i hgo;exact⟨[],(false,.none),_,_,kn,by simp[hg,hgo],trivial,hkn,h⟩
  ·rename_i b hgo;have hb:∀r,Rs[j]? = some r->a7 pred j=true->qc8 r.v=true->r.v = .bool b:=fun r hr hm hi=>by
    obtain⟨oj,k1,k2⟩:=hd j r hm hr;have hl:=hv j r hm hr;unfold pu at hgo;simp[k1,k2,hl]at hgo;cases hrv:r.v<;>rw[hrv]at hi<;>simp[qc8,wJ]at hi
    rw[hrv]at hgo;simp at hgo;subst hgo;rfl
   split at h
   ·rename_i d hkd;cases hm:a7 pred j<;>rw[hm]at hkd<;>simp at hkd
    obtain⟨r,i1,i2⟩:=hkn j d hkd;have hbd:b=d:=by
     have:=hb r i1 hm (by rw[i2];rfl)
     rw[i2]at this;simpa using this.symm
    cases hw:d==want<;>rw[hw]at h<;>simp at h
    ·exact⟨[b=d],(d,.none),_,_,kn,by simp[hg,hgo,hw],⟨hbd,trivial⟩,hkn,h⟩
    ·obtain⟨ps,d',v,new,h1,h2,h3⟩:=qhw hT hkn hv h;exact⟨(b=d)::ps,(d,d'),v,new,kn,by simp[hg,hgo,hw,h1],⟨hbd,h2⟩,hkn,h3⟩
   ·have hkn':∀d,b=d->jo Rs (pa pred Rs j d kn):=fun d e=>zdu hkn (by subst e;exact hb)
    cases b<;>cases want<;>simp at h
    ·obtain⟨ps,d',v,new,h1,h2,h3⟩:=qhw hT (hkn' false rfl) hv h;exact⟨(false=false)::ps,(false,d'),v,new,_,by simp[hg,hgo,h1],⟨rfl,h2⟩,hkn' false rfl,h3⟩
    ·exact⟨[false=false],(false,.none),_,_,_,by simp[hg,hgo],⟨rfl,trivial⟩,hkn' false rfl,h⟩
    ·exact⟨[true=true],(true,.none),_,_,_,by simp[hg,hgo],⟨rfl,trivial⟩,hkn' true rfl,h⟩
    ·obtain⟨ps,d',v,new,h1,h2,h3⟩:=qhw hT (hkn' true rfl) hv h;exact⟨(true=true)::ps,(true,d'),v,new,_,by simp[hg,hgo,h1],⟨rfl,h2⟩,hkn' true rfl,h3⟩
def q2g{sel:List Nat}{d:Nat}:∀{rs:List HR}{j:Nat}{t:St},(∀r∈rs,r.dst≠d)->ae (nn sel rs j t).fr d=ae t.fr d
 |[],_,_,_=>rfl|r::rs,j,t,h=>by
  simp[nn];rw[q2g (fun r' hr'=>h r' (qE _ hr'))]
  cases a7 sel j
  ·rfl
  ·simp[qT,St.addR,ae];have:=h r qH;cases hq:Nat.beq r.dst d
   ·rfl
   ·exact absurd (qN hq) this
def q2f{sel:List Nat}:∀{rs:List HR}{j k:Nat}{t:St}{r:HR},rs[k]? = some r->a7 sel (j+k)=true->(∀k' r',k<k'->rs[k']? = some r'->r'.dst≠r.dst)->ae (nn sel rs j t).fr r.dst=some r.v
 |[],_,_,_,_,h,_,_=>by simp at h|r0::rs,j,0,t,r,h,hm,hd=>by
  simp at h;subst h;simp[nn];rw[q2g (fun r' hr'=>by
   obtain⟨k,hk⟩:=List.getElem?_of_mem hr';exact hd (k+1) r' oA (by simpa using hk))]
  rw[Nat.add_zero]at hm;rw[hm];simp[St.addR,ae]
 |r0::rs,j,k+1,t,r,h,hm,hd=>by
  simp[nn];exact q2f (k:=k) (by simpa using h) (by rw[show j+1+k=j+(k+1) by omega];exact hm) (fun k' r' hk hr'=>hd (k'+1) r' oA (by simpa using hr'))
def q2b{d:Nat}:∀{rs:List HR}{t:St},(∀r∈rs,r.dst≠d)->ae (ir rs t).fr d=ae t.fr d
 |[],_,_=>rfl|r::rs,t,h=>by
  simp[ir];rw[q2b (fun r' hr'=>h r' (qE _ hr'))]
  show(bif Nat.beq r.dst d then some r.v else ae t.fr d)=_
  cases hb:Nat.beq r.dst d
  ·rfl
  ·exact absurd (qN hb) (h r qH)
def q2a:∀{rs:List HR}{k:Nat}{t:St}{r:HR},rs[k]? = some r->(∀k' r',k<k'->rs[k']? = some r'->r'.dst≠r.dst)->ae (ir rs t).fr r.dst=some r.v
 |[],_,_,_,h,_=>by simp at h|r0::rs,0,t,r,h,hd=>by
  simp at h;subst h;simp[ir];rw[q2b (fun r' hr'=>by
   obtain⟨k,hk⟩:=List.getElem?_of_mem hr';exact hd (k+1) r' oA (by simpa using hk))]
  show(bif Nat.beq r0.dst r0.dst then some r0.v else ae t.fr r0.dst)=_
  simp
 |r0::rs,k+1,t,r,h,hd=>by
  simp[ir];exact q2a (k:=k) (by simpa using h) (fun k' r' hk hr'=>hd (k'+1) r' oA (by simpa using hr'))
def q51{Rs:List HR}(hdis:∀(k k':Nat)(r r':HR),k<k'->Rs[k]? = some r->Rs[k']? = some r'->r'.dst≠r.dst)(hr:ah zw0 zwv zwx G (ir Rs s) a w){kn:List (Nat×Bool)}(hkn:jo Rs kn):∀{l:List (Nat×Bool)},ah zw0 zwv zwx G (sr Rs kn l (ir Rs s)) a w
 |[]=>hr|(j,_)::l=>by
  have ih:=q51 hdis hr hkn (l:=l);unfold sr;split
  ·rename_i d r h0 h1;obtain⟨r',i1,h2⟩:=hkn j d h0;rw[h1]at i1;have:=qJ i1;subst this;refine ih.know ?_;obtain⟨v,v1,v2⟩:=hr.frame r.dst _ (q2a h1 (fun k' r' hk hr'=>hdis j k' r r' hk h1 hr'))
   rw[h2]at v2;have v2:v = .bool d:=v2;subst v2;show a.tmps.getD r.dst undef=_;rw[Array.getD_eq_getD_getElem?,v1];rfl
  ·exact ih
def q5i(hT:∀e∈tb.ents,e.Sound P){ops:Array Oper}{K:List HR->List (Nat×Bool)->Option R}{x:R}:∀(l:List Oper)(i:Nat)(Rs:List HR)(kn:List (Nat×Bool)),(∀j,j<l.length->ops[i+j]? = l[j]?)->Rs.length=i->jo Rs kn ->
  (∀j o,j<i->ops[j]? = some o->HOk P ops s Rs j o)->qie P tb ops s K l i Rs kn=some x->∃Rs' kn',K Rs' kn'=some x/\jo Rs' kn'/\Rs'.length=i+l.length/\∀j o,j<i+l.length->ops[j]? = some o->HOk P ops s Rs' j o
 |[],i,Rs,kn,_,ac,hkn,hH,h=>⟨Rs,kn,h,hkn,ac,hH⟩|o::l,i,Rs,kn,hl,ac,hkn,hH,h=>by
  have ho:ops[i]? = some o:=by have:=hl 0 oC;simpa using this
  have hops:∀j,j<i->∃oj,ops[j]? = some oj:=fun j hj=>by
   have:i<ops.size:=(Array.getElem?_eq_some_iff.1 ho).1;exact⟨ops[j],by simp[show j<ops.size by omega]⟩
  simp[qie]at h;split at h
  ·rename_i d pred hd hp;cases hb:Nat.blt d s.n&&au (s.nx+32*d) s.hp&&mi d Rs&&oc pred (gv ops o) Rs 0&&om ops d pred i<;>rw[hb]at h<;>simp at h
   simp only[qA]at hb;obtain⟨⟨⟨⟨b1,b2⟩,b3⟩,b4⟩,b5⟩:=hb;have hdst:∀(j:Nat)(r:HR),Rs[j]? = some r->∃oj:Oper,ops[j]? = some oj/\oj.dst=some r.dst:=fun j r hr=>by
    have hj:j<i:=by have:=(List.getElem?_eq_some_iff.1 hr).1;omega
    obtain⟨oj,hoj⟩:=hops j hj;obtain⟨r',_,_,k1,k2,_⟩:=hH j oj hj hoj;rw[hr]at k1;have:=qJ k1;subst this;exact⟨oj,hoj,k2⟩
   have hdis:∀(k k':Nat)(r r':HR),k<k'->Rs[k]? = some r->Rs[k']? = some r'->r'.dst≠r.dst:=fun k k' r r' hkk hr hr' e=>by
    have hk':k'<i:=by have:=(List.getElem?_eq_some_iff.1 hr').1;omega
    obtain⟨oj,hoj⟩:=hops k' hk';obtain⟨r2,_,_,k1,_,_,_,_,k6,_⟩:=hH k' oj hk' hoj;rw[hr']at k1;have:=qJ k1;subst this;exact sh.1 k6 r (List.mem_of_getElem? (i:=k) (by rw[List.getElem?_take,qX hkk];exact hr)) e.symm
   obtain⟨ps,c,v,new,kn',h1,h2,h3,h4⟩:=q6y hT hkn (fun j r hm hr=>q2f (k:=j) hr (by rw[wO];exact hm) (fun k' r' hk hr'=>hdis j k' r r' hk hr hr')) (fun j r _ hr=>hdst j r hr) h
   obtain⟨Rs',kn2,k1,kk,k2,k3⟩:=q5i hT l (i+1) (Rs++[⟨d,v,new,pred⟩]) kn' (fun j hj=>by have:=hl (j+1) oD;simpa [Nat.add_assoc,Nat.add_comm 1 j] using this) (by simp[ac])
    (fun j d' hj=>by
     obtain⟨r,i1,i2⟩:=h3 j d' hj;exact⟨r,by rw[List.getElem?_append_left (List.getElem?_eq_some_iff.1 i1).1];exact i1,i2⟩)
    (fun j oj hj hoj=>by
     by_cases hji:j<i
     ·obtain⟨r,ps',c',j1,j2,j3,j4,j5,j6,j7,j8,j9,j10⟩:=hH j oj hji hoj;have ht:(Rs++[(⟨d,v,new,pred⟩:HR)]).take j=Rs.take j:=by rw[List.take_append_of_le_length oA]
      exact⟨r,ps',c',by rw[List.getElem?_append_left oA];exact j1,j2,j3,j4,by rw[ht];exact j5,by rw[ht];exact j6,by rw[ht];exact j7,j8,by rw[ht];exact j9,j10⟩
     ·have:j=i:=oA
      subst this;rw[ho]at hoj;have:=qJ hoj;subst this;have ht:(Rs++[(⟨d,v,new,pred⟩:HR)]).take j=Rs:=by rw[← ac,List.take_left]
      exact⟨⟨d,v,new,pred⟩,ps,c,by rw[← ac];simp,hd,Nat.lt_of_lt_of_le (Nat.lt_succ_self d) (Nat.le_of_ble_eq_true b1),b2,by rw[ht];exact hp,by rw[ht];exact b3,by rw[ht];exact b4,b5,by rw[ht];exact h1,h2⟩)
    h4
   exact⟨Rs',kn2,k1,kk,by rw[k2,qL];omega,fun j oj hj=>k3 j oj (by rw[qL]at hj;omega)⟩
  ·cases h
def qup(hT:∀e∈tb.ents,e.Sound P){ops:Array Oper}{K:St->Option R}{x:R}{n:Nat}{N:Act->World->Prop}(he:ju ops.toList 0=true)(ht:kh ops n=true)(hN:∀s',K s'=some x->∀G' a' w',ah zw0 zwv zwx G' s' a' w'->N a' w') :
  ∀(l:List Oper)(m:Nat),n<=m->ops.toList.drop m=l->m<=ops.size->∀(s:St)(G:Gh)(a:Act)(w:World)(listed:Array Bool),vq P tb ops l s K=some x->ah zw0 zwv zwx G s a w->ut ops m listed->js P ops N (ops.size-m) listed a w
 |[],m,hn,hl,hm,s,G,a,w,listed,h,hr,hu=>by
  have:m=ops.size:=by
   have:=congrArg List.length hl;simp at this;omega
  subst this;exact zll hu (hN s h G a w hr)
 |o::l,m,hn,hl,hm,s,G,a,w,listed,h,hr,hu=>by
  have hlt:m<ops.size:=by
   have:=congrArg List.length hl;simp at this;omega
  have ho:ops[m]? = some o:=by
   have:=congrArg (fun l=>l[0]?) hl
   simpa using this
  refine zlm he ht hn hlt hu (q6x hT hr ho h (fun s' h' G' a' w' hr' listed' hu' => ?_))
  exact qup hT he ht hN l (m+1) oA (by rw[← List.drop_drop,hl];rfl) oA s' G' a' w' listed' h' hr' hu'
def zgi(hT:∀e∈tb.ents,e.Sound P)(hm:P.follows .mixedOrders=true){ops:Array Oper}{K:St->Option R}{x:R}(h:qr7 P tb ops s K=some x){N:Act->World->Prop}(hN:∀s',K s'=some x->∀G' a' w',ah zw0 zwv zwx G' s' a' w'->N a' w')
  (hr:ah zw0 zwv zwx G s a w) (id:Nat) (b:Frame) (k:List Item) (cs:List Frame) (hk:b.kind = .normal) :
  ∃a' w',N a' w'/\Steps P (lone (b.atR a (.code (.region id ops true)::k)) cs w) (lone (b.atR a' k) cs w'):=by
 unfold qr7 at h;generalize f8 ops=n at h;cases hb:ju ops.toList 0&&kh ops n&&Nat.ble n ops.toList.length<;>rw[hb]at h<;>simp at h
 simp only[qA]at hb;obtain⟨⟨b1,b2⟩,b3⟩:=hb;have hn:n<=ops.size:=by have:=Nat.le_of_ble_eq_true b3;simpa using this
 have ac:(ops.toList.take n).length=n:=by simp;omega
 obtain⟨Rs,kn,k1,kk,k2,k3⟩:=q5i hT (ops.toList.take n) 0 [] [] (fun j hj=>by
  rw[ac]at hj;rw[List.getElem?_take,qX hj,wO];simp) rfl (fun j d h=>by cases h) (fun j o hj=>oA) h
 rw[wO,ac]at k2 k3;have hdis:∀(k k':Nat)(r r':HR),k<k'->Rs[k]? = some r->Rs[k']? = some r'->r'.dst≠r.dst:=fun k k' r r' hkk hr hr' e=>by
  have hk':k'<n:=by have:=(List.getElem?_eq_some_iff.1 hr').1;omega
  obtain⟨oj,hoj⟩:∃oj,ops[k']? = some oj:=⟨ops[k'],by simp[show k'<ops.size by omega]⟩
  obtain⟨r2,_,_,j1,_,_,_,_,j6,_⟩:=k3 k' oj hk' hoj;rw[hr']at j1;have:=qJ j1;subst this;exact sh.1 j6 r (List.mem_of_getElem? (i:=k) (by rw[List.getElem?_take,qX hkk];exact hr)) e.symm
 exact zgl hn b1 b2 hm k2 k3 (fun G a w listed hr' hu=>qup hT b1 b2 hN _ n (wF _) rfl hn _ G a w listed k1 (q51 hdis hr' kk) hu) hr id b k cs hk
end
structure Md:Type where
 f:List (Nat×AV)
 h:List (Nat×ag)
def St.addM(s:St)(m:Md):St:={ s with fr:=m.f++s.fr,hp:=m.h++s.hp }
def qc3(K:List Nat):List (Nat×ag)->List (Nat×ag)|[]=>[]|(n,b)::r=>bif a7 K n then qc3 K r else(n,b)::qc3 K r
def St.hide(s:St)(K:List Nat):St:={ s with hp:=qc3 K s.hp }
def qtc{K:List Nat}:∀{l:List (Nat×ag)}{n:Nat}{b:ag},ae (qc3 K l) n=some b->ae l n=some b/\n∉K
 |[],n,b,h=>by cases h
 |(k,v)::r,n,b,h=>by
  simp[qc3]at h;cases hm:a7 K k<;>rw[hm]at h<;>simp at h
  ·simp[ae]at h ⊢;cases hb:Nat.beq k n<;>rw[hb]at h<;>simp at h ⊢
   ·exact qtc h
   ·refine⟨h,fun hn => ?_⟩
    rw[← qN hb]at hn;rw[d6.2 hn]at hm;cases hm
  ·obtain⟨h1,h2⟩:=qtc h;refine⟨?_,h2⟩;simp[ae];cases hb:Nat.beq k n
   ·exact h1
   ·exfalso;apply h2;rw[← qN hb];exact d6.1 hm
def y6(s:St)(q:Prop)(ys:List AV)(names:List (Nat×Nat))(xs:List AV)(hp:List (Nat×ag))(r:AV)(hp':List (Nat×ag))(t:Nat):Option (List Prop×Md):=
 bif c7 names&&ny names&&au (s.nx+32*t) s.hp&&Nat.blt t s.n then
  match fm (ap names) s.hp names,a8 false [] (AV.rens (ap names) ys) xs with
  |some hpv,some ps1=>match ie hpv hp with|some ps2=>some (q::(ps1++ps2),⟨[(t,r.ren (iw names hp' (s.nx+32*t)))],iy (iw names hp' (s.nx+32*t)) hp'++jt names⟩)|none=>none
  |_,_=>none
 else none
def zic{s:St}{q:Prop}{ys:List AV}{names:List (Nat×Nat)}{xs:List AV}{hp:List (Nat×ag)}{r:AV}{hp':List (Nat×ag)}{t:Nat}{ps:List Prop}{m:Md}(h:y6 s q ys names xs hp r hp' t=some (ps,m)):ss s q ys names xs hp r hp' t=some (ps,s.addM m):=by
 unfold y6 at h;unfold ss;cases hc:c7 names&&ny names&&au (s.nx+32*t) s.hp&&Nat.blt t s.n<;>rw[hc]at h<;>simp only[qT,qF,reduceCtorEq]at h ⊢
 split at h
 ·rename_i hpv ps1 h1 h2;split at h
  ·rename_i ps2 h3;simp only[qI,qP]at h;obtain⟨rfl,rfl⟩:=h;rw[h1,h2];simp[h3,St.addM,wM,qS]
  ·cases h
 ·cases h
def q9k{ρ:Nat->Option Nat}{hp hp':List (Nat×ag)}(hhp:∀n b,ae hp n=some b->ae hp' n=some b):∀{l:List (Nat×Nat)}{r:List (Nat×ag)},fm ρ hp l=some r->fm ρ hp' l=some r
 |[],_,h=>h|(m,n)::l,r,h=>by
  simp[fm]at h ⊢;split at h
  ·rename_i b l' h1 h2;rw[hhp _ _ h1,q9k hhp h2];exact h
  ·cases h
def zid{t s:St}{q:Prop}{ys:List AV}{names:List (Nat×Nat)}{xs:List AV}{hp:List (Nat×ag)}{r:AV}{hp':List (Nat×ag)}{tt:Nat}{R:List Prop×Md}(hhp:∀n b,ae t.hp n=some b->ae s.hp n=some b)(hroom:au (s.nx+32*tt) s.hp=true)(hnx:t.nx=s.nx)(hn:t.n=s.n)
  (h:y6 t q ys names xs hp r hp' tt=some R):y6 s q ys names xs hp r hp' tt=some R:=by
 unfold y6 at h ⊢;cases hc:c7 names&&ny names&&au (t.nx+32*tt) t.hp&&Nat.blt tt t.n<;>rw[hc]at h<;>simp at h
 simp only[qA]at hc;rw[hroom,← hn,hc.1.1.1,hc.1.1.2,hc.2,← hnx];split at h
 ·rename_i hpv ps1 h1 h2;rw[q9k hhp h1,h2];exact h
 ·cases h
def vl(P:Program)(t:St)(d:D)(o:Oper):Option (List Prop×Md):=
 match o.op,o.dst with
 |.store T x y,none=>match t.ev x,t.ev y,c8 P T with
  |some (.ptr b off),some v,some n=>match ae t.hp b with|some (.cells cs T')=>bif Nat.beq v.cells.length n&&AV.ones v.cells&&Nat.ble (off+n) cs.length then some ([],⟨[],[(b,.cells (dv cs off v.cells) T')]⟩) else none|_=>none
  |_,_,_=>none
 |.call { callee := .builtin .append,args,argTypes },some tt=>match args.toList,argTypes.toList with
  |[x,y],[ty,ty2]=>match t.ev x,t.ev y with
   |some (.own k),some v=>match ae t.hp k with
    |some (.row τ0 l0 E0)=>match ku P t d ty ty2 (l0.flatMap τ0.enc) l0.length v with|some (ps,.row τ l E)=>bif au (t.nx+32*tt) t.hp&&Nat.beq τ.sz τ0.sz&&Nat.beq E E0&&Nat.blt tt t.n then some (ps,⟨[(tt,.own (t.nx+32*tt))],[(t.nx+32*tt,.row τ l E),(k,.dead)]⟩) else none|_=>none
    |_=>none
   |_,_=>none
  |_,_=>none
 |.call { callee := .value g,args,argTypes:=_ },some tt=>match t.ev g,t.evs args.toList,d with|some (.fn (.func f) [] cap),some ys,.mem names xs hp r hp'=>y6 t (ni P f/\bu P f xs hp r hp') (ys++cap) names xs hp r hp' tt|_,_,_=>none
 |_,_=>none
def q6h{P:Program}{t:St}{d:D}{o:Oper}{ps:List Prop}{m:Md}(h:vl P t d o=some (ps,m)):lr P t d o=some (ps,t.addM m):=by
 obtain⟨dst,op,ty,pos,after,guard⟩:=o;unfold vl at h;split at h
 ·rename_i T x y ho hd;simp only at ho hd;subst ho hd;split at h
  ·rename_i b off v n hx hy hn;split at h
   ·rename_i cs T' hb;cases hc:Nat.beq v.cells.length n&&AV.ones v.cells&&Nat.ble (off+n) cs.length<;>rw[hc]at h<;>simp at h
    obtain⟨rfl,rfl⟩:=h;unfold lr;rw[show dt P t d ⟨none,.store T x y,ty,pos,after,guard⟩=none from rfl]
    simp[lu,hx,hy,hn,hb,hc,qT];rfl
   ·cases h
  ·cases h
 ·rename_i args argTypes tt ho hd;simp only at ho hd;subst ho hd;split at h
  ·rename_i x y t1 t2 ha ht;split at h
   ·rename_i k v hx hy;split at h
    ·rename_i τ0 l0 E0 hk;split at h
     ·rename_i ps' τ l E hap;cases hc:au (t.nx+32*tt) t.hp&&Nat.beq τ.sz τ0.sz&&Nat.beq E E0&&Nat.blt tt t.n<;>rw[hc]at h<;>simp at h
      obtain⟨rfl,rfl⟩:=h;have hadd:dt P t d ⟨some tt,.call { callee := .builtin .append,args:=args,argTypes:=argTypes },ty,pos,after,guard⟩=none:=by
       simp[dt,ci,ft,ha,ht,hx,hy]
      unfold lr;rw[hadd];simp[lu,ha,ht,hx,hy,hk,hap,hc,qT];rfl
     ·cases h
    ·cases h
   ·cases h
  ·cases h
 ·rename_i g args argTypes tt ho hd;simp only at ho hd;subst ho hd;split at h
  ·rename_i f cap ys names xs hp r hp' hg hys;have hadd:dt P t (.mem names xs hp r hp') ⟨some tt,.call { callee := .value g,args:=args,argTypes:=argTypes },ty,pos,after,guard⟩=none:=by
    simp[dt,ci,ft,hg,hys]
   unfold lr;rw[hadd];simp[lu,hg,hys];exact zic h
  ·cases h
 ·cases h
def zih{P:Program}{t st:St}{d:D}{o:Oper}{R:List Prop×Md}(hs:ur o t st)(hn:t.n=st.n)(h:vl P t d o=some R):vl P st d o=some R:=by
 obtain⟨dst,op,ty,pos,after,guard⟩:=o;have hev:=hs.ev;have hhp:=hs.hp;have hroom:=hs.room;have hnx:=hs.nx;simp only at hev hroom;unfold vl at h ⊢;split at h
 ·rename_i T x y ho hd;simp only at ho hd;subst ho hd;rw[hev x oF,hev y oF]at h
  split at h
  ·rename_i b off v n hx hy hn;split at h
   ·rename_i cs T' hb;simp[hhp _ _ hb];exact h
   ·cases h
  ·cases h
 ·rename_i args argTypes tt ho hd;simp only at ho hd;subst ho hd;have hm:∀z∈args.toList,t.ev z=st.ev z:=fun z hz=>hev z (by simp[Op.operands,Call.operands];simpa using hz)
  split at h
  ·rename_i x y t1 t2 ha ht;rw[hm x (by rw[ha];simp),hm y (by rw[ha];simp)]at h
   split at h
   ·rename_i k v hx hy;split at h
    ·rename_i τ0 l0 E0 hk;simp[hhp _ _ hk];split at h
     ·rename_i ps' τ l E hap;simp[q14 hhp hap];cases hc:au (t.nx+32*tt) t.hp&&Nat.beq τ.sz τ0.sz&&Nat.beq E E0&&Nat.blt tt t.n<;>rw[hc]at h<;>simp only[qT,qF,reduceCtorEq]at h
      simp only[qA]at hc;rw[hroom tt rfl,← hn,hc.1.1.2,hc.1.2,hc.2,← hnx];exact h
     ·cases h
    ·cases h
   ·cases h
  ·cases h
 ·rename_i g args argTypes tt ho hd;simp only at ho hd;subst ho hd;have h1:t.ev g=st.ev g:=hev g (by simp[Op.operands,Call.operands])
  have h2:t.evs args.toList=st.evs args.toList:=qcv (fun x hx=>hev x (by simp[Op.operands,Call.operands];exact .inr (by simpa using hx)))
  rw[h1,h2]at h;split at h
  ·exact zid hhp (hroom tt rfl) hnx hn h
  ·cases h
 ·cases h
def fb{β:Type}(A:Nat->List (Nat×β)):List Nat->List (Nat×β)->List (Nat×β)|[],b=>b|i::L,b=>A i++fb A L b
def qtb{β:Type}(l r:List (Nat×β))(n:Nat):ae (l++r) n=match ae l n with|some b=>some b|none=>ae r n:=by
 induction l with
 |nil=>rfl|cons x l ih=>
  obtain⟨k,v⟩:=x;simp[wK,ae];cases Nat.beq k n<;>simp[ih]
def p7{β:Type}:∀{l:List (Nat×β)}{m:Nat},ae l m≠none->∃e∈l,e.1=m
 |[],m,h=>absurd rfl h|(k,v)::r,m,h=>by
  simp[ae]at h;cases hb:Nat.beq k m
  ·rw[hb]at h;obtain⟨e,h1,h2⟩:=p7 h;exact⟨e,qE _ h1,h2⟩
  ·exact⟨(k,v),qH,qN hb⟩
def q3n{β:Type}(A:Nat->List (Nat×β)):∀(L M:List Nat)(b:List (Nat×β)),fb A (L++M) b=fb A L (fb A M b)|[],M,b=>rfl|i::L,M,b=>by simp[wK,fb,q3n A L M b]
def qha{β:Type}{A:Nat->List (Nat×β)}{x:Nat}{b:List (Nat×β)}:∀{L:List Nat},(∀j∈L,ae (A j) x=none)->ae (fb A L b) x=ae b x
 |[],_=>rfl|i::L,h=>by
  simp[fb];rw[qtb,h i qH];exact qha (fun j hj=>h j (qE _ hj))
def q6e{β:Type}{A:Nat->List (Nat×β)}{b:List (Nat×β)}:∀{L:List Nat}{e:Nat×β},e∈fb A L b->(∃j∈L,e∈A j)\/e∈b
 |[],e,h => .inr h|i::L,e,h=>by
  rcases List.mem_append.1 h with h|h
  ·exact .inl ⟨i,qH,h⟩
  ·rcases q6e h with⟨j,h1,h2⟩|h
   ·exact .inl ⟨j,qE _ h1,h2⟩
   ·exact .inr h
def ko(pr:Nat->List Nat):List Nat->Prop|[]=>True|i::L=>i∉L/\(∀j∈pr i,j∈L)/\ko pr L
def ko.closed{pr:Nat->List Nat}:∀{L:List Nat},ko pr L->∀i∈L,∀j∈pr i,j∈L
 |[],_,i,hi,_,_=>by cases hi
 |k::L,h,i,hi,j,hj=>by
  rcases List.mem_cons.1 hi with rfl|hi
  ·exact qE _ (h.2.1 j hj)
  ·exact qE _ (h.2.2.closed i hi j hj)
def qrk{β:Type}{A:Nat->List (Nat×β)}{x:Nat}{b:List (Nat×β)}{pr:Nat->List Nat}:∀{L:List Nat},ko pr L->(∀i∈L,∀j∈L,i<j->ae (A i) x≠none->ae (A j) x≠none->i∈pr j) ->
  ∀j∈L,ae (A j) x≠none->(∀k∈L,ae (A k) x≠none->k<=j)->ae (fb A L b) x=ae (A j) x
 |[],_,_,j,hj,_,_=>by cases hj
 |i::L,hg,hd,j,hj,hx,hm=>by
  simp[fb];rw[qtb]
  cases hq:ae (A i) x with
  |some v=>
   have hij:i<=j:=hm i qH (by rw[hq];simp)
   rcases Nat.lt_or_eq_of_le hij with h|h
   ·exfalso;have hjL:j∈L:=by
     rcases List.mem_cons.1 hj with e|e
     ·omega
     ·exact e
    exact hg.1 (hg.2.2.closed j hjL i (hd i qH j hj h (by rw[hq];simp) hx))
   ·subst h;rw[hq]
  |none=>
   have hjL:j∈L:=by
    rcases List.mem_cons.1 hj with e|e
    ·subst e;exact absurd hq hx
    ·exact e
   exact qrk hg.2.2 (fun a ha c hc=>hd a (qE _ ha) c (qE _ hc)) j hjL hx (fun k hk=>hm k (qE _ hk))
def q4p(p:Nat->Prop):∀(L:List Nat),(∃j∈L,p j)->∃j∈L,p j/\∀k∈L,p k->k<=j
 |[],h=>by obtain⟨j,hj,_⟩:=h;cases hj
 |i::L,h=>by
  by_cases hL:∃j∈L,p j
  ·obtain⟨j,hj,pj,hm⟩:=q4p p L hL;by_cases hi:p i/\j<i
   ·exact⟨i,qH,hi.1,fun k hk pk=>by
     rcases List.mem_cons.1 hk with e|e
     ·omega
     ·have:=hm k e pk;omega⟩
   ·exact⟨j,qE _ hj,pj,fun k hk pk=>by
     rcases List.mem_cons.1 hk with e|e
     ·subst e;have:¬j<k:=fun h=>hi ⟨pk,h⟩
      omega
     ·exact hm k e pk⟩
  ·obtain⟨j,hj,pj⟩:=h;rcases List.mem_cons.1 hj with e|e
   ·subst e;exact⟨j,qH,pj,fun k hk pk=>by
     rcases List.mem_cons.1 hk with e|e
     ·omega
     ·exact absurd ⟨k,e,pk⟩ hL⟩
   ·exact absurd ⟨j,e,pj⟩ hL
def qhb{β:Type}{A:Nat->List (Nat×β)}{x:Nat}{b:List (Nat×β)}{pr:Nat->List Nat}{L L':List Nat}(hg:ko pr L)(hg':ko pr L')(hd:∀i j,(i∈L\/i∈L')->(j∈L\/j∈L')->i<j->ae (A i) x≠none->ae (A j) x≠none->i∈pr j)
  (hs:∀j,ae (A j) x≠none->(j∈L↔j∈L')):ae (fb A L b) x=ae (fb A L' b) x:=by
 by_cases hex:∃j∈L,ae (A j) x≠none
 ·obtain⟨j,hj,hx,hm⟩:=q4p (fun j=>ae (A j) x≠none) L hex
  rw[qrk hg (fun i hi j hj=>hd i j (.inl hi) (.inl hj)) j hj hx hm,qrk hg' (fun i hi j hj=>hd i j (.inr hi) (.inr hj)) j ((hs j hx).1 hj) hx (fun k hk hk2=>hm k ((hs k hk2).2 hk) hk2)]
 ·have h1:∀j∈L,ae (A j) x=none:=fun j hj=>by
   cases hq:ae (A j) x with|none=>rfl|some v=>exact absurd ⟨j,hj,by rw[hq];simp⟩ hex
  have h2:∀j∈L',ae (A j) x=none:=fun j hj=>by
   cases hq:ae (A j) x with|none=>rfl|some v=>exact absurd ⟨j,(hs j (by rw[hq];simp)).2 hj,by rw[hq];simp⟩ hex
  rw[qha h1,qha h2]
def qsv{sel:List Nat}{pr:Nat->List Nat}:∀(m:Nat),(∀i,i<m->i∈sel->∀j∈pr i,j<i/\j∈sel)->ko pr (((List.range' 0 m).filter (a7 sel)).reverse)
 |0,_=>trivial|m+1,h=>by
  have ih:=qsv m (fun i hi=>h i oA)
  rw[List.range'_1_concat,List.filter_append,List.reverse_append,wO];cases hm:a7 sel m
  ·rw[List.filter_cons_of_neg (by simp[hm])];exact ih
  ·rw[List.filter_cons_of_pos hm];refine⟨fun hin => ?_,fun j hj => ?_,ih⟩
   ·have hin:m∈((List.range' 0 m).filter (a7 sel)).reverse:=hin;simp only[List.mem_reverse,List.mem_filter,List.mem_range'_1]at hin;omega
   ·have:=h m oA (d6.1 hm) j hj
    show j∈((List.range' 0 m).filter (a7 sel)).reverse;rw[List.mem_reverse,List.mem_filter,List.mem_range'_1,d6];exact⟨⟨oA,oA⟩,this.2⟩
def f4(Rs:List HR)(Ms:List (Nat×Md))(j:Nat):List (Nat×AV):=match ae Ms j with
 |some md=>md.f|none=>match Rs[j]? with|some r=>[(r.dst,r.v)]|none=>[]
def f5(Rs:List HR)(Ms:List (Nat×Md))(j:Nat):List (Nat×ag):=match ae Ms j with
 |some md=>md.h|none=>match Rs[j]? with|some r=>r.new|none=>[]
def gu(Rs:List HR)(j:Nat):List Nat:=match Rs[j]? with|some r=>r.pred|none=>[]
def im(Rs:List HR)(Ms:List (Nat×Md))(L:List Nat)(s:St):St:={ s with fr:=fb (f4 Rs Ms) L s.fr,hp:=fb (f5 Rs Ms) L s.hp }
def dm(Ms:List (Nat×Md))(sel:List Nat):List HR->Nat->St->St
 |[],_,t=>t| r::rs,j,t=>dm Ms sel rs (j+1) (bif a7 sel j then(match ae Ms j with
  |some md=>t.addM md| none=>t.addR r) else t)
def qgs{Rs:List HR}{Ms:List (Nat×Md)}{sel:List Nat}:∀(rs:List HR)(j:Nat)(t:St),(∀k,k<rs.length->Rs[j+k]? = rs[k]?)->dm Ms sel rs j t=im Rs Ms (((List.range' j rs.length).filter (a7 sel)).reverse) t
 |[],j,t,_=>rfl|r::rs,j,t,h=>by
  have h0:Rs[j]? = some r:=by simpa using h 0 oC
  rw[dm,qgs rs (j+1) _ (fun k hk=>by have:=h (k+1) oD;rw[show j+1+k=j+(k+1) by omega,this];simp),qL,List.range'_succ]
  cases hm:a7 sel j
  ·rw[List.filter_cons_of_neg (by simp[hm])];rfl
  ·rw[List.filter_cons_of_pos hm,List.reverse_cons];simp only[im,q3n,fb,qT,f4,f5,h0];cases ae Ms j<;>rfl
def ii(Cs:List (Nat×List Nat×List Nat))(pred:List Nat)(i:Nat):List Nat:=match Cs with|[]=>[]|(m,K,Pm)::r=>bif Nat.beq m i||a7 pred m||a7 Pm i then ii r pred i else K++ii r pred i
def q6g{pred:List Nat}{i x:Nat}:∀{Cs:List (Nat×List Nat×List Nat)}{m:Nat}{K Pm:List Nat},(m,K,Pm)∈Cs->m≠i->m∉pred->i∉Pm->x∈K->x∈ii Cs pred i
 |(m',K',P')::Cs,m,K,Pm,h,h1,h2,h3,h4=>by
  simp[ii];rcases List.mem_cons.1 h with e|h
  ·simp at e;obtain⟨rfl,rfl,rfl⟩:=e;have hc:(Nat.beq m i||a7 pred m||a7 Pm i)=false:=by
    simp;refine⟨⟨?_,?_⟩,?_⟩
    ·cases hb:Nat.beq m i
     ·rfl
     ·exact absurd (qN hb) h1
    ·cases hb:a7 pred m
     ·rfl
     ·exact absurd (d6.1 hb) h2
    ·cases hb:a7 Pm i
     ·rfl
     ·exact absurd (d6.1 hb) h3
   rw[hc];exact List.mem_append.2 (.inl h4)
  ·have ih:=q6g h h1 h2 h3 h4;cases Nat.beq m' i||a7 pred m' || a7 P' i
   ·exact List.mem_append.2 (.inr ih)
   ·exact ih
def ja(lo k:Nat):Prop:=lo<=k/\k<lo+32
def qi2{Rs:List HR}:∀{es:List Edge}{l:List Nat},kg Rs es=some l->∀e∈es,Region.binds .any e=true->∀r,Rs[e.on]? = some r->∀j∈r.pred,j∈l
 |[],l,_,e,he,_,_,_,_,_=>by cases he
 |e0::es,l,h,e,he,hb,r,hr,j,hj=>by
  simp[kg]at h;cases hb0:Region.binds .any e0<;>rw[hb0]at h<;>simp at h
  ·rcases List.mem_cons.1 he with rfl|he
   ·rw[hb0]at hb;cases hb
   ·exact qi2 h e he hb r hr j hj
  ·split at h
   ·rename_i r' l' h1 h2;simp at h;subst h;rw[qde];rcases List.mem_cons.1 he with rfl|he
    ·rw[hr]at h1;cases h1;exact .inl (qE _ hj)
    ·exact .inr (qi2 h2 e he hb r hr j hj)
   ·cases h
section
variable{P:Program}{zw0:World}{zwv:Gh}{zwx:List (Nat×ag)}{s:St}
structure xq(ops:Array Oper)(s:St)(Rs:List HR)(Ms:List (Nat×Md))(Cs:List (Nat×List Nat×List Nat))(i:Nat)(o:Oper)(r:HR):Prop where
 get:Rs[i]? = some r
 room:au (s.nx+32*r.dst) s.hp=true
 pred:kg (Rs.take i) o.after.toList=some r.pred
 fresh:mi r.dst (Rs.take i)=true
 reads:oc r.pred (gv ops o) (Rs.take i) 0=true
 writes:om ops r.dst r.pred i=true
 f:∀e∈f4 Rs Ms i,e.1=r.dst
 h:∀e∈f5 Rs Ms i,ja (s.nx+32*r.dst) e.1\/(ae Ms i≠none/\(∃K Pm,(i,K,Pm)∈Cs/\e.1∈K/\∀j∈Pm,j∈r.pred)/\((∃b,ae s.hp e.1=some b)\/∃c rc,c∈r.pred/\Rs[c]? = some rc/\ja (s.nx+32*rc.dst) e.1)/\∀j,j<i->ae Ms j≠none->j∈r.pred)
def je(s:St)(Rs:List HR)(Ms:List (Nat×Md))(Cs:List (Nat×List Nat×List Nat))(i:Nat)(r:HR):St:=(dm Ms r.pred (Rs.take i) 0 s).hide (ii Cs r.pred i)
def StX(P:Program)(ops:Array Oper)(s:St)(Rs:List HR)(Ms:List (Nat×Md))(Cs:List (Nat×List Nat×List Nat))(i:Nat)(o:Oper)(r:HR):Prop:=
 (ae Ms i=none/\o.dst=some r.dst/\r.dst<s.n/\∃ps,∃c:qn,jr P ops (je s Rs Ms Cs i r) c o=some (ps,r.v,r.new)/\ao ps) \/
 (∃ps d md,ae Ms i=some md/\o.guard=none/\(∀t,o.dst=some t->t=r.dst/\t<s.n)/\vl P (je s Rs Ms Cs i r) d o=some (ps,md)/\ao ps)
def zg6{ops:Array Oper}{n:Nat}{Rs:List HR}{Ms:List (Nat×Md)}{Cs:List (Nat×List Nat×List Nat)}{N:Act->World->Prop}(hn:n<=ops.size)(hed:ju ops.toList 0=true)(ht:kh ops n=true)(ac:Rs.length=n)
  (hO:∀i o,i<n->ops[i]? = some o->∃r,xq ops s Rs Ms Cs i o r/\StX P ops s Rs Ms Cs i o r)
  (htail:∀(G:Gh)(a:Act)(w:World)(listed:Array Bool),ah zw0 zwv zwx G (dm Ms (List.range n) Rs 0 s) a w->ut ops n listed->js P ops N (ops.size-n) listed a w) :
  ∀(g:Nat)(L:List Nat)(listed:Array Bool)(G:Gh)(a:Act)(w:World),ops.size=g+L.length->xp ops n L listed->ko (gu Rs) L->ah zw0 zwv zwx G (im Rs Ms L s) a w->js P ops N g listed a w:=by
 have hop:∀i,i<n->ops[i]? = some (ops[i]?.getD default):=fun i hi=>by
  have:i<ops.size:=oA
  simp[this]
 -- predecessors
 have hpreds:∀{L:List Nat},(∀i∈L,∀o,ops[i]? = some o->∀e∈o.after,Region.binds .any e=true->e.on∈L)->∀(i:Nat)(o:Oper)(r:HR),i<n->ops[i]? = some o->Rs[i]? = some r->(∀e∈o.after,Region.binds .any e=true->e.on∈L)->(∀j∈r.pred,j∈L/\j<i):=by
  intro L hcl i
  induction i using Nat.strongRecOn with
  |ind i ih=>
   intro o r hi ho hr hall j hj;obtain⟨r',ok,_⟩:=hO i o hi ho;have h1:=ok.get;rw[hr]at h1;injection h1 with h1;subst h1
   obtain⟨e,he,hb,hje⟩:=(qdl ok.pred).2 j hj;have hlt:=jv hed i o (by simpa using ho) e (by simpa using he) hb
   have hlt':e.on<i:=oA
   have heL:=hall e (by simpa using he) hb
   rcases hje with rfl|⟨re,hre,hje⟩
   ·exact⟨heL,hlt'⟩
   ·have hre':Rs[e.on]? = some re:=by rw[List.getElem?_take]at hre;rw[qX hlt']at hre;exact hre
    have hoe:ops[e.on]? = some ops[e.on]:=oC
    have:=ih e.on hlt' ops[e.on] re oA hoe hre' (hcl e.on heL _ hoe) j hje
    exact⟨this.1,oA⟩
 have hlt:∀(i:Nat)(r:HR),i<n->Rs[i]? = some r->∀j∈r.pred,j<i:=fun i r hi hr j hj=>by
  refine(hpreds (L:=List.range n) (fun k hk o ho e he hb => ?_) i _ r hi (hop i hi) hr (fun e he hb => ?_) j hj).2
  ·have:=jv hed k o (by simpa using ho) e (by simpa using he) hb
   have hk':=List.mem_range.1 hk;exact List.mem_range.2 oA
  ·have:=jv hed i _ (by simpa using hop i hi) e (by simpa using he) hb
   exact List.mem_range.2 oA
 have htrans:∀(i:Nat)(r:HR),i<n->Rs[i]? = some r->∀k∈r.pred,∀rk:HR,Rs[k]? = some rk->∀c∈rk.pred,c∈r.pred:=by
  intro i
  induction i using Nat.strongRecOn with
  |ind i ih=>
   intro r hi hr k hk rk hrk c hc;obtain⟨r',ok,_⟩:=hO i _ hi (hop i hi);have h1:=ok.get;rw[hr]at h1;injection h1 with h1;subst h1
   obtain⟨e,he,hb,hje⟩:=(qdl ok.pred).2 k hk;have hle:=jv hed i _ (by simpa using hop i hi) e (by simpa using he) hb
   have hle':e.on<i:=oA
   rcases hje with rfl|⟨re,hre,hje⟩
   ·exact qi2 ok.pred e he hb rk (by rw[List.getElem?_take,qX hle'];exact hrk) c hc
   ·have hre':Rs[e.on]? = some re:=by rw[List.getElem?_take,qX hle']at hre;exact hre
    exact qi2 ok.pred e he hb re hre c (ih e.on hle' re oA hre' k hje rk hrk c hc)
 have hdst:∀(i j:Nat)(r r':HR),i<n->j<n->Rs[i]? = some r->Rs[j]? = some r'->r.dst=r'.dst->i=j:=fun i j r r' hi hj hr hr' hd=>by
  rcases Nat.lt_trichotomy i j with h|h|h
  ·obtain⟨r2,ok,_⟩:=hO j _ hj (hop j hj);have h1:=ok.get;rw[hr']at h1;injection h1 with h1;subst h1
   exact absurd hd (sh.1 ok.fresh r (List.mem_of_getElem? (i:=i) (by rw[List.getElem?_take,qX h];exact hr)))
  ·exact h
  ·obtain⟨r2,ok,_⟩:=hO i _ hi (hop i hi);have h1:=ok.get;rw[hr]at h1;injection h1 with h1;subst h1
   exact absurd hd.symm (sh.1 ok.fresh r' (List.mem_of_getElem? (i:=j) (by rw[List.getElem?_take,qX h];exact hr')))
 have hrs:∀i,i<n->∃r,Rs[i]? = some r/\xq ops s Rs Ms Cs i (ops[i]?.getD default) r:=fun i hi=>by
  obtain⟨r,ok,_⟩:=hO i _ hi (hop i hi);exact⟨r,ok.get,ok⟩
 -- two that touch the same are ordered
 have old:∀(i:Nat)(r:HR)(x:Nat),xq ops s Rs Ms Cs i (ops[i]?.getD default) r->ja (s.nx+32*r.dst) x->ae s.hp x=none:=fun i r x ok hx=>by
  cases hq:ae s.hp x with
  |none=>rfl|some b=>
   have:=sx.1 ok.room _ (vh hq);unfold ja at hx;simp only at this;omega
 have hC1:∀(x i j:Nat),i<n->j<n->i<j->ae (f5 Rs Ms i) x≠none->ae (f5 Rs Ms j) x≠none->i∈gu Rs j:=fun x i j hi hj hij h1 h2=>by
  obtain⟨ri,gi,oki⟩:=hrs i hi;obtain⟨rj,gj,okj⟩:=hrs j hj;have hpj:gu Rs j=rj.pred:=by unfold gu;rw[gj]
  rw[hpj];obtain⟨e1,m1,rfl⟩:=p7 h1;obtain⟨e2,m2,hx⟩:=p7 h2;rcases oki.h e1 m1 with a1|⟨n1,_,c1,_⟩
  ·rcases okj.h e2 m2 with a2|⟨n2,_,c2,_⟩
   ·rw[hx]at a2;exact absurd (hdst i j ri rj hi hj gi gj (by unfold ja at a1 a2;omega)) oA
   ·rw[hx]at c2;rcases c2 with⟨b,hb⟩|⟨c,rc,c3,c4,c5⟩
    ·rw[old i ri _ oki a1]at hb;cases hb
    ·have hcn:c<n:=by have:=hlt j rj hj gj c c3;omega
     have:c=i:=hdst c i rc ri hcn hi c4 gi (by unfold ja at a1 c5;omega)
     exact this▸c3
  ·rcases okj.h e2 m2 with a2|⟨n2,_,c2,c6⟩
   ·rw[hx]at a2;rcases c1 with⟨b,hb⟩|⟨c,rc,c3,c4,c5⟩
    ·rw[old j rj _ okj a2]at hb;cases hb
    ·have hcn:c<i:=hlt i ri hi gi c c3;have:c=j:=hdst c j rc rj oA hj c4 gj (by unfold ja at a2 c5;omega)
     omega
   ·exact c6 i hij n1
 have hC2:∀(d i j:Nat),i<n->j<n->i<j->ae (f4 Rs Ms i) d≠none->ae (f4 Rs Ms j) d≠none->i∈gu Rs j:=fun d i j hi hj hij h1 h2=>by
  obtain⟨ri,gi,oki⟩:=hrs i hi;obtain⟨rj,gj,okj⟩:=hrs j hj;obtain⟨e1,m1,rfl⟩:=p7 h1;obtain⟨e2,m2,hx⟩:=p7 h2;have:=oki.f e1 m1;have:=okj.f e2 m2;exact absurd (hdst i j ri rj hi hj gi gj oA) oA
 -- all have run
 have fin:∀(L:List Nat)(listed:Array Bool)(G:Gh)(a:Act)(w:World),(∀i,i<n->i∈L)->xp ops n L listed->ko (gu Rs) L->ah zw0 zwv zwx G (im Rs Ms L s) a w->js P ops N (ops.size-n) listed a w:=by
  intro L listed G a w hall hinv hgood hr;refine htail G a w listed (hr.eqv ?_) ⟨hinv.size,fun j hj=>by rw[hinv.iff j hj];exact⟨fun h=>hinv.lt j h,fun h=>hall j h⟩⟩
  rw[qgs (Rs:=Rs) Rs 0 s (fun k _=>by rw[wO]),ac]
  have hmem:∀j,j∈((List.range' 0 n).filter (a7 (List.range n))).reverse↔j∈L:=fun j=>by
   rw[List.mem_reverse,List.mem_filter,d6,List.mem_range'_1,List.mem_range];exact⟨fun h=>hall j h.2,fun h=>by have:=hinv.lt j h;exact⟨⟨oA,oA⟩,this⟩⟩
  have hg2:ko (gu Rs) (((List.range' 0 n).filter (a7 (List.range n))).reverse):=qsv n (fun i hi _ j hj=>by
   obtain⟨r,gr,_⟩:=hrs i hi;have hp:gu Rs i=r.pred:=by unfold gu;rw[gr]
   rw[hp]at hj;have:=hlt i r hi gr j hj;exact⟨this,List.mem_range.2 oA⟩)
  have hb:∀i,(i∈L\/i∈((List.range' 0 n).filter (a7 (List.range n))).reverse)->i<n:=fun i h=>by
   rcases h with h|h
   ·exact hinv.lt i h
   ·exact hinv.lt i ((hmem i).1 h)
  exact⟨rfl,rfl,fun d=>qhb hgood hg2 (fun i j hi hj=>hC2 d i j (hb i hi) (hb j hj)) (fun j _=>(hmem j).symm),fun x=>qhb hgood hg2 (fun i j hi hj=>hC1 x i j (hb i hi) (hb j hj)) (fun j _=>(hmem j).symm),rfl⟩
 intro g
 induction g with
 |zero=>
  intro L listed G a w hg hinv hgood hr;have h1:=sy n L hinv.nodup hinv.lt;have hnn:n=ops.size:=oA
  have hall:∀i,i<n->i∈L:=fun i hi=>by
   by_cases hm:i∈L
   ·exact hm
   ·have:=sy n (i::L) (List.nodup_cons.2 ⟨hm,hinv.nodup⟩) (fun j hj=>by
     rcases List.mem_cons.1 hj with rfl|hj;· exact hi
     ·exact hinv.lt j hj)
    simp at this;omega
  have:=fin L listed G a w hall hinv hgood hr
  rwa [hnn,Nat.sub_self]at this
 |succ g ih=>
  intro L listed G a w hg hinv hgood hr;by_cases hall:∀i,i<n->i∈L
  ·have h1:=sy n L hinv.nodup hinv.lt;have h2:=qs7 n L hall;have:=fin L listed G a w hall hinv hgood hr
   rwa [show ops.size-n=g+1 by omega]at this
  ·have hex:∃i,i<n/\i∉L/\∀j,j<i->j∈L:=by
    have:∃i,i<n/\i∉L:=by
     simpa using hall
    obtain⟨i,hi,hm⟩:=this;clear hall
    induction i using Nat.strongRecOn with
    |ind i ih=>
     by_cases hsm:∀j,j<i->j∈L
     ·exact⟨i,hi,hm,hsm⟩
     ·have:∃j,j<i/\j∉L:=by simpa using hsm
      obtain⟨j,hj,hjm⟩:=this;exact ih j hj oA hjm
   obtain⟨i0,hi0,hm0,hsm0⟩:=hex;have hi0s:i0<ops.size:=oA
   have h0r:i0∈Region.ready .any ops listed:=by
    refine vk.2 ⟨hi0s,?_,ops[i0],oC,fun e he hb => ?_⟩
    ·cases hq:listed.getD i0 true
     ·rfl
     ·exact absurd ((hinv.iff i0 hi0s).1 hq) hm0
    ·have:=jv hed i0 ops[i0] oC e he hb
     have hlt:e.on<i0:=oA
     exact(hinv.getD_false oA).2 (hsm0 _ hlt)
   refine⟨fun hnil=>(by rw[hnil]at h0r;cases h0r),fun i hi => ?_⟩
   obtain⟨i1,i2,o,i3,i4⟩:=vk.1 hi;have hiL:i∉L:=fun h=>by rw[(hinv.iff i i1).2 h]at i2;cases i2
   have hin:i<n:=by
    rcases Nat.lt_or_ge i n with h|h
    ·exact h
    ·rcases Nat.lt_or_ge n i with h|h
     ·obtain⟨e,he1,he2,he3⟩:=qu1 (qun ht h i3);have:=i4 e he1 he3;rw[he2,hinv.getD_false oA]at this
      have:=hinv.lt _ this;omega
     ·have:i=n:=oA
      subst this;exact absurd (q88 ht i3 hinv.closed (fun e he hb=>by
       have hlt:=jv hed i o (by simpa using i3) e he hb
       exact(hinv.getD_false oA).1 (i4 e he hb)) i0 hi0) hm0
   have hedge:∀e∈o.after,Region.binds .any e=true->e.on∈L:=fun e he hb=>by
    have hlt:=jv hed i o (by simpa using i3) e he hb
    exact(hinv.getD_false oA).1 (i4 e he hb)
   obtain⟨r,ok,st⟩:=hO i o hin i3;have gr:=ok.get;have hpred:=hpreds hinv.closed i o r hin i3 gr hedge;have hpr:gu Rs i=r.pred:=by unfold gu;rw[gr]
   have hgood':ko (gu Rs) (i::L):=⟨hiL,fun j hj=>by rw[hpr]at hj;exact(hpred j hj).1,hgood⟩
   have hnext:xp ops n (i::L) (listed.setIfInBounds i true):=by
    refine⟨List.nodup_cons.2 ⟨hiL,hinv.nodup⟩,fun j hj => ?_,by simp[hinv.size],fun j hj => ?_,fun j hj oj hoj e he hb => ?_⟩
    ·rcases List.mem_cons.1 hj with rfl|hj
     ·exact hin
     ·exact hinv.lt j hj
    ·rw[Array.getD_eq_getD_getElem?,Array.getElem?_setIfInBounds];by_cases hij:i=j
     ·subst hij;simp[hinv.size,i1]
     ·rw[qW hij];have:=hinv.iff j hj;rw[Array.getD_eq_getD_getElem?]at this;rw[this,wE];exact⟨fun h => .inr h,fun h=>h.resolve_left (fun e=>hij e.symm)⟩
    ·rcases List.mem_cons.1 hj with rfl|hj
     ·rw[i3]at hoj;injection hoj with hoj;subst hoj
      exact qE _ (hedge e he hb)
     ·exact qE _ (hinv.closed j hj oj hoj e he hb)
   have htk:(Rs.take i).length=i:=by simp;omega
   have hlen':∀k,k<(Rs.take i).length->Rs[0+k]? = (Rs.take i)[k]? := fun k hk=>by
    rw[List.getElem?_take,qX (by rw[htk]at hk;omega),wO]
   have hseen:je s Rs Ms Cs i r=(im Rs Ms (((List.range' 0 i).filter (a7 r.pred)).reverse) s).hide (ii Cs r.pred i):=by
    unfold je;rw[qgs (Rs:=Rs) (Rs.take i) 0 s hlen',htk]
   have hsel:∀j,j∈((List.range' 0 i).filter (a7 r.pred)).reverse↔j∈r.pred:=fun j=>by
    rw[List.mem_reverse,List.mem_filter,d6];refine⟨fun h=>h.2,fun h=>⟨?_,h⟩⟩
    rw[List.mem_range'_1];exact⟨oA,by have:=(hpred j h).2;omega⟩
   have hgsel:ko (gu Rs) (((List.range' 0 i).filter (a7 r.pred)).reverse):=qsv i (fun k hk hks j hj=>by
    obtain⟨rk,gk,_⟩:=hrs k oA
    have hpk:gu Rs k=rk.pred:=by unfold gu;rw[gk]
    rw[hpk]at hj;exact⟨hlt k rk oA gk j hj,htrans i r hin gr k hks rk gk j hj⟩)
   have hbn:∀k,(k∈((List.range' 0 i).filter (a7 r.pred)).reverse\/k∈L)->k<n:=fun k h=>by
    rcases h with h|h
    ·have:=(hpred k ((hsel k).1 h)).2;omega
    ·exact hinv.lt k h
   -- an operation that has run already,and is no predecessor,writes nothing that is looked at
   have late:∀(j:Nat)(rj:HR),Rs[j]? = some rj->j∈L->rj.dst∈gv ops o->j∈r.pred:=by
    intro j rj hj h hd;have hjn:=hinv.lt j h;have hji:j≠i:=fun e=>hiL (e▸h)
    rcases Nat.lt_or_gt_of_ne hji with hlt'|hgt
    ·rcases qty ok.reads j rj (by rw[List.getElem?_take,qX hlt'];exact hj) with h'|h'
     ·simpa using h'
     ·exact absurd hd h'
    ·have hoj:=hop j hjn;obtain⟨rj',okj,_⟩:=hO j _ hjn hoj;have k1:=okj.get;rw[hj]at k1;injection k1 with k1;subst k1
     rcases qu3 okj.writes i o hgt i3 with h'|h'
     ·have:=hpreds hinv.closed j _ rj hjn hoj hj (hinv.closed j h _ hoj) i h';exact absurd this.1 hiL
     ·exact absurd hd h'
   have hreads:∀d∈gv ops o,ae (je s Rs Ms Cs i r).fr d=ae (im Rs Ms L s).fr d:=fun d hd=>by
    rw[hseen];show ae (fb (f4 Rs Ms) _ s.fr) d=ae (fb (f4 Rs Ms) L s.fr) d;refine qhb hgsel hgood (fun a b ha hb=>hC2 d a b (hbn a ha) (hbn b hb)) (fun j hj=>⟨fun h=>(hpred j ((hsel j).1 h)).1,fun h=>(hsel j).2 ?_⟩)
    obtain⟨rj,gj,okj⟩:=hrs j (hinv.lt j h);obtain⟨e,he,rfl⟩:=p7 hj;exact late j rj gj h (by rw[← okj.f e he];exact hd)
   have hhp:∀x b,ae (je s Rs Ms Cs i r).hp x=some b->ae (im Rs Ms L s).hp x=some b:=fun x b hb=>by
    rw[hseen]at hb;obtain⟨b1,b2⟩:=qtc hb;have b1':ae (fb (f5 Rs Ms) (((List.range' 0 i).filter (a7 r.pred)).reverse) s.hp) x=some b:=b1;rw[← b1'];refine(qhb hgsel hgood (fun a b ha hb=>hC1 x a b (hbn a ha) (hbn b hb)) (fun j hj=>⟨fun h=>(hpred j ((hsel j).1 h)).1,fun h=>(hsel j).2 ?_⟩)).symm
    have hjn:=hinv.lt j h;obtain⟨rj,gj,okj⟩:=hrs j hjn;obtain⟨e,he,hex⟩:=p7 hj;by_cases hjp:j∈r.pred
    ·exact hjp
    ·exfalso;have hji:j≠i:=fun e=>hiL (e▸h)
     rcases okj.h e he with a1|⟨_,⟨K,Pm,k1,k2,k3⟩,_,_⟩
     ·rw[hex]at a1;by_cases hk:∃k∈((List.range' 0 i).filter (a7 r.pred)).reverse,ae (f5 Rs Ms k) x≠none
      ·obtain⟨k,hk1,hk2⟩:=hk;have hkp:=(hsel k).1 hk1;have hkn:k<n:=hbn k (.inl hk1);obtain⟨rk,gk,okk⟩:=hrs k hkn;obtain⟨e2,he2,hex2⟩:=p7 hk2;rcases okk.h e2 he2 with a2|⟨_,_,c1,_⟩
       ·rw[hex2]at a2;have:j=k:=hdst j k rj rk hjn hkn gj gk (by unfold ja at a1 a2;omega)
        exact hjp (this▸hkp)
       ·rw[hex2]at c1;rcases c1 with⟨b',hb'⟩|⟨c,rc,c3,c4,c5⟩
        ·rw[old j rj x okj a1]at hb';cases hb'
        ·have hcn:c<n:=by have:=hlt k rk hkn gk c c3;omega
         have:c=j:=hdst c j rc rj hcn hjn c4 gj (by unfold ja at a1 c5;omega)
         exact hjp (htrans i r hin gr k hkp rk gk j (this▸c3))
      ·have hnone:∀k∈((List.range' 0 i).filter (a7 r.pred)).reverse,ae (f5 Rs Ms k) x=none:=fun k hk1=>by
        cases hq:ae (f5 Rs Ms k) x with|none=>rfl|some v=>exact absurd ⟨k,hk1,by rw[hq];simp⟩ hk
       rw[qha hnone,old j rj x okj a1]at b1';cases b1'
     ·refine b2 (q6g k1 hji hjp (fun hiP=>hiL ?_) (hex▸k2))
      exact hgood.closed j h i (by unfold gu;rw[gj];exact k3 i hiP)
   have hroom:au (s.nx+32*r.dst) (im Rs Ms L s).hp=true:=by
    rw[sx];intro e he;rcases q6e he with⟨j,hj,he⟩|he
    ·have hjn:=hinv.lt j hj;have hji:j≠i:=fun e=>hiL (e▸hj)
     obtain⟨rj,gj,okj⟩:=hrs j hjn;rcases okj.h e he with a1|⟨_,_,c1,_⟩
     ·have:rj.dst≠r.dst:=fun hq=>hji (hdst j i rj r hjn hin gj gr hq)
      unfold ja at a1;omega
     ·rcases c1 with⟨b',hb'⟩|⟨c,rc,c3,c4,c5⟩
      ·exact sx.1 ok.room (e.1,b') (vh hb')
      ·have hcL:c∈L:=hgood.closed j hj c (by unfold gu;rw[gj];exact c3)
       have hcn:=hinv.lt c hcL;have:rc.dst≠r.dst:=fun hq=>hiL ((hdst c i rc r hcn hin c4 gr hq)▸hcL)
       unfold ja at c5;omega
    ·exact sx.1 ok.room _ he
   have hsees:(∀d,o.dst=some d->d=r.dst)->ur o (je s Rs Ms Cs i r) (im Rs Ms L s):=fun hd=>by
    refine⟨by rw[hseen];rfl,fun x hx => ?_,hhp,fun d hd' => ?_⟩
    ·cases x with
     |tmp t=>
      exact hreads t (by simp only[gv];refine List.mem_append.2 (.inl ?_);rw[List.mem_filterMap];exact⟨.tmp t,hx,rfl⟩)
     |_=>rfl
    ·rw[hd d hd'];exact hroom
   rcases st with⟨s1,s2,s3,ps,c,s4,s5⟩|⟨ps,d,md,s1,s2,s3,s4,s5⟩
   ·have h9':=q2v (hsees (fun d hd=>by rw[s2]at hd;injection hd with hd;exact hd.symm)) hreads s4
    have hadd:(im Rs Ms L s).add o.dst r.v r.new=some (im Rs Ms (i::L) s):=by
     rw[s2];have hbl:Nat.blt r.dst s.n=true:=by simpa using s3
     simp only[St.add,im,hbl,qT,fb,f4,f5,s1,gr,wM]
    exact q2u hr i3 h9' s5 hadd (fun G' a' w' hr'=>ih (i::L) _ G' a' w' oD hnext hgood' hr')
   ·have h9':=zih (hsees (fun d hd=>(s3 d hd).1)) (by rw[hseen];rfl) s4
    refine yh i3 (by simp[Region.wanted,s2]) (qgt hr (q6h h9') s5 (fun G' a' w' hr'=>ih (i::L) _ G' a' w' oD hnext hgood' ?_))
    have:(im Rs Ms L s).addM md=im Rs Ms (i::L) s:=by
     simp[St.addM,im,fb,f4,f5,s1]
    rw[← this];exact hr'
end
mutual
def qg6:AV->List Nat|.ptr b _=>[b]|.own k=>[k]|.oel k _ _ _=>[k]|.osl k _ _=>[k]|.iface _ x=>qg6 x|.agg xs=>ya xs|.fn _ _ xs=>ya xs|_=>[]
def ya:List AV->List Nat|[]=>[]|x::xs=>qg6 x++ya xs
end
def qd3(s:St):List Nat->List Nat
 |[]=>[]| k::ks=>(match ae s.hp k with
  |some (.cells cs _)=>ya cs| _=>[])++qd3 s ks
def zjq(lo:Nat):List Nat:=[lo,lo+1,lo+2,lo+3,lo+4,lo+5,lo+6,lo+7,lo+8,lo+9,lo+10,lo+11,lo+12,lo+13,lo+14,lo+15]
def ma(s:St)(l:List Oper):Nat->Operand->List Nat
 |0,_=>[]|n+1,x=>match x with
  |.tmp t=>match l.find? (fun o=>match o.dst with|some d=>Nat.beq d t|none=>false) with
   |some o=>match o.op with|.move y=>ma s l n y|.assign y=>ma s l n y|.fieldAddr _ y _=>ma s l n y|.indexAddr _ y _=>ma s l n y|.load _ y=>qd3 s (ma s l n y)|.alloc _=>[s.nx+32*t]|.box _ _=>[s.nx+32*t]|.buildSlice _ _ _=>[s.nx+32*t]|.call { callee := .builtin .append,args:=_,argTypes:=_ }=>[s.nx+32*t]|.call _=>zjq (s.nx+32*t)|_=>[]
   |none=>match s.ev x with|some v=>qg6 v|none=>[]
  |x=>match s.ev x with|some v=>qg6 v|none=>[]
def yd(s:St)(l:List Oper):List Operand->List Nat|[]=>[]|x::xs=>ma s l 8 x++yd s l xs
def q6d(f:FuncId):List cu->Bool|[]=>false|e::es=>(n9 f e.key && !(match e.hp with|[]=>true|_=>false))||q6d f es
def zfj(tb:Tb)(s:St)(l:List Oper)(o:Oper):List Nat:=match o.guard with
 |some _=>[]|none=>match o.op with
  |.store _ x _=>ma s l 8 x|.call { callee := .builtin .append,args,argTypes:=_ }=>match args.toList with|x::_=>ma s l 8 x|[]=>[]
  |.call { callee := .value g,args,argTypes:=_ }=>match s.ev g with|some (.fn (.func f) [] cap)=>bif q6d f tb.ents then(yd s l args.toList++ya cap)++qd3 s (yd s l args.toList++ya cap) else[]|some _=>[]|none=>(yd s l args.toList++ma s l 8 g)++qd3 s (yd s l args.toList++ma s l 8 g)
  |_=>[]
def qtf(s:St)(l:List Oper):Nat->Operand->List Nat
 |0,_=>[]|n+1,x=>match x with
  |.tmp t=>match l.find? (fun o=>match o.dst with|some d=>Nat.beq d t|none=>false) with
   |some o=>match o.op with|.move y=>qtf s l n y|.assign y=>qtf s l n y|.load _ y=>qd3 s (ma s l n y)|.build _ parts=>yd s l (parts.toList.map (·.2))|_=>[]
   |none=>match s.ev x with|some (.agg xs)=>vt xs|_=>[]
  |_=>[]
def q6j(s:St)(l:List Oper):List Operand->List Nat|[]=>[]|x::xs=>qtf s l 8 x++q6j s l xs
def qtv(s:St)(all:List Oper):List Oper->List Nat
 |[]=>[]| o::l=>(match o.op with
  |.call { callee := .value g,args,argTypes:=_ }=>match s.ev g with|some (.fn (.func _) [] _)=>q6j s all args.toList|_=>[]
  | _=>[])++qtv s all l
def q5h:List Oper->List HR->List (List Nat)
 |[],_=>[]|o::l,Rs=>match kg Rs o.after.toList with|some p=>p::q5h l (Rs++[⟨0,.undef,[],p⟩])|none=>[]
def qrm(tb:Tb)(s:St)(all:List Oper):List Oper->List (List Nat)->Nat->List (Nat×List Nat×List Nat)
 |o::l,p::ps,i=>match zfj tb s all o with|[]=>qrm tb s all l ps (i+1)|K=>(i,K,p)::qrm tb s all l ps (i+1)
 |_,_,_=>[]
def qh5(i:Nat):List (Nat×List Nat×List Nat)->Option (List Nat×List Nat)|[]=>none|(m,r)::l=>bif Nat.beq m i then some r else qh5 i l
def qdv(l pred:List Nat):Bool:=match l with|[]=>true|x::xs=>a7 pred x&&qdv xs pred
def qdu(pred:List Nat):List (Nat×Md)->Bool|[]=>true|(m,_)::r=>a7 pred m&&qdu pred r
def qit(s:St)(Rs:List HR)(k:Nat):List Nat->Bool
 |[]=>false| c::cs=>(match Rs[c]? with
  |some r=>Nat.ble (s.nx+32*r.dst) k&&Nat.blt k (s.nx+32*r.dst+32)| none=>false)||qit s Rs k cs
def qdb(s:St)(Rs:List HR)(pred:List Nat)(dst:Nat)(K:List Nat):List (Nat×ag)->Bool|[]=>true|e::r=>((Nat.ble (s.nx+32*dst) e.1&&Nat.blt e.1 (s.nx+32*dst+32))||(a7 K e.1&&((match ae s.hp e.1 with|some _=>true|none=>false)||qit s Rs e.1 pred)))&&qdb s Rs pred dst K r
def qdc(dst:Nat):List (Nat×AV)->Bool|[]=>true|e::r=>Nat.beq e.1 dst&&qdc dst r
def qix(Ms:List (Nat×Md))(j:Nat):Bool:=match ae Ms j with|some _=>false|none=>true
def ru(Ms:List (Nat×Md)):List Nat->List Nat|[]=>[]|x::xs=>bif qix Ms x then x::ru Ms xs else ru Ms xs
def fw(s:St)(i:Nat):Option Tmp->Nat|some t=>t|none=>s.n+i
def qsa(s:St):Option Tmp->Bool|some t=>Nat.blt t s.n|none=>true
def yx{R:Type}(P:Program)(tb:Tb)(ops:Array Oper)(s:St)(Cs:List (Nat×List Nat×List Nat))(fin:List (Nat×Md)->List HR->List (Nat×Bool)->Option R):List Oper->Nat->List HR->List (Nat×Bool)->List (Nat×Md)->Option R
 |[],_,Rs,kn,Ms=>fin Ms Rs kn|o::l,i,Rs,kn,Ms=>match kg Rs o.after.toList with
  |none=>none|some pred=>bif qsa s o.dst&&au (s.nx+32*fw s i o.dst) s.hp&&mi (fw s i o.dst) Rs&&oc pred (gv ops o) Rs 0&&om ops (fw s i o.dst) pred i then
    match qh5 i Cs,o.guard with
    |some (K,Pm),none=>match pi P tb ((dm Ms pred Rs 0 s).hide (ii Cs pred i)) o.op with
     |some q=>q.K fun d=>match dt P ((dm Ms pred Rs 0 s).hide (ii Cs pred i)) d o,o.dst with
      |some (_,v,new),some tt=>yx P tb ops s Cs fin l (i+1) (Rs++[⟨tt,v,new,pred⟩]) kn Ms|_,_=>match vl P ((dm Ms pred Rs 0 s).hide (ii Cs pred i)) d o with
       |some (_,md)=>bif qdb s Rs pred (fw s i o.dst) K md.h&&qdc (fw s i o.dst) md.f&&qdv Pm pred&&qdu pred Ms then
         yx P tb ops s Cs fin l (i+1) (Rs++[⟨fw s i o.dst,.undef,[],pred⟩]) kn ((i,md)::Ms) else none
       |none=>none
     |none=>none
    |_,_=>match o.dst with
     |some d=>opH P tb ops ((dm Ms pred Rs 0 s).hide (ii Cs pred i)) (ru Ms pred) Rs kn o fun v new kn'=>yx P tb ops s Cs fin l (i+1) (Rs++[⟨d,v,new,pred⟩]) kn' Ms
     |none=>none
   else none
def qr6{R:Type}(P:Program)(tb:Tb)(ops:Array Oper)(s:St)(Cs:List (Nat×List Nat×List Nat))(K:St->Option R):Option R:=
 bif ju ops.toList 0&&kh ops (f8 ops)&&Nat.ble (f8 ops) ops.toList.length then
  yx P tb ops s Cs (fun Ms Rs kn=>vq P tb ops (ops.toList.drop (f8 ops)) (sr Rs kn kn (dm Ms (List.range (f8 ops)) Rs 0 s)) K) (ops.toList.take (f8 ops)) 0 [] [] []
 else none
def qr9{R:Type}(P:Program)(tb:Tb)(ops:Array Oper)(s:St)(K:St->Option R):Option R:=
 match qrm tb s (ops.toList.take (f8 ops)) (ops.toList.take (f8 ops)) (q5h (ops.toList.take (f8 ops)) []) 0 with|[]=>qr7 P tb ops s K|Cs=>qr6 P tb ops s Cs K
def qr8{R:Type}(P:Program)(tb:Tb)(ops:Array Oper)(s:St)(K:St->Option R):Option R:=
 qr9 P tb ops (frzL (qtv s (ops.toList.take (f8 ops)) (ops.toList.take (f8 ops))) s) K
section
variable{P:Program}{zw0:World}{zwv:Gh}{zwx:List (Nat×ag)}{G:Gh}{a:Act}{w:World}{R:Type}{tb:Tb}{s:St}
def q6n{Ms:List (Nat×Md)}{j:Nat}:qix Ms j=true↔ae Ms j=none:=by
 unfold qix;cases ae Ms j<;>simp
def qiw{Ms:List (Nat×Md)}{j:Nat}:∀{l:List Nat},j∈ru Ms l↔j∈l/\ae Ms j=none
 |[]=>by simp[ru]|x::xs=>by
  simp[ru];cases hb:qix Ms x
  ·simp only[qF,qiw (l:=xs),wE];refine⟨fun h=>⟨.inr h.1,h.2⟩,fun⟨h1,h2⟩=>⟨h1.resolve_left (fun e => ?_),h2⟩⟩
   subst e;rw[q6n.2 h2]at hb;cases hb
  ·have:=q6n.1 hb;simp[qT,wE,qiw (l:=xs)];refine⟨fun h => ?_,fun⟨h1,h2⟩ => ?_⟩
   ·rcases h with rfl|h
    ·exact⟨.inl rfl,this⟩
    ·exact⟨.inr h.1,h.2⟩
   ·rcases h1 with h1|h1
    ·exact .inl h1
    ·exact .inr ⟨h1,h2⟩
def q4t{i:Nat}{r:List Nat×List Nat}:∀{l:List (Nat×List Nat×List Nat)},qh5 i l=some r->(i,r)∈l
 |[],h=>by cases h
 |(m,r')::l,h=>by
  simp[qh5]at h;cases hb:Nat.beq m i<;>rw[hb]at h<;>simp only[qT,qF]at h
  ·exact qE _ (q4t h)
  ·simp only[qI]at h;subst h;rw[qN hb];exact qH
def q85{pred:List Nat}:∀{l:List Nat},qdv l pred=true->∀j∈l,j∈pred
 |[],_,j,h=>by cases h
 |x::xs,h,j,hj=>by
  simp[qdv,qA]at h;rcases List.mem_cons.1 hj with rfl|hj
  ·exact d6.1 h.1
  ·exact q85 h.2 j hj
def q84{pred:List Nat}:∀{Ms:List (Nat×Md)},qdu pred Ms=true->∀j,ae Ms j≠none->j∈pred
 |[],_,j,h=>absurd rfl h|(m,md)::r,h,j,hj=>by
  simp[qdu,qA]at h;simp[ae]at hj;cases hb:Nat.beq m j<;>rw[hb]at hj<;>simp at hj
  ·exact q84 h.2 j hj
  ·rw[← qN hb];exact d6.1 h.1
def q59{Rs:List HR}{k:Nat}:∀{cs:List Nat},qit s Rs k cs=true->∃c rc,c∈cs/\Rs[c]? = some rc/\ja (s.nx+32*rc.dst) k
 |[],h=>by cases h
 |c::cs,h=>by
  simp[qit,Bool.or_eq_true]at h;rcases h with h|h
  ·split at h
   ·rename_i r hr;simp only[qA,Nat.blt_eq]at h;exact⟨c,r,qH,hr,Nat.le_of_ble_eq_true h.1,h.2⟩
   ·cases h
  ·obtain⟨c',rc,h1,h2⟩:=q59 h;exact⟨c',rc,qE _ h1,h2⟩
def q6a{Rs:List HR}{pred:List Nat}{dst:Nat}{K:List Nat}:∀{l:List (Nat×ag)},qdb s Rs pred dst K l=true->∀e∈l,ja (s.nx+32*dst) e.1\/(e.1∈K/\((∃b,ae s.hp e.1=some b)\/∃c rc,c∈pred/\Rs[c]? = some rc/\ja (s.nx+32*rc.dst) e.1))
 |[],_,e,he=>by cases he
 |x::r,h,e,he=>by
  simp only[qdb,qA,Bool.or_eq_true]at h;rcases List.mem_cons.1 he with rfl|he
  ·rcases h.1 with h1|⟨h1,h2⟩
   ·simp only[Nat.blt_eq]at h1;exact .inl ⟨Nat.le_of_ble_eq_true h1.1,h1.2⟩
   ·refine .inr ⟨d6.1 h1,?_⟩;rcases h2 with h2|h2
    ·cases hq:ae s.hp e.1 with
     |none=>rw[hq]at h2;cases h2
     |some b=>exact .inl ⟨b,rfl⟩
    ·exact .inr (q59 h2)
  ·exact q6a h.2 e he
def q6b{dst:Nat}:∀{l:List (Nat×AV)},qdc dst l=true->∀e∈l,e.1=dst
 |[],_,e,he=>by cases he
 |x::r,h,e,he=>by
  simp only[qdc,qA]at h;rcases List.mem_cons.1 he with rfl|he
  ·exact qN h.1
  ·exact q6b h.2 e he
def qqr{Ms Ms':List (Nat×Md)}{sel:List Nat}:∀(rs:List HR)(j:Nat)(t:St),(∀k,k<j+rs.length->ae Ms k=ae Ms' k)->dm Ms sel rs j t=dm Ms' sel rs j t
 |[],_,_,_=>rfl|r::rs,j,t,h=>by
  simp[dm];rw[h j oC,qqr rs (j+1) _ (fun k hk=>h k oD)]
def q2e{Ms:List (Nat×Md)}{sel:List Nat}{d:Nat}:∀{rs:List HR}{j:Nat}{t:St},(∀(k:Nat)(r:HR),rs[k]? = some r->(ae Ms (j+k)=none->r.dst≠d)/\∀md,ae Ms (j+k)=some md->∀e∈md.f,e.1≠d)->ae (dm Ms sel rs j t).fr d=ae t.fr d
 |[],_,_,_=>rfl|r::rs,j,t,h=>by
  simp[dm];rw[q2e (fun k r' hr'=>by have:=h (k+1) r' (by simpa using hr');rwa [show j+(k+1)=j+1+k by omega]at this)]
  cases a7 sel j
  ·rfl
  ·simp;have h0:=h 0 r oC
   rw[Nat.add_zero]at h0
   cases hm:ae Ms j with
   |none=>
    simp[St.addR,ae];cases hq:Nat.beq r.dst d
    ·rfl
    ·exact absurd (qN hq) (h0.1 hm)
   |some md=>
    simp[St.addM];rw[qtb]
    cases hq:ae md.f d with
    |none=>rfl|some v=>
     obtain⟨e,he,hx⟩:=p7 (l:=md.f) (m:=d) (by rw[hq];simp)
     exact absurd hx (h0.2 md hm e he)
def qqs{Ms:List (Nat×Md)}{sel:List Nat}:∀{rs:List HR}{j k:Nat}{t:St}{r:HR},rs[k]? = some r->a7 sel (j+k)=true->ae Ms (j+k)=none ->
  (∀(k':Nat)(r':HR),k<k'->rs[k']? = some r'->r'.dst≠r.dst/\∀md,ae Ms (j+k')=some md->∀e∈md.f,e.1≠r.dst)->ae (dm Ms sel rs j t).fr r.dst=some r.v
 |[],_,_,_,_,h,_,_,_=>by simp at h|r0::rs,j,0,t,r,h,hm,hn,hd=>by
  simp at h;subst h;simp[dm];rw[q2e (fun k r' hr'=>by
   have:=hd (k+1) r' oA (by simpa using hr')
   rw[show j+(k+1)=j+1+k by omega]at this
   exact⟨fun _=>this.1,this.2⟩)]
  rw[Nat.add_zero]at hm hn;rw[hm,hn];simp[St.addR,ae]
 |r0::rs,j,k+1,t,r,h,hm,hn,hd=>by
  simp[dm];rw[show j+(k+1)=j+1+k by omega]at hm hn
  exact qqs (k:=k) (by simpa using h) hm hn (fun k' r' hk hr'=>by
   have:=hd (k'+1) r' oA (by simpa using hr')
   rwa [show j+(k'+1)=j+1+k' by omega]at this)
structure HX(P:Program)(ops:Array Oper)(s:St)(Cs:List (Nat×List Nat×List Nat))(i:Nat)(Rs:List HR)(Ms:List (Nat×Md)):Prop where
 len:Rs.length=i
 all:∀j o,j<i->ops[j]? = some o->∃r,xq ops s Rs Ms Cs j o r/\StX P ops s Rs Ms Cs j o r
 lt:∀j,ae Ms j≠none->j<i
 und:∀(j:Nat)(r:HR)(md:Md),Rs[j]? = some r->ae Ms j=some md->r.v = .undef
def HX.more{ops:Array Oper}{Cs:List (Nat×List Nat×List Nat)}{i:Nat}{Rs:List HR}{Ms Ms':List (Nat×Md)}{r0:HR}(hI:HX P ops s Cs i Rs Ms)(hM:∀j,j<i->ae Ms' j=ae Ms j){j:Nat}{o:Oper}{r:HR}(hj:j<i)
  (ok:xq ops s Rs Ms Cs j o r) (st:StX P ops s Rs Ms Cs j o r):xq ops s (Rs++[r0]) Ms' Cs j o r/\StX P ops s (Rs++[r0]) Ms' Cs j o r:=by
 have hl:=hI.len;have hg:∀k,k<i->(Rs++[r0])[k]? = Rs[k]? := fun k hk=>List.getElem?_append_left oA
 have ht:(Rs++[r0]).take j=Rs.take j:=by rw[List.take_append_of_le_length oA]
 have hf:f4 (Rs++[r0]) Ms' j=f4 Rs Ms j:=by unfold f4;rw[hM j hj,hg j hj]
 have hh:f5 (Rs++[r0]) Ms' j=f5 Rs Ms j:=by unfold f5;rw[hM j hj,hg j hj]
 have hs:je s (Rs++[r0]) Ms' Cs j r=je s Rs Ms Cs j r:=by
  unfold je;rw[ht,qqr (Rs.take j) 0 s (fun k hk=>hM k (by simp at hk;omega))]
 refine⟨⟨by rw[hg j hj];exact ok.get,ok.room,by rw[ht];exact ok.pred,by rw[ht];exact ok.fresh,by rw[ht];exact ok.reads,ok.writes,by rw[hf];exact ok.f,fun e he => ?_⟩,?_⟩
 ·rw[hh]at he;rcases ok.h e he with h|⟨h1,h2,h3,h4⟩
  ·exact .inl h
  ·refine .inr ⟨by rw[hM j hj];exact h1,h2,?_,fun k hk hkm=>h4 k hk (by rw[← hM k oA];exact hkm)⟩
   rcases h3 with h3|⟨c,rc,c1,c2,c3⟩
   ·exact .inl h3
   ·have:c<i:=by have:=(List.getElem?_eq_some_iff.1 c2).1;omega
    exact .inr ⟨c,rc,c1,by rw[hg c this];exact c2,c3⟩
 ·rcases st with⟨s1,s2,s3,s4⟩|⟨ps,d,md,s1,s2,s3,s4,s5⟩
  ·exact .inl ⟨by rw[hM j hj];exact s1,s2,s3,by rw[hs];exact s4⟩
  ·exact .inr ⟨ps,d,md,by rw[hM j hj];exact s1,s2,s3,by rw[hs];exact s4,s5⟩
def HX.dis{ops:Array Oper}{Cs:List (Nat×List Nat×List Nat)}{i:Nat}{Rs:List HR}{Ms:List (Nat×Md)}(hi:i<=ops.size)(hI:HX P ops s Cs i Rs Ms):∀(k k':Nat)(r r':HR),k<k'->Rs[k]? = some r->Rs[k']? = some r'->r'.dst≠r.dst/\∀md,ae Ms k'=some md->∀e∈md.f,e.1≠r.dst:=fun k k' r r' hk h1 h2=>by
 have hk':k'<i:=by have:=(List.getElem?_eq_some_iff.1 h2).1;have:=hI.len;omega
 obtain⟨ok',hok'⟩:∃o,ops[k']? = some o:=⟨ops[k'],by simp[show k'<ops.size by omega]⟩
 obtain⟨r2,ok,_⟩:=hI.all k' _ hk' hok';have h3:=ok.get;rw[h2]at h3;injection h3 with h3;subst h3
 have hne:r'.dst≠r.dst:=fun e=>sh.1 ok.fresh r (List.mem_of_getElem? (i:=k) (by rw[List.getElem?_take,qX hk];exact h1)) e.symm
 refine⟨hne,fun md hmd e he => ?_⟩
 have:f4 Rs Ms k'=md.f:=by unfold f4;rw[hmd]
 rw[ok.f e (by rw[this];exact he)];exact hne
def qif(hT:∀e∈tb.ents,e.Sound P){ops:Array Oper}{Cs:List (Nat×List Nat×List Nat)}{fin:List (Nat×Md)->List HR->List (Nat×Bool)->Option R}{x:R}:∀(l:List Oper)(i:Nat)(Rs:List HR)(kn:List (Nat×Bool))(Ms:List (Nat×Md)),(∀j,j<l.length->ops[i+j]? = l[j]?)->jo Rs kn->HX P ops s Cs i Rs Ms->i<=ops.size ->
  yx P tb ops s Cs fin l i Rs kn Ms=some x->∃Ms' Rs' kn',fin Ms' Rs' kn'=some x/\jo Rs' kn'/\HX P ops s Cs (i+l.length) Rs' Ms'
 |[],i,Rs,kn,Ms,_,hkn,hI,_,h=>⟨Ms,Rs,kn,h,hkn,hI⟩|o::l,i,Rs,kn,Ms,hl,hkn,hI,his,h=>by
  have ho:ops[i]? = some o:=by have:=hl 0 oC;simpa using this
  have hil:i<ops.size:=(Array.getElem?_eq_some_iff.1 ho).1;have hl':∀j,j<l.length->ops[i+1+j]? = l[j]? := fun j hj=>by have:=hl (j+1) oD;simpa [Nat.add_assoc,Nat.add_comm 1 j] using this
  have knm:∀(r0:HR)(kn':List (Nat×Bool)),jo Rs kn'->jo (Rs++[r0]) kn':=fun r0 kn' hk j d hj=>by
   obtain⟨r,i1,i2⟩:=hk j d hj;exact⟨r,by rw[List.getElem?_append_left (List.getElem?_eq_some_iff.1 i1).1];exact i1,i2⟩
  have htl:∀r0:HR,(Rs++[r0]).take i=Rs:=fun r0=>by rw[← hI.len,List.take_left]
  have hge:∀r0:HR,(Rs++[r0])[i]? = some r0:=fun r0=>by rw[← hI.len];simp
  have hMi:ae Ms i=none:=by
   cases hq:ae Ms i with|none=>rfl|some v=>have:=hI.lt i (by rw[hq];simp);omega
  have hdis:=hI.dis his
  -- a further operation that leaves own memory
  have normal:∀(pred:List Nat)(tt:Nat)(v:AV)(new:List (Nat×ag))(ps:List Prop)(c:qn),kg Rs o.after.toList=some pred->o.dst=some tt->Nat.blt tt s.n=true->au (s.nx+32*tt) s.hp=true->mi tt Rs=true->oc pred (gv ops o) Rs 0=true->om ops tt pred i=true ->
    jr P ops ((dm Ms pred Rs 0 s).hide (ii Cs pred i)) c o=some (ps,v,new)->ao ps->HX P ops s Cs (i+1) (Rs++[⟨tt,v,new,pred⟩]) Ms:=fun pred tt v new ps c hp hd b1 b2 b3 b4 b5 hst hps=>by
   refine⟨by rw[qM,hI.len];rfl,fun j oj hj hoj => ?_,fun j hj=>by have:=hI.lt j hj;omega,fun j r md hr hm=>by
    have hji:=hI.lt j (by rw[hm];simp)
    exact hI.und j r md (by rw[List.getElem?_append_left (by have:=hI.len;omega)]at hr;exact hr) hm⟩
   by_cases hji:j<i
   ·obtain⟨r,ok,st⟩:=hI.all j oj hji hoj;exact⟨r,hI.more (fun _ _=>rfl) hji ok st⟩
   ·have:j=i:=oA
    subst this;rw[ho]at hoj;cases hoj;have hs:je s (Rs++[⟨tt,v,new,pred⟩]) Ms Cs j ⟨tt,v,new,pred⟩=(dm Ms pred Rs 0 s).hide (ii Cs pred j):=by unfold je;rw[htl]
    have hef:f4 (Rs++[⟨tt,v,new,pred⟩]) Ms j=[(tt,v)]:=by unfold f4;rw[hMi,hge]
    have heh:f5 (Rs++[⟨tt,v,new,pred⟩]) Ms j=new:=by unfold f5;rw[hMi,hge]
    have hnm:=q2t hd hst;have hnx:((dm Ms pred Rs 0 s).hide (ii Cs pred j)).nx=s.nx:=by
     rw[qgs (Rs:=Rs) Rs 0 s (fun k _=>by rw[wO])];rfl
    rw[hnx]at hnm;refine⟨⟨tt,v,new,pred⟩,⟨hge _,b2,by rw[htl];exact hp,by rw[htl];exact b3,by rw[htl];exact b4,b5,fun e he => ?_,fun e he => .inl ?_⟩,.inl ⟨hMi,hd,by simpa using b1,ps,c,by rw[hs];exact hst,hps⟩⟩
    ·rw[hef]at he;rw[List.mem_singleton]at he;subst he;rfl
    ·rw[heh]at he;exact hnm e he
  simp[yx]at h;split at h
  ·cases h
  ·rename_i pred hp;cases hc:qsa s o.dst&&au (s.nx+32*fw s i o.dst) s.hp&&mi (fw s i o.dst) Rs&&oc pred (gv ops o) Rs 0&&om ops (fw s i o.dst) pred i<;>rw[hc]at h<;>simp at h
   simp at hc;obtain⟨⟨⟨⟨b1,b2⟩,b3⟩,b4⟩,b5⟩:=hc;split at h
   ·rename_i K Pm hf hg;split at h
    ·rename_i q hq;obtain⟨d,q1,q2⟩:=Rq.K_some h;split at q2
     ·rename_i ps v new tt ha hd;rw[hd]at b1 b2 b3 b5;have hps:=q2p hT hq q1 ha;have hI':=normal pred tt v new ps (false,d) hp hd b1 b2 b3 b4 b5 (by unfold jr;rw[hg];exact ha) hps
      obtain⟨Ms',Rs',kn',e1,e2,e3⟩:=qif hT l (i+1) _ kn Ms hl' (knm _ _ hkn) hI' oA q2
      exact⟨Ms',Rs',kn',e1,e2,by rw[qL,show i+(l.length+1)=i+1+l.length by omega];exact e3⟩
     ·split at q2
      ·rename_i ps md hmo;cases hx:qdb s Rs pred (fw s i o.dst) K md.h&&qdc (fw s i o.dst) md.f&&qdv Pm pred&&qdu pred Ms<;>rw[hx]at q2<;>simp at q2
       simp at hx;obtain⟨⟨⟨x1,x2⟩,x3⟩,x4⟩:=hx;have hps:=q2q hT hq q1 (q6h hmo);have hM':∀j,j<i->ae ((i,md)::Ms) j=ae Ms j:=fun j hj=>by
        have:Nat.beq i j=false:=by
         cases hb:Nat.beq i j
         ·rfl
         ·have:=qN hb;omega
        simp[ae,this,qF]
       have hMM:ae ((i,md)::Ms) i=some md:=by simp[ae]
       have hI':HX P ops s Cs (i+1) (Rs++[⟨fw s i o.dst,.undef,[],pred⟩]) ((i,md)::Ms):=by
        refine⟨by rw[qM,hI.len];rfl,fun j oj hj hoj => ?_,fun j hj => ?_,fun j r md' hr hm => ?_⟩
        ·by_cases hji:j<i
         ·obtain⟨r,ok,st⟩:=hI.all j oj hji hoj;exact⟨r,hI.more hM' hji ok st⟩
         ·have:j=i:=oA
          subst this;rw[ho]at hoj;cases hoj;have hs:je s (Rs++[⟨fw s j o.dst,.undef,[],pred⟩]) ((j,md)::Ms) Cs j ⟨fw s j o.dst,.undef,[],pred⟩=(dm Ms pred Rs 0 s).hide (ii Cs pred j):=by
           unfold je;rw[htl,qqr (Ms':=Ms) Rs 0 s (fun k hk=>hM' k (by have:=hI.len;omega))]
          have hef:f4 (Rs++[⟨fw s j o.dst,.undef,[],pred⟩]) ((j,md)::Ms) j=md.f:=by unfold f4;rw[hMM]
          have heh:f5 (Rs++[⟨fw s j o.dst,.undef,[],pred⟩]) ((j,md)::Ms) j=md.h:=by unfold f5;rw[hMM]
          refine⟨⟨fw s j o.dst,.undef,[],pred⟩,⟨hge _,b2,by rw[htl];exact hp,by rw[htl];exact b3,by rw[htl];exact b4,b5,fun e he => ?_,fun e he => ?_⟩,.inr ⟨ps,d,md,hMM,hg,fun t ht => ?_,by rw[hs];exact hmo,hps⟩⟩
          ·rw[hef]at he;exact q6b x2 e he
          ·rw[heh]at he;rcases q6a x1 e he with h'|⟨h1,h2⟩
           ·exact .inl h'
           ·refine .inr ⟨by rw[hMM];simp,⟨K,Pm,q4t hf,h1,q85 x3⟩,?_,fun k hk hkm=>q84 x4 k (by rw[hM' k hk]at hkm;exact hkm)⟩
            rcases h2 with h2|⟨c,rc,c1,c2,c3⟩
            ·exact .inl h2
            ·have:c<Rs.length:=(List.getElem?_eq_some_iff.1 c2).1;exact .inr ⟨c,rc,c1,by rw[List.getElem?_append_left this];exact c2,c3⟩
          ·rw[ht]at b1 ⊢;exact⟨rfl,by simpa [qsa] using b1⟩
        ·simp[ae]at hj;cases hb:Nat.beq i j<;>rw[hb]at hj<;>simp at hj
         ·have:=hI.lt j hj;omega
         ·have:=qN hb;omega
        ·by_cases hji:j=i
         ·subst hji;rw[hge]at hr;cases hr;rfl
         ·have hr':(Rs++[⟨fw s i o.dst,.undef,[],pred⟩])[j]? = some r:=hr;have hjl:j<i+1:=by have:=(List.getElem?_eq_some_iff.1 hr).1;simp at this;have:=hI.len;omega
          exact hI.und j r md' (by rw[List.getElem?_append_left (by have:=hI.len;omega)]at hr;exact hr) (by rw[hM' j oA]at hm;exact hm)
       obtain⟨Ms',Rs',kn',e1,e2,e3⟩:=qif hT l (i+1) _ kn _ hl' (knm _ _ hkn) hI' oA q2
       exact⟨Ms',Rs',kn',e1,e2,by rw[qL,show i+(l.length+1)=i+1+l.length by omega];exact e3⟩
      ·cases q2
    ·cases h
   ·split at h
    ·rename_i d hd;rw[hd]at b1 b2 b3 b5;have hv:∀j r,a7 (ru Ms pred) j=true->Rs[j]? = some r->ae ((dm Ms pred Rs 0 s).hide (ii Cs pred i)).fr r.dst=some r.v:=fun j r hm hr=>by
      obtain⟨h1,h2⟩:=qiw.1 (d6.1 hm);exact qqs (k:=j) hr (by rw[wO];exact d6.2 h1) (by rw[wO];exact h2) (fun k' r' hk hr'=>by rw[wO];exact hdis j k' r r' hk hr hr')
     have hdd:∀(j:Nat)(r:HR),a7 (ru Ms pred) j=true->Rs[j]? = some r->∃oj:Oper,ops[j]? = some oj/\oj.dst=some r.dst:=fun j r hm hr=>by
      obtain⟨h1,h2⟩:=qiw.1 (d6.1 hm);have hj:j<i:=by have:=(List.getElem?_eq_some_iff.1 hr).1;have:=hI.len;omega
      obtain⟨oj,hoj⟩:∃o,ops[j]? = some o:=⟨ops[j],by simp[show j<ops.size by omega]⟩
      obtain⟨r2,ok,st⟩:=hI.all j oj hj hoj;have h3:=ok.get;rw[hr]at h3;injection h3 with h3;subst h3
      rcases st with⟨_,s2,_⟩|⟨_,_,md,s1,_⟩
      ·exact⟨oj,hoj,s2⟩
      ·rw[h2]at s1;cases s1
     obtain⟨ps,c,v,new,kn',h1,h2,h3,h4⟩:=q6y hT hkn hv hdd h;have hI':=normal pred d v new ps c hp hd b1 b2 b3 b4 b5 h1 h2;obtain⟨Ms',Rs',kn2,e1,e2,e3⟩:=qif hT l (i+1) _ kn' Ms hl' (knm _ _ h3) hI' oA h4
     exact⟨Ms',Rs',kn2,e1,e2,by rw[qL,show i+(l.length+1)=i+1+l.length by omega];exact e3⟩
    ·cases h
def zgh(hT:∀e∈tb.ents,e.Sound P)(hm:P.follows .mixedOrders=true){ops:Array Oper}{Cs:List (Nat×List Nat×List Nat)}{K:St->Option R}{x:R}(h:qr6 P tb ops s Cs K=some x){N:Act->World->Prop}(hN:∀s',K s'=some x->∀G' a' w',ah zw0 zwv zwx G' s' a' w'->N a' w')
  (hr:ah zw0 zwv zwx G s a w) (id:Nat) (b:Frame) (kk:List Item) (cs:List Frame) (hk:b.kind = .normal) :
  ∃a' w',N a' w'/\Steps P (lone (b.atR a (.code (.region id ops true)::kk)) cs w) (lone (b.atR a' kk) cs w'):=by
 unfold qr6 at h;generalize f8 ops=n at h;cases hb:ju ops.toList 0&&kh ops n&&Nat.ble n ops.toList.length<;>rw[hb]at h<;>simp at h
 simp only[qA]at hb;obtain⟨⟨b1,b2⟩,b3⟩:=hb;have hn:n<=ops.size:=by have:=Nat.le_of_ble_eq_true b3;simpa using this
 have ac:(ops.toList.take n).length=n:=by simp;omega
 obtain⟨Ms,Rs,kn,k1,kkn,hI⟩:=qif hT (ops.toList.take n) 0 [] [] [] (fun j hj=>by
  rw[ac]at hj;rw[List.getElem?_take,qX hj,wO];simp) (fun j d h=>by cases h) ⟨rfl,fun j o hj=>oA,fun j hj=>absurd rfl hj,fun j r md h=>by simp at h⟩ (Nat.zero_le _) h
 rw[wO,ac]at hI;have base:∀(G:Gh)(a:Act)(w:World),ah zw0 zwv zwx G (dm Ms (List.range n) Rs 0 s) a w->∀l,ah zw0 zwv zwx G (sr Rs kn l (dm Ms (List.range n) Rs 0 s)) a w:=by
  intro G a w hr l
  induction l with
  |nil=>exact hr|cons e l ih=>
   obtain⟨j,d⟩:=e;unfold sr;split
   ·rename_i d' r h0 h1;obtain⟨r',i1,h2⟩:=kkn j d' h0;rw[h1]at i1;have:=qJ i1;subst this;have hj:j<n:=by have:=(List.getElem?_eq_some_iff.1 h1).1;rw[hI.len]at this;exact this
    refine ih.know ?_
    cases hMj:ae Ms j with
    |some md=>
     have:=hI.und j r md h1 hMj;rw[h2]at this;cases this
    |none=>
     have hin:ae (dm Ms (List.range n) Rs 0 s).fr r.dst=some r.v:=qqs (k:=j) h1 (by rw[wO,d6];exact List.mem_range.2 hj) (by rw[wO];exact hMj) (fun k' r' hk hr'=>by rw[wO];exact hI.dis hn j k' r r' hk h1 hr')
     obtain⟨v,v1,v2⟩:=hr.frame r.dst _ hin;rw[h2]at v2;have v2:v = .bool d':=v2;subst v2;show a.tmps.getD r.dst undef=_;rw[Array.getD_eq_getD_getElem?,v1];rfl
   ·exact ih
 refine q35 hm ?_ b kk cs hk;refine zg6 (zw0:=zw0) (zwv:=zwv) (zwx:=zwx) (N:=N) hn b1 b2 hI.len hI.all (fun G a w listed hr' hu=>qup hT b1 b2 hN _ n (wF _) rfl hn _ G a w listed k1 (base G a w hr' kn) hu) ops.size [] _ G a _ oC ?_ trivial ?_
 ·refine⟨List.nodup_nil,fun i hi=>(by cases hi),oC,fun j hj => ?_,fun i hi=>(by cases hi)⟩
  rw[Array.getD_eq_getD_getElem?];simp[hj]
 ·exact⟨hr.defers,hr.size,hr.frame,hr.fresh,⟨⟨hr.fin.mem.agree,hr.fin.mem.one,hr.fin.mem.holds,hr.fin.mem.apart,hr.fin.mem.tab⟩,⟨hr.fin.bel.os,hr.fin.bel.tape,hr.fin.bel.output,hr.fin.bel.size,hr.fin.bel.block⟩,hr.fin.imm_le,hr.fin.imm_new,hr.fin.base,hr.fin.keep,hr.fin.keepOwn⟩⟩
def zgk(hT:∀e∈tb.ents,e.Sound P)(hm:P.follows .mixedOrders=true){ops:Array Oper}{K:St->Option R}{x:R}(h:qr9 P tb ops s K=some x){N:Act->World->Prop}(hN:∀s',K s'=some x->∀G' a' w',ah zw0 zwv zwx G' s' a' w'->N a' w')
  (hr:ah zw0 zwv zwx G s a w) (id:Nat) (b:Frame) (k:List Item) (cs:List Frame) (hk:b.kind = .normal) :
  ∃a' w',N a' w'/\Steps P (lone (b.atR a (.code (.region id ops true)::k)) cs w) (lone (b.atR a' k) cs w'):=by
 unfold qr9 at h;split at h
 ·exact zgi hT hm h hN hr id b k cs hk
 ·exact zgh hT hm h hN hr id b k cs hk
def zgj(hT:∀e∈tb.ents,e.Sound P)(hm:P.follows .mixedOrders=true){ops:Array Oper}{K:St->Option R}{x:R}(h:qr8 P tb ops s K=some x){N:Act->World->Prop}(hN:∀s',K s'=some x->∀G' a' w',ah zw0 zwv zwx G' s' a' w'->N a' w')
  (hr:ah zw0 zwv zwx G s a w) (id:Nat) (b:Frame) (k:List Item) (cs:List Frame) (hk:b.kind = .normal) :
  ∃a' w',N a' w'/\Steps P (lone (b.atR a (.code (.region id ops true)::k)) cs w) (lone (b.atR a' k) cs w'):=by
 obtain⟨G',hr'⟩:=hr.frzL (ks:=qtv s (ops.toList.take (f8 ops)) (ops.toList.take (f8 ops)));exact zgk hT hm h hN hr' id b k cs hk
end
end Go.Sym
