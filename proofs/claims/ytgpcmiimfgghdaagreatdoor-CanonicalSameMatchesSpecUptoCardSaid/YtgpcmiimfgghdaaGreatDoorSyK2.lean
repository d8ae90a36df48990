/- What the claim rests on, part 2: gathered texts. -/
import Derived.RangeFuncRecord
import Derived.Laws.RangeAny
import Derived.Laws.MakeOwn
import Derived.Laws.IdiomStrings
import Derived.Laws.Cover4
import Derived.Test.YtgpcmiimfgghdaaGreatDoorSyK1
set_option linter.defProp false
set_option linter.unusedSimpArgs false
set_option linter.unusedVariables false
namespace Go.Sym
open Go.RowKit
variable[LC]
def St.ownNew(s:St)(k:Nat)(τ:Ty)(E:TypeId):St:={ s with hp:=(k,.row τ [] E)::s.hp }
def nh:AV->Bool|.val (.slice none 0 0)=>true|_=>false
def St.ownNil(s:St)(i:Nat)(τ:Ty)(E:TypeId):Option St:=
 match ag s.fr i with
 |some x=>bif nh x&&a8 (s.nx+32*i) s.hp then
   some { n:=s.n,fr:=(i,.own (s.nx+32*i))::s.fr,hp:=(s.nx+32*i,.row τ [] E)::s.hp,nx:=s.nx+32*s.n,df:=s.df } else none
 |none=>none
def St.ownCell(s:St)(b off:Nat)(τ:Ty)(E:TypeId):Option St:=
 match ag s.hp b with
 |some (.cells cs T)=>match cs[off]? with
  |some x=>bif nh x&&a8 s.nx s.hp then
    some { n:=s.n,fr:=s.fr,hp:=(b,.cells (cs.set off (.own s.nx)) T)::(s.nx,.row τ [] E)::s.hp,nx:=s.nx+32*s.n,df:=s.df } else none
  |none=>none
 |_=>none
section
variable{P:Program}{vjc:World}{vi7:Gh}{vi9:List (Nat×ah)}{G:Gh}{s:St}{a:Act}{w:World}
def ak.bump(hr:ak vjc vi7 vi9 G s a w):ak vjc vi7 vi9 G s.bump a w:=⟨hr.defers,hr.size,hr.frame,fun m hm hl=>hr.fresh m (by simp[St.bump]at hm;omega) hl,hr.fin⟩
mutual
def aj.frz{k:Nat}{y:AV}{G':Gh}(hle:G.le G')(hy:∀v,aj (.own k) G v->aj y G' v):∀{x:AV}{v:Value},aj x G v->aj (AV.frz k y x) G' v
 |.undef,_,_=>trivial|.int _ _,_,h=>h|.byte _,_,h=>h|.bool _,_,h=>h|.str _,_,h=>h|.val _,_,h=>h|.sl τ l,v,h=>(show aj (.sl τ l) G v from h).le hle|.yld n,v,h=>(show aj (.yld n) G v from h).le hle|.pn n,v,h=>(show aj (.pn n) G v from h).le hle|.arr τ l,v,h=>(show aj (.arr τ l) G v from h).le hle|.rop cs,v,h=>(show aj (.rop cs) G v from h).le hle|.ptr b off,v,h=>(show aj (.ptr b off) G v from h).le hle|.oel n sz i off,v,h=>(show aj (.oel n sz i off) G v from h).le hle|.osl n sz lo,v,h=>(show aj (.osl n sz lo) G v from h).le hle|.asl b n c,v,h=>(show aj (.asl b n c) G v from h).le hle|.agg cs,_,⟨vs,h1,h2⟩=>⟨vs,h1,am.frz hle hy h2⟩|.tup cs,_,⟨vs,h1,h2⟩=>⟨vs,h1,am.frz hle hy h2⟩|.own n,v,h=>by
  simp[AV.frz];cases hb:Nat.beq n k
  ·exact(show aj (.own n) G v from h).le hle
  ·have:=qN hb;subst this;exact hy v h
 |.fn f first cap,_,⟨fs,cs,h1,h2,h3⟩=>⟨fs,cs,h1,am.frz hle hy h2,am.frz hle hy h3⟩
 |.iface t x,_,⟨u,h1,h2⟩=>⟨u,h1,aj.frz hle hy h2⟩
def am.frz{k:Nat}{y:AV}{G':Gh}(hle:G.le G')(hy:∀v,aj (.own k) G v->aj y G' v):∀{xs:List AV}{vs:List Value},am xs G vs->am (AV.frzs k y xs) G' vs|[],[],_=>trivial|_x::_xs,_v::_vs,h=>⟨aj.frz hle hy h.1,am.frz hle hy h.2⟩|[],_::_,h=>h.elim|_::_,[],h=>h.elim
end
def q6z{k:Nat}{y:AV}:∀{fr:List (Nat×AV)}{i:Nat}{x:AV},ag (qon k y fr) i=some x->∃x0,ag fr i=some x0/\x=AV.frz k y x0
 |[],i,x,h=>by cases h
 |(n,z)::r,i,x,h=>by
  simp[qon,ag]at h ⊢;cases hb:Nat.beq n i
  ·rw[hb]at h;exact q6z h
  ·rw[hb]at h;simp only[qT,qI]at h ⊢;exact⟨z,rfl,h.symm⟩
def q60{k:Nat}{y:AV}:∀{hp:List (Nat×ah)}{i:Nat},ag (qoo k y hp) i=(ag hp i).map (qvv k y)
 |[],i=>rfl|(n,b)::r,i=>by
  simp[qoo,ag];cases hb:Nat.beq n i<;>simp[q60 (hp:=r)]
def ak.freeze(hr:ak vjc vi7 vi9 G s a w){k:Nat}{s':St}(h:s.freeze k=some s'):∃G',ak vjc vi7 vi9 G' s' a w:=by
 unfold St.freeze at h;split at h
 ·rename_i τ l E hk;simp at h;subst h;have hl1:∀n bx,ag [(k,ah.row τ l E)] n=some bx->n=k/\bx = .row τ l E:=fun n bx h=>by
   simp[ag]at h;cases hb:Nat.beq k n
   ·rw[hb]at h;cases h
   ·rw[hb]at h;simp at h;exact⟨(qN hb).symm,h.symm⟩
  have hlk:ag [(k,ah.row τ l E)] k=some (.row τ l E):=by simp only[ag];rw[show Nat.beq k k=true by simp];rfl
  have hf1:Fin vjc vi7 vi9 G ({ s with hp:=[(k,.row τ l E)] }:St).hp w:=by
   refine⟨⟨hr.fin.mem.agree,hr.fin.mem.one,fun n bx hb => ?_,fun n m bx bx' b h1 h2 _ _ => ?_,hr.fin.mem.tab⟩,hr.fin.bel,hr.fin.imm_le,hr.fin.imm_new,fun n bx b h1 h2 => ?_,hr.fin.keep,hr.fin.keepOwn⟩
   ·obtain⟨rfl,rfl⟩:=hl1 n bx hb;exact hr.fin.mem.holds _ _ hk
   ·obtain⟨rfl,_⟩:=hl1 n bx h1;obtain⟨rfl,_⟩:=hl1 m bx' h2;rfl
   ·obtain⟨rfl,rfl⟩:=hl1 n bx h1;exact hr.fin.base _ _ b hk h2
  obtain⟨z1,z2,z3,z4⟩:=q42 hf1
  let G':=G.allData [(k,.row τ l E)] w
  have hown:∀v,aj (.own k) G v->aj (.sl τ l) G' v:=fun v hv=>z4 k τ l E v hlk hv
  have hnew:∀b o v,G'.imm b o=some v->G.imm b o=some v\/G.at k (.row τ l E)=some b:=fun b o v h=>by
   simp[G',Gh.allData]at h
   cases hq:G.imm b o with
   |some u=>rw[hq]at h;exact .inl h|none=>
    rw[hq]at h;simp only at h;split at h
    ·rename_i hin;obtain⟨n,τ1,l1,E1,i1,i2,_⟩:=hin;obtain⟨rfl,e⟩:=hl1 n _ i1;rw[e]at i2;exact .inr i2
    ·cases h
  have hother:∀n bx B,n≠k->ag s.hp n=some bx->G.at n bx=some B->(∀o,G.imm B o=none)->∀o,G'.imm B o=none:=fun n bx B hn h1 h2 h3 o=>by
   cases hq:G'.imm B o with
   |none=>rfl|some v=>
    rcases hnew B o v hq with h|h
    ·rw[h3]at h;cases h
    ·exact absurd (hr.fin.mem.apart n k bx _ B h1 hk h2 h) hn
  have hlook:∀n bx,ag ((k,ah.dead)::qoo k (.sl τ l) s.hp) n=some bx->bx = .dead\/(n≠k/\∃b0,ag s.hp n=some b0/\bx=qvv k (.sl τ l) b0):=fun n bx h=>by
   simp[ag]at h;cases hb:Nat.beq k n
   ·rw[hb]at h;simp at h;rw[q60]at h
    cases hq:ag s.hp n with
    |none=>rw[hq]at h;cases h
    |some b0=>rw[hq]at h;simp at h;exact .inr ⟨fun e=>by subst e;simp at hb,b0,rfl,h.symm⟩
   ·rw[hb]at h;simp at h;exact .inl h.symm
  have hat:∀n b0,G'.at n (qvv k (.sl τ l) b0)=G.at n b0:=fun n b0=>by cases b0<;>rfl
  refine⟨G',⟨hr.defers,hr.size,fun i x hx => ?_,fun m hm hl => ?_,⟨⟨z2.agree,z2.one,fun n bx hb => ?_,fun n m bx bx' b h1 h2 h3 h4 => ?_,z2.tab⟩,hr.fin.bel,fun b o v h=>z1.imm _ _ _ (hr.fin.imm_le b o v h),fun b o v h => ?_,fun n bx b h1 h2 => ?_,hr.fin.keep,hr.fin.keepOwn⟩⟩⟩
  ·obtain⟨x0,h1,rfl⟩:=q6z hx;obtain⟨v,h2,h3⟩:=hr.frame i x0 h1;exact⟨v,h2,aj.frz z1 hown h3⟩
  ·refine hr.fresh m hm ?_;simp[ag]at hl;cases hb:Nat.beq k m
   ·rw[hb]at hl;simp at hl;rw[q60]at hl
    cases hq:ag s.hp m with|none=>rfl|some b0=>rw[hq]at hl;cases hl
   ·rw[hb]at hl;cases hl
  ·rcases hlook n bx hb with rfl|⟨hn,b0,h0,rfl⟩
   ·trivial
   ·have hb0:=hr.fin.mem.holds n b0 h0;have ho:=hother n b0
    cases b0 with
    |cells cs T=>
     obtain⟨B,vs,h1,h2,h3,h4,h5⟩:=hb0;exact⟨B,vs,h1,h2,am.frz z1 hown h3,h4,ho B hn h0 (by simp[Gh.at,h1]) h5⟩
    |loop st pe f j fr ps tag D=>
     obtain⟨B,tmps,DB,h1,h2,h3,h4,h5,h6⟩:=hb0;refine⟨B,tmps,DB,h1,h2,h3,h4,fun i x hx => ?_,ho B hn h0 (by simp[Gh.at,h1]) h6⟩
     obtain⟨x0,q1,rfl⟩:=q6z hx;obtain⟨v,q2,q3⟩:=h5 i x0 q1;exact⟨v,q2,aj.frz z1 hown q3⟩
    |dfr=>
     obtain⟨B,h1,h2,h3⟩:=hb0;exact⟨B,h1,h2,ho B hn h0 (by simp[Gh.at,h1]) h3⟩
    |it s0 p0=>
     obtain⟨B,h1,h2,h3⟩:=hb0;exact⟨B,h1,h2,ho B hn h0 (by simp[Gh.at,h1]) h3⟩
    |row τ1 l1 E1=>
     obtain⟨ad,c,h1,h3⟩:=hb0;refine⟨ad,c,h1,?_⟩;rcases h3 with h3|⟨g,vs,fz,k1,k2,k3,k4,k5,k6,k7,k8,k9⟩
     ·exact .inl h3
     ·exact .inr ⟨g,vs,fz,k1,k2,k3,k4,k5,k6,am.data_le z1.imm k7,k8,ho g hn h0 (by subst k1;simp[Gh.at,h1]) k9⟩
    |dead=>trivial
  ·rcases hlook n bx h1 with rfl|⟨hn,b0,h0,rfl⟩
   ·cases h3
   ·rcases hlook m bx' h2 with rfl|⟨hm,b1,h5,rfl⟩
    ·cases h4
    ·rw[hat]at h3 h4;exact hr.fin.mem.apart n m b0 b1 b h0 h5 h3 h4
  ·rcases hnew b o v h with h|h
   ·exact hr.fin.imm_new b o v h
   ·exact .inr (hr.fin.base k _ b hk h)
  ·rcases hlook n bx h1 with rfl|⟨hn,b0,h0,rfl⟩
   ·cases h2
   ·rw[hat]at h2;exact hr.fin.base n b0 b h0 h2
 ·cases h
def zh9{x:AV}(h:nh x=true):x = .val (.slice none 0 0):=by
 unfold nh at h;split at h
 ·rfl
 ·cases h
def ak.ownNew(hr:ak vjc vi7 vi9 G s a w){k:Nat}(τ:Ty)(E:TypeId)(hk:ag s.hp k=none)(hkx:s.nx<=k):∃G',G.le G'/\G'.own k=some (none,0,0)/\ak vjc vi7 vi9 G' (s.ownNew k τ E) a w:=by
 obtain⟨hkb,hko⟩:=hr.fresh k hkx hk;have hle:G.le (G.addOwn k (none,0,0)):=Gh.addOwn_le hko;have hl1:∀n bx,ag [(k,ah.row τ [] E)] n=some bx->n=k/\bx = .row τ [] E:=fun n bx h=>by
  simp[ag]at h;cases hb:Nat.beq k n
  ·rw[hb]at h;cases h
  ·rw[hb]at h;simp at h;exact⟨(qN hb).symm,h.symm⟩
 refine⟨G.addOwn k (none,0,0),hle,Gh.addOwn_self,⟨by obtain⟨bs,q1,q2⟩:=hr.defers;exact⟨bs,q1,uy hle.box q2⟩,hr.size,fun j x hx => ?_,fun m hm hlm => ?_,?_⟩⟩
 ·obtain⟨v,h1,h2⟩:=hr.frame j x hx;exact⟨v,h1,h2.le hle⟩
 ·simp[St.ownNew,ag]at hlm;cases hq:Nat.beq k m
  ·rw[hq]at hlm;obtain⟨h1,h2⟩:=hr.fresh m hm hlm;refine⟨h1,?_⟩;show(bif Nat.beq m k then some _ else G.own m)=none
   cases hbm:Nat.beq m k
   ·exact h2
   ·have:=qN hbm;subst this;simp at hq
  ·rw[hq]at hlm;cases hlm
 ·refine hr.fin.extend (new:=[(k,.row τ [] E)]) hle ⟨rfl,rfl,rfl,wF _,fun _ _ _=>rfl⟩ (fun _ _ _ h => .inl h) hr.fin.mem.agree hr.fin.mem.one ?_ ?_ ?_
  ·intro n bx h;obtain⟨rfl,_⟩:=hl1 n bx h;exact hk
  ·intro n bx h;obtain⟨rfl,rfl⟩:=hl1 n bx h;exact⟨⟨none,0,Gh.addOwn_self,.inl ⟨rfl,rfl,rfl⟩⟩,fun b hb=>by simp only[Gh.at,Gh.addOwn_self]at hb;cases hb⟩
  ·intro n m bx bx' b h1 h2 _ _;obtain⟨rfl,_⟩:=hl1 n bx h1;obtain⟨rfl,_⟩:=hl1 m bx' h2;rfl
def ak.ownNil(hr:ak vjc vi7 vi9 G s a w){i:Nat}{τ:Ty}{E:TypeId}{s':St}(h:s.ownNil i τ E=some s'):∃G',ak vjc vi7 vi9 G' s' a w:=by
 unfold St.ownNil at h;split at h
 ·rename_i x hi;cases hb:nh x&&a8 (s.nx+32*i) s.hp<;>rw[hb]at h<;>simp at h
  subst h;simp at hb;have hx:=zh9 hb.1;subst hx;obtain⟨G',hle,ho,hr'⟩:=hr.ownNew τ E (np hb.2 _ (wF _) oA) oA
  refine⟨G',⟨hr'.defers,hr'.size,fun j x hx => ?_,fun m hm hl=>hr'.fresh m (by simp only at hm;show s.nx<=m;omega) hl,hr'.fin⟩⟩
  simp[ag]at hx;cases hq:Nat.beq i j
  ·rw[hq]at hx;exact hr'.frame j x hx
  ·rw[hq]at hx;simp at hx;subst hx;have:=qN hq;subst this;obtain⟨v,h1,h2⟩:=hr'.frame i _ hi;exact⟨v,h1,none,0,0,ho,h2⟩
 ·cases h
def ak.ownCell(hr:ak vjc vi7 vi9 G s a w){b off:Nat}{τ:Ty}{E:TypeId}{s':St}(h:s.ownCell b off τ E=some s'):∃G',ak vjc vi7 vi9 G' s' a w:=by
 unfold St.ownCell at h;split at h
 ·rename_i cs T hb0;split at h
  ·rename_i x hx0;cases hb:nh x&&a8 s.nx s.hp<;>rw[hb]at h<;>simp at h
   subst h;simp at hb;have hx:=zh9 hb.1;subst hx;have hk:=np hb.2 s.nx (wF _) oA
   obtain⟨G',hle,ho,hr'⟩:=hr.ownNew τ E hk (wF _);have hne:s.nx≠b:=fun e=>by rw[e,hb0]at hk;cases hk
   have hb1:ag (s.ownNew s.nx τ E).hp b=some (.cells cs T):=by
    simp[St.ownNew,ag];cases hq:Nat.beq s.nx b
    ·exact hb0
    ·exact absurd (qN hq) hne
   obtain⟨B,vs,k1,k2,k3,k4,k5⟩:=hr'.fin.mem.holds _ _ hb1;refine⟨G',⟨hr'.defers,hr'.size,hr'.frame,fun m hm hl=>hr'.fresh m (by simp only at hm;show s.nx<=m;omega) ?_,?_⟩⟩
   ·simp[ag]at hl;cases hq:Nat.beq b m
    ·rw[hq]at hl;exact hl
    ·rw[hq]at hl;cases hl
   ·have hv:vs.toList[off]? = some (.slice none 0 0):=by
     obtain⟨v,h1,h2⟩:=lh k3 hx0;simp[aj]at h2;subst h2;exact h1
    have hset:vs.toList.set off (.slice none 0 0)=vs.toList:=by
     obtain⟨hlt,he⟩:=List.getElem?_eq_some_iff.1 hv;rw[← he,List.set_getElem_self]
    refine hr'.fin.update (bx := .cells cs T) (bx' := .cells (cs.set off (.own s.nx)) T) hb1 (B:=B) k1 k1 ⟨rfl,rfl,rfl,wF _,fun _ _ _=>rfl⟩ ⟨B,vs,k1,k2,?_,k4,k5⟩ k5
    have:=qpd off k3 (x := .own s.nx) (v := .slice none 0 0) ⟨none,0,0,ho,rfl⟩
    rwa [hset]at this
  ·cases h
 ·cases h
end
def Ty.dec:(τ:Ty)->List AV->Option (τ.den×List AV)
 |.int k,x::r=>match x with|.int k' n=>bif decide (k'=k) then some (n,r) else none|.val (.int k' n)=>bif decide (k'=k) && !decide (k' = .u8) then some (n,r) else none|_=>none
 |.byte,x::r=>match x with|.byte c=>some (c,r)|.val (.int .u8 n)=>bif decide (0<=n)&&decide (n<256) then some (UInt8.ofNat n.toNat,r) else none|_=>none
 |.bool,x::r=>match x with|.bool b=>some (b,r)|.val (.bool b)=>some (b,r)|_=>none
 |.str,x::r=>match x with|.str s=>some (s,r)|_=>none
 |.unit,r=>some ((),r)|.prod a b,cs=>match a.dec cs with
  |some (x,r)=>match b.dec r with|some (y,r')=>some ((x,y),r')|none=>none
  |none=>none
 |.list a,x::r=>match x with
  |.sl a' l=>match Ty.eq? a' a with|some ⟨h⟩=>some (h▸l,r)|none=>none
  |.val (.slice none 0 0)=>some (([]:List a.den),r)|_=>none
 |.tree a,cs=>match a.dec cs with
  |some (v,x::r)=>match x with
   |.sl a' l=>match Ty.eq? a' (.tree a) with|some ⟨h⟩=>some (Tree.node v (h▸l:List (Ty.tree a).den),r)|none=>none
   |.val (.slice none 0 0)=>some (Tree.node v [],r)|_=>none
  |_=>none
 |_,[]=>none
def zne{b:Bool}{hp:List (Nat×ah)}:∀{xs ys xs' ys':List AV}{ps ps':List Prop},bg b hp xs ys=some ps->bg b hp xs' ys'=some ps'->bg b hp (xs++xs') (ys++ys')=some (ps++ps')
 |[],[],_,_,ps,ps',h,h'=>by simp only[bg,qI]at h;subst h;exact h'|x::xs,y::ys,xs',ys',ps,ps',h,h'=>by
  simp only[bg,wK]at h ⊢;split at h
  ·rename_i p1 h1;split at h
   ·rename_i p2 h2;simp only[qI]at h;subst h;rw[zne h2 h',qS]
   ·cases h
  ·cases h
 |[],_::_,_,_,_,_,h,_=>by simp[bg]at h|_::_,[],_,_,_,_,h,_=>by simp[bg]at h
def gl(xs ys:List AV):Prop:=(∀ρ,AV.rens ρ xs=xs)/\∃ps,bg false [] xs ys=some ps/\ax ps
def gl.append{xs ys xs' ys':List AV}(h:gl xs ys)(h':gl xs' ys'):gl (xs++xs') (ys++ys'):=by
 obtain⟨h1,ps,h2,h3⟩:=h;obtain⟨h1',ps',h2',h3'⟩:=h';exact⟨fun ρ=>by rw[AV.rens_append,h1,h1'],_,zne h2 h2',dw.2 ⟨h3,h3'⟩⟩
def gl.one{x y:AV}(h:∀ρ,x.ren ρ=x){ps:List Prop}(hv:vw false [] x y=some ps)(hp:ax ps):gl [x] [y]:=
 ⟨fun ρ=>by simp[AV.rens,h],ps++[],by simp[bg,hv],dw.2 ⟨hp,trivial⟩⟩
def gl.same{x:AV}(h:∀ρ,x.ren ρ=x)(hv:vw false [] x x=some [x=x]):gl [x] [x]:=gl.one h hv ⟨rfl,trivial⟩
def zfy{a' a:Ty}(h:a'=a)(l:List a'.den):AV.sl a (h▸l)=AV.sl a' l:=by subst h;rfl
def xj:∀{τ:Ty}{cs:List AV}{d:τ.den}{r:List AV},τ.dec cs=some (d,r)->∃ab,cs=ab++r/\gl ab (τ.enc d)
 |.int k,x::cs,d,r,h=>by
  simp only[Ty.dec]at h;split at h
  ·rename_i k' n;cases hk:decide (k'=k)<;>rw[hk]at h<;>simp only[qT,qF,reduceCtorEq,qI]at h
   obtain⟨rfl,rfl⟩:=h;have:k'=k:=by simpa using hk
   subst this;exact⟨[.int k' d],rfl,gl.same (fun ρ=>rfl) rfl⟩
  ·rename_i k' n;cases hk:decide (k'=k) && !decide (k' = .u8)<;>rw[hk]at h<;>simp only[qT,qF,reduceCtorEq,qI]at h
   obtain⟨rfl,rfl⟩:=h;simp only[qA,decide_eq_true_eq,Bool.not_eq_true',decide_eq_false_iff_not]at hk;obtain⟨rfl,hk⟩:=hk;refine⟨[.val (.int k' d)],rfl,gl.one (y := .int k' d) (ps:=[AV.int k' d=qo (.int k' d)]) (fun ρ=>rfl) rfl ⟨?_,trivial⟩⟩
   cases k'<;>first|rfl|exact absurd rfl hk
  ·cases h
 |.byte,x::cs,d,r,h=>by
  simp only[Ty.dec]at h;split at h
  ·rename_i c;simp only[qI]at h;obtain⟨rfl,rfl⟩:=h;exact⟨[.byte d],rfl,gl.same (fun ρ=>rfl) rfl⟩
  ·rename_i n;cases hk:decide (0<=n)&&decide (n<256)<;>rw[hk]at h<;>simp only[qT,qF,reduceCtorEq,qI]at h
   obtain⟨rfl,rfl⟩:=h;refine⟨[.val (.int .u8 n)],rfl,gl.one (y := .byte (UInt8.ofNat n.toNat)) (ps:=[AV.byte (UInt8.ofNat n.toNat)=qo (.int .u8 n)]) (fun ρ=>rfl) rfl ⟨?_,trivial⟩⟩
   simp only[qo,hk,qT]
  ·cases h
 |.bool,x::cs,d,r,h=>by
  simp only[Ty.dec]at h;split at h
  ·rename_i b;simp only[qI]at h;obtain⟨rfl,rfl⟩:=h;exact⟨[.bool d],rfl,gl.same (fun ρ=>rfl) rfl⟩
  ·rename_i b;simp only[qI]at h;obtain⟨rfl,rfl⟩:=h;exact⟨[.val (.bool d)],rfl,gl.one (y := .bool d) (ps:=[AV.bool d=qo (.bool d)]) (fun ρ=>rfl) rfl ⟨rfl,trivial⟩⟩
  ·cases h
 |.str,x::cs,d,r,h=>by
  simp only[Ty.dec]at h;split at h
  ·rename_i b;simp only[qI]at h;obtain⟨rfl,rfl⟩:=h;exact⟨[.str d],rfl,gl.same (fun ρ=>rfl) rfl⟩
  ·cases h
 |.unit,cs,d,r,h=>by
  simp only[Ty.dec,qI]at h;obtain⟨_,rfl⟩:=h;exact⟨[],rfl,fun ρ=>rfl,[],rfl,trivial⟩
 |.prod a b,cs,d,r,h=>by
  simp only[Ty.dec]at h;split at h
  ·rename_i x r1 h1;split at h
   ·rename_i y r2 h2;simp only[qI]at h;obtain⟨rfl,rfl⟩:=h;obtain⟨p1,rfl,s1⟩:=xj h1;obtain⟨p2,rfl,s2⟩:=xj h2;exact⟨p1++p2,oC,s1.append s2⟩
   ·cases h
  ·cases h
 |.list a,x::cs,d,r,h=>by
  simp only[Ty.dec]at h;split at h
  ·rename_i a' l;split at h
   ·rename_i hh _;simp only[qI,qP]at h;obtain⟨rfl,rfl⟩:=h;exact⟨[.sl a' l],rfl,gl.one (y := .sl a (hh▸l)) (ps:=[AV.sl a (hh▸l)=AV.sl a' l]) (fun ρ=>rfl) rfl ⟨zfy hh l,trivial⟩⟩
   ·cases h
  ·simp only[qI]at h;obtain⟨rfl,rfl⟩:=h;exact⟨[.val (.slice none 0 0)],rfl,gl.one (y := .sl a []) (ps:=[([]:List a.den).length=0]) (fun ρ=>rfl) rfl ⟨rfl,trivial⟩⟩
  ·cases h
 |.tree a,cs,d,r,h=>by
  simp only[Ty.dec]at h;split at h
  ·rename_i v x r1 h1;obtain⟨p1,rfl,s1⟩:=xj h1;split at h
   ·rename_i a' l;split at h
    ·rename_i hh _;simp only[qI]at h;obtain⟨rfl,rfl⟩:=h;exact⟨p1++[.sl a' l],oC,s1.append (gl.one (y := .sl (.tree a) (hh▸l)) (ps:=[AV.sl (.tree a) (hh▸l)=AV.sl a' l]) (fun ρ=>rfl) rfl ⟨zfy hh l,trivial⟩)⟩
    ·cases h
   ·simp only[qI]at h;obtain⟨rfl,rfl⟩:=h;exact⟨p1++[.val (.slice none 0 0)],oC,s1.append (gl.one (y := .sl (.tree a) []) (ps:=[([]:List (Ty.tree a).den).length=0]) (fun ρ=>rfl) rfl ⟨rfl,trivial⟩)⟩
   ·cases h
  ·cases h
 |.int _,[],_,_,h=>by simp[Ty.dec]at h|.byte,[],_,_,h=>by simp[Ty.dec]at h|.bool,[],_,_,h=>by simp[Ty.dec]at h|.str,[],_,_,h=>by simp[Ty.dec]at h|.list _,[],_,_,h=>by simp[Ty.dec]at h
inductive CV:Type
 |nilS
 |int (k:IntKind) (n:Int)
 |bool (b:Bool)
 |unit
 |nilFunc
 |nilIface
def CV.val:CV->Value|.nilS => .slice none 0 0|.int k n => .int k n|.bool b => .bool b|.unit => .tuple #[]|.nilFunc => .nilFunc|.nilIface => .nilIface
def CV.is:CV->AV->Bool|.nilS,.val (.slice none 0 0)=>true|.int k n,.val (.int k' n')=>decide (k'=k)&&decide (n'=n)|.bool b,.val (.bool b')=>b'==b|.unit,.val (.tuple vs)=>Nat.beq vs.size 0|.nilFunc,.val .nilFunc=>true|.nilIface,.val .nilIface=>true|_,_=>false
inductive Pt:Type
 |h (τ:Ty)
 |c (v:CV)
 |agg (ps:List Pt)
 |tup (ps:List Pt)
 |ptr (b off:Nat)
 |own (k:Nat)
 |arr (τ:Ty)
 |el (k sz:Nat)
 |iel (t:TypeId) (k sz:Nat)
 |yld (n:Nat)
 |pn (n:Nat)
 |fn (f:FuncId) (cap:List Pt)
 |u
mutual
def Pt.den:Pt->Type|.h τ=>τ.den|.agg ps=>Pts.den ps|.tup ps=>Pts.den ps|.fn _ cap=>Pts.den cap|.arr τ=>List τ.den|_=>Unit
def Pts.den:List Pt->Type|[]=>Unit|p::ps=>p.den×Pts.den ps
end
def Ty.av:(τ:Ty)->τ.den->AV|.int k,n => .int k n|.byte,c => .byte c|.bool,b => .bool b|.str,s => .str s|.list a,l => .sl a l|.unit,_ => .agg []|.prod a b,x => .agg ((Ty.prod a b).enc x)|.tree a,x => .agg ((Ty.tree a).enc x)
def ux(τ:Ty)(x:AV):Option τ.den:=match τ.dec [x] with|some (d,[])=>some d|_=>none
def qob(τ:Ty)(x:AV):Option τ.den:=match x with
 |.agg cs=>match τ.dec cs with|some (d,[])=>some d|_=>none
 |_=>none
def Ty.getAV:(τ:Ty)->AV->Option τ.den|.int k,x=>ux (.int k) x|.byte,x=>ux .byte x|.bool,x=>ux .bool x|.str,x=>ux .str x|.list a,x=>ux (.list a) x|.unit,x=>qob .unit x|.prod a b,x=>qob (.prod a b) x|.tree a,x=>qob (.tree a) x
mutual
def Pt.put:(p:Pt)->p.den->AV|.h τ,x=>τ.av x|.c v,_ => .val v.val|.agg ps,x => .agg (Pts.put ps x)|.tup ps,x => .tup (Pts.put ps x)|.ptr b off,_ => .ptr b off|.own k,_ => .own k|.arr τ,l => .arr τ l|.el k sz,_ => .oel k sz 0 0|.iel t k sz,_ => .iface t (.oel k sz 0 0)|.yld n,_ => .yld n|.pn n,_ => .pn n|.fn f cap,x => .fn (.func f) [] (Pts.put cap x)|.u,_ => .undef
def Pts.put:(ps:List Pt)->Pts.den ps->List AV|[],_=>[]|p::ps,x=>p.put x.1::Pts.put ps x.2
end
abbrev NM:=List (Nat×Nat)
def sj(nm:NM)(b b':Nat):Option NM:=match a7 nm b with|some x=>bif Nat.beq x b' then some nm else none|none=>some ((b,b')::nm)
def asAgg:AV->Option (List AV)|.agg xs=>some xs|_=>none
def qui:AV->Option (List AV)|.tup xs=>some xs|_=>none
def quh:AV->Option (Nat×Nat)|.ptr b off=>some (b,off)|_=>none
def quf:AV->Option Nat|.own k=>some k|_=>none
def q5a(τ:Ty):AV->Option (List τ.den)
 |.arr τ' l=>match Ty.eq? τ' τ with|some ⟨h⟩=>some (h▸l)|none=>none
 |_=>none
def qn2:AV->Option (Nat×Nat)|.oel k sz 0 0=>some (k,sz)|_=>none
def zss{τ:Ty}{x:AV}{l:List τ.den}(h:q5a τ x=some l):x = .arr τ l:=by
 cases x<;>simp[q5a,reduceCtorEq]at h
 split at h
 ·rename_i τ' l' e he;simp at h;subst h;cases e;rfl
 ·cases h
def ze3{x:AV}{k sz:Nat}(h:qn2 x=some (k,sz)):x = .oel k sz 0 0:=by
 unfold qn2 at h;split at h
 ·simp at h;obtain⟨rfl,rfl⟩:=h;rfl
 ·cases h
def que:AV->Option (TypeId×Nat×Nat)
 |.iface t x=>match qn2 x with|some (k,sz)=>some (t,k,sz)|none=>none
 |_=>none
def zsu{x:AV}{t:TypeId}{k sz:Nat}(h:que x=some (t,k,sz)):x = .iface t (.oel k sz 0 0):=by
 cases x<;>simp[que,reduceCtorEq]at h
 split at h
 ·rename_i k' sz' e;simp at h;obtain⟨rfl,rfl,rfl⟩:=h;rw[ze3 e]
 ·cases h
def quj:AV->Option Nat|.yld k=>some k|_=>none
def qug:AV->Option Nat|.pn k=>some k|_=>none
def qud:AV->Option (FuncId×List AV)
 |.fn f first xs=>match f with
  |.func f'=>match first with|[]=>some (f',xs)|_=>none
  |_=>none
 |_=>none
def zsr{x:AV}{xs:List AV}(h:asAgg x=some xs):x = .agg xs:=by
 cases x<;>simp[asAgg,reduceCtorEq,qI]at h;subst h;rfl
def zsy{x:AV}{xs:List AV}(h:qui x=some xs):x = .tup xs:=by
 cases x<;>simp[qui,reduceCtorEq,qI]at h;subst h;rfl
def zsx{x:AV}{b off:Nat}(h:quh x=some (b,off)):x = .ptr b off:=by
 cases x<;>simp[quh,reduceCtorEq,qI,qP]at h;obtain⟨rfl,rfl⟩:=h;rfl
def zsv{x:AV}{k:Nat}(h:quf x=some k):x = .own k:=by
 cases x<;>simp[quf,reduceCtorEq,qI]at h;subst h;rfl
def zsz{x:AV}{k:Nat}(h:quj x=some k):x = .yld k:=by
 cases x<;>simp[quj,reduceCtorEq,qI]at h;subst h;rfl
def zsw{x:AV}{k:Nat}(h:qug x=some k):x = .pn k:=by
 cases x<;>simp[qug,reduceCtorEq,qI]at h;subst h;rfl
def zst{x:AV}{f:FuncId}{xs:List AV}(h:qud x=some (f,xs)):x = .fn (.func f) [] xs:=by
 cases x<;>simp[qud,reduceCtorEq]at h
 split at h
 ·split at h
  ·simp at h;obtain⟨rfl,rfl⟩:=h;rfl
  ·cases h
 ·cases h
mutual
def Pt.get:(p:Pt)->AV->NM->Option (p.den×NM)
 |.h τ,x,nm=>match τ.getAV x with|some d=>some (d,nm)|none=>none
 |.c v,x,nm=>bif v.is x then some ((),nm) else none|.agg ps,x,nm=>match asAgg x with|some xs=>Pts.get ps xs nm|none=>none
 |.tup ps,x,nm=>match qui x with|some xs=>Pts.get ps xs nm|none=>none
 |.ptr b off,x,nm=>match quh x with
  |some (b',off')=>bif Nat.beq off' off then(match sj nm b b' with|some nm'=>some ((),nm')|none=>none) else none
  |none=>none
 |.own k,x,nm=>match quf x with
  |some k'=>match sj nm k k' with|some nm'=>some ((),nm')|none=>none
  |none=>none
 |.arr τ,x,nm=>match q5a τ x with|some d=>some (d,nm)|none=>none
 |.el k sz,x,nm=>match qn2 x with
  |some (k',sz')=>bif Nat.beq sz' sz then(match sj nm k k' with|some nm'=>some ((),nm')|none=>none) else none
  |none=>none
 |.iel t k sz,x,nm=>match que x with
  |some (t',k',sz')=>bif Nat.beq t' t&&Nat.beq sz' sz then(match sj nm k k' with|some nm'=>some ((),nm')|none=>none) else none
  |none=>none
 |.yld k,x,nm=>match quj x with
  |some k'=>match sj nm k k' with|some nm'=>some ((),nm')|none=>none
  |none=>none
 |.pn k,x,nm=>match qug x with
  |some k'=>match sj nm k k' with|some nm'=>some ((),nm')|none=>none
  |none=>none
 |.fn f cap,x,nm=>match qud x with|some (f',xs)=>bif Nat.beq f' f then Pts.get cap xs nm else none|none=>none
 |.u,_,nm=>some ((),nm)
def Pts.get:(ps:List Pt)->List AV->NM->Option (Pts.den ps×NM)
 |[],xs,nm=>match xs with|[]=>some ((),nm)|_=>none
 |p::ps,xs,nm=>match xs with
  |x::xs=>match p.get x nm with
   |some (d,nm')=>match Pts.get ps xs nm' with|some (ds,nm'')=>some ((d,ds),nm'')|none=>none
   |none=>none
  |[]=>none
end
def cy(nm nm':NM):Prop:=∀n m,a7 nm n=some m->a7 nm' n=some m
def cy.refl(nm:NM):cy nm nm:=fun _ _ h=>h
def cy.trans{a b c:NM}(h:cy a b)(k:cy b c):cy a c:=fun n m x=>k n m (h n m x)
def z7{nm nm':NM}{b b':Nat}(h:sj nm b b'=some nm'):cy nm nm'/\a7 nm' b=some b':=by
 unfold sj at h;split at h
 ·rename_i x hx;cases hq:Nat.beq x b'<;>rw[hq]at h<;>simp at h
  subst h;have:=qN hq;subst this;exact⟨cy.refl _,hx⟩
 ·rename_i hx;simp at h;subst h;refine⟨fun n m hn => ?_,by simp[a7]⟩
  simp[a7];cases hq:Nat.beq b n
  ·exact hn
  ·have:=qN hq;subst this;rw[hx]at hn;cases hn
def qa(N:NM)(x y:AV):Prop:=∃ps,vw false [] (x.ren (ay N)) y=some ps/\ax ps
def qcs(N:NM)(xs ys:List AV):Prop:=∃ps,bg false [] (AV.rens (ay N) xs) ys=some ps/\ax ps
def qcs.cons{N:NM}{x y:AV}{xs ys:List AV}(h:qa N x y)(k:qcs N xs ys):qcs N (x::xs) (y::ys):=by
 obtain⟨ps,h1,h2⟩:=h;obtain⟨qs,k1,k2⟩:=k;exact⟨ps++qs,by simp[AV.rens,bg,h1,k1],dw.2 ⟨h2,k2⟩⟩
def gl.seens{xs ys:List AV}(h:gl xs ys)(N:NM):qcs N xs ys:=by
 obtain⟨h1,ps,h2,h3⟩:=h;exact⟨ps,by rw[h1];exact h2,h3⟩
def qoa{τ:Ty}{x:AV}{d:τ.den}(h:ux τ x=some d){y:AV}(hy:τ.enc d=[y])(N:NM):qa N x y:=by
 unfold ux at h;split at h
 ·rename_i d' hd;simp at h;subst h;obtain⟨ab,e,hs⟩:=xj hd;simp at e;subst e;rw[hy]at hs;obtain⟨ps,h1,h2⟩:=hs.seens N;simp only[AV.rens,bg]at h1;split at h1
  ·rename_i qs hq;simp only[qI]at h1;subst h1;exact⟨qs,hq,(dw.1 h2).1⟩
  ·cases h1
 ·cases h
def q58{τ:Ty}{x:AV}{d:τ.den}(h:qob τ x=some d)(N:NM):qa N x (.agg (τ.enc d)):=by
 unfold qob at h;split at h
 ·split at h
  ·rename_i d' hd;simp at h;subst h;obtain⟨ab,e,hs⟩:=xj hd;simp at e;subst e;obtain⟨ps,h1,h2⟩:=hs.seens N;exact⟨ps,by simp[AV.ren,vw];exact h1,h2⟩
  ·cases h
 ·cases h
def zwd{N:NM}:∀{τ:Ty}{x:AV}{d:τ.den},τ.getAV x=some d->qa N x (τ.av d)|.int _,_,_,h=>qoa h rfl N|.byte,_,_,h=>qoa h rfl N|.bool,_,_,h=>qoa h rfl N|.str,_,_,h=>qoa h rfl N|.list _,_,_,h=>qoa h rfl N|.unit,_,_,h=>q58 h N|.prod _ _,_,_,h=>q58 h N|.tree _,_,_,h=>q58 h N
def CV.is_seen{v:CV}{x:AV}(h:v.is x=true)(N:NM):qa N x (.val v.val):=by
 have:x = .val v.val:=by
  unfold CV.is at h;split at h
  ·rfl
  ·simp at h;obtain⟨rfl,rfl⟩:=h;rfl
  ·simp at h;subst h;rfl
  ·rename_i vs;have:=Array.eq_empty_of_size_eq_zero (qN h);subst this;rfl
  ·rfl
  ·rfl
  ·cases h
 subst this;exact⟨[AV.val v.val=AV.val v.val],rfl,rfl,trivial⟩
mutual
def Pt.get_seen:∀{p:Pt}{x:AV}{nm nm':NM}{d:p.den},p.get x nm=some (d,nm')->cy nm nm'/\∀N,ei N=true->cy nm' N->qa N x (p.put d)
 |.h τ,x,nm,nm',d,h=>by
  simp[Pt.get]at h;split at h
  ·rename_i d' hd;simp at h;obtain⟨rfl,rfl⟩:=h;exact⟨cy.refl _,fun N _ _=>zwd hd⟩
  ·cases h
 |.c v,x,nm,nm',d,h=>by
  simp[Pt.get]at h;cases hv:v.is x<;>rw[hv]at h<;>simp at h
  obtain⟨_,rfl⟩:=h;exact⟨cy.refl _,fun N _ _=>CV.is_seen hv N⟩
 |.u,x,nm,nm',d,h=>by
  simp[Pt.get,qI]at h;obtain⟨_,rfl⟩:=h;refine⟨cy.refl _,fun N _ _=>⟨[],?_,trivial⟩⟩
  show vw false [] _ .undef=_;cases AV.ren (ay N) x<;>rfl
 |.agg ps,x,nm,nm',d,h=>by
  simp[Pt.get]at h;split at h
  rotate_left
  ·cases h
  rename_i xs hx;have hx:=zsr hx;subst hx;obtain⟨h1,h2⟩:=Pts.get_seen h;exact⟨h1,fun N hN hs=>by obtain⟨qs,q1,q2⟩:=h2 N hN hs;exact⟨qs,q1,q2⟩⟩
 |.tup ps,x,nm,nm',d,h=>by
  simp[Pt.get]at h;split at h
  rotate_left
  ·cases h
  rename_i xs hx;have hx:=zsy hx;subst hx;obtain⟨h1,h2⟩:=Pts.get_seen h;exact⟨h1,fun N hN hs=>by obtain⟨qs,q1,q2⟩:=h2 N hN hs;exact⟨qs,q1,q2⟩⟩
 |.ptr b off,x,nm,nm',d,h=>by
  simp[Pt.get]at h;split at h
  rotate_left
  ·cases h
  rename_i b' off' hx;have hx:=zsx hx;subst hx;cases hq:Nat.beq off' off<;>rw[hq]at h<;>simp at h
  split at h
  ·rename_i nm1 hb;simp at h;obtain⟨_,rfl⟩:=h;obtain⟨h1,h2⟩:=z7 hb;have:=qN hq;subst this;refine⟨h1,fun N hN hs => ?_⟩
   have:=ye hN (hs _ _ h2);refine⟨[AV.ptr b off'=AV.ptr b off'],?_,rfl,trivial⟩;show vw false [] (match ay N b' with|some b''=>AV.ptr b'' off'|none => .undef) (AV.ptr b off')=_
   rw[this];rfl
  ·cases h
 |.own k,x,nm,nm',d,h=>by
  simp[Pt.get]at h;split at h
  rotate_left
  ·cases h
  rename_i k' hx;have hx:=zsv hx;subst hx;split at h
  ·rename_i nm1 hb;simp at h;obtain⟨_,rfl⟩:=h;obtain⟨h1,h2⟩:=z7 hb;refine⟨h1,fun N hN hs => ?_⟩
   have:=ye hN (hs _ _ h2);refine⟨[AV.own k=AV.own k],?_,rfl,trivial⟩;show vw false [] (match ay N k' with|some b''=>AV.own b''|none => .undef) (AV.own k)=_
   rw[this];rfl
  ·cases h
 |.arr τ,x,nm,nm',d,h=>by
  simp[Pt.get]at h;split at h
  ·rename_i d' hd;simp at h;obtain⟨rfl,rfl⟩:=h;have hd:=zss hd;subst hd;exact⟨cy.refl _,fun N _ _=>⟨[AV.arr τ d=AV.arr τ d],rfl,rfl,trivial⟩⟩
  ·cases h
 |.el k sz,x,nm,nm',d,h=>by
  simp[Pt.get]at h;split at h
  rotate_left
  ·cases h
  rename_i k' sz' hx;have hx:=ze3 hx;subst hx;cases hq:Nat.beq sz' sz<;>rw[hq]at h<;>simp at h
  split at h
  ·rename_i nm1 hb;simp at h;obtain⟨_,rfl⟩:=h;obtain⟨h1,h2⟩:=z7 hb;have:=qN hq;subst this;refine⟨h1,fun N hN hs => ?_⟩
   have:=ye hN (hs _ _ h2);refine⟨[AV.oel k sz' 0 0=AV.oel k sz' 0 0],?_,rfl,trivial⟩;show vw false [] (match ay N k' with|some b''=>AV.oel b'' sz' 0 0|none => .undef) (AV.oel k sz' 0 0)=_
   rw[this];rfl
  ·cases h
 |.iel t k sz,x,nm,nm',d,h=>by
  simp[Pt.get]at h;split at h
  rotate_left
  ·cases h
  rename_i t' k' sz' hx;have hx:=zsu hx;subst hx;cases hq:Nat.beq t' t&&Nat.beq sz' sz<;>rw[hq]at h<;>simp at h
  simp only[qA]at hq;split at h
  ·rename_i nm1 hb;simp only[qI]at h;obtain⟨_,rfl⟩:=h;obtain⟨h1,h2⟩:=z7 hb;have:=qN hq.1;subst this;have:=qN hq.2;subst this;refine⟨h1,fun N hN hs => ?_⟩
   have:=ye hN (hs _ _ h2);refine⟨[AV.iface t' (AV.oel k sz' 0 0)=AV.iface t' (AV.oel k sz' 0 0)],?_,rfl,trivial⟩;show vw false [] (.iface t' (match ay N k' with|some b''=>AV.oel b'' sz' 0 0|none => .undef)) (AV.iface t' (AV.oel k sz' 0 0))=_
   rw[this];rfl
  ·cases h
 |.yld k,x,nm,nm',d,h=>by
  simp[Pt.get]at h;split at h
  rotate_left
  ·cases h
  rename_i k' hx;have hx:=zsz hx;subst hx;split at h
  ·rename_i nm1 hb;simp at h;obtain⟨_,rfl⟩:=h;obtain⟨h1,h2⟩:=z7 hb;refine⟨h1,fun N hN hs => ?_⟩
   have:=ye hN (hs _ _ h2);refine⟨[AV.yld k=AV.yld k],?_,rfl,trivial⟩;show vw false [] (match ay N k' with|some b''=>AV.yld b''|none => .undef) (AV.yld k)=_
   rw[this];rfl
  ·cases h
 |.pn k,x,nm,nm',d,h=>by
  simp[Pt.get]at h;split at h
  rotate_left
  ·cases h
  rename_i k' hx;have hx:=zsw hx;subst hx;split at h
  ·rename_i nm1 hb;simp at h;obtain⟨_,rfl⟩:=h;obtain⟨h1,h2⟩:=z7 hb;refine⟨h1,fun N hN hs => ?_⟩
   have:=ye hN (hs _ _ h2);refine⟨[AV.pn k=AV.pn k],?_,rfl,trivial⟩;show vw false [] (match ay N k' with|some b''=>AV.pn b''|none => .undef) (AV.pn k)=_
   rw[this];rfl
  ·cases h
 |.fn f cap,x,nm,nm',d,h=>by
  simp[Pt.get]at h;split at h
  rotate_left
  ·cases h
  rename_i f' xs hx;have hx:=zst hx;subst hx;cases hq:Nat.beq f' f
  ·rw[hq]at h;exact absurd (show(none:Option ((Pt.fn f cap).den×NM))=some (d,nm') from h) oC
  have h:Pts.get cap xs nm=some (d,nm'):=by rw[hq]at h;exact h
  obtain⟨h1,h2⟩:=Pts.get_seen h;have:=qN hq;subst this;refine⟨h1,fun N hN hs => ?_⟩
  obtain⟨qs,q1,q2⟩:=h2 N hN hs;refine⟨(Fn.func f'=Fn.func f')::([]++qs),?_,rfl,q2⟩;show(match bg false [] (AV.rens (ay N) []) [],bg false [] (AV.rens (ay N) xs) (Pts.put cap d) with
   |some ps,some qs=>some ((Fn.func f'=Fn.func f')::(ps++qs))| _,_=>none)=_
  rw[q1];rfl
def Pts.get_seen:∀{ps:List Pt}{xs:List AV}{nm nm':NM}{d:Pts.den ps},Pts.get ps xs nm=some (d,nm')->cy nm nm'/\∀N,ei N=true->cy nm' N->qcs N xs (Pts.put ps d)
 |[],xs,nm,nm',d,h=>by
  cases xs with
  |nil=>
   have h:some (((),nm):Unit×NM)=some (d,nm'):=h;have e:nm=nm':=congrArg Prod.snd (qJ h);subst e;exact⟨cy.refl _,fun N _ _=>⟨[],rfl,trivial⟩⟩
  |cons x xs=>exact absurd (show(none:Option (Unit×NM))=some (d,nm') from h) oC
 |p::ps,xs,nm,nm',d,h=>by
  cases xs with
  |nil=>exact absurd (show(none:Option ((p.den×Pts.den ps)×NM))=some (d,nm') from h) oC|cons x xs=>
   have h:(match p.get x nm with
    |some (d,nm')=>match Pts.get ps xs nm' with|some (ds,nm'')=>some ((d,ds),nm'')|none=>none
    | none=>none)=some (d,nm'):=h
   split at h
   ·rename_i d1 nm1 h1;split at h
    ·rename_i d2 nm2 h2;simp at h;obtain⟨rfl,rfl⟩:=h;obtain⟨a1,a2⟩:=Pt.get_seen h1;obtain⟨b1,b2⟩:=Pts.get_seen h2;exact⟨a1.trans b1,fun N hN hs=>qcs.cons (a2 N hN (b1.trans hs)) (b2 N hN hs)⟩
    ·cases h
   ·cases h
end
def tc:List (Nat×Pt)->Type|[]=>Unit|(_,p)::r=>p.den×tc r
def mc:(l:List (Nat×Pt))->tc l->List (Nat×AV)|[],_=>[]|(i,p)::r,x=>(i,p.put x.1)::mc r x.2
def qae(fr:List (Nat×AV)):(l:List (Nat×Pt))->NM->Option (tc l×NM)
 |[],nm=>some ((),nm)|(i,p)::r,nm=>match ag fr i with
  |some x=>match p.get x nm with
   |some (d,nm')=>match qae fr r nm' with|some (ds,nm'')=>some ((d,ds),nm'')|none=>none
   |none=>none
  |none=>none
def qvj{fr:List (Nat×AV)}:∀{l:List (Nat×Pt)}{nm nm':NM}{d:tc l},qae fr l nm=some (d,nm')->cy nm nm'/\∀N,ei N=true->cy nm' N->∀i y,ag (mc l d) i=some y->∃x,ag fr i=some x/\qa N x y
 |[],nm,nm',d,h=>by
  have e:nm=nm':=congrArg Prod.snd (qJ (show some (((),nm):Unit×NM)=some (d,nm') from h))
  subst e;exact⟨cy.refl _,fun N _ _ i y hy=>by cases hy⟩
 |(j,p)::r,nm,nm',d,h=>by
  have h:(match ag fr j with
   |some x=>match p.get x nm with
    |some (d,nm')=>match qae fr r nm' with|some (ds,nm'')=>some ((d,ds),nm'')|none=>none
    |none=>none
   | none=>none)=some (d,nm'):=h
  split at h
  ·rename_i x hx;split at h
   ·rename_i d1 nm1 h1;split at h
    ·rename_i d2 nm2 h2;simp at h;obtain⟨rfl,rfl⟩:=h;obtain⟨a1,a2⟩:=Pt.get_seen h1;obtain⟨b1,b2⟩:=qvj h2;refine⟨a1.trans b1,fun N hN hs i y hy => ?_⟩
     have hy:(bif Nat.beq j i then some (p.put d1) else ag (mc r d2) i)=some y:=hy
     cases hb:Nat.beq j i
     ·rw[hb]at hy;exact b2 N hN hs i y hy
     ·rw[hb]at hy;simp at hy;subst hy;have:=qN hb;subst this;exact⟨x,hx,a2 N hN (b1.trans hs)⟩
    ·cases h
   ·cases h
  ·cases h
inductive bc:Type
 |cells (ps:List Pt) (T:TypeId)
 |row (τ:Ty) (E:TypeId)
 |loop (st:LoopState) (pe:Option dx) (f:FuncId) (n:Nat) (fr:List (Nat×Pt)) (ps:List Tmp) (tag:Nat) (D:Nat)
 |dfr
 |it
 |dead
 |dat (τ:Ty) (T:TypeId)
def bc.den:bc->Type|.cells ps _=>Pts.den ps|.row τ _=>List τ.den|.loop _ _ _ _ fr _ _ _=>tc fr|.dfr=>Unit|.it=>List UInt8×Nat|.dead=>Unit|.dat τ _=>τ.den
def bc.put:(p:bc)->p.den->ah|.cells ps T,x => .cells (Pts.put ps x) T|.row τ E,l => .row τ l E|.loop st pe f n fr ps tag D,x => .loop st pe f n (mc fr x) ps tag D|.dfr,_ => .dfr|.it,x => .it x.1 x.2|.dead,_ => .dead|.dat τ T,x => .cells (τ.enc x) T
def dx.beq:Option dx->Option dx->Bool|none,none=>true|some .ret,some .ret=>true|some (.exit i),some (.exit j)=>Nat.beq i j|_,_=>false
def dx.beq_eq:∀{a b:Option dx},dx.beq a b=true->a=b|none,none,_=>rfl|some .ret,some .ret,_=>rfl|some (.exit i),some (.exit j),h=>by rw[qN (show Nat.beq i j=true from h)]|none,some _,h=>by simp[dx.beq]at h|some _,none,h=>by simp[dx.beq]at h|some .ret,some (.exit _),h=>by simp[dx.beq]at h|some (.exit _),some .ret,h=>by simp[dx.beq]at h
def sw:List Nat->List Nat->Bool|[],[]=>true|x::xs,y::ys=>Nat.beq x y&&sw xs ys|_,_=>false
def qvd:∀{a b:List Nat},sw a b=true->a=b
 |[],[],_=>rfl|x::xs,y::ys,h=>by
  simp only[sw,qA]at h;rw[qN h.1,qvd h.2]
 |[],_::_,h=>by simp[sw]at h|_::_,[],h=>by simp[sw]at h
def bc.get:(p:bc)->ah->NM->Option (p.den×NM)
 |.cells ps T,b,nm=>match b with|.cells cs T'=>bif Nat.beq T' T then Pts.get ps cs nm else none|_=>none
 |.row τ E,b,nm=>match b with
  |.row τ' l E'=>match Ty.eq? τ' τ with|some ⟨h⟩=>bif Nat.beq E' E then some ((h▸l:List τ.den),nm) else none|none=>none
  |_=>none
 |.loop st pe f n fr ps tag D,b,nm=>match b with
  |.loop st' pe' f' n' fr' ps' tag' D'=>bif decide (st'=st)&&dx.beq pe' pe&&Nat.beq f' f&&Nat.beq n' n&&sw ps' ps&&Nat.beq tag' tag then
    (match sj nm D D' with
    |some nm1=>qae fr' fr nm1| none=>none) else none
  |_=>none
 |.dfr,b,nm=>match b with|.dfr=>some ((),nm)|_=>none
 |.it,b,nm=>match b with|.it s p=>some ((s,p),nm)|_=>none
 |.dead,_,nm=>some ((),nm)|.dat τ T,b,nm=>match b with
  | .cells cs T'=>bif Nat.beq T' T then(match τ.dec cs with
    |some (d,[])=>some (d,nm)| _=>none) else none
  |_=>none
def q4k(N:NM)(b b':ah):Prop:=∃ps,vwB (d7 (ay N) b) b'=some ps/\ax ps
def zly{N:NM}{fr:List (Nat×AV)}:∀{fr':List (Nat×AV)},(∀e∈fr',∃x,ag fr e.1=some x/\qa N x e.2)->∃ps,qdz (qq (ay N) fr) fr'=some ps/\ax ps
 |[],_=>⟨[],rfl,trivial⟩|(i,y)::r,h=>by
  obtain⟨x,hx,ps,h1,h2⟩:=h (i,y) qH;obtain⟨qs,k1,k2⟩:=zly (fr':=r) (fun e he=>h e (qE _ he))
  have hl:∀(fr:List (Nat×AV)),ag fr i=some x->ag (qq (ay N) fr) i=some (x.ren (ay N)):=by
   intro fr
   induction fr with
   |nil=>intro h;cases h
   |cons e r ih=>
    obtain⟨j,z⟩:=e;intro h;simp[qq,ag]at h ⊢;cases hb:Nat.beq j i
    ·rw[hb]at h;exact ih h
    ·rw[hb]at h;simp at h;subst h;rfl
  exact⟨ps++qs,by simp[qdz,hl fr hx,h1,k1],dw.2 ⟨h2,k2⟩⟩
def zg8{fr:List (Nat×AV)}:∀{l:List (Nat×Pt)}{nm nm':NM}{d:tc l},qae fr l nm=some (d,nm')->∀N,ei N=true->cy nm' N->∀e∈mc l d,∃x,ag fr e.1=some x/\qa N x e.2
 |[],nm,nm',d,h,N,_,_,e,he=>by cases he
 |(j,p)::r,nm,nm',d,h,N,hN,hs,e,he=>by
  have h:(match ag fr j with
   |some x=>match p.get x nm with
    |some (d,nm')=>match qae fr r nm' with|some (ds,nm'')=>some ((d,ds),nm'')|none=>none
    |none=>none
   | none=>none)=some (d,nm'):=h
  split at h
  ·rename_i x hx;split at h
   ·rename_i d1 nm1 h1;split at h
    ·rename_i d2 nm2 h2;simp at h;obtain⟨rfl,rfl⟩:=h;rcases List.mem_cons.1 (show e∈(j,p.put d1)::mc r d2 from he) with rfl|he
     ·exact⟨x,hx,(Pt.get_seen h1).2 N hN ((qvj h2).1.trans hs)⟩
     ·exact zg8 h2 N hN hs e he
    ·cases h
   ·cases h
  ·cases h
def bc.get_seen:∀{p:bc}{b:ah}{nm nm':NM}{d:p.den},p.get b nm=some (d,nm')->cy nm nm'/\∀N,ei N=true->cy nm' N->q4k N b (p.put d)
 |.cells ps T,b,nm,nm',d,h=>by
  cases b with
  |cells cs T'=>
   have h:(bif Nat.beq T' T then Pts.get ps cs nm else none)=some (d,nm'):=h
   cases hq:Nat.beq T' T
   ·rw[hq]at h;cases h
   ·rw[hq]at h;have h:Pts.get ps cs nm=some (d,nm'):=h;obtain⟨h1,h2⟩:=Pts.get_seen h;have:=qN hq;subst this;refine⟨h1,fun N hN hs => ?_⟩
    obtain⟨qs,q1,q2⟩:=h2 N hN hs;refine⟨qs,?_,q2⟩;show(bif Nat.beq T' T' then bg false [] (AV.rens (ay N) cs) (Pts.put ps d) else none)=some qs
    rw[show Nat.beq T' T'=true by simp,q1];rfl
  |_=>exact absurd (show(none:Option ((bc.cells ps T).den×NM))=some (d,nm') from h) oC
 |.row τ E,b,nm,nm',d,h=>by
  cases b with
  |row τ' l E'=>
   have h:(match Ty.eq? τ' τ with
    |some ⟨h⟩=>bif Nat.beq E' E then some ((h▸l:List τ.den),nm) else none| none=>none)=some (d,nm'):=h
   split at h
   ·rename_i hh _;cases hq:Nat.beq E' E
    ·rw[hq]at h;cases h
    ·rw[hq]at h;simp at h;obtain⟨rfl,rfl⟩:=h;have:=qN hq;subst this;subst hh;exact⟨cy.refl _,fun N _ _=>⟨[ah.row τ' l E'=ah.row τ' l E'],rfl,rfl,trivial⟩⟩
   ·cases h
  |_=>exact absurd (show(none:Option ((bc.row τ E).den×NM))=some (d,nm') from h) oC
 |.loop st pe f n fr ps tag D,b,nm,nm',d,h=>by
  cases b with
  |loop st' pe' f' n' fr' ps' tag' D'=>
   have h:(bif decide (st'=st)&&dx.beq pe' pe&&Nat.beq f' f&&Nat.beq n' n&&sw ps' ps&&Nat.beq tag' tag then
    (match sj nm D D' with
    |some nm1=>qae fr' fr nm1| none=>none) else none)=some (d,nm'):=h
   cases hq:decide (st'=st)&&dx.beq pe' pe&&Nat.beq f' f&&Nat.beq n' n&&sw ps' ps&&Nat.beq tag' tag
   ·rw[hq]at h;cases h
   ·rw[hq]at h;simp at h;simp only[qA,decide_eq_true_eq]at hq;obtain⟨⟨⟨⟨⟨q1,q2⟩,q3⟩,q4⟩,q5⟩,q6⟩:=hq;have q2:=dx.beq_eq q2;have q3:=qN q3;have q4:=qN q4;have q5:=qvd q5;have q6:=qN q6;subst q1 q2 q3 q4 q5 q6;split at h
    ·rename_i nm1 hb;obtain⟨b1,b2⟩:=z7 hb;obtain⟨c1,_⟩:=qvj h;refine⟨b1.trans c1,fun N hN hs => ?_⟩
     have hD:=ye hN (hs _ _ (c1 _ _ b2));obtain⟨qs,k1,k2⟩:=zly (zg8 h N hN hs);refine⟨([st'=st',pe'=pe',f'=f',n'=n',ps'=ps',tag'=tag',D=D]:List Prop)++qs,?_,dw.2 ⟨⟨rfl,rfl,rfl,rfl,rfl,rfl,rfl,trivial⟩,k2⟩⟩;show vwB (match ay N D' with|some D' => .loop st' pe' f' n' (qq (ay N) fr') ps' tag' D'|none => .dead) (.loop st' pe' f' n' (mc fr d) ps' tag' D)=_
     rw[hD];show(match qdz (qq (ay N) fr') (mc fr d) with
      |some qs=>some (([st'=st',pe'=pe',f'=f',n'=n',ps'=ps',tag'=tag',D=D]:List Prop)++qs)| none=>none)=_
     rw[k1]
    ·cases h
  |_=>exact absurd (show(none:Option ((bc.loop st pe f n fr ps tag D).den×NM))=some (d,nm') from h) oC
 |.dat τ T,b,nm,nm',d,h=>by
  cases b with
  |cells cs T'=>
   have h:(bif Nat.beq T' T then(match τ.dec cs with
    |some (d,[])=>some (d,nm)| _=>none) else none)=some (d,nm'):=h
   cases hq:Nat.beq T' T
   ·rw[hq]at h;cases h
   ·rw[hq]at h;simp at h;have:=qN hq;subst this;split at h
    ·rename_i d0 hd;have h:(some (d0,nm):Option (τ.den×NM))=some (d,nm'):=h;cases h
     obtain⟨ab,e,hs⟩:=xj hd;rw[List.append_nil]at e;subst e;refine⟨cy.refl _,fun N hN _ => ?_⟩
     obtain⟨qs,q1,q2⟩:=hs.seens N;refine⟨qs,?_,q2⟩;show(bif Nat.beq T' T' then bg false [] (AV.rens (ay N) _) (τ.enc d) else none)=some qs
     rw[show Nat.beq T' T'=true by simp,q1];rfl
    ·cases h
  |_=>exact absurd (show(none:Option ((bc.dat τ T).den×NM))=some (d,nm') from h) oC
 |.dfr,b,nm,nm',d,h=>by
  cases b with
  |dfr=>
   have e:nm=nm':=congrArg Prod.snd (qJ (show some (((),nm):Unit×NM)=some (d,nm') from h))
   subst e;exact⟨cy.refl _,fun N _ _=>⟨[],rfl,trivial⟩⟩
  |_=>exact absurd (show(none:Option (bc.dfr.den×NM))=some (d,nm') from h) oC
 |.it,b,nm,nm',d,h=>by
  cases b with
  |it s p=>
   have e:=qJ (show some ((s,p),nm)=some (d,nm') from h)
   have e1:nm=nm':=congrArg Prod.snd e;have e2:(s,p)=d:=congrArg Prod.fst e;subst e1;subst e2;exact⟨cy.refl _,fun N _ _=>⟨[s=s,p=p],rfl,rfl,rfl,trivial⟩⟩
  |_=>exact absurd (show(none:Option (bc.it.den×NM))=some (d,nm') from h) oC
 |.dead,b,nm,nm',d,h=>by
  have e:nm=nm':=congrArg Prod.snd (qJ (show some (((),nm):Unit×NM)=some (d,nm') from h))
  subst e;refine⟨cy.refl _,fun N _ _ => ?_⟩
  show ∃ps,vwB (d7 (ay N) b) .dead=some ps/\ax ps;cases d7 (ay N) b<;>exact⟨[],rfl,trivial⟩
def g7:List (Nat×bc)->Type|[]=>Unit|(_,p)::r=>p.den×g7 r
def cq:(l:List (Nat×bc))->g7 l->List (Nat×ah)|[],_=>[]|(n,p)::r,x=>(n,p.put x.1)::cq r x.2
def ut(hp:List (Nat×ah)):(l:List (Nat×bc))->NM->Option (g7 l×NM)
 |[],nm=>some ((),nm)|(n,p)::r,nm=>match a7 nm n with
  |some old=>match ag hp old with
   |some b=>match p.get b nm with
    |some (d,nm')=>match ut hp r nm' with|some (ds,nm'')=>some ((d,ds),nm'')|none=>none
    |none=>none
   |none=>none
  |none=>none
def qcy{hp:List (Nat×ah)}:∀{l:List (Nat×bc)}{nm nm':NM}{d:g7 l},ut hp l nm=some (d,nm')->cy nm nm'/\∀N,ei N=true->cy nm' N ->
  (∀m b',ag (cq l d) m=some b'->∃old b,a7 N m=some old/\ag hp old=some b/\q4k N b b')/\∀m,ag (cq l d) m=none->∀e∈l,e.1≠m
 |[],nm,nm',d,h=>by
  have e:nm=nm':=congrArg Prod.snd (qJ (show some (((),nm):Unit×NM)=some (d,nm') from h))
  subst e;exact⟨cy.refl _,fun N _ _=>⟨fun m b' hb=>(by cases hb),fun m _ e he=>(by cases he)⟩⟩
 |(j,p)::r,nm,nm',d,h=>by
  have h:(match a7 nm j with
   |some old=>match ag hp old with
    |some b=>match p.get b nm with
     |some (d,nm')=>match ut hp r nm' with|some (ds,nm'')=>some ((d,ds),nm'')|none=>none
     |none=>none
    |none=>none
   | none=>none)=some (d,nm'):=h
  split at h
  ·rename_i old ho;split at h
   ·rename_i b hb;split at h
    ·rename_i d1 nm1 h1;split at h
     ·rename_i d2 nm2 h2;simp at h;obtain⟨rfl,rfl⟩:=h;obtain⟨a1,a2⟩:=bc.get_seen h1;obtain⟨b1,b2⟩:=qcy h2;refine⟨a1.trans b1,fun N hN hs=>⟨fun m b' hm => ?_,fun m hm e he => ?_⟩⟩
      ·have hm:(bif Nat.beq j m then some (p.put d1) else ag (cq r d2) m)=some b':=hm
       cases hq:Nat.beq j m
       ·rw[hq]at hm;exact(b2 N hN hs).1 m b' hm
       ·rw[hq]at hm;simp at hm;subst hm;have:=qN hq;subst this;exact⟨old,b,hs _ _ (b1 _ _ (a1 _ _ ho)),hb,a2 N hN (b1.trans hs)⟩
      ·have hm:(bif Nat.beq j m then some (p.put d1) else ag (cq r d2) m)=none:=hm
       cases hq:Nat.beq j m
       ·rw[hq]at hm;rcases List.mem_cons.1 he with rfl|he
        ·intro e;subst e;simp at hq
        ·exact(b2 N hN hs).2 m hm e he
       ·rw[hq]at hm;cases hm
     ·cases h
    ·cases h
   ·cases h
  ·cases h
def qc0:NM->List Nat->List Nat->Option NM
 |nm,[],[]=>some nm|nm,n::ns,m::ms=>match sj nm n m with|some nm'=>qc0 nm' ns ms|none=>none
 |_,_,_=>none
def zfd:∀{nm nm':NM}{ns ms:List Nat},qc0 nm ns ms=some nm'->cy nm nm'/\ns.map (a7 nm')=ms.map some
 |nm,nm',[],[],h=>by simp only[qc0,qI]at h;subst h;exact⟨cy.refl _,rfl⟩|nm,nm',n::ns,m::ms,h=>by
  simp only[qc0]at h;split at h
  ·rename_i nm1 hb;obtain⟨h1,h2⟩:=z7 hb;obtain⟨h3,h4⟩:=zfd h;exact⟨h1.trans h3,by simp[List.map_cons,h4,h3 _ _ h2]⟩
  ·cases h
 |_,_,[],_::_,h=>by simp[qc0]at h|_,_,_::_,[],h=>by simp[qc0]at h
def qvz(n:Nat):List (Nat×bc)->Bool|[]=>false|(m,_)::r=>Nat.beq m n||qvz n r
def zhw{n:Nat}:∀{l:List (Nat×bc)},qvz n l=true->∃e∈l,e.1=n
 |[],h=>by cases h
 |(m,p)::r,h=>by
  simp only[qvz,Bool.or_eq_true]at h;rcases h with h|h
  ·exact⟨(m,p),qH,qN h⟩
  ·obtain⟨e,he,h⟩:=zhw h;exact⟨e,qE _ he,h⟩
def xc:NM->List (Nat×bc)->Bool|[],_=>true|(n,_)::r,l=>qvz n l&&xc r l
def q44{l:List (Nat×bc)}:∀{nm:NM},xc nm l=true->∀n m,a7 nm n=some m->∃e∈l,e.1=n
 |[],_,n,m,h=>by cases h
 |(k,v)::r,ha,n,m,h=>by
  simp[xc,qA]at ha;simp[a7]at h;cases hb:Nat.beq k n
  ·rw[hb]at h;exact q44 ha.2 n m h
  ·have:=qN hb;subst this;exact zhw ha.1
structure LS where
 n:Nat
 fr:List (Nat×Pt)
 hp:List (Nat×bc)
 nx:Nat
 df:List Nat
def LS.den(ls:LS):Type:=tc ls.fr×g7 ls.hp
def LS.st(ls:LS)(d:ls.den):St:={ n:=ls.n,fr:=mc ls.fr d.1,hp:=cq ls.hp d.2,nx:=ls.nx,df:=ls.df }
def LS.get(ls:LS)(ids:NM)(s:St):Option ls.den:=
 bif Nat.beq s.n ls.n then
  match qae s.fr ls.fr ids with
  |some (d1,nm1)=>match qc0 nm1 ls.df s.df with
   |some nm2=>match ut s.hp ls.hp nm2 with|some (d2,nm3)=>bif ei nm3&&xc nm3 ls.hp then some (d1,d2) else none|none=>none
   |none=>none
  |none=>none
 else none
section
variable{P:Program}{vjc:World}{vi7:Gh}{vi9:List (Nat×ah)}{G:Gh}{s:St}{a:Act}{w:World}
def qa.rep{N:NM}{x y:AV}(h:qa N x y){v:Value}(hv:aj x G v):aj y (G.view N) v:=by
 obtain⟨ps,h1,h2⟩:=h;exact zaf (Gh.le.refl _) (fun e=>by cases e) h1 h2 (aj.ren (G:=G) (G':=G.view N) (fun _ _ _ h=>h) (vx N) (yl N) hv)
def Fin.fit{hp l:List (Nat×ah)}(hf:Fin vjc vi7 vi9 G hp w){N:NM}(hN:ei N=true)(hid:∀n bx,ag vi9 n=some bx->a7 N n=some n)
  (hl:∀m b',ag l m=some b'->∃old b,a7 N m=some old/\ag hp old=some b/\q4k N b b'):Fin vjc vi7 vi9 (G.view N) l w:=by
 have eb:∀m n,a7 N m=some n->(G.view N).box m=G.box n:=fun m n hm=>by simp[Gh.view,hm]
 have eo:∀m n,a7 N m=some n->(G.view N).own m=G.own n:=fun m n hm=>by simp[Gh.view,hm]
 have hbox:∀m n b,a7 N m=some n->ag hp n=some b->dp (G.view N) w m (d7 (ay N) b):=fun m n b h1 h2=>
  dp.ren (G:=G) (G':=G.view N) (ρ:=ay N) (n:=n) (fun _ _ _ h=>h) (fun _ _ _ h=>h) (vx N) (yl N) (fun B hB=>by rw[eb m n h1];exact hB) (fun B hB=>by rw[eo m n h1];exact hB) (hf.mem.holds n b h2)
 have hat:∀m b' c,ag l m=some b'->(G.view N).at m b'=some c->∃n b,a7 N m=some n/\ag hp n=some b/\G.at n b=some c:=fun m b' c h1 h2=>by
  obtain⟨n,b,i1,i2,ps,i3,i4⟩:=hl m b' h1;exact⟨n,b,i1,i2,ur (eb m n i1) (eo m n i1) ((qia i3 i4 (hbox m n b i1 i2)).2 c h2)⟩
 refine⟨⟨hf.mem.agree,hf.mem.one,fun m b' h => ?_,fun m m' b b' c h1 h2 h3 h4 => ?_,hf.mem.tab⟩,hf.bel,hf.imm_le,hf.imm_new,fun m b c h1 h2 => ?_,fun n bx B h1 h2 => ?_,fun n bx B h1 h2 => ?_⟩
 ·obtain⟨n,b,i1,i2,ps,i3,i4⟩:=hl m b' h;exact(qia i3 i4 (hbox m n b i1 i2)).1
 ·obtain⟨n,b0,i1,i2,i3⟩:=hat m b c h1 h3;obtain⟨n',b0',j1,j2,j3⟩:=hat m' b' c h2 h4;have:=hf.mem.apart n n' b0 b0' c i2 j2 i3 j3;subst this;exact qg4 hN m m' n i1 j1
 ·obtain⟨n,b0,i1,i2,i3⟩:=hat m b c h1 h2;exact hf.base n b0 c i2 i3
 ·rw[eb n n (hid n bx h1)];exact hf.keep n bx B h1 h2
 ·rw[eo n n (hid n bx h1)];exact hf.keepOwn n bx B h1 h2
def ak.fit(hr:ak vjc vi7 vi9 G s a w){ls:LS}{ids:NM}{d:ls.den}(hid:∀n bx,ag vi9 n=some bx->a7 ids n=some n)(h:ls.get ids s=some d):∃G',ak vjc vi7 vi9 G' (ls.st d) a w:=by
 unfold LS.get at h;cases hn:Nat.beq s.n ls.n<;>rw[hn]at h<;>simp at h
 have hn:=qN hn;split at h
 ·rename_i d1 nm1 h1;split at h
  ·rename_i nm2 h2;split at h
   ·rename_i d2 nm3 h3;cases hq:ei nm3&&xc nm3 ls.hp<;>rw[hq]at h<;>simp at h
    have h:((d1,d2):ls.den)=d:=qJ h;subst h;simp at hq;obtain⟨q1,q2⟩:=hq;obtain⟨f1,f2⟩:=qvj h1;obtain⟨l1,l2⟩:=zfd h2;obtain⟨b1,b2⟩:=qcy h3;obtain⟨b3,b4⟩:=b2 nm3 q1 (cy.refl _);refine⟨G.view nm3,⟨?_,by rw[hr.size];exact hn,fun i x hx => ?_,fun m _ hl => ?_,hr.fin.fit q1 (fun n bx hb=>b1 _ _ (l1 _ _ (f1 _ _ (hid n bx hb)))) b3⟩⟩
    ·obtain⟨bs,e1,e2⟩:=hr.defers;refine⟨bs,e1,e2.trans ?_⟩;have:∀(ns ms:List Nat),ns.map (a7 nm2)=ms.map some->ms.map G.box=ns.map (G.view nm3).box:=by
      intro ns
      induction ns with
      |nil=>intro ms h;cases ms with|nil=>rfl|cons=>simp at h
      |cons n ns ih=>
       intro ms h
       cases ms with
       |nil=>simp at h|cons m ms=>
        simp at h ⊢;refine⟨?_,ih ms h.2⟩;show _=(a7 nm3 n).bind G.box;rw[b1 _ _ h.1];rfl
     exact this _ _ l2
    ·obtain⟨y,hy,hs⟩:=f2 nm3 q1 (l1.trans b1) i x hx;obtain⟨v,v1,v2⟩:=hr.frame i y hy;exact⟨v,v1,hs.rep v2⟩
    ·have hno:a7 nm3 m=none:=by
      cases hc:a7 nm3 m with
      |none=>rfl|some o=>
       obtain⟨e,he,hem⟩:=q44 q2 m o hc;exact absurd hem (b4 m hl e he)
     simp[Gh.view,hno]
   ·cases h
  ·cases h
 ·cases h
end
def bz{α β γ:Type}(o:α ⊕ β)(f:α->γ)(g:β->γ):γ:=match o with|.inl a=>f a|.inr b=>g b
inductive Sp:Type->Type 1
 |one {α:Type} (d:α->D):Sp α
 |two {α β:Type} (l:Sp α) (r:Sp β):Sp (α ⊕ β)
def Sp.K{R:Type}:{α:Type}->Sp α->α->(D->Option R)->Option R|_,.one d,x,k=>k (d x)|_,.two l r,x,k=>bz x (fun a=>l.K a k) (fun b=>r.K b k)
def Sp.Out:{α:Type}->Sp α->α->D->Prop|_,.one d,x,e=>e=d x|_,.two l _,.inl a,e=>l.Out a e|_,.two _ r,.inr b,e=>r.Out b e
def Sp.K_some{R:Type}{k:D->Option R}{y:R}:∀{α:Type}{sp:Sp α}{x:α},sp.K x k=some y->∃d,sp.Out x d/\k d=some y
 |_,.one d,x,h=>⟨d x,rfl,h⟩|_,.two l r,.inl a,h=>by obtain⟨d,h1,h2⟩:=Sp.K_some (sp:=l) (x:=a) h;exact⟨d,h1,h2⟩
 |_,.two l r,.inr b,h=>by obtain⟨d,h1,h2⟩:=Sp.K_some (sp:=r) (x:=b) h;exact⟨d,h1,h2⟩
inductive Rq:Type 1
 |tot (d:D)
 |ifb (b:Bool) (d:D)
 |bnd {α:Type} (o:Option α) (sp:Sp α)
 |br (b:Bool) (d1 d2:D)
def Rq.K{R:Type}(q:Rq)(k:D->Option R):Option R:=match q with
 |.tot d=>k d|.ifb b d=>bif b then k d else none|.bnd o sp=>o.bind fun x=>sp.K x k
 |.br b d1 d2=>bif b then k d1 else k d2
def Rq.Out(q:Rq)(e:D):Prop:=match q with|.tot d=>e=d|.ifb b d=>b=true/\e=d|.bnd o sp=>∃x,o=some x/\sp.Out x e|.br b d1 d2=>(b=true/\e=d1)\/(b=false/\e=d2)
def Rq.K_some{R:Type}{k:D->Option R}{y:R}{q:Rq}(h:q.K k=some y):∃d,q.Out d/\k d=some y:=by
 cases q with
 |tot d=>exact⟨d,rfl,h⟩|ifb b d=>
  cases b with|true=>exact⟨d,⟨rfl,rfl⟩,h⟩|false=>cases h
 |bnd o sp=>
  cases o with
  |none=>cases h
  |some x=>obtain⟨d,h1,h2⟩:=Sp.K_some (sp:=sp) (x:=x) h;exact⟨d,⟨x,rfl,h1⟩,h2⟩
 |br b d1 d2=>
  cases b with|true=>exact⟨d1,.inl ⟨rfl,rfl⟩,h⟩|false=>exact⟨d2,.inr ⟨rfl,rfl⟩,h⟩
inductive RS:Type->Type 1
 |one {α:Type} (p:Pt) (hp:List (Nat×bc)) (to:α->p.den×g7 hp) (fro:p.den×g7 hp->α) (ok:∀y,to (fro y)=y):RS α
 |two {α β:Type} (l:RS α) (r:RS β):RS (α ⊕ β)
def RS.res:{α:Type}->RS α->α->AV×List (Nat×ah)|_,.one p hp to _ _,x=>(p.put (to x).1,cq hp (to x).2)|_,.two l r,x=>bz x (fun a=>l.res a) (fun b=>r.res b)
def RS.sp(mk:AV->List (Nat×ah)->D):{α:Type}->RS α->Sp α
 |_,.one p hp to _ _ => .one fun x=>mk (p.put (to x).1) (cq hp (to x).2)
 |_,.two l r => .two (l.sp mk) (r.sp mk)
def RS.sp_out{mk:AV->List (Nat×ah)->D}:∀{α:Type}{r:RS α}{x:α}{d:D},(r.sp mk).Out x d->d=mk (r.res x).1 (r.res x).2|_,.one _ _ _ _ _,_,_,h=>h|_,.two l _,.inl a,_,h=>RS.sp_out (r:=l) (x:=a) h|_,.two _ r,.inr b,_,h=>RS.sp_out (r:=r) (x:=b) h
inductive zw:Type
 |fn (f:FuncId)
 |yld (tag:Nat)
 |ext (f:FuncId)
def qqm(P:Program)(f:FuncId)(xs:List AV)(r:AV):Prop:=
 ∀(w:World)(G:Gh)(vs:List Value),cv G [] w->am xs G vs->∃v,(callFunc f vs.toArray).run P w = .ok (.value v) w/\aj r G v
structure ee:Type 1 where
 key:zw
 args:List Pt
 hp:List (Nat×bc)
 R:Type
 F:Pts.den args->g7 hp->Option R
 out:RS R
def ee.Sound(P:Program)(e:ee):Prop:=∀d d' r,e.F d d'=some r->match e.key with|.fn f=>r7 P f/\de P f (Pts.put e.args d) (cq e.hp d') (e.out.res r).1 (e.out.res r).2|.yld m=>zd7 P m (Pts.put e.args d) (cq e.hp d') (e.out.res r).1 (e.out.res r).2|.ext f=>qqm P f (Pts.put e.args d) (e.out.res r).1
def ai{α:Type}(l:List α)(n:Int):Option α:=if 0<=n then l[n.toNat]? else none
def qv5{α:Type}{l:List α}{n:Int}{x:α}(h:ai l n=some x):0<=n/\l[n.toNat]? = some x:=by
 unfold ai at h;split at h
 ·rename_i h0;exact⟨h0,h⟩
 ·cases h
def quz{α:Type}(l:List α)(lo hi:Option Int):Rq:=
 match lo,hi with|none,none => .tot .none|some a,none => .ifb (decide (0<=a/\a<=l.length)) .none|none,some b => .ifb (decide (0<=b/\b<=l.length)) .none|some a,some b => .ifb (decide (0<=a/\a<=b/\b<=l.length)) .none
def zge{α:Type}{l:List α}{lo hi:Option Int}{d:D}(h:(quz l lo hi).Out d):ax (cut l lo hi).1:=by
 unfold quz at h;unfold cut;split at h
 ·trivial
 ·exact⟨of_decide_eq_true h.1,trivial⟩
 ·exact⟨of_decide_eq_true h.1,trivial⟩
 ·exact⟨of_decide_eq_true h.1,trivial⟩
def isC:AV->Bool|.val _=>true|_=>false
def vp(c:Bool)(b:Bool):Option Rq:=bif c then(bif b then some (.tot .none) else none) else some (.ifb b .none)
def qa2{c b:Bool}{q:Rq}{d:D}(h:vp c b=some q)(ho:q.Out d):b=true:=by
 unfold vp at h;cases c
 ·simp only[qF,qI]at h;subst h;exact ho.1
 ·cases b
  ·cases h
  ·rfl
def qcz(op:BinOp)(x y:AV):Option Rq:=
 match op with
 |.quo=>match y.sym with|.int _ b=>vp (isC y) (decide (b≠0))|.byte b=>vp (isC y) (decide (b≠0))|_=>some (.tot .none)
 |.rem=>match y.sym with|.int _ b=>vp (isC y) (decide (b≠0))|.byte b=>vp (isC y) (decide (b≠0))|_=>some (.tot .none)
 |.shl=>match y.sym with|.int _ b=>vp (isC y) (decide (0<=b))|_=>some (.tot .none)
 |.shr=>match y.sym with|.int _ b=>vp (isC y) (decide (0<=b))|_=>some (.tot .none)
 |.add=>match x.sym,y.sym with|.str a,.str b=>some (.ifb (decide (a.length+b.length<=ap)) .none)|_,_=>some (.tot .none)
 |_=>some (.tot .none)
def zfc{P:Program}{op:BinOp}{t:TypeId}{x y:AV}{q:Rq}{d:D}(h:qcz op x y=some q)(ho:q.Out d){ps:List Prop}{r:AV}(ha:w3 P op t x.sym y.sym=some (ps,r)):ax ps:=by
 have key:∀(xs ys:AV),(op = .quo\/op = .rem->(∀k b,ys = .int k b->b≠0)/\∀b,ys = .byte b->b≠0)->(op = .shl\/op = .shr->∀k b,ys = .int k b->0<=b)->(op = .add->∀a b,xs = .str a->ys = .str b->a.length+b.length<=ap) ->
   ∀{ps r},w3 P op t xs ys=some (ps,r)->ax ps:=by
  intro xs ys k1 k2 k3 ps r ha;unfold w3 at ha;split at ha
  ·rename_i k a k' b;cases hc:decide (op = .shl)||decide (op = .shr)||decide (k=k')<;>rw[hc]at ha<;>simp only[qT,qF,reduceCtorEq]at ha
   cases hc8:decide (k = .u8)||decide (k' = .u8)<;>rw[hc8]at ha<;>simp only[qT,qF,reduceCtorEq]at ha
   cases op<;>simp only[qgg,qI,qP]at ha<;>obtain⟨rfl,_⟩:=ha<;>first
    |trivial
    |exact⟨(k1 (.inl rfl)).1 _ _ rfl,trivial⟩
    |exact⟨(k1 (.inr rfl)).1 _ _ rfl,trivial⟩
    |exact⟨k2 (.inl rfl) _ _ rfl,trivial⟩
    |exact⟨k2 (.inr rfl) _ _ rfl,trivial⟩
  ·rename_i a b;cases op<;>simp only[qt3,qI,qP,reduceCtorEq]at ha<;>obtain⟨rfl,_⟩:=ha<;>first
    |trivial
    |exact⟨(k1 (.inl rfl)).2 _ rfl,trivial⟩
    |exact⟨(k1 (.inr rfl)).2 _ rfl,trivial⟩
  ·split at ha
   ·simp only[qI,qP]at ha;obtain⟨rfl,_⟩:=ha;exact⟨k2 (.inl rfl) _ _ rfl,trivial⟩
   ·simp only[qI,qP]at ha;obtain⟨rfl,_⟩:=ha;exact⟨k2 (.inr rfl) _ _ rfl,trivial⟩
   ·cases ha
  ·rename_i k a b;cases hk:decide (k = .u8)<;>rw[hk]at ha<;>simp only[qT,qF,reduceCtorEq]at ha
   split at ha
   ·simp only[qI,qP]at ha;obtain⟨rfl,_⟩:=ha;trivial
   ·simp only[qI,qP]at ha;obtain⟨rfl,_⟩:=ha;trivial
   ·cases ha
  ·rename_i a b;cases op<;>simp only[qt5,qI,qP,reduceCtorEq]at ha<;>obtain⟨rfl,_⟩:=ha<;>first
    |trivial
    |exact⟨k3 rfl _ _ rfl rfl,trivial⟩
  ·split at ha
   ·split at ha
    ·simp only[qI,qP]at ha;obtain⟨rfl,_⟩:=ha;trivial
    ·cases ha
   ·split at ha
    ·simp only[qI,qP]at ha;obtain⟨rfl,_⟩:=ha;trivial
    ·cases ha
   ·cases ha
 refine key x.sym y.sym (fun hop => ?_) (fun hop => ?_) (fun hop a b e1 e2 => ?_) ha
 ·rcases hop with rfl|rfl
  ·simp only[qcz]at h;exact⟨fun k b e=>by rw[e]at h;exact of_decide_eq_true (qa2 h ho),fun b e=>by rw[e]at h;exact of_decide_eq_true (qa2 h ho)⟩
  ·simp only[qcz]at h;exact⟨fun k b e=>by rw[e]at h;exact of_decide_eq_true (qa2 h ho),fun b e=>by rw[e]at h;exact of_decide_eq_true (qa2 h ho)⟩
 ·rcases hop with rfl|rfl
  ·simp only[qcz]at h;exact fun k b e=>by rw[e]at h;exact of_decide_eq_true (qa2 h ho)
  ·simp only[qcz]at h;exact fun k b e=>by rw[e]at h;exact of_decide_eq_true (qa2 h ho)
 ·subst hop;simp only[qcz]at h;rw[e1,e2]at h;simp only[qI]at h;subst h;exact of_decide_eq_true ho.1
def q9o(s:St):AV->Option (List UInt8)
 |.sl τ l=>match Ty.eq? τ .byte with|some ⟨h⟩=>some (h▸l:List Ty.byte.den)|none=>none
 |.own k=>match ag s.hp k with
  |some (.row τ l _)=>match Ty.eq? τ .byte with|some ⟨h⟩=>some (h▸l:List Ty.byte.den)|none=>none
  |_=>none
 |.val (.slice none 0 0)=>some []|_=>none
def z4b{s:St}{v:AV}{b:List UInt8}(h:q9o s v=some b){flat:List AV}{n:Nat}(hs:ge s v=some (flat,n)):flat=b.map AV.byte/\n=b.length:=by
 unfold q9o at h;split at h
 ·rename_i τ l;split at h
  ·rename_i hh _;subst hh;have h:l=b:=qJ h;subst h;simp only[ge,qI,qP]at hs;obtain⟨rfl,rfl⟩:=hs;exact⟨qok l,rfl⟩
  ·cases h
 ·rename_i k;split at h
  ·rename_i τ l E hl;split at h
   ·rename_i hh _;subst hh;have h:l=b:=qJ h;subst h;simp only[ge,hl,qI,qP]at hs;obtain⟨rfl,rfl⟩:=hs;exact⟨qok l,rfl⟩
   ·cases h
  ·cases h
 ·simp only[qI]at h;subst h;simp only[ge,qI,qP]at hs;obtain⟨rfl,rfl⟩:=hs;exact⟨rfl,rfl⟩
 ·cases h
def tyE(P:Program)(E:TypeId):Option Ty:=match P.underlying E with|some (.int k)=>some (bif decide (k = .u8) then .byte else .int k)|some .bool=>some .bool|some .string=>some .str|_=>none
def q8r:Ty->AV->Bool|.int _,.int _ _=>true|.byte,.byte _=>true|.bool,.bool _=>true|.str,.str _=>true|_,_=>false
def z0e:∀{τ:Ty}{y:AV}{d:τ.den},ux τ y=some d->q8r τ y=true->y=τ.av d
 |.int k,.int k' n,d,h,_=>by
  simp only[ux,Ty.dec]at h;cases hk:decide (k'=k)<;>rw[hk]at h
  ·cases h
  ·have:=of_decide_eq_true hk;subst this;have h:n=d:=qJ h;subst h;rfl
 |.byte,.byte c,d,h,_=>by have h:c=d:=qJ h;subst h;rfl|.bool,.bool c,d,h,_=>by have h:c=d:=qJ h;subst h;rfl|.str,.str c,d,h,_=>by have h:c=d:=qJ h;subst h;rfl
def qg2(τ:Ty):List AV->Option (List τ.den)
 |[]=>some []|x::xs=>match ux τ x.sym,qg2 τ xs with|some d,some ds=>bif q8r τ x.sym then some (d::ds) else none|_,_=>none
def q59{τ:Ty}:∀{xs:List AV}{ds:List τ.den},qg2 τ xs=some ds->xs.map AV.sym=ds.map τ.av
 |[],ds,h=>by simp only[qg2,qI]at h;subst h;rfl|x::xs,ds,h=>by
  simp only[qg2]at h;split at h
  ·rename_i d ds' h1 h2;cases hb:q8r τ x.sym<;>rw[hb]at h<;>simp only[qT,qF,reduceCtorEq,qI]at h
   subst h;rw[List.map_cons,List.map_cons,q59 h2,← z0e h1 hb]
  ·cases h
def qph(s:St):AV->Option (List Int)
 |.sl (.int .i32) l=>some l|.own k=>match ag s.hp k with|some (.row (.int .i32) l _)=>some l|_=>none
 |.val (.slice none 0 0)=>some []|_=>none
def zlv{s:St}{v:AV}{l:List Int}(hl:qph s v=some l):ge s v=some (List.flatMap (β:=AV) (Ty.int .i32).enc l,l.length):=by
 unfold qph at hl;split at hl
 ·have hl:=qJ hl;subst hl;rfl
 ·rename_i k;split at hl
  ·rename_i hk;have hl:=qJ hl;subst hl;show(match ag s.hp k with|some (.row τ l _)=>some (l.flatMap τ.enc,l.length)|_=>none)=_;rw[hk];rfl
  ·cases hl
 ·have hl:=qJ hl;subst hl;rfl
 ·cases hl
def qos(P:Program)(s:St)(t:TypeId)(x:AV)(i:Operand):Option Rq:=
 match x,s.evy i with
 |.str b,some (.int _ n)=>some (.bnd (ai b n) (.one fun c => .cs [.byte c]))
 |.str b,some (.byte n)=>some (.bnd b[n.toNat]? (.one fun c => .cs [.byte c]))
 |.agg cs,some (.int _ n)=>match s.ev i with
  |some (.val _)=>match(cs.map AV.sym)[n.toNat]? with|some y=>bif decide (0<=n) then some (.tot (.cs [y])) else none|none=>none
  |_=>match P.underlying t with
   |some (.array _ E)=>match tyE P E with
    |some τ=>match qg2 τ cs with
     |some l=>some (.bnd (ai l n) (.one fun y => .cs [τ.av y]))
     |none=>none
    |none=>none
   |_=>none
 |_,_=>none
def qgi(P:Program)(s:St)(t:TypeId)(x:AV)(i:Operand):Option Rq:=
 match x,s.evy i with
 |.sl τ l,some (.int _ n)=>some (.bnd (ai l n) (.one fun y => .cs (τ.enc y)))
 |.own k,some (.int _ n)=>match ag s.hp k with|some (.row _ l _)=>some (.ifb (decide (0<=n/\n.toNat<l.length)) .none)|_=>none
 |.asl _ m _,some (.int _ n)=>match s.ev i with|some j=>vp (isC j) (decide (0<=n/\n.toNat<m))|_=>none
 |.ptr _ _,some (.int _ n)=>match P.underlying t,s.ev i with|some (.array len _),some j=>vp (isC j) (decide (0<=n/\n<len))|_,_=>none
 |_,_=>none
def si(P:Program)(s:St)(op:Op):Option Rq:=
 match op with
 |.pick c _ _=>match s.ev c with|some (.bool b)=>some (.br b (.b true) (.b false))|_=>some (.tot .none)
 |.load _ x=>match s.ev x with
  |some (.oel k _ i _)=>match ag s.hp k with
   |some (.row τ l _)=>some (.bnd l[i]? (.one fun y => .cs (τ.enc y)))
   |_=>none
  |_=>some (.tot .none)
 |.slice _ x lo hi _=>match jz s lo,jz s hi,s.ev x with|some a,some b,some (.str l)=>some (quz l a b)|some a,some b,some (.sl _ l)=>some (quz l a b)|some none,some none,some (.ptr _ _)=>some (.tot .none)|_,_,_=>none
 |.binOp op _ x y _=>match s.ev x,s.ev y with|some a,some b=>qcz op a b|_,_=>none
 |.convert _ _ x=>match s.ev x with
  |some v=>match q9o s v with
   |some b=>some (.tot (.cs [.str b]))|none=>match qph s v with|some l=>some (.tot (.cs [.sl (.int .i32) l]))|none=>some (.tot .none)
  |none=>none
 |.index t x i=>match s.ev x with|some v=>qos P s t v i|none=>none
 |.indexAddr t x i=>match s.ev x with|some v=>qgi P s t v i|none=>none
 |_=>some (.tot .none)
def zwx{P:Program}{s:St}{t:TypeId}{x j:AV}{i:Operand}{q:Rq}{d:D}(hj:s.evy i=some j)(h:qos P s t x i=some q)(ho:q.Out d){ps:List Prop}{r:AV}(ha:qnq P t x j d=some (ps,r)):ax ps:=by
 unfold qnq at ha;split at ha
 ·simp only[qos,hj,qI]at h;subst h;obtain⟨y,h1,h2⟩:=ho;simp only[Sp.Out,D.cs.injEq,List.cons.injEq,AV.byte.injEq,and_true]at h2;subst h2;simp only[qI,qP]at ha;obtain⟨rfl,_⟩:=ha;exact⟨qv5 h1,trivial⟩
 ·simp only[qos,hj,qI]at h;subst h;obtain⟨y,h1,h2⟩:=ho;simp only[Sp.Out,D.cs.injEq,List.cons.injEq,AV.byte.injEq,and_true]at h2;subst h2;simp only[qI,qP]at ha;obtain⟨rfl,_⟩:=ha;exact⟨h1,trivial⟩
 ·rename_i len E cs k n y hu;simp only[qos,hj]at h;split at ha
  ·cases hq:Nat.beq cs.length len<;>rw[hq]at ha<;>simp only[qT,qF,reduceCtorEq,qI,qP]at ha
   obtain⟨rfl,_⟩:=ha;refine⟨?_,trivial⟩;split at h
   ·split at h
    ·rename_i z hz;cases hd:decide (0<=n)<;>rw[hd]at h<;>simp only[qT,qF,reduceCtorEq,qI]at h
     subst h;have ho:D.cs [y]=D.cs [z]:=ho;simp only[D.cs.injEq,List.cons.injEq,and_true]at ho;subst ho;exact⟨of_decide_eq_true hd,hz⟩
    ·cases h
   ·simp only[hu]at h;split at h
    ·rename_i τ hτ;split at h
     ·rename_i l hl;simp only[qI]at h;subst h;obtain⟨z,h1,h2⟩:=ho;simp only[Sp.Out,D.cs.injEq,List.cons.injEq,and_true]at h2;subst h2;obtain⟨h3,h4⟩:=qv5 h1;refine⟨h3,?_⟩;rw[q59 hl,List.getElem?_map,h4];rfl
     ·cases h
    ·cases h
  ·cases ha
 ·cases ha
def zr8{P:Program}{s:St}{t:TypeId}{x j:AV}{i:Operand}{q:Rq}{d:D}(hj:s.evy i=some j)(h:qgi P s t x i=some q)(ho:q.Out d){ps:List Prop}{r:AV}(ha:qgf P s t x j d=some (ps,r)):ax ps:=by
 unfold qgf at ha;split at ha
 ·split at ha
  ·rename_i sz k n hsz;split at ha
   ·rename_i τ l cs;cases hq:Nat.beq τ.sz sz<;>rw[hq]at ha<;>simp only[qT,qF,reduceCtorEq,qI,qP]at ha
    obtain⟨rfl,_⟩:=ha;simp only[qgi,hj,qI]at h;subst h;obtain⟨y,h1,h2⟩:=ho;have h2:D.cs cs=D.cs (τ.enc y):=h2;simp only[D.cs.injEq]at h2;exact⟨⟨(qv5 h1).1,y,(qv5 h1).2,h2.symm⟩,trivial⟩
   ·split at ha
    ·rename_i τ l E hl;cases hq:Nat.beq τ.sz sz<;>rw[hq]at ha<;>simp only[qT,qF,reduceCtorEq,qI,qP]at ha
     obtain⟨rfl,_⟩:=ha;simp only[qgi,hj,hl,qI]at h;subst h;exact⟨of_decide_eq_true ho.1,trivial⟩
    ·cases ha
   ·simp only[qI,qP]at ha;obtain⟨rfl,_⟩:=ha;simp only[qgi,hj]at h;split at h
    ·exact⟨of_decide_eq_true (qa2 h ho),trivial⟩
    ·cases h
   ·cases ha
  ·cases ha
 ·rename_i len E hu;split at ha
  ·rename_i sz k n b off hsz;simp only[qI,qP]at ha;obtain⟨rfl,_⟩:=ha;simp only[qgi,hj,hu]at h;split at h
   ·rename_i len' _ j' he _;simp only[qI,TypeDesc.array.injEq]at he;obtain⟨rfl,rfl⟩:=he;exact⟨of_decide_eq_true (qa2 h ho),trivial⟩
   ·cases h
  ·cases ha
 ·cases ha
def zez{P:Program}{s:St}{op:Op}{q:Rq}{d:D}(h:si P s op=some q)(ho:q.Out d){ps:List Prop}{v:AV}(ha:di P s d op=some (ps,v)):ax ps:=by
 have triv:∀{x:AV}{ps:List Prop}{v:AV},(some (([]:List Prop),x):Option (List Prop×AV))=some (ps,v)->ax ps:=fun e=>by
  simp only[qI,qP]at e;obtain⟨rfl,_⟩:=e;trivial
 have cnd:∀{b:Bool}{x:AV}{ps:List Prop}{v:AV},(bif b then some (([]:List Prop),x) else none)=some (ps,v)->ax ps:=fun{b} _ _ _ e=>by
  cases b
  ·cases e
  ·exact triv e
 unfold di at ha;split at ha
 ·split at ha
  ·exact triv ha
  ·cases ha
 ·split at ha
  ·exact triv ha
  ·cases ha
 ·split at ha
  ·rename_i c x y b t hc;split at ha
   ·simp only[qI,qP]at ha;obtain⟨rfl,_⟩:=ha;simp only[si,hc,qI]at h;subst h;rcases ho with⟨h1,h2⟩|⟨h1,h2⟩
    ·simp only[D.b.injEq]at h2;subst h2;exact⟨h1,trivial⟩
    ·simp only[D.b.injEq]at h2;subst h2;exact⟨h1,trivial⟩
   ·cases ha
  ·split at ha
   ·exact triv ha
   ·cases ha
  ·cases ha
 ·unfold qgd at ha;split at ha
  ·split at ha
   ·split at ha
    ·split at ha
     ·exact triv ha
     ·cases ha
    ·cases ha
   ·split at ha
    ·split at ha
     ·exact triv ha
     ·cases ha
    ·cases ha
   ·cases ha
  ·cases ha
 ·unfold qns at ha;split at ha
  ·split at ha
   ·split at ha
    ·exact triv ha
    ·cases ha
   ·cases ha
  ·split at ha
   ·exact triv ha
   ·cases ha
  ·rename_i k sz i off hx;split at ha
   ·rename_i τ l E cs hl;cases hq:Nat.beq sz τ.sz<;>rw[hq]at ha<;>simp only[qT,qF,reduceCtorEq]at ha
    split at ha
    ·simp only[qI,qP]at ha;obtain⟨rfl,_⟩:=ha;simp only[si,hx,hl,qI]at h;subst h;obtain⟨y,h1,h2⟩:=ho;have h2:D.cs cs=D.cs (τ.enc y):=h2;simp only[D.cs.injEq]at h2;exact⟨⟨y,h1,h2.symm⟩,trivial⟩
    ·cases ha
   ·cases ha
  ·cases ha
 ·unfold qnt at ha;split at ha
  ·rename_i h1 h2 h3;split at ha
   ·simp only[qI,qP]at ha;obtain⟨rfl,_⟩:=ha;simp only[si,h1,h2,h3,qI]at h;subst h;exact zge ho
   ·cases ha
  ·rename_i τ l h1 h2 h3;split at ha
   ·split at ha
    ·rename_i sz hsz;cases hq:Nat.beq τ.sz sz<;>rw[hq]at ha<;>simp only[qT,qF,reduceCtorEq,qI,qP]at ha
     obtain⟨rfl,_⟩:=ha;simp only[si,h1,h2,h3,qI]at h;subst h;exact zge ho
    ·cases ha
   ·cases ha
  ·split at ha
   ·split at ha
    ·exact triv ha
    ·cases ha
   ·cases ha
  ·split at ha
   ·rename_i n E hu;split at ha
    ·rename_i sz l hsz hl;cases hq:Nat.beq (List.length (α:=List UInt8) l) n&&Nat.beq sz 1<;>rw[hq]at ha<;>simp only[qT,qF,reduceCtorEq]at ha
     exact triv ha
    ·cases ha
   ·cases ha
  ·cases ha
 ·split at ha
  ·rename_i a b hx hy;simp only[si,hx,hy]at h;unfold qt4 at ha;split at ha
   ·split at ha
    ·exact triv ha
    ·exact zfc h ho ha
   ·exact zfc h ho ha
  ·cases ha
 ·split at ha
  ·split at ha
   ·exact triv ha
   ·cases ha
  ·cases ha
 ·rename_i src dst x;split at ha
  ·rename_i v' hs hx;split at ha
   ·rename_i r' hc;simp only[qI]at ha;subst ha;have key:∀{y:AV}{ps:List Prop}{v:AV},uo P dst y=some (ps,v)->ax ps:=fun e=>by
     unfold uo at e;split at e
     ·rename_i k _ _ _;cases hk:decide (k = .u8)<;>rw[hk]at e<;>exact triv e
     ·rename_i k _ _;cases hk:decide (k = .u8)<;>rw[hk]at e<;>simp only[qT,qF]at e
      ·cases hk8:decide (k = .i8)<;>rw[hk8]at e<;>simp only[qT,qF,reduceCtorEq]at e
       exact triv e
      ·exact triv e
     ·exact triv e
     ·cases e
    unfold zy at hc;split at hc
    ·split at hc
     ·exact triv hc
     ·exact key hc
    ·exact key hc
   ·split at ha
    ·unfold qnu at ha;split at ha
     ·rename_i E flat n b hu hsrc;split at ha
      ·cases ha
      ·simp only[qI,qP]at ha;obtain⟨rfl,_⟩:=ha;simp only[si,hx]at h;split at h
       ·rename_i b' hb;simp only[qI]at h;subst h;have ho:D.cs [.str b]=D.cs [.str b']:=ho;simp only[D.cs.injEq,List.cons.injEq,AV.str.injEq,and_true]at ho;subst ho;obtain⟨h1,h2⟩:=z4b hb hsrc;exact⟨h1,h2,trivial⟩
       ·split at h
        ·rename_i l' _;simp only[qI]at h;subst h;exact absurd (show D.cs [.str b]=D.cs [.sl (.int .i32) l'] from ho) oC
        ·simp only[qI]at h;subst h;exact absurd (show D.cs [.str b]=D.none from ho) oC
      ·cases ha
     ·rename_i E flat n l hu hsrc;split at ha
      ·cases ha
      ·simp only[qI,qP]at ha;obtain⟨rfl,_⟩:=ha;simp only[si,hx]at h;split at h
       ·rename_i b' _;simp only[qI]at h;subst h;exact absurd (show D.cs [.sl (.int .i32) l]=D.cs [.str b'] from ho) oC
       ·split at h
        ·rename_i l' hl;simp only[qI]at h;subst h;have ho:D.cs [.sl (.int .i32) l]=D.cs [.sl (.int .i32) l']:=ho;have ho:l=l':=by injection ho with ho;injection ho with ho;injection ho with _ ho
         subst ho;have h1:=zlv hl;rw[hsrc]at h1;simp only[qI,qP]at h1;exact⟨h1.1,h1.2,trivial⟩
        ·simp only[qI]at h;subst h;exact absurd (show D.cs [.sl (.int .i32) l]=D.none from ho) oC
      ·cases ha
     ·cases ha
    ·cases ha
  ·cases ha
 ·split at ha
  ·unfold qt1 at ha;split at ha
   ·split at ha
    ·split at ha
     ·exact triv ha
     ·cases ha
    ·cases ha
   ·cases ha
  ·cases ha
 ·split at ha
  ·unfold qt2 at ha;split at ha
   ·split at ha
    ·split at ha
     ·rename_i sz _;cases hz:Nat.beq sz 0<;>rw[hz]at ha<;>simp only[qT,qF,reduceCtorEq]at ha
      split at ha
      ·exact triv ha
      ·exact cnd ha
      ·exact triv ha
      ·cases ha
     ·cases ha
    ·cases ha
   ·cases ha
  ·cases ha
 ·split at ha
  ·split at ha
   ·exact triv ha
   ·cases ha
  ·cases ha
 ·split at ha
  ·rename_i v' j hx hj;simp only[si,hx]at h;exact zwx hj h ho ha
  ·cases ha
 ·split at ha
  ·rename_i v' j hx hj;simp only[si,hx]at h;exact zr8 hj h ho ha
  ·cases ha
 ·split at ha
  ·exact triv ha
  ·cases ha
 ·split at ha
  ·split at ha
   ·unfold qnr at ha;split at ha
    ·exact triv ha
    ·exact triv ha
    ·split at ha
     ·exact triv ha
     ·cases ha
    ·exact triv ha
    ·exact triv ha
    ·cases ha
   ·cases ha
  ·cases ha
 ·split at ha
  ·split at ha
   ·unfold q4o at ha;split at ha
    ·exact cnd ha
    ·cases ha
   ·cases ha
  ·cases ha
 ·split at ha
  ·split at ha
   ·unfold q4p at ha;split at ha
    ·exact cnd ha
    ·cases ha
   ·cases ha
  ·cases ha
 ·split at ha
  ·exact cnd ha
  ·cases ha
 ·cases ha
mutual
def qhh(hp:List (Nat×ah)):AV->AV
 |.own k=>match ag hp k with|some (.row τ l _) => .sl τ l|_ => .own k
 |.agg xs => .agg (ti hp xs)|x=>x
def ti(hp:List (Nat×ah)):List AV->List AV|[]=>[]|x::xs=>qhh hp x::ti hp xs
end
mutual
def zhx:AV->Bool|.own _=>true|.agg xs=>u9 xs|_=>false
def u9:List AV->Bool|[]=>false|x::xs=>zhx x||u9 xs
end
mutual
def qar:AV->Bool
 |.iface _ x=>match x with|.oel _ _ _ _=>true|_=>false
 |.agg xs=>ld xs|.tup xs=>ld xs|.fn _ xs ys=>ld xs&&ld ys|_=>true
def ld:List AV->Bool|[]=>true|x::xs=>qar x&&ld xs
end
def q74:∀{xs ys:List AV},ld xs=true->ld ys=true->ld (xs++ys)=true
 |[],_,_,h=>h|x::xs,ys,h,k=>by
  simp[ld,qA,wK]at h ⊢;exact⟨h.1,q74 h.2 k⟩
def qo4:∀{τ:Ty}{d:τ.den},ld (τ.enc d)=true|.int _,_=>rfl|.byte,_=>rfl|.bool,_=>rfl|.str,_=>rfl|.unit,_=>rfl|.prod _ _,_=>q74 qo4 qo4|.list _,_=>rfl|.tree _,_=>q74 qo4 rfl
def zy9:∀{τ:Ty}{d:τ.den},qar (τ.av d)=true|.int _,_=>rfl|.byte,_=>rfl|.bool,_=>rfl|.str,_=>rfl|.unit,_=>rfl|.prod a b,d=>qo4 (τ := .prod a b) (d:=d)|.list _,_=>rfl|.tree a,d=>qo4 (τ := .tree a) (d:=d)
mutual
def zza:∀{p:Pt}{d:p.den},qar (p.put d)=true|.h _,_=>zy9|.c _,_=>rfl|.agg ps,d=>qdh (ps:=ps) (d:=d)|.tup ps,d=>qdh (ps:=ps) (d:=d)|.ptr _ _,_=>rfl|.own _,_=>rfl|.arr _,_=>rfl|.el _ _,_=>rfl|.iel _ _ _,_=>rfl|.yld _,_=>rfl|.pn _,_=>rfl|.fn _ cap,d=>qdh (ps:=cap) (d:=d)|.u,_=>rfl
def qdh:∀{ps:List Pt}{d:Pts.den ps},ld (Pts.put ps d)=true
 |[],_=>rfl|p::ps,d=>by
  show(qar (p.put d.1)&&ld (Pts.put ps d.2))=true;rw[zza,qdh];rfl
end
mutual
def jf{b:Bool}{hp:List (Nat×ah)}:∀{x y:AV}{ps:List Prop},qar y=true->vw false [] (x.ren (ay [])) y=some ps->ax ps->∃qs,vw b hp x y=some qs/\ax qs
 |.agg xs,y,ps,hn,h,hp=>by
  cases y<;>first
   |exact qic (xs:=xs) hn h hp
   |exact⟨_,rfl,trivial⟩
   |(exfalso;have:=qJ h;subst this;exact absurd hp.1 oC)
 |.tup xs,y,ps,hn,h,hp=>by
  cases y<;>first
   |exact qic (xs:=xs) hn h hp
   |exact⟨_,rfl,trivial⟩
   |(exfalso;have:=qJ h;subst this;exact absurd hp.1 oC)
 |.fn f xs ys,y,ps,hn,h,hp=>by
  cases y with
  |fn f' xs' ys'=>
   simp[qar,qA]at hn;have h:(match bg false [] (AV.rens (ay []) xs) xs',bg false [] (AV.rens (ay []) ys) ys' with
    |some ps,some qs=>some ((f'=f)::(ps++qs))| _,_=>none)=some ps:=h
   split at h
   ·rename_i p1 p2 h1 h2;have:=qJ h;subst this;obtain⟨q1,e1,a1⟩:=qic (b:=b) (hp:=‹_›) hn.1 h1 (dw.1 hp.2).1;obtain⟨q2,e2,a2⟩:=qic (b:=b) (hp:=‹_›) hn.2 h2 (dw.1 hp.2).2;exact⟨(f'=f)::(q1++q2),by simp[vw,e1,e2],hp.1,dw.2 ⟨a1,a2⟩⟩
   ·cases h
  |undef=>exact⟨_,rfl,trivial⟩|_=>exfalso;have:=qJ h;subst this;exact absurd hp.1 oC
 |.val v,y,ps,hn,h,hp=>by cases y<;>exact⟨ps,h,hp⟩
 |.undef,y,ps,hn,h,hp=>by cases y<;>exact⟨ps,h,hp⟩
 |.int _ _,y,ps,hn,h,hp=>by cases y<;>exact⟨ps,h,hp⟩
 |.byte _,y,ps,hn,h,hp=>by cases y<;>exact⟨ps,h,hp⟩
 |.bool _,y,ps,hn,h,hp=>by cases y<;>exact⟨ps,h,hp⟩
 |.str _,y,ps,hn,h,hp=>by cases y<;>exact⟨ps,h,hp⟩
 |.sl _ _,y,ps,hn,h,hp=>by cases y<;>exact⟨ps,h,hp⟩
 |.arr _ _,y,ps,hn,h,hp=>by cases y<;>exact⟨ps,h,hp⟩
 |.rop _,y,ps,hn,h,hp=>by cases y<;>exact⟨ps,h,hp⟩
 |.iface t x,y,ps,hn,h,hp=>by
  cases y with
  |undef=>exact⟨_,rfl,trivial⟩|iface t' x'=>
   have:=qJ h;subst this;cases x'<;>simp[qar,wJ]at hn
   have e:AV.iface t' (AV.oel _ _ _ _)=AV.iface t (AV.ren (ay []) x):=hp.1;injection e with e1 e2
   exfalso;revert e2;cases x<;>simp[AV.ren,ay,qk]
  |_=>exfalso;have:=qJ h;subst this;exact absurd hp.1 (by simp[AV.ren])
 |.ptr _ _,y,ps,hn,h,hp=>by
  cases y<;>first
   |exact⟨_,rfl,trivial⟩
   |(exfalso;have:=qJ h;subst this;have e:_=AV.undef:=hp.1;cases e)
 |.own _,y,ps,hn,h,hp=>by
  cases y<;>first
   |exact⟨_,rfl,trivial⟩
   |(exfalso;have:=qJ h;subst this;have e:_=AV.undef:=hp.1;cases e)
 |.oel _ _ _ _,y,ps,hn,h,hp=>by
  cases y<;>first
   |exact⟨_,rfl,trivial⟩
   |(exfalso;have:=qJ h;subst this;have e:_=AV.undef:=hp.1;cases e)
 |.osl _ _ _,y,ps,hn,h,hp=>by
  cases y<;>first
   |exact⟨_,rfl,trivial⟩
   |(exfalso;have:=qJ h;subst this;have e:_=AV.undef:=hp.1;cases e)
 |.asl _ _ _,y,ps,hn,h,hp=>by
  cases y<;>first
   |exact⟨_,rfl,trivial⟩
   |(exfalso;have:=qJ h;subst this;have e:_=AV.undef:=hp.1;cases e)
 |.yld _,y,ps,hn,h,hp=>by
  cases y<;>first
   |exact⟨_,rfl,trivial⟩
   |(exfalso;have:=qJ h;subst this;have e:_=AV.undef:=hp.1;cases e)
 |.pn _,y,ps,hn,h,hp=>by
  cases y<;>first
   |exact⟨_,rfl,trivial⟩
   |(exfalso;have:=qJ h;subst this;have e:_=AV.undef:=hp.1;cases e)
def qic{b:Bool}{hp:List (Nat×ah)}:∀{xs ys:List AV}{ps:List Prop},ld ys=true->bg false [] (AV.rens (ay []) xs) ys=some ps->ax ps->∃qs,bg b hp xs ys=some qs/\ax qs
 |[],[],ps,_,h,hp=>⟨[],rfl,trivial⟩|x::xs,y::ys,ps,hn,h,hp=>by
  simp[ld,qA]at hn;simp[AV.rens,bg]at h;split at h
  ·rename_i p1 h1;split at h
   ·rename_i p2 h2;have:=qJ h;subst this;obtain⟨q1,e1,a1⟩:=jf (b:=b) (hp:=‹_›) hn.1 h1 (dw.1 hp).1;obtain⟨q2,e2,a2⟩:=qic (b:=b) (hp:=‹_›) hn.2 h2 (dw.1 hp).2;exact⟨q1++q2,by simp[bg,e1,e2],dw.2 ⟨a1,a2⟩⟩
   ·cases h
  ·cases h
 |[],_::_,_,_,h,_=>by simp[AV.rens,bg]at h|_::_,[],_,_,h,_=>by simp[AV.rens,bg]at h
end
mutual
def z5u{hp:List (Nat×ah)}:∀{x y:AV},qar y=true->qa [] (qhh hp x) y->∃qs,vw true hp x y=some qs/\ax qs
 |.own k,y,hn,⟨ps,h1,h2⟩=>by
  simp only[qhh]at h1;split at h1
  ·rename_i τ l E hl
   cases y with
   |undef=>exact⟨_,rfl,trivial⟩|sl τ' l'=>
    have:=qJ h1;subst this;exact⟨[AV.sl τ' l'=AV.sl τ l],by simp[vw,hl,qT],h2.1,trivial⟩
   |_=>exfalso;have:=qJ h1;subst this;exact absurd h2.1 (by simp[AV.ren])
  ·exact jf hn h1 h2
 |.agg xs,y,hn,⟨ps,h1,h2⟩=>by
  simp[qhh,AV.ren]at h1
  cases y with
  |undef=>exact⟨_,rfl,trivial⟩|agg ys=>
   have h1':bg false [] (AV.rens (ay []) (ti hp xs)) ys=some ps:=h1;have hn':ld ys=true:=hn;obtain⟨qs,k1,k2⟩:=qxw (xs:=xs) hn' ⟨ps,h1',h2⟩;exact⟨qs,k1,k2⟩
  |_=>exfalso;have:=qJ h1;subst this;exact absurd h2.1 oC
 |.undef,y,hn,⟨ps,h1,h2⟩=>jf (x := .undef) hn h1 h2|.int k n,y,hn,⟨ps,h1,h2⟩=>jf (x := .int k n) hn h1 h2|.byte c,y,hn,⟨ps,h1,h2⟩=>jf (x := .byte c) hn h1 h2|.bool c,y,hn,⟨ps,h1,h2⟩=>jf (x := .bool c) hn h1 h2|.str c,y,hn,⟨ps,h1,h2⟩=>jf (x := .str c) hn h1 h2|.sl τ l,y,hn,⟨ps,h1,h2⟩=>jf (x := .sl τ l) hn h1 h2|.arr τ l,y,hn,⟨ps,h1,h2⟩=>jf (x := .arr τ l) hn h1 h2|.rop c,y,hn,⟨ps,h1,h2⟩=>jf (x := .rop c) hn h1 h2|.val c,y,hn,⟨ps,h1,h2⟩=>jf (x := .val c) hn h1 h2|.tup c,y,hn,⟨ps,h1,h2⟩=>jf (x := .tup c) hn h1 h2|.ptr b o,y,hn,⟨ps,h1,h2⟩=>jf (x := .ptr b o) hn h1 h2|.oel k z i o,y,hn,⟨ps,h1,h2⟩=>jf (x := .oel k z i o) hn h1 h2|.osl k z l,y,hn,⟨ps,h1,h2⟩=>jf (x := .osl k z l) hn h1 h2|.asl k n c,y,hn,⟨ps,h1,h2⟩=>jf (x := .asl k n c) hn h1 h2|.yld n,y,hn,⟨ps,h1,h2⟩=>jf (x := .yld n) hn h1 h2|.pn n,y,hn,⟨ps,h1,h2⟩=>jf (x := .pn n) hn h1 h2|.fn f a c,y,hn,⟨ps,h1,h2⟩=>jf (x := .fn f a c) hn h1 h2|.iface t x,y,hn,⟨ps,h1,h2⟩=>jf (x := .iface t x) hn h1 h2
def qxw{hp:List (Nat×ah)}:∀{xs ys:List AV},ld ys=true->qcs [] (ti hp xs) ys->∃qs,bg true hp xs ys=some qs/\ax qs
 |[],[],_,_=>⟨[],rfl,trivial⟩|x::xs,y::ys,hn,⟨ps,h,hp⟩=>by
  simp[ld,qA]at hn;simp[ti,AV.rens,bg]at h;split at h
  ·rename_i p1 h1;split at h
   ·rename_i p2 h2;have:=qJ h;subst this;obtain⟨q1,e1,a1⟩:=z5u hn.1 ⟨_,h1,(dw.1 hp).1⟩;obtain⟨q2,e2,a2⟩:=qxw hn.2 ⟨_,h2,(dw.1 hp).2⟩;exact⟨q1++q2,by simp[bg,e1,e2],dw.2 ⟨a1,a2⟩⟩
   ·cases h
  ·cases h
 |[],_::_,_,⟨_,h,_⟩=>by simp[ti,AV.rens,bg]at h|_::_,[],_,⟨_,h,_⟩=>by simp[ti,AV.rens,bg]at h
end
def Ty.noRef:Ty->Bool|.list _=>false|.tree _=>false|.prod a b=>a.noRef&&b.noRef|_=>true
def zi8:∀{xs ys:List AV},ja xs=true->ja ys=true->ja (xs++ys)=true
 |[],_,_,h=>h|x::xs,ys,h,k=>by
  simp[ja,qA,wK]at h ⊢;exact⟨h.1,zi8 h.2 k⟩
def q76:∀{τ:Ty},τ.noRef=true->∀{d:τ.den},ja (τ.enc d)=true
 |.int _,_,_=>rfl|.byte,_,_=>rfl|.bool,_,_=>rfl|.str,_,_=>rfl|.unit,_,_=>rfl|.prod a b,h,_=>by
  simp[Ty.noRef,qA]at h;exact zi8 (q76 h.1) (q76 h.2)
def qw9:List (Nat×bc)->Bool|[]=>true|(_,.row τ _)::r=>τ.noRef&&qw9 r|_::_=>false
def zld:∀{l:List (Nat×bc)},qw9 l=true->∀{d:g7 l},ax (mh (cq l d))
 |[],_,_=>trivial|(n,.row τ E)::r,h,d=>by
  simp[qw9,qA]at h;exact⟨fun x _=>q76 h.1,zld h.2 (d:=d.2)⟩
 |(_,.cells _ _)::_,h,_=>by cases h
 |(_,.loop _ _ _ _ _ _ _ _)::_,h,_=>by cases h
 |(_,.dfr)::_,h,_=>by cases h
 |(_,.it)::_,h,_=>by cases h
 |(_,.dat _ _)::_,h,_=>by cases h
 |(_,.dead)::_,h,_=>by cases h
mutual
def zj3:Pt->Bool|.h τ=>τ.noRef|.agg ps=>qwx ps|.tup ps=>qwx ps|.fn _ ps=>qwx ps|_=>true
def qwx:List Pt->Bool|[]=>true|p::ps=>zj3 p&&qwx ps
end
def RS.rows:{α:Type}->RS α->Bool|_,.one p hp _ _ _=>zj3 p&&qw9 hp|_,.two l r=>l.rows&&r.rows
def RS.rows_ok:∀{α:Type}{r:RS α},r.rows=true->∀{x:α},ax (mh (r.res x).2)
 |_,.one _ hp _ _ _,h,_=>zld (l:=hp) (by simp[RS.rows,qA]at h;exact h.2)|_,.two l r,h,.inl a=>by
  simp[RS.rows,qA]at h;exact RS.rows_ok (r:=l) h.1 (x:=a)
 |_,.two l r,h,.inr b=>by
  simp[RS.rows,qA]at h;exact RS.rows_ok (r:=r) h.2 (x:=b)
def qwg(s:St)(τ:Ty):AV->Option (List τ.den)
 |.sl τ' l=>match Ty.eq? τ' τ with|some ⟨h⟩=>some (h▸l)|none=>none
 |.str b=>match Ty.eq? .byte τ with|some ⟨h⟩=>some (h▸(b:List Ty.byte.den))|none=>none
 |.own k=>match ag s.hp k with
  |some (.row τ' l _)=>match Ty.eq? τ' τ with|some ⟨h⟩=>some (h▸l)|none=>none
  |_=>none
 |.asl b _ _=>match ag s.hp b with|some (.cells cs _)=>qg2 τ cs|_=>none
 |.val (.slice none 0 0)=>some []|_=>none
def zir{s:St}{τ:Ty}{v:AV}{l:List τ.den}(h:qwg s τ v=some l){flat:List AV}{n:Nat}(hs:ge s v=some (flat,n)):flat=l.flatMap τ.enc/\n=l.length:=by
 unfold qwg at h;split at h
 ·split at h
  ·rename_i hh _;subst hh;have h:=qJ h;subst h;simp only[ge,qI,qP]at hs;obtain⟨rfl,rfl⟩:=hs;exact⟨rfl,rfl⟩
  ·cases h
 ·split at h
  ·rename_i hh _;subst hh;have h:=qJ h;subst h;simp only[ge,qI,qP]at hs;obtain⟨rfl,rfl⟩:=hs;exact⟨(qok _).symm,rfl⟩
  ·cases h
 ·split at h
  ·rename_i hl;split at h
   ·rename_i hh _;subst hh;have h:=qJ h;subst h;simp only[ge,hl,qI,qP]at hs;obtain⟨rfl,rfl⟩:=hs;exact⟨rfl,rfl⟩
   ·cases h
  ·cases h
 ·rename_i b m c;split at h
  ·rename_i cs T hl;simp only[ge,hl]at hs;cases hq:Nat.beq m c&&Nat.beq cs.length m&&allData (cs.map AV.sym)<;>rw[hq]at hs<;>simp only[qT,qF,reduceCtorEq,qI,qP]at hs
   obtain⟨rfl,rfl⟩:=hs;simp only[qA,Nat.beq_eq]at hq;have e1:=q59 h;have e2:cs.length=l.length:=by have:=congrArg List.length e1;simpa using this
   refine⟨?_,oA⟩
   rw[e1];have hd:∀x∈l.map τ.av,xn x=true:=by
    intro x hx;rw[← e1]at hx;have:∀{xs:List AV},allData xs=true->∀x∈xs,xn x=true:=by
     intro xs
     induction xs with
     |nil=>intro _ x hx;cases hx
     |cons y ys ih=>
      intro hy x hx;simp only[allData,qA]at hy;rcases List.mem_cons.1 hx with q|q
      ·rw[q];exact hy.1
      ·exact ih hy.2 x q
    exact this hq.2 x hx
   clear e1 e2 hq h
   induction l with
   |nil=>rfl|cons y l ih=>
    rw[List.map_cons,List.flatMap_cons,ih (fun x hx=>hd x (by rw[List.map_cons];exact qE _ hx))]
    have hy:=hd (τ.av y) (by rw[List.map_cons];exact qH)
    have:τ.enc y=[τ.av y]:=by cases τ<;>first|rfl|(simp[Ty.av,xn]at hy)
    rw[this];rfl
  ·cases h
 ·have h:=qJ h;subst h;simp only[ge,qI,qP]at hs;obtain⟨rfl,rfl⟩:=hs;exact⟨rfl,rfl⟩
 ·cases h
def qu2(τ:Ty):Nat->List AV->Option (List τ.den)
 |0,[]=>some []|n+1,cs=>match τ.dec cs with
  |some (d,r)=>match qu2 τ n r with|some ds=>some (d::ds)|none=>none
  |none=>none
 |_,_=>none
def zgo{τ:Ty}:∀{n:Nat}{cs:List AV}{l:List τ.den},qu2 τ n cs=some l->gl cs (l.flatMap τ.enc)/\l.length=n
 |0,[],l,h=>by have h:=qJ h;subst h;exact⟨⟨fun _=>rfl,[],rfl,trivial⟩,rfl⟩
 |0,_::_,l,h=>by cases h
 |n+1,cs,l,h=>by
  simp only[qu2]at h;split at h
  ·rename_i d r hd;split at h
   ·rename_i ds hds;have h:=qJ h;subst h;obtain⟨ab,rfl,hs⟩:=xj hd;obtain⟨h1,h2⟩:=zgo hds;exact⟨hs.append h1,by simp[h2]⟩
   ·cases h
  ·cases h
structure Tb:Type 1 where
 ents:List ee
 ety:List (Nat×Ty)
 sub:Bool
def qo1:NM->Bool|[]=>true|_=>false
def q72:List (Nat×bc)->Bool|[]=>true|_=>false
def ve(f:FuncId):zw->Bool|.fn f'=>Nat.beq f' f|_=>false
def qup(s:St)(f:FuncId)(xs:List AV)(e:ee):Option Rq:=
 bif ve f e.key&&q72 e.hp&&(!(u9 xs)||e.out.rows) then
  match Pts.get e.args (ti s.hp xs) [] with
  |some (d,nm)=>match ut s.hp e.hp nm with
   |some (d',nm')=>bif qo1 nm' then some (.bnd (e.F d d') (e.out.sp fun r hp' => .res (u9 xs) (Pts.put e.args d) r hp')) else none
   |none=>none
  |none=>none
 else none
def order(nm:NM):List (Nat×bc)->NM
 |[]=>[]|(n,_)::r=>match a7 nm n with|some m=>(n,m)::order nm r|none=>order nm r
def qwj(s:St)(ys:List AV)(nm0:NM)(e:ee):Option Rq:=
 match Pts.get e.args ys nm0 with
 |some (d,nm)=>match ut s.hp e.hp nm with
  |some (d',nm')=>bif ei (order nm' e.hp)&&xc nm' e.hp then
    some (.bnd (e.F d d') (e.out.sp fun r hp' => .mem (order nm' e.hp) (Pts.put e.args d) (cq e.hp d') r hp')) else none
  |none=>none
 |none=>none
def qn6(s:St)(f:FuncId)(ys:List AV)(e:ee):Option Rq:=bif ve f e.key then qwj s ys [] e else none
def zqs(s:St)(m:Nat)(ys:List AV)(e:ee):Option Rq:=match e.key with|.yld m'=>qwj s ys [(m',m)] e|_=>none
def qc7(g:ee->Option Rq):List ee->Option Rq
 |[]=>none|e::es=>match g e with|some q=>some q|none=>qc7 g es
def qn1(P:Program)(tb:Tb)(s:St)(t:TypeId)(x y:AV):Option Rq:=
 match x with
 |.own k=>match ag s.hp k with
  |some (.row τ l E)=>match qwg s τ y with|some m=>some (.ifb (decide ((l++m).length<=az)) (.row (.row τ (l++m) E)))|none=>none
  |_=>none
 |_=>match P.underlying t with
  |some (.slice E)=>match ag tb.ety E with
   |some τ=>match qwg s τ y with|some m=>some (.ifb (decide (m.length<=az)) (.row (.row τ m E)))|none=>none
   |none=>none
  |_=>none
def zl4(P:Program)(tb:Tb)(s:St)(t:TypeId)(len:Nat)(parts:List (Nat×Operand)):Option Rq:=
 match P.underlying t with
 |some (.slice E)=>match ag tb.ety E,er P E,sg s parts with
  |none,_,_=>some (.tot (.b true))|some τ,some sz,some ps=>match xa (fun i=>some (i*sz,sz)) (qpw (len*sz)) ps with
   |some cs=>match qu2 τ len cs with|some l=>some (.tot (.row (.row τ l E)))|none=>none
   |none=>none
  |_,_,_=>none
 |_=>none
def zmd(s:St)(k i off:Nat)(v:AV):Option Rq:=match ag s.hp k with
 |some (.row τ l E)=>bif Nat.ble (off+v.cells.length) τ.sz then
   some (.bnd l[i]? (.one fun x=>match τ.dec (gc (τ.enc x) off v.cells) with
    |some (y,[]) => .put (((τ.enc y).drop off).take v.cells.length) (.row τ (l.set i y) E)| _ => .none))
  else none
 |_=>none
def sh(P:Program)(tb:Tb)(s:St)(op:Op):Option Rq:=
 match op with
 |.alloc _=>some (.tot .none)|.box _ _=>some (.tot .none)|.buildSlice t len parts=>zl4 P tb s t len parts.toList|.convert _ _ x=>match s.ev x with|some (.str b)=>some (.ifb (decide (b.length<=maxLen)) .none)|_=>none
 |.store _ x y=>match s.ev x with
  |some (.ptr _ _)=>some (.tot .none)|some (.oel k _ i off)=>match s.ev y with|some v=>zmd s k i off v|none=>none
  |_=>none
 |.call { callee := .builtin .append,args,argTypes }=>match args.toList,argTypes.toList with
  |[x,y],[t,_]=>match s.ev x,s.ev y with|some a,some b=>qn1 P tb s t a b|_,_=>none
  |_,_=>none
 |.call { callee := .value g,args,argTypes:=_ }=>match s.ev g,s.evs args.toList with
  |some (.fn (.func f) [] cap),some xs=>match qc7 (qup s f (xs++cap)) tb.ents with|some q=>some q|none=>qc7 (qn6 s f (xs++cap)) tb.ents
  |some (.yld m),some ys=>qc7 (zqs s m ys) tb.ents|_,_=>none
 |_=>none
def xq(P:Program):Op->Bool
 |.alloc _=>false|.box _ _=>false|.buildSlice _ _ _=>false|.store _ _ _=>false|.convert _ dst _=>match P.underlying dst with|some (.slice _)=>false|_=>true
 |.call { callee := .builtin .append,args:=_,argTypes:=_ }=>false|.call { callee := .value _,args:=_,argTypes:=_ }=>false|_=>true
def xe(P:Program)(tb:Tb)(s:St)(op:Op):Option Rq:=bif xq P op then si P s op else sh P tb s op
mutual
def zx2{hp:List (Nat×ah)}:∀{x:AV},zhx x=false->qhh hp x=x
 |.agg xs,h=>by simp only[qhh];rw[q7h (xs:=xs) h]|.own k,h=>by cases h
 |.undef,_=>rfl|.int _ _,_=>rfl|.byte _,_=>rfl|.bool _,_=>rfl|.str _,_=>rfl|.sl _ _,_=>rfl|.arr _ _,_=>rfl|.rop _,_=>rfl|.val _,_=>rfl|.tup _,_=>rfl|.ptr _ _,_=>rfl|.oel _ _ _ _,_=>rfl|.osl _ _ _,_=>rfl|.asl _ _ _,_=>rfl|.yld _,_=>rfl|.pn _,_=>rfl|.fn _ _ _,_=>rfl|.iface _ _,_=>rfl
def q7h{hp:List (Nat×ah)}:∀{xs:List AV},u9 xs=false->ti hp xs=xs
 |[],_=>rfl|x::xs,h=>by
  simp only[u9,Bool.or_eq_false_iff]at h;simp only[ti,q7h h.2,zx2 h.1]
end
def zi4{nm:NM}(h:qo1 nm=true):nm=[]:=by cases nm with|nil=>rfl|cons _ _=>cases h
def zto:∀{l:List (Nat×bc)}{d:g7 l},q72 l=true->cq l d=[]|[],_,_=>rfl|_::_,_,h=>by cases h
def q7e{f:FuncId}{k:zw}(h:ve f k=true):k = .fn f:=by
 cases k with
 |fn f'=>rw[qN (show Nat.beq f' f=true from h)]|yld _=>cases h
 |ext _=>cases h
def qc8{g:ee->Option Rq}:∀{es:List ee}{q:Rq},qc7 g es=some q->∃e∈es,g e=some q
 |[],_,h=>by cases h
 |e::es,q,h=>by
  simp only[qc7]at h;split at h
  ·rename_i q' hq;have h:=qJ h;subst h;exact⟨e,qH,hq⟩
  ·obtain⟨e',h1,h2⟩:=qc8 h;exact⟨e',qE _ h1,h2⟩
def zfw{P:Program}{s:St}{f:FuncId}{xs:List AV}{e:ee}{q:Rq}{d:D}(he:e.Sound P)(h:qup s f xs e=some q)(ho:q.Out d) :
  ∃b ys r hp' ps,d = .res b ys r hp'/\bg b s.hp xs ys=some ps/\ax ps/\r7 P f/\de P f ys [] r hp'/\(b=true->ax (mh hp')):=by
 unfold qup at h;cases hk:ve f e.key&&q72 e.hp&&(!(u9 xs)||e.out.rows)<;>rw[hk]at h<;>simp only[qT,qF,reduceCtorEq]at h
 simp only[qA]at hk;obtain⟨⟨hk1,hk2⟩,hk3⟩:=hk;split at h
 ·rename_i x nm hg;split at h
  ·rename_i x' nm' hg';cases hn:qo1 nm'<;>rw[hn]at h<;>simp only[qT,qF,reduceCtorEq,qI]at h
   subst h;have hn:=zi4 hn;subst hn;obtain⟨y,hy,hd⟩:=ho;have hd:=RS.sp_out hd;have hs:=he x x' y hy;rw[q7e hk1]at hs;simp only at hs;rw[zto hk2]at hs;have hseen:=(Pts.get_seen hg).2 [] rfl (fun n m hh=>by have:=(qcy hg').1 n m hh;cases this)
   have key:∃ps,bg (u9 xs) s.hp xs (Pts.put e.args x)=some ps/\ax ps:=by
    cases hb:u9 xs
    ·rw[q7h hb]at hseen;obtain⟨ps,h1,h2⟩:=hseen;exact qic qdh h1 h2
    ·exact qxw qdh hseen
   obtain⟨ps,k1,k2⟩:=key;refine⟨u9 xs,Pts.put e.args x,_,_,ps,hd,k1,k2,hs.1,hs.2,fun hb => ?_⟩
   rw[hb]at hk3;exact RS.rows_ok (by simpa using hk3)
  ·cases h
 ·cases h
def q8c{nm:NM}:∀{l:List (Nat×bc)}{n m:Nat},a7 nm n=some m->(∃e∈l,e.1=n)->a7 (order nm l) n=some m
 |[],n,m,_,⟨e,he,_⟩=>by cases he
 |(k,p)::r,n,m,h,⟨e,he,hn⟩=>by
  simp only[order];cases hq:Nat.beq k n
  ·have hr:∃e∈r,e.1=n:=by
    rcases List.mem_cons.1 he with rfl|he
    ·simp only at hn;subst hn;simp at hq
    ·exact⟨e,he,hn⟩
   split
   ·simp only[a7,hq,qF];exact q8c h hr
   ·exact q8c h hr
  ·have:=qN hq;subst this;rw[h];simp[a7]
def ze9{hp:List (Nat×ah)}{N M:NM}(hN:ei N=true):∀{l:List (Nat×bc)}{nm nm':NM}{d:g7 l},ut hp l nm=some (d,nm')->cy nm' M->cy nm' N->∀{hpv:List (Nat×ah)}{ps:List Prop},
  jp (ay N) hp (order M l)=some hpv->l7 hpv (cq l d)=some ps->ax ps
 |[],nm,nm',d,h,_,_,hpv,ps,hv,hw=>by
  simp only[order,jp,qI]at hv;subst hv;have:=qJ (show some []=some ps from hw);subst this;trivial
 |(j,p)::r,nm,nm',d,h,hM,hS,hpv,ps,hv,hw=>by
  have h:(match a7 nm j with
   |some old=>match ag hp old with
    |some b=>match p.get b nm with
     |some (d,nm')=>match ut hp r nm' with|some (ds,nm'')=>some ((d,ds),nm'')|none=>none
     |none=>none
    |none=>none
   | none=>none)=some (d,nm'):=h
  split at h
  ·rename_i old ho;split at h
   ·rename_i b hb;split at h
    ·rename_i d1 nm1 h1;split at h
     ·rename_i d2 nm2 h2;simp only[qI]at h;obtain⟨rfl,rfl⟩:=h;obtain⟨a1,a2⟩:=bc.get_seen h1;obtain⟨b1,_⟩:=qcy h2;have hj:a7 M j=some old:=hM _ _ (b1 _ _ (a1 _ _ ho));simp only[order,hj,jp,hb]at hv;split at hv
      ·rename_i b' l' e1 e2;simp only[qI]at e1 hv;subst e1 hv;have hw:(bif Nat.beq j j then(match vwB (d7 (ay N) b) (p.put d1),l7 l' (cq r d2) with
        |some ps,some qs=>some (ps++qs)| _,_=>none) else none)=some ps:=hw
       rw[show Nat.beq j j=true by simp]at hw
       simp only[qT]at hw;split at hw
       ·rename_i p1 p2 w1 w2;have:=qJ hw;subst this;obtain⟨p1',s1,s2⟩:=a2 N hN (b1.trans hS);rw[w1]at s1;have:=qJ s1;subst this;exact dw.2 ⟨s2,ze9 hN h2 hM hS e2 w2⟩
       ·cases hw
      ·cases hv
     ·cases h
    ·cases h
   ·cases h
  ·cases h
def qwk{s:St}{ys:List AV}{nm0:NM}{e:ee}{q:Rq}{d:D}(h:qwj s ys nm0 e=some q)(ho:q.Out d) :
  ∃N x x' y,e.F x x'=some y/\d = .mem N (Pts.put e.args x) (cq e.hp x') (e.out.res y).1 (e.out.res y).2/\ei N=true/\cy nm0 N /\
   (∀ps,bg false [] (AV.rens (ay N) ys) (Pts.put e.args x)=some ps->ax ps)/\∀hpv ps,jp (ay N) s.hp N=some hpv->l7 hpv (cq e.hp x')=some ps->ax ps:=by
 unfold qwj at h;split at h
 ·rename_i x nm hg;split at h
  ·rename_i x' nm' hg';cases hk:ei (order nm' e.hp)&&xc nm' e.hp<;>rw[hk]at h<;>simp only[qT,qF,reduceCtorEq,qI]at h
   subst h;simp only[qA]at hk;obtain⟨y,hy,hd⟩:=ho;have hsub:cy nm' (order nm' e.hp):=fun n m hh=>q8c hh (q44 hk.2 n m hh)
   obtain⟨g1,g2⟩:=Pts.get_seen hg;obtain⟨g1',_⟩:=qcy hg';refine⟨order nm' e.hp,x,x',y,hy,RS.sp_out hd,hk.1,g1.trans (g1'.trans hsub),fun ps hv => ?_,fun hpv ps hv hw=>ze9 hk.1 hg' (cy.refl _) hsub hv hw⟩
   obtain⟨ps',h1,h2⟩:=g2 _ hk.1 (g1'.trans hsub);rw[hv]at h1;have:=qJ h1;subst this;exact h2
  ·cases h
 ·cases h
def ziw{s s':St}{q:Prop}{ys xs:List AV}{names:List (Nat×Nat)}{hp hp':List (Nat×ah)}{r:AV}{t:Nat}{ps:List Prop}(h:qao s q ys names xs hp r hp' t=some (ps,s'))(hq:q)
  (h1:∀ps,bg false [] (AV.rens (ay names) ys) xs=some ps->ax ps) (h2:∀hpv ps,jp (ay names) s.hp names=some hpv->l7 hpv hp=some ps->ax ps):ax ps:=by
 unfold qao at h;cases hb:ei names&&uz names&&a8 (s.nx+32*t) s.hp&&Nat.blt t s.n<;>rw[hb]at h<;>simp only[qT,qF,reduceCtorEq]at h
 split at h
 ·rename_i hpv ps1 e1 e2;split at h
  ·rename_i ps2 e3;simp only[qI,qP]at h;obtain⟨rfl,_⟩:=h;exact⟨hq,dw.2 ⟨h1 _ e2,h2 _ _ e1 e3⟩⟩
  ·cases h
 ·cases h
def zic{P:Program}{s:St}{d:D}{op:Op}(h:xq P op=false):di P s d op=none:=by
 unfold xq at h;split at h<;>first
  |rfl
  |cases h
  | (split at h
     ·rename_i src dst x _ E hE;simp only[di,hE];have hc:∀v,uo P dst v=none:=fun v=>by
       unfold uo;rw[hE]
      have hc':∀v,zy P dst v=none:=fun v=>by
       unfold zy;split
       ·rw[hc]
       ·rw[hc]
      cases P.underlying src<;>cases s.ev x<;>simp[hc']
     ·cases h)
def zib{P:Program}{s:St}{d:D}{o:Oper}(h:xq P o.op=true):jv P s d o=none:=by
 obtain⟨dst,op,ty,pos,after,guard⟩:=o;simp only at h
 cases hA:jv P s d ⟨dst,op,ty,pos,after,guard⟩ with
 |none=>rfl|some R=>
  exfalso;unfold jv at hA;split at hA
  ·rename_i e _;simp only at e;subst e;cases h
  ·rename_i e _;simp only at e;subst e;cases h
  ·rename_i e _;simp only at e;subst e;cases h
  ·rename_i e _;simp only at e;subst e;cases h
  ·rename_i e _;simp only at e;subst e;cases h
  ·rename_i e _;simp only at e;subst e;split at hA
   ·rename_i e2 _;simp only[xq,e2]at h;cases h
   ·cases hA
  ·cases hA
def zxc{P:Program}{s:St}{d:D}{o:Oper}(h:xq P o.op=true):sf P s d o=none:=by
 obtain⟨dst,op,ty,pos,after,guard⟩:=o;simp only at h
 cases hA:sf P s d ⟨dst,op,ty,pos,after,guard⟩ with
 |none=>rfl|some R=>
  exfalso;unfold sf at hA;split at hA
  ·rename_i e;simp only at e;subst e;cases h
  ·rename_i e;simp only at e;subst e;cases h
  ·rename_i e;simp only at e;subst e;cases h
  ·cases hA
def zsk{P:Program}{tb:Tb}{s:St}{t t2:TypeId}{y:AV}{q:Rq}{d:D}{ps:List Prop}{b:ah}(h:qn1 P tb s t (.val (.slice none 0 0)) y=some q)(ho:q.Out d)(ha:qd P s d t t2 [] 0 y=some (ps,b)):ax ps:=by
 unfold qn1 at h;simp only at h;unfold qd at ha;split at h
 ·rename_i E hE;split at h
  ·rename_i τ hτ;split at h
   ·rename_i m hm;have h:=qJ h;subst h;obtain⟨h1,rfl⟩:=ho;simp only[hE]at ha;split at ha
    ·rename_i sz flat n e1 e2;obtain⟨k1,k2⟩:=zir hm e2;cases hq:Nat.beq τ.sz sz&&Nat.beq E E&&og P E&&qdj P t2<;>rw[hq]at ha<;>simp only[qT,qF,reduceCtorEq,qI,qP]at ha
     obtain⟨rfl,_⟩:=ha;exact⟨by rw[k1];rfl,oA,of_decide_eq_true h1,trivial⟩
    ·cases ha
   ·cases h
  ·cases h
 ·cases h
def zsl{P:Program}{tb:Tb}{s:St}{t t2:TypeId}{k:Nat}{τ0:Ty}{l0:List τ0.den}{E0:TypeId}{y:AV}{q:Rq}{d:D}{ps:List Prop}{b:ah}(hk:ag s.hp k=some (.row τ0 l0 E0))(h:qn1 P tb s t (.own k) y=some q)(ho:q.Out d)(ha:qd P s d t t2 (l0.flatMap τ0.enc) l0.length y=some (ps,b)):ax ps:=by
 unfold qn1 at h;simp only[hk]at h;unfold qd at ha;split at h
 ·rename_i m hm;have h:=qJ h;subst h;obtain⟨h1,rfl⟩:=ho;split at ha
  ·rename_i E _ _ _ e0 ed;simp only[D.row.injEq,ah.row.injEq]at ed;obtain⟨rfl,ed,rfl⟩:=ed;have ed:=eq_of_heq ed;subst ed;split at ha
   ·rename_i sz flat n e1 e2;obtain⟨k1,k2⟩:=zir hm e2;cases hq:Nat.beq τ0.sz sz&&Nat.beq E E0&&og P E&&qdj P t2<;>rw[hq]at ha<;>simp only[qT,qF,reduceCtorEq,qI,qP]at ha
    obtain⟨rfl,_⟩:=ha;exact⟨by rw[k1,List.flatMap_append],by rw[k2,qM],of_decide_eq_true h1,trivial⟩
   ·cases ha
  ·cases ha
 ·cases h
def zey{P:Program}{tb:Tb}{s:St}{o:Oper}{q:Rq}{d:D}{ps:List Prop}{v:AV}{new:List (Nat×ah)}(hT:∀e∈tb.ents,e.Sound P)(hv:xq P o.op=false)(h:sh P tb s o.op=some q)(ho:q.Out d)(ha:jv P s d o=some (ps,v,new)):ax ps:=by
 obtain⟨dst,op,ty,pos,after,guard⟩:=o;simp only at h hv;have cnd:∀{b:Bool}{x:AV}{y:List (Nat×ah)}{ps0 ps:List Prop}{v:AV}{new:List (Nat×ah)},(bif b then some (ps0,x,y) else none)=some (ps,v,new)->ax ps0->ax ps:=fun{b} _ _ _ _ _ _ e k=>by
  cases b
  ·cases e
  ·simp at e;obtain⟨rfl,_⟩:=e;exact k
 unfold jv at ha;split at ha
 ·split at ha
  ·exact cnd ha trivial
  ·cases ha
 ·split at ha
  ·exact cnd ha trivial
  ·cases ha
 ·rename_i g args ats t e _;simp only at e;subst e;split at ha
  ·rename_i f cap xs b xs' r hp' e1 e2;split at ha
   ·rename_i ps1 hps;refine cnd ha ?_;simp[sh,e1,e2]at h;have key:∀e∈tb.ents,qup s f (xs++cap) e=some q->ax (r7 P f::de P f xs' [] r hp'::(ps1++(bif b then mh hp' else[]))):=fun e he hc=>by
     obtain⟨b1,ys,r1,hp1,ps2,k1,k2,k3,k4,k5,k6⟩:=zfw (hT e he) hc ho;simp at k1;obtain⟨rfl,rfl,rfl,rfl⟩:=k1;rw[hps]at k2;have:=qJ k2;subst this;refine⟨k4,k5,dw.2 ⟨k3,?_⟩⟩;cases b
     ·trivial
     ·exact k6 rfl
    split at h
    ·rename_i q' hq;have h:=qJ h;subst h;obtain⟨e,he,hc⟩:=qc8 hq;exact key e he hc
    ·exfalso;obtain⟨e,he,hc⟩:=qc8 h;unfold qn6 at hc;cases hk:ve f e.key<;>rw[hk]at hc<;>simp at hc
     obtain⟨N,x,x',y,_,k2,_⟩:=qwk hc ho;cases k2
   ·cases ha
  ·cases ha
 ·rename_i args ats tt e _;simp only at e;subst e;split at ha
  ·rename_i x y t t2 e1 e2;split at ha
   ·rename_i v' e3 e4;split at ha
    ·rename_i ps1 b e5;refine cnd ha ?_;simp[sh,e1,e2,e3,e4]at h;exact zsk h ho e5
    ·cases ha
   ·cases ha
  ·cases ha
 ·rename_i t len parts tt e _;simp only at e;subst e;split at ha
  ·rename_i ps1 b e1;refine cnd ha ?_;simp[sh]at h;unfold zl4 at h;unfold zx at e1;split at h
   ·rename_i E hE;split at h
    ·have h:=qJ h;subst h;have ho:d=_:=ho;subst ho;simp[hE]at e1
    ·rename_i τ sz ps2 i1 i2 i3;split at h
     ·rename_i cs hcs;split at h
      ·rename_i l hl;have h:=qJ h;subst h;have ho:d=_:=ho;subst ho;simp only[hE,i2,i3,hcs]at e1;cases hq:Nat.beq τ.sz sz&&Nat.beq E E&&og P E&&Nat.ble (len*τ.sz) 16777216&&AV.ones cs<;>rw[hq]at e1<;>simp at e1
       obtain⟨⟨j1,ps3,j2,j3⟩,j4⟩:=zgo hl;rw[j2]at e1;simp at e1;obtain⟨rfl,_⟩:=e1;exact dw.2 ⟨j3,j4,j1 _,trivial⟩
      ·cases h
     ·cases h
    ·cases h
   ·cases h
  ·split at ha
   ·exact cnd ha trivial
   ·cases ha
 ·rename_i src dst x tt e _;simp only at e;subst e;split at ha
  ·rename_i E b e1 e2 e3;split at ha
   ·refine cnd ha ?_;simp[sh,e3,qI]at h;subst h;exact⟨of_decide_eq_true ho.1,trivial⟩
   ·cases ha
  ·cases ha
 ·cases ha
def q9m:∀(ys a b:List AV)(k:Nat),gc (a++b) (a.length+k) ys=a++gc b k ys
 |[],_,_,_=>rfl|y::ys,a,b,k=>by
  simp only[gc];rw[List.set_append_right _ _ oA,Nat.add_sub_cancel_left,Nat.add_assoc]
  exact q9m ys a (b.set k y) (k+1)
def zl8:∀(ys a b:List AV)(k:Nat),k+ys.length<=a.length->gc (a++b) k ys=gc a k ys++b
 |[],_,_,_,_=>rfl|y::ys,a,b,k,h=>by
  simp at h;simp[gc];rw[List.set_append_left _ _ oA]
  exact zl8 ys (a.set k y) b (k+1) (by rw[List.length_set];omega)
def qhz:∀(ys a:List AV)(k j:Nat),k+ys.length<=a.length->(gc a k ys)[j]? = if k<=j/\j<k+ys.length then ys[j-k]? else a[j]?
 |[],a,k,j,_=>by simp only[gc,qZ];rw[qW oA]|y::ys,a,k,j,h=>by
  simp at h;simp only[gc];rw[qhz ys (a.set k y) (k+1) j (by rw[List.length_set];omega)]
  simp only[qL];by_cases h1:k+1<=j/\j<k+1+ys.length
  ·rw[qX h1,qX oA,show j-k=(j-(k+1))+1 by omega];simp
  ·rw[qW h1];by_cases h2:j=k
   ·subst h2;rw[qX oA];simp[show j<a.length by omega]
   ·rw[qW oA,List.getElem?_set_ne oA]
def zl9{τ:Ty}{y:τ.den}{ys:List AV}{off:Nat}:∀{l:List τ.den}{i:Nat}{x:τ.den},l[i]? = some x->off+ys.length<=τ.sz->τ.enc y=gc (τ.enc x) off ys->(l.set i y).flatMap τ.enc=gc (l.flatMap τ.enc) (i*τ.sz+off) ys
 |[],_,_,h,_,_=>by simp at h|z::l,0,x,h,ho,he=>by
  simp at h;subst h;simp;rw[zl8 _ _ _ _ (by rw[τ.enc_length];exact ho),he]
 |z::l,i+1,x,h,ho,he=>by
  simp at h;simp;rw[show(i+1)*τ.sz+off=(τ.enc z).length+(i*τ.sz+off) by rw[τ.enc_length,Nat.succ_mul];omega,q9m,zl9 h ho he]
def zag{b:Bool}{hp:List (Nat×ah)}:∀{xs ys:List AV}{ps:List Prop},bg b hp xs ys=some ps->ax ps->∀(j:Nat)(x y:AV),xs[j]? = some x->ys[j]? = some y->∃qs,vw b hp x y=some qs/\ax qs
 |x::xs,y::ys,ps,h,hp,j,u,v,hu,hv=>by
  simp[bg]at h;split at h
  ·rename_i p1 h1;split at h
   ·rename_i p2 h2;have:=qJ h;subst this
    cases j with|zero=>simp at hu hv;subst hu hv;exact⟨p1,h1,(dw.1 hp).1⟩|succ j=>exact zag h2 (dw.1 hp).2 j u v (by simpa using hu) (by simpa using hv)
   ·cases h
  ·cases h
 |[],[],_,_,_,j,_,_,hu,_=>by simp at hu|[],_::_,_,h,_,_,_,_,_,_=>by simp[bg]at h|_::_,[],_,h,_,_,_,_,_,_=>by simp[bg]at h
def znd{b:Bool}{hp:List (Nat×ah)}:∀{xs ys:List AV}{ps:List Prop},bg b hp xs ys=some ps->(∀(j:Nat)(x y:AV),xs[j]? = some x->ys[j]? = some y->∃qs,vw b hp x y=some qs/\ax qs)->ax ps
 |x::xs,y::ys,ps,h,hq=>by
  simp[bg]at h;split at h
  ·rename_i p1 h1;split at h
   ·rename_i p2 h2;have:=qJ h;subst this;obtain⟨q1,e1,a1⟩:=hq 0 x y rfl rfl;rw[h1]at e1;have:=qJ e1;subst this;exact dw.2 ⟨a1,znd h2 fun j u v hu hv=>hq (j+1) u v (by simpa using hu) (by simpa using hv)⟩
   ·cases h
  ·cases h
 |[],[],_,h,_=>by simp[bg,qI]at h;subst h;trivial|[],_::_,_,h,_=>by simp[bg]at h|_::_,[],_,h,_=>by simp[bg]at h
def qog:∀{τ:Ty}{d:τ.den},∀x∈τ.enc d,xn x=true
 |.int _,_,x,h=>by simp[Ty.enc,List.mem_singleton]at h;subst h;rfl|.byte,_,x,h=>by simp[Ty.enc,List.mem_singleton]at h;subst h;rfl|.bool,_,x,h=>by simp[Ty.enc,List.mem_singleton]at h;subst h;rfl|.str,_,x,h=>by simp[Ty.enc,List.mem_singleton]at h;subst h;rfl|.unit,_,x,h=>by simp[Ty.enc]at h|.prod a b,d,x,h=>by
  rcases List.mem_append.1 h with h|h
  ·exact qog x h
  ·exact qog x h
 |.list _,_,x,h=>by simp[Ty.enc,List.mem_singleton]at h;subst h;rfl|.tree a,d,x,h=>by
  rcases List.mem_append.1 h with h|h
  ·exact qog x h
  ·simp at h;subst h;rfl
def z5t{x y:AV}(hx:xn x=true)(hy:xn y=true){qs:List Prop}(h:vw false [] x y=some qs)(hq:ax qs):y=x:=by
 cases x<;>first|cases hx|skip
 all_goals (cases y<;>first|cases hy|skip)
 all_goals (have:=qJ h;subst this;exact hq.1)
def zkl{ρ:Nat->Option Nat}:∀{xs:List AV}{j:Nat},(AV.rens ρ xs)[j]? = (xs[j]?).map (AV.ren ρ)|[],j=>by simp[AV.rens]|x::xs,0=>by simp[AV.rens]|x::xs,j+1=>by simp[AV.rens,List.getElem?_cons_succ];exact zkl
def z36{τ:Ty}{l:List τ.den}{i off:Nat}{x y:τ.den}{c:List AV}{ps:List Prop}(ho:off+c.length<=τ.sz)(hx:l[i]? = some x)(hd:τ.dec (gc (τ.enc x) off c)=some (y,[]))
  (hv:bg false [] c (((τ.enc y).drop off).take c.length)=some ps) :
  ax (ps++[i*τ.sz+off+c.length<=l.length*τ.sz,(l.set i y).flatMap τ.enc=gc (l.flatMap τ.enc) (i*τ.sz+off) (((τ.enc y).drop off).take c.length),(l.set i y).length=l.length,AV.rens (fun _=>none) c=c]):=by
 obtain⟨ab,e1,hr,qs,hq1,hq2⟩:=xj hd;simp at e1;subst e1;have hle:off+c.length<=(τ.enc x).length:=by rw[τ.enc_length];exact ho
 have ac:(((τ.enc y).drop off).take c.length).length=c.length:=by simp[τ.enc_length];omega
 have hseg:∀(j:Nat)(z u:AV),c[j]? = some z->(((τ.enc y).drop off).take c.length)[j]? = some u->∃qs,vw false [] z u=some qs/\ax qs:=fun j z u h1 h2=>by
  have hj:j<c.length:=(List.getElem?_eq_some_iff.1 h1).1;refine zag hq1 hq2 (off+j) z u ?_ ?_
  ·rw[qhz _ _ _ _ hle,qX oA,Nat.add_sub_cancel_left];exact h1
  ·rw[List.getElem?_take,qX hj,List.getElem?_drop]at h2;exact h2
 have he:τ.enc y=gc (τ.enc x) off (((τ.enc y).drop off).take c.length):=by
  apply List.ext_getElem?;intro j;rw[qhz _ _ _ _ (by rw[ac];exact hle),ac]
  by_cases hj:off<=j/\j<off+c.length
  ·rw[qX hj,List.getElem?_take,qX oA,List.getElem?_drop,show off+(j-off)=j by omega]
  ·rw[qW hj]
   cases hz:(τ.enc x)[j]? with
   |none=>
    have:=List.getElem?_eq_none_iff.1 hz;rw[τ.enc_length]at this;exact List.getElem?_eq_none_iff.2 (by rw[τ.enc_length];exact this)
   |some z=>
    have hjl:j<τ.sz:=by have:=(List.getElem?_eq_some_iff.1 hz).1;rwa [τ.enc_length]at this
    have hu:∃u,(τ.enc y)[j]? = some u:=⟨_,List.getElem?_eq_getElem (by rw[τ.enc_length];exact hjl)⟩
    obtain⟨u,hu⟩:=hu;obtain⟨q,q1,q2⟩:=zag hq1 hq2 j z u (by rw[qhz _ _ _ _ hle,qW hj];exact hz) hu
    rw[hu,z5t (qog z (List.mem_of_getElem? hz)) (qog u (List.mem_of_getElem? hu)) q1 q2]
 refine dw.2 ⟨znd hv hseg,?_,zl9 hx (by rw[ac];exact ho) he,oC,?_,trivial⟩
 ·have hi:i<l.length:=(List.getElem?_eq_some_iff.1 hx).1;have:(i+1)*τ.sz<=l.length*τ.sz:=Nat.mul_le_mul_right _ hi;rw[Nat.succ_mul]at this;omega
 ·apply List.ext_getElem?;intro j;have h:=congrArg (fun l=>l[off+j]?) (hr (fun _=>none))
  simp[zkl]at h ⊢;by_cases hj:j<c.length
  ·rw[qhz _ _ _ _ hle,qX oA,Nat.add_sub_cancel_left]at h;exact h
  ·rw[List.getElem?_eq_none_iff.2 oA];rfl
def zsm{P:Program}{tb:Tb}{s:St}{o:Oper}{q:Rq}{d:D}{ps:List Prop}{s':St}(hT:∀e∈tb.ents,e.Sound P)(h:sh P tb s o.op=some q)(ho:q.Out d)(ha:sf P s d o=some (ps,s')):ax ps:=by
 obtain⟨dst,op,ty,pos,after,guard⟩:=o;simp only at h;have cnd:∀{b:Bool}{x:St}{ps:List Prop}{s':St},(bif b then some (([]:List Prop),x) else none)=some (ps,s')->ax ps:=fun{b} _ _ _ e=>by
  cases b
  ·cases e
  ·simp at e;obtain⟨rfl,_⟩:=e;trivial
 unfold sf at ha;split at ha
 ·rename_i t x y e;simp only at e;subst e;split at ha
  ·split at ha
   ·exact cnd ha
   ·cases ha
  ·rename_i k sz i off v n e1 e2 e3 _;split at ha
   ·rename_i τ0 l0 E0 ys τ l E e4;simp[sh,e1,e2,zmd,e4]at h;cases hbb:Nat.ble (off+v.cells.length) τ0.sz<;>rw[hbb]at h<;>simp at h
    subst h;obtain⟨x0,hx0,hd⟩:=ho;simp[Sp.Out]at hd;split at hd
    ·rename_i y0 hdec;simp at hd;obtain⟨rfl,rfl,hl,rfl⟩:=hd;have hl:=eq_of_heq hl;subst hl;cases hb:Nat.beq v.cells.length n&&AV.ones v.cells&&Nat.beq sz τ.sz&&Nat.beq τ.sz τ.sz&&Nat.beq E E<;>rw[hb]at ha<;>simp only[qT,qF,reduceCtorEq]at ha
     simp only[qA]at hb;obtain⟨⟨⟨⟨b1,_⟩,b3⟩,_⟩,_⟩:=hb;have b1:=qN b1;have b3:=qN b3;subst b1 b3;split at ha
     ·rename_i ps1 hvs;simp only[qI,qP]at ha;obtain⟨rfl,_⟩:=ha;exact z36 (Nat.le_of_ble_eq_true hbb) hx0 hdec hvs
     ·cases ha
    ·cases hd
   ·cases ha
  ·cases ha
 ·rename_i args ats e;simp only at e;subst e;split at ha
  ·rename_i x y t t2 tt e1 e2 _;split at ha
   ·rename_i k v e3 e4;split at ha
    ·rename_i τ0 l0 E0 e5;split at ha
     ·rename_i ps1 τ l E e6;simp[sh,e1,e2,e3,e4]at h;cases hb:a8 (s.nx+32*tt) s.hp&&Nat.beq τ.sz τ0.sz&&Nat.beq E E0&&Nat.blt tt s.n<;>rw[hb]at ha<;>simp at ha
      obtain⟨rfl,_⟩:=ha;exact zsl e5 h ho e6
     ·cases ha
    ·cases ha
   ·cases ha
  ·cases ha
 ·rename_i g args ats e;simp only at e;subst e;split at ha
  ·rename_i f cap ys names xs hp r hp' t e1 e2 e3;simp[sh,e1,e2]at h;split at h
   ·rename_i q' hq;have h:=qJ h;subst h;obtain⟨e,he,hc⟩:=qc8 hq;obtain⟨b1,ys1,r1,hp1,ps2,k1,_⟩:=zfw (hT e he) hc ho;cases k1
   ·obtain⟨e,he,hc⟩:=qc8 h;unfold qn6 at hc;cases hk:ve f e.key<;>rw[hk]at hc<;>simp at hc
    obtain⟨N,x,x',y,k1,k2,k3,k4,k5,k6⟩:=qwk hc ho;simp at k2;obtain⟨rfl,rfl,rfl,rfl,rfl⟩:=k2;have hs:=hT e he x x' y k1;rw[q7e hk]at hs;exact ziw ha hs k5 k6
  ·rename_i m ys names xs hp r hp' t e1 e2 e3;simp[sh,e1,e2]at h;obtain⟨e,he,hc⟩:=qc8 h;unfold zqs at hc;split at hc
   ·rename_i m' hm';obtain⟨N,x,x',y,k1,k2,k3,k4,k5,k6⟩:=qwk hc ho;simp at k2;obtain⟨rfl,rfl,rfl,rfl,rfl⟩:=k2;have hs:=hT e he x x' y k1;rw[hm']at hs;have hr:ay names m=some m':=ye k3 (k4 _ _ (by simp[a7]))
    simp[hr]at ha;exact ziw ha hs k5 k6
   ·cases hc
  ·cases ha
 ·cases ha
def ze1{P:Program}{tb:Tb}{s:St}{o:Oper}{q:Rq}{d:D}{ps:List Prop}{s':St}(hT:∀e∈tb.ents,e.Sound P)(h:xe P tb s o.op=some q)(ho:q.Out d)(ha:w9 P s d o=some (ps,s')):ax ps:=by
 unfold xe at h;unfold w9 at ha;cases hv:xq P o.op<;>rw[hv]at h<;>simp at h
 ·split at ha
  ·rename_i ps' v new e;unfold f5 at e;rw[zic hv]at e;split at ha
   ·simp at ha;obtain⟨rfl,_⟩:=ha;exact zey hT hv h ho e
   ·cases ha
  ·exact zsm hT h ho ha
 ·split at ha
  ·rename_i ps' v new e;unfold f5 at e;split at e
   ·rename_i ps1 v1 e1;simp at e;obtain⟨rfl,rfl,rfl⟩:=e;split at ha
    ·simp at ha;obtain⟨rfl,_⟩:=ha;exact zez h ho e1
    ·cases ha
   ·rw[zib hv]at e;cases e
  ·rw[zxc hv]at ha;cases ha
def ze0{P:Program}{tb:Tb}{s:St}{o:Oper}{q:Rq}{d:D}{ps:List Prop}{v:AV}{new:List (Nat×ah)}(hT:∀e∈tb.ents,e.Sound P)(h:xe P tb s o.op=some q)(ho:q.Out d)(ha:f5 P s d o=some (ps,v,new)):ax ps:=by
 unfold xe at h;unfold f5 at ha;cases hv:xq P o.op<;>rw[hv]at h<;>simp at h
 ·rw[zic hv]at ha;exact zey hT hv h ho ha
 ·split at ha
  ·rename_i ps1 v1 e1;simp at ha;obtain⟨rfl,rfl,rfl⟩:=ha;exact zez h ho e1
  ·rw[zib hv]at ha;cases ha
def q9p(P:Program)(tb:Tb)(s:St)(o:Oper):Option (Bool×St):=
 bif tb.sub then
  match o.op with
  |.slice t x lo hi mx=>match s.ev x,o.dst,mx with
   |some (.own k),some tt,none=>match ag s.hp k,P.underlying t with
    |some (.row τ l E),some (.slice E')=>match er P E' with
     |some sz'=>bif Nat.beq τ.sz sz'&&Nat.blt tt s.n&&a8 (s.nx+32*tt) s.hp then
       (match jz s lo,jz s hi with
       |some (some a),some none=>some (decide (0<=a/\a.toNat<l.length),{ s with fr:=(tt,.osl k τ.sz a.toNat)::s.fr })|some none,some (some b)=>some (decide (0<=b/\b<=l.length),{ s with fr:=(tt,.own (s.nx+32*tt))::s.fr,hp:=(s.nx+32*tt,.row τ (l.take b.toNat) E)::(k,.dead)::s.hp })| _,_=>none)
      else none
     |none=>none
    |_,_=>none
   |_,_,_=>none
  |.call { callee := .builtin .clear,args,argTypes }=>match args.toList,argTypes.toList,o.dst with
   |[x],[t],none=>match s.ev x with
    |some (.osl k sz lo)=>match ag s.hp k,P.underlying t with
     |some (.row τ l E),some (.slice E')=>match qa0 P E' with
      |some zs=>match τ.dec zs with|some (z,[])=>bif Nat.beq sz τ.sz&&Nat.blt 0 τ.sz&&AV.ones zs then some (true,{ s with hp:=(k,.row τ (l.take lo++List.replicate (l.length-lo) z) E)::s.hp }) else none|_=>none
      |none=>none
     |_,_=>none
    |_=>none
   |_,_,_=>none
  |_=>none
 else none
section
variable{P:Program}{vjc:World}{vi7:Gh}{vi9:List (Nat×ah)}{G:Gh}{s:St}{a:Act}{w:World}{tb:Tb}
def z3y:∀(ys b:List AV),ys.length=b.length->gc b 0 ys=ys:=fun ys b h=>by
 apply List.ext_getElem?;intro j;rw[qhz _ _ _ _ oA]
 by_cases hj:0<=j/\j<0+ys.length
 ·rw[qX hj];rfl
 ·rw[qW hj,List.getElem?_eq_none_iff.2 oA,List.getElem?_eq_none_iff.2 oA]
def zhj{τ:Ty}{z:τ.den}:∀(n:Nat),(List.replicate n z).flatMap τ.enc=(List.replicate n (τ.enc z)).flatten|0=>rfl|n+1=>by simp[List.replicate_succ,zhj n]
def zk1{xs:List AV}{vs:List Value}(h:am xs G vs):∀(n:Nat),am (List.replicate n xs).flatten G (List.replicate n vs).flatten|0=>trivial|n+1=>by simp[List.replicate_succ,List.flatten_cons];exact qav h (zk1 h n)
def qvr{β:Type}(l:List β):∀(n:Nat),(List.replicate n l).flatten.length=n*l.length|0=>by simp|n+1=>by rw[List.replicate_succ,List.flatten_cons,qM,qvr l n,Nat.succ_mul,Nat.add_comm]
def zhi{β:Type}(l:List β):∀(n i:Nat),i<n*l.length->(List.replicate n l).flatten[i]? = l[i%l.length]?
 |0,i,h=>by simp at h|n+1,i,h=>by
  rw[List.replicate_succ,List.flatten_cons];by_cases hi:i<l.length
  ·rw[List.getElem?_append_left hi,Nat.mod_eq_of_lt hi]
  ·have hh:i<n*l.length+l.length:=by rw[← Nat.succ_mul];exact h
   rw[List.getElem?_append_right oA,zhi l n (i-l.length) oA,← Nat.mod_eq_sub_mod oA]
def vi1(cs:Array Value)(n:Nat):(Builtin.zeroCells cs n).toList=(List.replicate n cs.toList).flatten:=by
 apply List.ext_getElem?;intro i;by_cases hi:i<n*cs.size
 ·rw[zhi _ n i (by simpa using hi)]
  have h0:0<cs.size:=by
   rcases Nat.eq_zero_or_pos cs.size with h|h;· rw[h]at hi;simp at hi
   ·exact h
  simp[Builtin.zeroCells,hi,Nat.mod_lt _ h0]
 ·rw[List.getElem?_eq_none_iff.2 (by simp[Builtin.zeroCells];omega),List.getElem?_eq_none_iff.2 (by rw[qvr];simp;omega)]
def z4c(hr:ak vjc vi7 vi9 G s a w){o:Oper}{s':St}(h:q9p P tb s o=some (true,s')){N:Act->World->Prop}(hN:∀G' a' w',ak vjc vi7 vi9 G' s' a' w'->N a' w'):lz P o a w N:=by
 obtain⟨dst,op,ty,pos,after,guard⟩:=o;unfold q9p at h;cases hsub:tb.sub<;>rw[hsub]at h<;>simp only[qT,qF,reduceCtorEq]at h
 split at h
 ·rename_i t x lo hi mx;split at h
  ·rename_i k tt hx;split at h
   ·rename_i τ l E E' hl hu;split at h
    ·rename_i sz' hsz;cases hb:Nat.beq τ.sz sz'&&Nat.blt tt s.n&&a8 (s.nx+32*tt) s.hp<;>rw[hb]at h<;>simp only[qT,qF,reduceCtorEq]at h
     simp only[qA,Nat.blt_eq]at hb;obtain⟨⟨b1,b2⟩,b3⟩:=hb;have b1:=qN b1;subst b1;obtain⟨ad,c,us,h1,h3,h4,h5⟩:=(hr.fin.mem.holds _ _ hl).rowAt;obtain⟨ad0,n0,c0,ho0,hxe⟩:=bh hr hx;rw[h1]at ho0;simp only[qI,qP]at ho0;obtain⟨rfl,rfl,rfl⟩:=ho0;have hc:l.length<=c:=by
      rcases h3.2 with⟨_,q,_⟩|⟨_,_,_,_,_,_,q,_⟩<;>omega
     split at h
     ·rename_i i0 hlo hhi;simp only[qI,qP,decide_eq_true_eq]at h;obtain⟨⟨g0,g1⟩,rfl⟩:=h;rcases sy hr hlo with⟨_,e⟩|⟨xo,kx,mm,rfl,e,hxv⟩
      ·cases e
      injection e with e;subst e
      rcases sy hr hhi with⟨rfl,_⟩|⟨_,_,_,_,e,_⟩
      rotate_left
      ·cases e
      have r1:(Instr.sliceBounds true l.length c ((some xo).map a.eval) (Option.map a.eval none) none).run P w = .ok (i0.toNat,l.length,c) w:=by
       simp[Instr.sliceBounds,hxv,tw (P:=P) (w:=w) g0 (show i0<=(l.length:Int) by omega)]
      have hne:l≠[]:=fun e=>by subst e;simp at g1
      rcases h3.2 with⟨_,q,_⟩|⟨g,vs,fz,rfl,k2,k3,k4,k5,k6,k7,k8⟩
      ·exact absurd (List.eq_nil_of_length_eq_zero q) hne
      ·have hrun:(execOp a.eval ⟨some tt,.slice t x (some xo) none none,ty,pos,after,guard⟩).run P w = .ok (.value (.slice (some ⟨g,i0.toNat*τ.sz,none⟩) (l.length-i0.toNat) (c-i0.toNat))) w:=by
        simp only[wQ,Option.map_none]at r1;simp[execOp,Instr.sliceAt,Instr.slice,bm hu,hxe,r1,ir hsz,show c≠i0.toNat by omega,ov]
       refine fm oC ?_
       unfold Oper.wp;rw[hrun];exact hN _ _ _ (jg (v := .osl k τ.sz i0.toNat) hr (by have hb2:Nat.blt tt s.n=true:=(by simpa using b2);simp[St.add,hb2,qT,List.nil_append]) ⟨g,l.length,c,h1,g1,rfl⟩)
     ·rename_i i0 hlo hhi;simp at h;obtain⟨⟨g0,g1⟩,rfl⟩:=h;rcases sy hr hhi with⟨_,e⟩|⟨xo,kx,mm,rfl,e,hxv⟩
      ·cases e
      injection e with e;subst e
      rcases sy hr hlo with⟨rfl,_⟩|⟨_,_,_,_,e,_⟩
      rotate_left
      ·cases e
      have r1:(Instr.sliceBounds true l.length c (Option.map a.eval none) ((some xo).map a.eval) none).run P w = .ok (0,i0.toNat,c) w:=by
       simp[Instr.sliceBounds,hxv,tw (P:=P) (w:=w) g0 (show i0<=(c:Int) by omega)]
      have hlt:(l.take i0.toNat).length=i0.toNat:=by simp;omega
      have hrun:(execOp a.eval ⟨some tt,.slice t x none (some xo) none,ty,pos,after,guard⟩).run P w = .ok (.value (.slice ad i0.toNat c)) w:=by
       simp at r1
       have had:(if c=0 then ad else ad.map (·.add (0*τ.sz)))=ad:=by
        split
        ·rfl
        ·rcases h3.2 with⟨rfl,_,_⟩|⟨g,vs,fz,rfl,_⟩
         ·rfl
         ·simp[ov]
       simp[execOp,Instr.sliceAt,wQ,Option.map_none];simp[Instr.slice,bm hu,hxe,r1,ir hsz];simpa using had
      refine fm oC ?_
      unfold Oper.wp;rw[hrun];have hk':=np b3 (s.nx+32*tt) (wF _) oA
      obtain⟨f1,f2⟩:=hr.fresh _ oA hk'
      have hrow:gx w E τ.sz ad (l.take i0.toNat).length c (us.take (i0.toNat*τ.sz)):=by
       rw[hlt];have hm:i0.toNat*τ.sz<=l.length*τ.sz:=Nat.mul_le_mul_right _ oA
       refine⟨by rw[List.length_take,h3.1];omega,?_⟩
       rcases h3.2 with⟨q1,q2,q3⟩|⟨g,vs,fz,q1,q2,q3,q4,q5,q6,q7,q8⟩
       ·exact .inl ⟨q1,oA,q3⟩
       ·exact .inr ⟨g,vs,fz,q1,q2,q3,oA,q5,q6,by rw[← q7,List.take_take,Nat.min_eq_left hm],q8⟩
      have hreps:am ((l.take i0.toNat).flatMap τ.enc) G.data (us.take (i0.toNat*τ.sz)):=by
       have:=qhu (i0.toNat*τ.sz) h4;have e:(l.flatMap τ.enc).take (i0.toNat*τ.sz)=(l.take i0.toNat).flatMap τ.enc:=by
        have e1:l.flatMap τ.enc=(l.take i0.toNat).flatMap τ.enc++(l.drop i0.toNat).flatMap τ.enc:=by rw[← List.flatMap_append,List.take_append_drop]
        rw[e1,List.take_append_of_le_length (by rw[pa,hlt];exact wF _),List.take_of_length_le (by rw[pa,hlt];exact wF _)]
       rwa [e]at this
      have hfin:=hr.fin.take hl h1 hk' f2 h5 (w':=w) ⟨rfl,rfl,rfl,wF _,fun _ _ _=>rfl⟩ (.inl rfl) hrow hreps
      have hle:G.le (G.addOwn (s.nx+32*tt) (ad,(l.take i0.toNat).length,c)):=Gh.addOwn_le f2;refine hN _ _ _ ⟨by obtain⟨bs,q1,q2⟩:=hr.defers;exact⟨bs,q1,uy hle.box q2⟩,by simp[Act.put,hr.size],fun i z hz => ?_,fun m hm hlm => ?_,hfin⟩
      ·simp[ag]at hz;cases hbq:Nat.beq tt i
       ·rw[hbq]at hz;simp at hz;have hne:tt≠i:=fun e=>by subst e;simp at hbq
        obtain⟨u,u1,u2⟩:=hr.frame i z hz;exact⟨u,by simp[Act.put,hne,u1],u2.le hle⟩
       ·rw[hbq]at hz;simp at hz;subst hz;have:=qN hbq;subst this;exact⟨_,by simp[Act.put,hr.size,b2],ad,i0.toNat,c,by rw[Gh.addOwn_self,hlt],rfl⟩
      ·simp[ag]at hlm;cases hbq:Nat.beq (s.nx+32*tt) m
       ·rw[hbq]at hlm;simp at hlm;cases hbk:Nat.beq k m
        ·rw[hbk]at hlm;obtain⟨g1,g2⟩:=hr.fresh m hm hlm;refine⟨g1,?_⟩;show(bif Nat.beq m (s.nx+32*tt) then some _ else G.own m)=none
         cases hbm:Nat.beq m (s.nx+32*tt)
         ·exact g2
         ·have:=qN hbm;subst this;simp at hbq
        ·rw[hbk]at hlm;cases hlm
       ·rw[hbq]at hlm;cases hlm
     ·cases h
    ·cases h
   ·cases h
  ·cases h
 ·rename_i args ats;split at h
  ·rename_i x t ha hty;split at h
   ·rename_i k sz lo hx;split at h
    ·rename_i τ l E E' hl hu;split at h
     ·rename_i zs hzs;split at h
      ·rename_i z hdec;cases hb:Nat.beq sz τ.sz&&Nat.blt 0 τ.sz&&AV.ones zs<;>rw[hb]at h<;>simp at h
       subst h;simp only[qA]at hb;obtain⟨⟨b1,b2⟩,b3⟩:=hb;have b1:=qN b1;have b2:0<τ.sz:=by simpa using b2
       subst b1;have e1:args=#[x]:=by rw[← Array.toArray_toList (xs:=args),ha]
       have e2:ats=#[t]:=by rw[← Array.toArray_toList (xs:=ats),hty]
       subst e1 e2;obtain⟨g,n,c,o1,o2,hxe⟩:=bh hr hx;obtain⟨ad,c',q1,q2⟩:=hr.fin.mem.holds _ _ hl;rw[o1]at q1;simp at q1;obtain⟨rfl,rfl,rfl⟩:=q1;rcases q2 with⟨q,_⟩|⟨g',vs,fz,q,k2,k3,k4,k5,k6,k7,k8,k9⟩
       ·cases q
       ·simp at q;subst q;obtain⟨ab,e,hsd⟩:=xj hdec;simp at e;subst e;obtain⟨zv,hz1,hz2⟩:=qxd (P:=P) hzs w G.data;obtain⟨ps,hv1,hv2⟩:=hsd.2;have hz3:am (τ.enc z) G.data zv.cells.toList:=mo (Gh.le.refl _) (fun e=>by cases e) hv1 hv2 hz2
        have hone:∀v∈zv.cells.toList,v.oneCell'=true:=qt hz2 b3;have hzl:zv.cells.toList.length=τ.sz:=by rw[← hz3.length,τ.enc_length]
        have hzc:=vi1 zv.cells (l.length-lo);have hones:∀v∈(List.replicate (l.length-lo) zv.cells.toList).flatten,v.oneCell'=true:=fun v hv=>by
         obtain⟨ys,h1,h2⟩:=List.mem_flatten.1 hv;rw[List.eq_of_mem_replicate h1]at h2;exact hone v h2
        have hfrl:(List.replicate (l.length-lo) zv.cells.toList).flatten.length=(l.length-lo)*τ.sz:=by rw[qvr,hzl]
        have hmul:lo*τ.sz+(l.length-lo)*τ.sz=l.length*τ.sz:=by rw[← Nat.add_mul];congr 1;omega
        have hcl:l.length*τ.sz<=c*τ.sz:=Nat.mul_le_mul_right _ k4;obtain⟨w',cur',s1,s2,s3,s4⟩:=qhx (P:=P) g (lo*τ.sz) E fz (List.replicate (l.length-lo) zv.cells.toList).flatten 0 vs w k2 (by rw[hfrl];omega) k3 hones
        have hrun:(execOp a.eval ⟨none,.call { callee := .builtin .clear,args:=#[x],argTypes:=#[t] },ty,pos,after,guard⟩).run P w = .ok (.value (.tuple #[])) w':=by
         obtain⟨m,hm⟩:∃m,l.length-lo=m+1:=⟨l.length-lo-1,oA⟩
         rw[hm]at s1 hzc;simp[execOp,resolve,invoke,builtin,hxe,hm,Builtin.clear_,bm hu,hz1,hzc,s1]
        refine fm oC ?_
        unfold Oper.wp;rw[hrun];have hat:G.at k (.row τ l E)=some g:=by simp[Gh.at,o1]
        have hl':(l.take lo++List.replicate (l.length-lo) z).length=l.length:=by simp;omega
        have hfl:(l.take lo++List.replicate (l.length-lo) z).flatMap τ.enc=gc (l.flatMap τ.enc) (lo*τ.sz) (List.replicate (l.length-lo) (τ.enc z)).flatten:=by
         have e1:l.flatMap τ.enc=(l.take lo).flatMap τ.enc++(l.drop lo).flatMap τ.enc:=by rw[← List.flatMap_append,List.take_append_drop]
         have e2:((l.take lo).flatMap τ.enc).length=lo*τ.sz:=by rw[pa,List.length_take,Nat.min_eq_left oA]
         have e3:((l.drop lo).flatMap τ.enc).length=(l.length-lo)*τ.sz:=by rw[pa,List.length_drop]
         rw[List.flatMap_append,zhj,e1];have:=q9m (List.replicate (l.length-lo) (τ.enc z)).flatten ((l.take lo).flatMap τ.enc) ((l.drop lo).flatMap τ.enc) 0;rw[e2,Nat.add_zero]at this;rw[this,z3y _ _ (by rw[e3,qvr,τ.enc_length])]
        refine hN G _ _ ⟨hr.defers,hr.size,hr.frame,fun m hm hlm=>hr.fresh m hm ?_,hr.fin.update (bx' := .row τ (l.take lo++List.replicate (l.length-lo) z) E) hl hat (by simp[Gh.at,o1]) s4 ?_ k9⟩
        ·simp[ag]at hlm;cases hbq:Nat.beq k m
         ·rw[hbq]at hlm;exact hlm
         ·rw[hbq]at hlm;cases hlm
        ·have hsz:cur'.size=vs.size:=by
          have:=congrArg List.length s3;rw[qh7]at this;simpa using this
         refine⟨some ⟨g,0,none⟩,c,by rw[hl'];exact o1,.inr ⟨g,cur',fz,rfl,s2,by rw[hsz];exact k3,by rw[hl'];exact k4,k5,by rw[hsz];exact k6,?_,?_,k9⟩⟩
         ·rw[hl',hfl,s3,Nat.add_zero,zad _ _ _ _ (by have:vs.toList.length=vs.size:=Array.length_toList;omega)]
          exact qw3 _ k7 (zk1 hz3 _)
         ·intro u hu';rw[s3]at hu';rcases qh8 _ _ _ _ hu' with hu'|hu'
          ·exact k8 u hu'
          ·exact hones u hu'
      ·cases h
     ·cases h
    ·cases h
   ·cases h
  ·cases h
 ·cases h
end
def q6r(P:Program)(s:St)(o:Oper):Option (Bool×St):=
 match o.op,o.dst with
 |.convert src dst x,some tt=>match s.ev x with
  |some (.own k)=>match ag s.hp k,P.underlying src,P.underlying dst with
   |some (.row τ l E),some (.slice _),some (.slice e)=>match P.underlying e with|some (.int .u8)=>bif Nat.beq src dst&&Nat.blt tt s.n then some (decide (0<l.length),{ s with fr:=(tt,.own k)::s.fr,hp:=(k,.row τ l E)::s.hp }) else none|_=>none
   |_,_,_=>none
  |_=>none
 |_,_=>none
section
variable{P:Program}{vjc:World}{vi7:Gh}{vi9:List (Nat×ah)}{G:Gh}{s:St}{a:Act}{w:World}
def zvz(hr:ak vjc vi7 vi9 G s a w){o:Oper}{s':St}(h:q6r P s o=some (true,s')){N:Act->World->Prop}(hN:∀G' a' w',ak vjc vi7 vi9 G' s' a' w'->N a' w'):lz P o a w N:=by
 obtain⟨dst,op,ty,pos,after,guard⟩:=o;unfold q6r at h;split at h
 ·rename_i src dst x tt e1 e2;simp only at e1 e2;subst e1 e2;split at h
  ·rename_i k hx;split at h
   ·rename_i τ l E E1 E2 hl hus hud;split at h
    ·rename_i hue;cases hb:Nat.beq src dst&&Nat.blt tt s.n<;>rw[hb]at h<;>simp only[qT,qF,reduceCtorEq,qI,qP,decide_eq_true_eq]at h
     obtain⟨hpos,rfl⟩:=h;simp only[qA]at hb;have hsd:=qN hb.1;subst hsd;rw[hus]at hud;cases hud;obtain⟨ad0,n0,c0,o1,hxe⟩:=bh hr hx;obtain⟨ad,c',q1,q2⟩:=hr.fin.mem.holds _ _ hl;rw[o1]at q1;simp only[qI,qP]at q1;obtain⟨rfl,rfl,rfl⟩:=q1;rcases q2 with⟨_,q,_⟩|⟨g,vs,fz,rfl,k2,k3,k4,k5,k6,k7,k8,k9⟩
     ·subst q;simp at hpos
     ·have hw:(w.freeze ⟨g,vs.size,none⟩ 1).heap[g]? = some (.cells vs E (if fz.1==fz.2 then(vs.size,vs.size+1) else(min fz.1 vs.size,max fz.2 (vs.size+1)))):=by
       simp only[World.freeze,Nat.one_ne_zero,if_false,Array.getElem?_modify,k2];simp
      have hshape:w.shape? g=some (E,vs.size):=by simp only[World.shape?,k2]
      have hrun:(execOp a.eval ⟨some tt,.convert src src x,ty,pos,after,guard⟩).run P w = .ok (.value (.slice (some ⟨g,0,none⟩) l.length c0)) (w.freeze ⟨g,vs.size,none⟩ 1):=by
       simp[execOp,hxe,convert,bm hus,bm hue,markStringish,hshape]
      refine fm oC ?_
      unfold Oper.wp;rw[hrun];have hat:G.at k (.row τ l E)=some g:=by simp[Gh.at,o1]
      have hbel:e7 (fun b=>b=g) w (w.freeze ⟨g,vs.size,none⟩ 1):=by
       refine⟨rfl,rfl,rfl,?_,fun j hj hne => ?_⟩
       ·simp[World.freeze]
       ·simp only[World.freeze,Nat.one_ne_zero,if_false,Array.getElem?_modify];rw[qW (fun q=>hne q.symm)]
      have hok:dp G (w.freeze ⟨g,vs.size,none⟩ 1) k (.row τ l E):=by
       refine⟨some ⟨g,0,none⟩,c0,o1,.inr ⟨g,vs,_,rfl,hw,?_,k4,k5,k6,k7,k8,k9⟩⟩;refine .inr ?_;split
       ·exact wF _
       ·rename_i hne;rcases k3 with rfl|k3
        ·simp at hne
        ·simp only;omega
      have hfin:=hr.fin.update (bx' := .row τ l E) hl hat hat hbel hok k9;have hb2:Nat.blt tt s.n=true:=hb.2;refine hN G _ _ ?_;have hr2:ak vjc vi7 vi9 G { s with hp:=(k,.row τ l E)::s.hp } a (w.freeze ⟨g,vs.size,none⟩ 1):=⟨hr.defers,hr.size,hr.frame,fun m hm hlm=>hr.fresh m hm (by
       simp only[ag]at hlm;cases hbq:Nat.beq k m
       ·rw[hbq]at hlm;exact hlm
       ·rw[hbq]at hlm;cases hlm),hfin⟩
      exact jg (v := .own k) hr2 (by simp only[St.add,hb2,qT,List.nil_append]) ⟨_,_,_,o1,rfl⟩
    ·cases h
   ·cases h
  ·cases h
 ·cases h
end
def q7d(f:FuncId):zw->Bool|.ext f'=>Nat.beq f' f|_=>false
def qvc(f:FuncId):List ee->Option ee|[]=>none|e::es=>bif q7d f e.key then some e else qvc f es
def q6l{R:Type}(tb:Tb)(s:St)(o:Oper)(K:St->Option R):Option (Option R):=
 match o.op,o.dst with
 |.call { callee := .value g,args,argTypes:=_ },some tt=>match s.ev g,s.evs args.toList with
  |some (.fn (.func f) [] []),some xs=>match qvc f tb.ents with
   |some e=>match Pts.get e.args (ti s.hp xs) [] with
    |some (d,nm)=>match ut s.hp e.hp nm with
     |some (d',nm')=>bif qo1 nm'&&Nat.blt tt s.n then
       some ((e.F d d').bind fun r=>bif noRef (e.out.res r).1 then K { s with fr:=(tt,(e.out.res r).1)::s.fr } else none) else none
     |none=>none
    |none=>none
   |none=>none
  |_,_=>none
 |_,_=>none
def q6g{f:FuncId}:∀{es:List ee}{e:ee},qvc f es=some e->e∈es/\e.key = .ext f
 |[],e,h=>by cases h
 |e'::es,e,h=>by
  unfold qvc at h;cases hb:q7d f e'.key<;>rw[hb]at h<;>simp only[qT,qF,qI]at h
  ·exact⟨qE _ (q6g h).1,(q6g h).2⟩
  ·subst h;refine⟨qH,?_⟩;unfold q7d at hb;split at hb
   ·rename_i f' hk;rw[hk,qN hb]
   ·cases hb
section
variable{P:Program}{vjc:World}{vi7:Gh}{vi9:List (Nat×ah)}{G:Gh}{s:St}{a:Act}{w:World}{R:Type}{tb:Tb}
def zvq(hT:∀e∈tb.ents,e.Sound P)(hr:ak vjc vi7 vi9 G s a w){o:Oper}{K:St->Option R}{r:Option R}{x:R}(h:q6l tb s o K=some r)(hx:r=some x){N:Act->World->Prop}(hN:∀s',K s'=some x->∀G' a' w',ak vjc vi7 vi9 G' s' a' w'->N a' w'):lz P o a w N:=by
 obtain⟨dst,op,ty,pos,after,guard⟩:=o;unfold q6l at h;split at h
 ·rename_i g args ats tt e1 e2;simp only at e1 e2;subst e1 e2;split at h
  ·rename_i f xs hg hargs;split at h
   ·rename_i e he;split at h
    ·rename_i d nm hget;split at h
     ·rename_i d' nm' hbg;cases hb:qo1 nm'&&Nat.blt tt s.n<;>rw[hb]at h<;>simp only[qT,qF,reduceCtorEq,qI]at h
      simp only[qA]at hb;have hn:=zi4 hb.1;subst hn;rw[hx]at h;obtain⟨y,hy,h⟩:=Option.bind_eq_some_iff.1 h;cases hnr:noRef (e.out.res y).1<;>rw[hnr]at h<;>simp only[qT,qF,reduceCtorEq]at h
      obtain⟨hmem,hkey⟩:=q6g he;have hs:=hT e hmem d d' y hy;rw[hkey]at hs;have hs:qqm P f (Pts.put e.args d) (e.out.res y).1:=hs;have hseen:=(Pts.get_seen hget).2 [] rfl (fun n m hh=>by have:=(qcy hbg).1 n m hh;cases this)
      obtain⟨ps,k1,k2⟩:=qxw (qdh (ps:=e.args) (d:=d)) hseen;obtain⟨z1,z2,z3,z4⟩:=q42 hr.fin;obtain⟨fs,cs,hge,hfs,hcs⟩:=bh hr hg;have hfs0:fs=#[]:=Array.eq_empty_of_size_eq_zero (by have:=hfs.length;simpa using this.symm)
      have hcs0:cs=#[]:=Array.eq_empty_of_size_eq_zero (by have:=hcs.length;simpa using this.symm)
      subst hfs0 hcs0;have hreps:=mo z1 (fun _=>z4) k1 k2 (qc4 hr hargs)
      obtain⟨v,hv1,hv2⟩:=hs w _ _ z2 hreps;have hv3:aj (e.out.res y).1 G v:=qwp (G:=G.allData s.hp w) (G':=G) (fun _ _ q=>q) (fun _ _ q=>q) hnr hv2
      have hrun:(execOp a.eval ⟨some tt,.call { callee := .value g,args:=args,argTypes:=ats },ty,pos,after,guard⟩).run P w = .ok (.value v) w:=by
       have e3:(args.toList.map a.eval).toArray=args.map a.eval:=by rw[← Array.toArray_toList (xs:=args.map a.eval),Array.toList_map]
       try rw[e3]at hv1
       simp[execOp,resolve,hge,Deferred.ofValue,invoke,hv1]
      refine fm oC ?_
      unfold Oper.wp;rw[hrun];have hb2:Nat.blt tt s.n=true:=hb.2;exact hN _ h _ _ _ (jg (v:=(e.out.res y).1) hr (by simp only[St.add,hb2,qT,List.nil_append]) hv3)
     ·cases h
    ·cases h
   ·cases h
  ·cases h
 ·cases h
end
def q97(P:Program)(t:TypeId):Option Ty:=match P.underlying t with
 |some (.int k)=>match k with|.u8=>some .byte|k=>some (.int k)
 |some .bool=>some .bool|some .string=>some .str|_=>none
def Ty.zero1:(τ:Ty)->Option τ.den|.int _=>some (0:Int)|.byte=>some (0:UInt8)|.bool=>some false|.str=>some ([]:List UInt8)|_=>none
def wh:Ty->AV->Bool
 |.int k,x=>match x with|.int k' n=>decide (k'=k)&&decide (n=0)|_=>false
 |.byte,x=>match x with|.byte c=>decide (c=0)|_=>false
 |.bool,x=>match x with|.bool b => !b|_=>false
 |.str,x=>match x with|.str s=>s.isEmpty|_=>false
 |_,_=>false
def xd(τ:Ty):List AV->Bool|[]=>true|x::xs=>wh τ x&&xd τ xs
def Ty.is1:Ty->Bool|.int _=>true|.byte=>true|.bool=>true|.str=>true|_=>false
def z6(P:Program)(T:TypeId):Bool:=match P.underlying T with|some (.array n _)=>Nat.blt 32 n|_=>false
def q49(P:Program)(s:St)(o:Oper):Option (Bool×St):=
 match o.op,o.dst with
 |.alloc T,some t=>match P.underlying T with
  |some (.array n E)=>bif Nat.blt 32 n then
    match q97 P E,qa0 P T with
    |some τ,some zs=>match τ.zero1 with
     |some z=>bif Nat.beq zs.length n&&xd τ zs&&Nat.ble n 65536&&AV.ones zs&&a8 (s.nx+32*t) s.hp&&Nat.blt t s.n then
       some (true,{ s with fr:=(t,.oel (s.nx+32*t) 1 0 0)::s.fr,hp:=(s.nx+32*t,.row τ (List.replicate n z) T)::s.hp }) else none
     |none=>none
    |_,_=>none
   else none
  |_=>none
 |.load T x,some t=>bif z6 P T then match s.ev x with
  |some (.oel k sz 0 0)=>match ag s.hp k,qaz P T,er P T with|some (.row τ l _),some true,some n=>bif τ.is1&&Nat.beq sz 1&&Nat.blt t s.n then some (decide (l.length=n),{ s with fr:=(t,.arr τ l)::s.fr }) else none|_,_,_=>none
  |_=>none else none
 |.store T x y,none=>bif z6 P T then match s.ev x,s.ev y with
  |some (.oel k sz 0 0),some (.arr τ l)=>match ag s.hp k,er P T with|some (.row τ0 l0 E0),some n=>bif τ.is1&&τ0.is1&&Nat.beq sz 1 then some (decide (l.length=l0.length)&&decide (l.length=n),{ s with hp:=(k,.row τ l E0)::s.hp }) else none|_,_=>none
  |_,_=>none else none
 |.indexAddr T x i,some t=>bif z6 P T then match P.underlying T with
  |some (.array n E)=>match s.ev x,er P E with
   |some (.oel k sz 0 0),some 1=>bif Nat.beq sz 1&&Nat.blt t s.n then
     match s.evy i with|some (.int _ j)=>some (decide (0<=j)&&decide (j<n),{ s with fr:=(t,.oel k 1 j.toNat 0)::s.fr })|some (.byte c)=>some (Nat.ble 256 n||decide (c.toNat<n),{ s with fr:=(t,.oel k 1 c.toNat 0)::s.fr })|_=>none
    else none
   |_,_=>none
  |_=>none else none
 |_,_=>none
def qhe{τ:Ty}(h:τ.is1=true):τ.sz=1:=by cases τ<;>first|rfl|cases h
def zcy{τ:Ty}{z:τ.den}(h:τ.zero1=some z):τ.is1=true:=by cases τ<;>first|rfl|cases h
def vi2{τ:Ty}{x:AV}{z:τ.den}{G:Gh}{v:Value}(h:wh τ x=true)(hz:τ.zero1=some z)(hr:aj x G v):am (τ.enc z) G [v]:=by
 cases τ with
 |int k=>
  cases x<;>simp only[wh,wJ,qA,decide_eq_true_eq]at h
  obtain⟨rfl,rfl⟩:=h;cases hz;exact⟨hr,trivial⟩
 |byte=>
  cases x<;>simp[wh,wJ,decide_eq_true_eq]at h
  subst h;cases hz;exact⟨hr,trivial⟩
 |bool=>
  cases x with
  |bool b=>
   cases b
   ·cases hz;exact⟨hr,trivial⟩
   ·cases h
  |_=>cases h
 |str=>
  cases x with
  |str l=>
   cases l
   ·cases hz;exact⟨hr,trivial⟩
   ·cases h
  |_=>cases h
 |_=>cases hz
def zev{τ:Ty}{z:τ.den}{G:Gh}(hz:τ.zero1=some z):∀{zs:List AV}{vs:List Value},xd τ zs=true->am zs G vs->am ((List.replicate zs.length z).flatMap τ.enc) G vs
 |[],[],_,_=>trivial|x::zs,v::vs,h,hr=>by
  simp[xd,qA]at h;rw[qL,List.replicate_succ,List.flatMap_cons];exact qav (vs:=[v]) (vi2 h.1 hz hr.1) (zev hz h.2 hr.2)
 |[],_::_,_,h=>h.elim|_::_,[],_,h=>h.elim
def zvj{τ:Ty}(h:τ.is1=true)(x:τ.den):τ.enc x=[τ.av x]:=by cases τ<;>first|rfl|cases h
def ze7{τ:Ty}(h:τ.is1=true){x:τ.den}{G:Gh}{v:Value}:aj (τ.av x) G v↔τ.V1 G.imm x v:=by cases τ<;>first|exact Iff.rfl|cases h
def qvp{τ:Ty}(h:τ.is1=true):∀(l:List τ.den),l.flatMap τ.enc=l.map τ.av|[]=>rfl|x::l=>by rw[List.flatMap_cons,zvj h,qvp h l];rfl
def zsq{τ:Ty}(h:τ.is1=true){l:List τ.den}{G:Gh}{v:Value}(hv:aj (.arr τ l) G v):∃vs:Array Value,v = .agg vs/\am (l.flatMap τ.enc) G.data vs.toList:=by
 obtain⟨vs,rfl,h1,h2⟩:=hv;refine⟨vs,rfl,?_⟩;rw[qvp h];have:∀(l:List τ.den)(us:List Value),us.length=l.length->(∀(j:Nat)(x:τ.den),l[j]? = some x->∃u,us[j]? = some u/\τ.V1 G.imm x u)->am (l.map τ.av) G.data us:=by
  intro l
  induction l with
  |nil=>intro us hl _;rw[List.eq_nil_of_length_eq_zero hl];trivial|cons x l ih=>
   intro us hl hu
   cases us with
   |nil=>cases hl
   |cons u us=>
    refine⟨?_,ih us (by simpa using hl) (fun j y hy=>hu (j+1) y (by simpa using hy))⟩
    obtain⟨u',e,k⟩:=hu 0 x rfl;simp at e;subst e;exact(ze7 h (G:=G.data)).2 k
 exact this l vs.toList (by simpa using h1) (fun j x hx=>by obtain⟨u,k1,k2⟩:=h2 j x hx;exact⟨u,by simpa using k1,k2⟩)
def q85{τ:Ty}(h:τ.is1=true){l:List τ.den}{G:Gh}{vs:List Value}(hv:am (l.flatMap τ.enc) G.data vs):aj (.arr τ l) G (.agg vs.toArray):=by
 rw[qvp h]at hv;refine⟨vs.toArray,rfl,by simpa using hv.length.symm,fun j x hx => ?_⟩
 obtain⟨u,k1,k2⟩:=lh hv (i:=j) (x:=τ.av x) (by simp[hx])
 exact⟨u,by simpa using k1,(ze7 h (G:=G.data)).1 k2⟩
section
variable{P:Program}{vjc:World}{vi7:Gh}{vi9:List (Nat×ah)}{G:Gh}{s:St}{a:Act}{w:World}
def zsp(hr:ak vjc vi7 vi9 G s a w){o:Oper}{s':St}(h:q49 P s o=some (true,s')){N:Act->World->Prop}(hN:∀G' a' w',ak vjc vi7 vi9 G' s' a' w'->N a' w'):lz P o a w N:=by
 obtain⟨dst,op,ty,pos,after,guard⟩:=o;unfold q49 at h;split at h
 ·rename_i T t e1 e2;simp only at e1 e2;subst e1 e2;split at h
  ·rename_i n E hu;cases hn:Nat.blt 32 n<;>rw[hn]at h<;>simp only[qT,qF,reduceCtorEq]at h
   split at h
   ·rename_i τ zs hτ hzs;split at h
    ·rename_i z hz;cases hb:Nat.beq zs.length n&&xd τ zs&&Nat.ble n 65536&&AV.ones zs&&a8 (s.nx+32*t) s.hp&&Nat.blt t s.n<;>rw[hb]at h<;>simp only[qT,qF,reduceCtorEq,qI,qP,true_and]at h
     subst h;simp only[qA]at hb;obtain⟨⟨⟨⟨⟨b1,b2⟩,b3⟩,b4⟩,b5⟩,b6⟩:=hb;have b1:=qN b1;have b3:n<=65536:=Nat.le_of_ble_eq_true b3;have hsz:τ.sz=1:=qhe (zcy hz);obtain⟨Z,hz1,hz2⟩:=qxd (P:=P) hzs w G.data;have ac:Z.cells.toList.length=n:=by rw[← hz2.length,b1]
     have hreps:=zev hz b2 hz2;rw[b1]at hreps;have hone:=qt hz2 b4;have hrun:(execOp a.eval ⟨some t,.alloc T,ty,pos,after,guard⟩).run P w = .ok (.value (.pointer (some ⟨w.heap.size,0,none⟩))) (w.alloc (.cells Z.cells T)):=by
      simp[execOp,Instr.alloc,hz1,newVar,newRow]
     refine fm oC ?_
     unfold Oper.wp;rw[hrun];have hrow:gx (w.alloc (.cells Z.cells T)) T τ.sz (some ⟨w.heap.size,0,none⟩) (List.replicate n z).length n Z.cells.toList:=by
      refine⟨by rw[hsz,ac];simp,.inr ⟨w.heap.size,Z.cells,(0,0),rfl,tf _ _,.inl rfl,oC,?_,?_,?_,hone⟩⟩
      ·exact Nat.le_trans b3 oF
      ·rw[hsz,← ac];simp
      ·rw[List.take_of_length_le];rw[hsz,ac];simp
     obtain⟨G',hG⟩:=zlc (t:=t) (v := .oel (s.nx+32*t) 1 0 0) (u := .pointer (some ⟨w.heap.size,0,none⟩)) (s':={ s with fr:=(t,.oel (s.nx+32*t) 1 0 0)::s.fr,hp:=(s.nx+32*t,.row τ (List.replicate n z) T)::s.hp }) hr b5 (qpl _ _) hrow hreps
      (fun b hb=>by injection hb with hb;subst hb;exact wF _) (fun G' hG'=>⟨w.heap.size,_,n,hG',oC⟩)
      (by have hb2:Nat.blt t s.n=true:=b6;simp only[St.add,hb2,qT];rfl)
     exact hN _ _ _ hG
    ·cases h
   ·cases h
  ·cases h
 ·rename_i T x t e1 e2;simp only at e1 e2;subst e1 e2;cases hbig:z6 P T<;>rw[hbig]at h<;>simp only[qT,qF,reduceCtorEq]at h
  split at h
  ·rename_i k sz hx;split at h
   ·rename_i τ l E n hl hagg hn;cases hb:τ.is1&&Nat.beq sz 1&&Nat.blt t s.n<;>rw[hb]at h<;>simp only[qT,qF,reduceCtorEq,qI,qP,decide_eq_true_eq]at h
    obtain⟨ac,rfl⟩:=h;simp only[qA]at hb;obtain⟨⟨b1,b2⟩,b3⟩:=hb;have hsz:τ.sz=1:=qhe b1;obtain⟨B,n0,c0,ho,hxe⟩:=bh hr hx;obtain⟨ad,c',h1,h3⟩:=hr.fin.mem.holds _ _ hl;rw[ho]at h1;simp only[qI,qP]at h1;obtain⟨rfl,rfl,rfl⟩:=h1;rcases h3 with⟨h3,_⟩|⟨g,vs,fz,k1,k2,k3,k4,k5,k6,k7,k8,k9⟩
    ·cases h3
    ·simp only[qI,Addr.mk.injEq,and_true]at k1;subst k1;have hfl:(l.flatMap τ.enc).length=n:=by rw[pa,hsz,ac,Nat.mul_one]
     have hload:ow P T (l.flatMap τ.enc) 0=some (.agg (l.flatMap τ.enc)):=by
      unfold ow;rw[hagg,hn];have:Nat.ble (0+n) (l.flatMap τ.enc).length=true:=by rw[hfl,wO];simp
      simp only[this,qT,List.drop_zero];rw[List.take_of_length_le (by rw[hfl];exact wF _)]
     obtain⟨u,hu,us,rfl,hru⟩:=qds (P:=P) (w:=w) hload (B:=B) (o:=0) k7 (fun j u hu=>by
      rw[List.getElem?_take]at hu;split at hu
      ·rw[wO];exact cell_of_heap k2 hu
      ·cases hu)
     have hrun:(execOp a.eval ⟨some t,.load T x,ty,pos,after,guard⟩).run P w = .ok (.value (.agg us)) w:=by
      simp only[Nat.add_zero]at hu;simp[execOp,hxe,Instr.loadAt,Instr.sureAddr,hu]
     refine fm oC ?_
     unfold Oper.wp;rw[hrun];have hb2:Nat.blt t s.n=true:=b3;have:=q85 (G:=G) b1 hru;exact hN _ _ _ (jg (v := .arr τ l) hr (by simp only[St.add,hb2,qT,List.nil_append]) (by simpa using this))
   ·cases h
  ·cases h
 ·rename_i T x y e1 e2;simp only at e1 e2;subst e1 e2;cases hbig:z6 P T<;>rw[hbig]at h<;>simp only[qT,qF,reduceCtorEq]at h
  split at h
  ·rename_i k sz τ l hx hy;split at h
   ·rename_i τ0 l0 E0 n hl hn;cases hb:τ.is1&&τ0.is1&&Nat.beq sz 1<;>rw[hb]at h<;>simp only[qT,qF,reduceCtorEq,qI,qP,qA,decide_eq_true_eq]at h
    obtain⟨⟨ac,hlen2⟩,rfl⟩:=h;simp only[qA]at hb;obtain⟨⟨b1,b2⟩,b3⟩:=hb;have hsz:τ.sz=1:=qhe b1;have hsz0:τ0.sz=1:=qhe b2;obtain⟨B,n0,c0,ho0,hxe⟩:=bh hr hx;obtain⟨us,hye,hus⟩:=zsq b1 (bh hr hy);obtain⟨ad,c,h1,h3⟩:=hr.fin.mem.holds _ _ hl;rw[ho0]at h1;simp only[qI,qP]at h1;obtain⟨rfl,rfl,rfl⟩:=h1;rcases h3 with⟨h3,_⟩|⟨g,vs,fz,k1,k2,k3,k4,k5,k6,k7,k8,k9⟩
    ·cases h3
    ·simp only[qI,Addr.mk.injEq,and_true]at k1;subst k1;have hul:us.toList.length=n:=by rw[← hus.length,pa,hsz,hlen2,Nat.mul_one]
     have hones:∀v∈us.toList,v.oneCell'=true:=qt hus (by
      rw[qvp b1];have:∀l:List τ.den,AV.ones (l.map τ.av)=true:=by
       intro l
       induction l with
       |nil=>rfl|cons x l ih=>
        simp only[List.map_cons,AV.ones,ih,Bool.and_true];cases τ<;>first|rfl|cases b1
      exact this l)
     have hle:l0.length<=vs.size:=by rw[k6,hsz0,Nat.mul_one];exact k4
     obtain⟨w',cur',m1,m2,m3,m4⟩:=qhx (P:=P) B 0 E0 fz us.toList 0 vs w k2 oA k3 hones
     have hrun:(execOp a.eval ⟨none,.store T x y,ty,pos,after,guard⟩).run P w = .ok .skip w':=by
      have hul':us.size=n:=by simpa using hul
      simp[execOp,Instr.storeAt,hxe,hye,Instr.sureAddr,storeVar,ir hn,Value.cells,hul',m1]
     refine fm oC ?_
     unfold Oper.wp;rw[hrun];have hcs:cur'.size=vs.size:=by rw[← Array.length_toList,m3,qh7,Array.length_toList]
     refine hN G _ _ ⟨hr.defers,hr.size,hr.frame,fun m hm hlm=>hr.fresh m hm ?_,?_⟩
     ·simp only[ag]at hlm;cases hbq:Nat.beq k m
      ·rw[hbq]at hlm;exact hlm
      ·rw[hbq]at hlm;cases hlm
     ·refine hr.fin.update (bx' := .row τ l E0) hl (B:=B) (by simp[Gh.at,ho0]) (by simp[Gh.at,ho0]) m4 ⟨some ⟨B,0,none⟩,c0,by rw[ac];exact ho0,.inr ⟨B,cur',fz,rfl,m2,by rw[hcs];exact k3,by rw[ac];exact k4,k5,by rw[hcs,hsz,← hsz0];exact k6,?_,?_,k9⟩⟩ k9
      ·rw[m3,hsz,Nat.mul_one,Nat.add_zero];have:=zac us.toList vs.toList 0 (by simp only[Array.length_toList]at hul ⊢;omega)
       rw[wO,List.take_zero,List.nil_append]at this;rw[hlen2,← hul,this];exact hus
      ·intro u hu;rw[m3]at hu;rcases qh8 _ _ _ _ hu with hu|hu
       ·exact k8 u hu
       ·exact hones u hu
   ·cases h
  ·cases h
 ·rename_i T x i t e1 e2;simp only at e1 e2;subst e1 e2;cases hbig:z6 P T<;>rw[hbig]at h<;>simp only[qT,qF,reduceCtorEq]at h
  split at h
  ·rename_i n E hu;split at h
   ·rename_i k sz hx hsz;cases hb:Nat.beq sz 1&&Nat.blt t s.n<;>rw[hb]at h<;>simp only[qT,qF,reduceCtorEq]at h
    simp only[qA]at hb;have b1:=qN hb.1;subst b1;obtain⟨B,n0,c0,ho,hxe⟩:=bh hr hx;have hb2:Nat.blt t s.n=true:=hb.2;have key:∀(j:Nat)(kk:IntKind),a.eval i = .int kk (j:Int)->j<n->s'={ s with fr:=(t,.oel k 1 j 0)::s.fr }->lz P ⟨some t,.indexAddr T x i,ty,pos,after,guard⟩ a w N:=by
     intro j kk hi hj hs';have hrun:(execOp a.eval ⟨some t,.indexAddr T x i,ty,pos,after,guard⟩).run P w = .ok (.value (.pointer (some ⟨B,j,none⟩))) w:=by
      simp[execOp,hxe,hi,Instr.indexAt,asIntOf,bm hu,ir hsz,ov,Instr.sureAddr,hj]
     refine fm oC ?_
     unfold Oper.wp;rw[hrun];subst hs';exact hN _ _ _ (jg (v := .oel k 1 j 0) hr (by simp[St.add,hb2,qT,List.nil_append]) ⟨B,n0,c0,ho,oC⟩)
    split at h
    ·rename_i kk j hi;simp at h;obtain⟨⟨h1,h2⟩,h3⟩:=h;have hie:a.eval i = .int kk j:=mb hr hi;exact key j.toNat kk (by rw[Int.toNat_of_nonneg h1];exact hie) oA h3.symm
    ·rename_i c hi;simp only[qI,qP,Bool.or_eq_true,decide_eq_true_eq]at h;obtain⟨h1,h3⟩:=h;have hie:a.eval i = .int .u8 c.toNat:=mb hr hi;have hlt:c.toNat<n:=by
      rcases h1 with h1|h1
      ·have:=Nat.le_of_ble_eq_true h1;have:=c.toNat_lt;omega
      ·exact h1
     exact key c.toNat .u8 hie hlt h3.symm
    ·cases h
   ·cases h
  ·cases h
 ·cases h
end
def q77:TypeDesc->Bool|.interface _=>false|_=>true
def q73(P:Program)(s:St)(o:Oper):Option (Bool×St):=
 match o.op,o.dst with
 |.makeInterface T x,some tt=>match s.ev x,P.underlying T with|some v,some d=>bif q77 d&&Nat.blt tt s.n then some (true,{ s with fr:=(tt,.iface T v)::s.fr }) else none|_,_=>none
 |.build T parts,some tt=>bif z6 P T then match parts.toList with
  |[]=>match P.underlying T with
   |some (.array n E)=>match q97 P E,qgd P s T [] with
    |some τ,some ([],.agg zs)=>match τ.zero1 with|some z=>bif Nat.beq zs.length n&&xd τ zs&&Nat.blt tt s.n then some (true,{ s with fr:=(tt,.arr τ (List.replicate n z))::s.fr }) else none|none=>none
    |_,_=>none
   |_=>none
  |_=>none else none
 |.binOp op t x y _,some tt=>match s.ev y,P.underlying t with
  | some (.val (.slice none 0 0)),some (.slice _)=>bif Nat.blt tt s.n then(match s.ev x,op with
   |some (.own k),.eql=>match ag s.hp k with|some (.row _ l _)=>some (decide (0<l.length),{ s with fr:=(tt,.val (.bool false))::s.fr })|_=>none
   |some (.own k),.neq=>match ag s.hp k with|some (.row _ l _)=>some (decide (0<l.length),{ s with fr:=(tt,.val (.bool true))::s.fr })|_=>none
   |some (.val (.slice none 0 0)),.eql=>some (true,{ s with fr:=(tt,.val (.bool true))::s.fr })|some (.val (.slice none 0 0)),.neq=>some (true,{ s with fr:=(tt,.val (.bool false))::s.fr })| _,_=>none) else none
  |_,_=>none
 |_,_=>none
def zqt{τ:Ty}{x:AV}{z:τ.den}{G G':Gh}{v:Value}(h:wh τ x=true)(hz:τ.zero1=some z)(hr:aj x G v):am (τ.enc z) G' [v]:=by
 cases τ with
 |int k=>
  cases x<;>simp only[wh,wJ,qA,decide_eq_true_eq]at h
  obtain⟨rfl,rfl⟩:=h;cases hz;exact⟨hr,trivial⟩
 |byte=>
  cases x<;>simp only[wh,wJ,decide_eq_true_eq]at h
  subst h;cases hz;exact⟨hr,trivial⟩
 |bool=>
  cases x with
  |bool b=>
   cases b
   ·cases hz;exact⟨hr,trivial⟩
   ·cases h
  |_=>cases h
 |str=>
  cases x with
  |str l=>
   cases l
   ·cases hz;exact⟨hr,trivial⟩
   ·cases h
  |_=>cases h
 |_=>cases hz
def zeu{τ:Ty}{z:τ.den}{G G':Gh}(hz:τ.zero1=some z):∀{zs:List AV}{vs:List Value},xd τ zs=true->am zs G vs->am ((List.replicate zs.length z).flatMap τ.enc) G' vs
 |[],[],_,_=>trivial|x::zs,v::vs,h,hr=>by
  simp only[xd,qA]at h;rw[qL,List.replicate_succ,List.flatMap_cons];exact qav (vs:=[v]) (zqt h.1 hz hr.1) (zeu hz h.2 hr.2)
 |[],_::_,_,h=>h.elim|_::_,[],_,h=>h.elim
section
variable{P:Program}{vjc:World}{vi7:Gh}{vi9:List (Nat×ah)}{G:Gh}{s:St}{a:Act}{w:World}
def z3b{P:Program}{t E:TypeId}(hu:P.underlying t=some (.slice E))(d:Nat)(x:Option Addr)(n c:Nat)(w:World)(h:x=none->n=0/\c=0) :
  (Op.equalIn (d+1) t (.slice x n c) (.slice none 0 0)).run P w = .ok x.isNone w:=by
 cases x with
 |none=>obtain⟨rfl,rfl⟩:=h rfl;simp[Op.equalIn,bm hu]
 |some a=>simp[Op.equalIn,bm hu]
def z3a{P:Program}{t E:TypeId}(hu:P.underlying t=some (.slice E))(x:Option Addr)(n c:Nat)(w:World)(h:x=none->n=0/\c=0) :
  (Op.equal t (.slice x n c) (.slice none 0 0)).run P w = .ok x.isNone w:=z3b hu 9999 x n c w h
def zy7(hr:ak vjc vi7 vi9 G s a w){o:Oper}{s':St}(h:q73 P s o=some (true,s')){N:Act->World->Prop}(hN:∀G' a' w',ak vjc vi7 vi9 G' s' a' w'->N a' w'):lz P o a w N:=by
 obtain⟨dst,op,ty,pos,after,guard⟩:=o;unfold q73 at h;split at h
 ·rename_i T x tt e1 e2;simp only at e1 e2;subst e1 e2;split at h
  ·rename_i v d hx hu;cases hb:q77 d&&Nat.blt tt s.n<;>rw[hb]at h<;>simp only[qT,qF,reduceCtorEq,qI,qP,true_and]at h
   subst h;simp only[qA]at hb;refine fm oC ?_
   unfold Oper.wp;have hrun:(execOp a.eval ⟨some tt,.makeInterface T x,ty,pos,after,guard⟩).run P w = .ok (.value (.iface T (a.eval x))) w:=by
    have h1:=hb.1;cases d<;>simp only[q77,wJ]at h1<;>simp[execOp,Instr.makeInterface,bm hu]
   rw[hrun];exact hN G _ _ (jg (v := .iface T v) hr oT ⟨_,rfl,bh hr hx⟩)
  ·cases h
 ·rename_i T parts tt e1 e2;simp only at e1 e2;subst e1 e2;cases hbig:z6 P T<;>rw[hbig]at h<;>simp only[qT,qF,reduceCtorEq]at h
  split at h
  ·rename_i hp;split at h
   ·rename_i n E hu;split at h
    ·rename_i τ zs hτ hbu;split at h
     ·rename_i z hz;cases hb:Nat.beq zs.length n&&xd τ zs&&Nat.blt tt s.n<;>rw[hb]at h<;>simp only[qT,qF,reduceCtorEq,qI,qP,true_and]at h
      subst h;simp only[qA]at hb;have b1:=qN hb.1.1;rw[← hp]at hbu;obtain⟨u,hu1,us,rfl,hu3⟩:=zec hr hbu;refine fm oC ?_
      unfold Oper.wp;have hrun:(execOp a.eval ⟨some tt,.build T parts,ty,pos,after,guard⟩).run P w = .ok (.value (.agg us)) w:=by
       simp only[execOp,Sem.run_bind,hu1,Result.andThen_ok];rfl
      rw[hrun];have hrep:=zeu (G':=G.data) hz hb.1.2 hu3;rw[b1]at hrep;have:=q85 (zcy hz) (G:=G) hrep;exact hN G _ _ (jg (v := .arr τ (List.replicate n z)) hr oT this)
     ·cases h
    ·cases h
   ·cases h
  ·cases h
 ·rename_i op t x y p tt e1 e2;simp only at e1 e2;subst e1 e2;split at h
  ·rename_i E hy hu;cases hb:Nat.blt tt s.n<;>rw[hb]at h<;>simp only[qT,qF,reduceCtorEq]at h
   have hye:a.eval y = .slice none 0 0:=bh hr hy;have go:∀(op:BinOp)(q:Bool)(ad:Option Addr)(n c:Nat),a.eval x = .slice ad n c->(ad=none->n=0/\c=0)->(op = .eql/\q=ad.isNone\/op = .neq/\q = !ad.isNone) ->
     s'={ s with fr:=(tt,.val (.bool q))::s.fr }->lz P ⟨some tt,.binOp op t x y p,ty,pos,after,guard⟩ a w N:=by
    intro op q ad n c hxe hnil hq hs';subst hs';refine fm oC ?_
    unfold Oper.wp;have hq':=z3a (P:=P) hu ad n c w hnil;have hrun:(execOp a.eval ⟨some tt,.binOp op t x y p,ty,pos,after,guard⟩).run P w = .ok (.value (.bool q)) w:=by
     rcases hq with⟨rfl,rfl⟩|⟨rfl,rfl⟩<;>simp[execOp,hxe,hye,eqGuard,binOp,hq']
    rw[hrun];exact hN G _ _ (jg (v := .val (.bool q)) hr (by simp only[St.add,hb,qT,List.nil_append]) rfl)
   have owned:∀{k:Nat}{τ:Ty}{l:List τ.den}{E:TypeId},s.ev x=some (.own k)->ag s.hp k=some (.row τ l E)->0<l.length->∃ad n c,a.eval x = .slice (some ad) n c:=by
    intro k τ l E hx hl hpos;obtain⟨ad0,n0,c0,o1,hxe⟩:=bh hr hx;obtain⟨ad,c',q1,q2⟩:=hr.fin.mem.holds _ _ hl;rw[o1]at q1;simp only[qI,qP]at q1;obtain⟨rfl,rfl,rfl⟩:=q1;rcases q2 with⟨_,q,_⟩|⟨g,vs,fz,rfl,_⟩
    ·subst q;simp at hpos
    ·exact⟨_,_,_,hxe⟩
   split at h
   ·rename_i k hx;split at h
    ·rename_i hl;simp only[qI,qP,decide_eq_true_eq]at h;obtain⟨ad,n,c,he⟩:=owned hx hl h.1;exact go _ false _ _ _ he (fun q=>by cases q) (.inl ⟨rfl,rfl⟩) h.2.symm
    ·cases h
   ·rename_i k hx;split at h
    ·rename_i hl;simp only[qI,qP,decide_eq_true_eq]at h;obtain⟨ad,n,c,he⟩:=owned hx hl h.1;exact go _ true _ _ _ he (fun q=>by cases q) (.inr ⟨rfl,rfl⟩) h.2.symm
    ·cases h
   ·rename_i hx;simp only[qI,qP,true_and]at h;exact go _ true _ _ _ (bh hr hx) (fun _=>⟨rfl,rfl⟩) (.inl ⟨rfl,rfl⟩) h.symm
   ·rename_i hx;simp only[qI,qP,true_and]at h;exact go _ false _ _ _ (bh hr hx) (fun _=>⟨rfl,rfl⟩) (.inr ⟨rfl,rfl⟩) h.symm
   ·cases h
  ·cases h
 ·cases h
end
def f9(s:List UInt8)(p:Nat):Nat×Nat:=Utf8.decode ⟨s.toArray⟩ p
def q68{R:Type}(P:Program)(s:St)(o:Oper)(K:St->Option R):Option (Option R):=
 match o.op,o.dst with
 |.range T x,some t=>match P.underlying T,s.ev x with
  |some .string,some (.str l)=>bif a8 (s.nx+32*t) s.hp&&Nat.blt t s.n then
    some (K { s with fr:=(t,.ptr (s.nx+32*t) 0)::s.fr,hp:=(s.nx+32*t,.it l 0)::s.hp }) else none
  |_,_=>none
 |.next x true,some t=>match s.ev x with
  |some (.ptr b 0)=>match ag s.hp b with
   |some (.it l p)=>bif Nat.blt t s.n then
     some (bif Nat.blt p l.length then K { s with fr:=(t,.tup [.val (.bool true),.int .i64 p,.int .i32 (f9 l p).1])::s.fr,hp:=(b,.it l (p+(f9 l p).2))::s.hp }
      else K { s with fr:=(t,.tup [.val (.bool false)])::s.fr }) else none
   |_=>none
  |_=>none
 |.convert src dst x,some t=>match P.underlying src,P.underlying dst,s.evy x with|some _,some .string,some (.int _ n)=>bif Nat.blt t s.n then some (K { s with fr:=(t,.str (qr n))::s.fr }) else none|_,_,_=>none
 |_,_=>none
section
variable{P:Program}{vjc:World}{vi7:Gh}{vi9:List (Nat×ah)}{G:Gh}{s:St}{a:Act}{w:World}
def ztc(w:World)(B:Nat)(o:Obj):e7 (fun b=>b=B) w (w.putObj B o):=
 ⟨rfl,rfl,rfl,oC,fun k _ hne=>World.putObj_heap_other hne⟩
def ak.setBox(hr:ak vjc vi7 vi9 G s a w){n:Nat}{bx bx':ah}{B:Nat}(hn:ag s.hp n=some bx)(hB:G.at n bx=some B)(hB':∀c,G.at n bx'=some c->c=B){o:Obj}
  (hok:dp G (w.putObj B o) n bx') (hi:∀o,G.imm B o=none):ak vjc vi7 vi9 G { s with hp:=(n,bx')::s.hp } a (w.putObj B o):=
 ⟨hr.defers,hr.size,hr.frame,fun m hm hl=>hr.fresh m hm (by
  simp only[ag]at hl;cases hb:Nat.beq n m
  ·rw[hb]at hl;exact hl
  ·rw[hb]at hl;cases hl),hr.fin.update' hn hB hB' (ztc w B o) hok hi⟩
def Gh.addBox(G:Gh)(k:Nat)(B:Nat):Gh:={ imm:=G.imm,box:=fun m=>bif Nat.beq m k then some B else G.box m,own:=G.own }
def Gh.addBox_le{k B:Nat}(h:G.box k=none):G.le (G.addBox k B):=
 ⟨fun _ _ _ h=>h,fun n B' hn=>by
  show(bif Nat.beq n k then some B else G.box n)=_
  cases hb:Nat.beq n k
  ·exact hn
  ·(have:=qN hb;subst this;rw[h]at hn;cases hn),fun _ _ h=>h⟩
def Gh.addBox_self{k B:Nat}:(G.addBox k B).box k=some B:=by show(bif Nat.beq k k then some B else G.box k)=_;simp
def Gh.addBox_ne{k B m:Nat}(h:m≠k):(G.addBox k B).box m=G.box m:=by
 show(bif Nat.beq m k then some B else G.box m)=_
 cases hb:Nat.beq m k
 ·rfl
 ·exact absurd (qN hb) h
def ak.newBox(hr:ak vjc vi7 vi9 G s a w){k:Nat}{bx:ah}{o:Obj}(hk:ag s.hp k=none)(hkx:s.nx<=k)(hat:∀b,(G.addBox k w.heap.size).at k bx=some b->b=w.heap.size)
  (hok:dp (G.addBox k w.heap.size) (w.alloc o) k bx):ak vjc vi7 vi9 (G.addBox k w.heap.size) { s with hp:=(k,bx)::s.hp } a (w.alloc o):=by
 obtain⟨hkb,hko⟩:=hr.fresh k hkx hk;have hle:G.le (G.addBox k w.heap.size):=Gh.addBox_le hkb;have hl1:∀n b,ag [(k,bx)] n=some b->n=k/\b=bx:=fun n b h=>by
  simp only[ag]at h;cases hb:Nat.beq k n
  ·rw[hb]at h;cases h
  ·rw[hb]at h;simp only[qT,qI]at h;exact⟨(qN hb).symm,h.symm⟩
 have hlt:∀b o v,G.imm b o=some v->b<w.heap.size:=fun b o v h=>World.block_lt_of_cell? _ _ (hr.fin.mem.agree _ _ _ h)
 refine⟨by obtain⟨bs,h1,h2⟩:=hr.defers;exact⟨bs,h1,uy hle.box h2⟩,hr.size,fun i x hx=>by obtain⟨v,h1,h2⟩:=hr.frame i x hx;exact⟨v,h1,h2.le hle⟩,fun m hm hl => ?_,?_⟩
 ·simp only[ag]at hl;cases hb:Nat.beq k m
  ·rw[hb]at hl;obtain⟨h1,h2⟩:=hr.fresh m hm hl;exact⟨by rw[Gh.addBox_ne (fun e=>by subst e;simp at hb)];exact h1,h2⟩
  ·rw[hb]at hl;cases hl
 ·refine hr.fin.extend (new:=[(k,bx)]) hle (qpl _ _) (fun _ _ _ h => .inl h) (fun b o v h => ?_) hr.fin.mem.one ?_ ?_ ?_
  ·rw[World.cell?_alloc_lt _ _ _ (hlt b o v h)];exact hr.fin.mem.agree _ _ _ h
  ·intro n b h;obtain⟨rfl,_⟩:=hl1 n b h;exact hk
  ·intro n b h;obtain⟨rfl,rfl⟩:=hl1 n b h;exact⟨hok,fun b hb=>by rw[hat b hb];exact wF _⟩
  ·intro n m b b' c h1 h2 _ _;obtain⟨rfl,_⟩:=hl1 n b h1;obtain⟨rfl,_⟩:=hl1 m b' h2;rfl
def tx(l:List UInt8):(⟨l.toArray⟩:ByteArray).size=l.length:=by simp[ByteArray.size]
def zxd{R:Type}(hr:ak vjc vi7 vi9 G s a w){o:Oper}{K:St->Option R}{r:Option R}{x:R}(h:q68 P s o K=some r)(hx:r=some x){N:Act->World->Prop}(hN:∀s',K s'=some x->∀G' a' w',ak vjc vi7 vi9 G' s' a' w'->N a' w'):lz P o a w N:=by
 obtain⟨dst,op,ty,pos,after,guard⟩:=o;unfold q68 at h;split at h
 ·rename_i T y t e1 e2;simp only at e1 e2;subst e1 e2;split at h
  ·rename_i l hu hy;cases hb:a8 (s.nx+32*t) s.hp&&Nat.blt t s.n<;>rw[hb]at h<;>simp only[qT,qF,reduceCtorEq,qI]at h
   simp only[qA]at hb;subst h;have hk:=np hb.1 _ (wF _) oA
   have he:a.eval y = .string ⟨l.toArray⟩:=bh hr hy;refine fm oC ?_
   unfold Oper.wp;have hrun:(execOp a.eval ⟨some t,.range T y,ty,pos,after,guard⟩).run P w = .ok (.value (.pointer (some ⟨w.heap.size,0,none⟩))) (w.iter ⟨l.toArray⟩ 0):=by
    simp[execOp,he,run_range_string w T ⟨l.toArray⟩ hu]
   rw[hrun];have hr1:=hr.newBox (k:=s.nx+32*t) (bx := .it l 0) (o := .stringIter ⟨l.toArray⟩ 0) hk oA (fun b hb=>by
    have hb:(G.addBox (s.nx+32*t) w.heap.size).box (s.nx+32*t)=some b:=hb;rw[Gh.addBox_self]at hb;injection hb with hb;exact hb.symm)
    ⟨w.heap.size,Gh.addBox_self,tf _ _,fun o=>by
     cases hq:(G.addBox (s.nx+32*t) w.heap.size).imm w.heap.size o with
     |none=>rfl|some v=>
      have:=World.block_lt_of_cell? _ _ (hr.fin.mem.agree _ _ _ hq);simp at this⟩
   exact hN _ hx _ _ _ (jg (v := .ptr (s.nx+32*t) 0) hr1 oT ⟨w.heap.size,Gh.addBox_self,rfl⟩)
  ·cases h
 ·rename_i y t e1 e2;simp only at e1 e2;subst e1 e2;split at h
  ·rename_i b hy;split at h
   ·rename_i l p hb;cases ht:Nat.blt t s.n<;>rw[ht]at h<;>simp only[qT,qF,reduceCtorEq,qI]at h
    subst h;obtain⟨B,hB,he⟩:=bh hr hy;obtain⟨B',k1,k2,k3⟩:=hr.fin.mem.holds b _ hb;rw[hB]at k1;injection k1 with k1;subst k1
    refine fm oC ?_
    unfold Oper.wp;cases hp:Nat.blt p l.length<;>rw[hp]at hx<;>simp only[qT,qF]at hx
    ·have hp':¬p<(⟨l.toArray⟩:ByteArray).size:=fun hlt=>by
      rw[tx]at hlt;have:Nat.blt p l.length=true:=Nat.ble_eq_true_of_le hlt;rw[hp]at this;cases this
     have hrun:(execOp a.eval ⟨some t,.next y true,ty,pos,after,guard⟩).run P w = .ok (.value (.tuple #[.bool false])) w:=by
      simp[execOp,he,Instr.next,getObj,Sem.run,k2,hp']
     rw[hrun];exact hN _ hx _ _ _ (jg (v := .tup [.val (.bool false)]) hr (by simp only[St.add,ht,qT,List.nil_append]) ⟨_,rfl,rfl,trivial⟩)
    ·have hp':p<(⟨l.toArray⟩:ByteArray).size:=by
      rw[tx];exact Nat.le_of_ble_eq_true hp
     have hlt:=(Array.getElem?_eq_some_iff.1 k2).1;have hrun:(execOp a.eval ⟨some t,.next y true,ty,pos,after,guard⟩).run P w = .ok (.value (.tuple #[.bool true,.int .i64 p,.int .i32 (f9 l p).1])) (w.putObj B (.stringIter ⟨l.toArray⟩ (p+(f9 l p).2))):=by
      simp[execOp,he,Instr.next,getObj,setObj,Sem.run,k2,hp',goInt,f9,World.putObj]
     rw[hrun];have hr1:=hr.setBox (bx' := .it l (p+(f9 l p).2)) (o := .stringIter ⟨l.toArray⟩ (p+(f9 l p).2)) hb (show G.at b (.it l p)=some B from hB) (fun c hc=>by
      have hc:G.box b=some c:=hc;rw[hB]at hc;exact(qJ hc).symm) ⟨B,hB,World.putObj_heap_same hlt,k3⟩ k3
     exact hN _ hx _ _ _ (jg (v := .tup [.val (.bool true),.int .i64 p,.int .i32 (f9 l p).1]) hr1 (by simp only[St.add,ht,qT,List.nil_append]) ⟨_,rfl,rfl,rfl,rfl,trivial⟩)
   ·cases h
  ·cases h
 ·rename_i src d y t e1 e2;simp only at e1 e2;subst e1 e2;split at h
  ·rename_i ds k n hs hd hy;cases ht:Nat.blt t s.n<;>rw[ht]at h<;>simp only[qT,qF,reduceCtorEq,qI]at h
   subst h;have he:a.eval y = .int k n:=mb hr hy;refine fm oC ?_
   unfold Oper.wp;have hrun:(execOp a.eval ⟨some t,.convert src d y,ty,pos,after,guard⟩).run P w = .ok (.value (.string ⟨(qr n).toArray⟩)) w:=by
    simp[execOp,he,convert,run_underlying hs,run_underlying hd,Conv.intToString,qr]
   rw[hrun];exact hN _ hx _ _ _ (jg (v := .str (qr n)) hr (by simp only[St.add,ht,qT,List.nil_append]) rfl)
  ·cases h
 ·cases h
end
section
variable{P:Program}{vjc:World}{vi7:Gh}{vi9:List (Nat×ah)}{G:Gh}{s:St}{a:Act}{w:World}
end
def qdt(s:List UInt8):Nat->Nat->List Int|0,_=>[]|f+1,i=>bif Nat.blt i s.length then((f9 s i).1:Int)::qdt s f (i+(f9 s i).2) else[]
def iu(s:List UInt8):List Int:=qdt s s.length 0
def q7z{R:Type}(P:Program)(s:St)(o:Oper)(K:St->Option R):Option (Option R):=
 match o.op,o.dst with
 |.makeSlice T x y,some t=>match P.underlying T with
  |some (.slice E)=>match q97 P E,qa0 P E,er P E,s.evy x,s.evy y with
   |some τ,some [z0],some 1,some (.int _ n),some (.int _ m)=>match τ.zero1 with
    |some z=>bif wh τ z0&&og P E&&a8 (s.nx+32*t) s.hp&&Nat.blt t s.n then
      some (bif decide (0<=n/\n=m/\n<=4294967296) then K { s with fr:=(t,.own (s.nx+32*t))::s.fr,hp:=(s.nx+32*t,.row τ (List.replicate n.toNat z) E)::s.hp } else none) else none
    |none=>none
   |_,_,_,_,_=>none
  |_=>none
 |.convert src dst x,some t=>match P.underlying src,P.underlying dst with
  |some .string,some (.slice E)=>match P.underlying E,s.ev x with
   |some (.int .i32),some (.str b)=>bif a8 (s.nx+32*t) s.hp&&Nat.blt t s.n then
     some (bif decide (b.length<=4294967296) then K { s with fr:=(t,.own (s.nx+32*t))::s.fr,hp:=(s.nx+32*t,.row (.int .i32) (iu b) E)::s.hp } else none) else none
   |_,_=>none
  |some (.slice E),some .string=>match P.underlying E,s.ev x with
   |some (.int .i32),some v=>match qph s v with|some l=>bif Nat.blt t s.n then some (K { s with fr:=(t,.str (tv l))::s.fr }) else none|none=>none
   |_,_=>none
  |_,_=>none
 |.slice T x lo (some hi) (some mx),some t=>match P.underlying T with
  |some (.slice E)=>match er P E,jz s lo,s.evy hi,s.evy mx,s.ev x with
   |some sz,some a,some (.int _ b),some (.int _ c),some (.sl τ l)=>bif Nat.beq τ.sz sz&&Nat.blt t s.n then
     some (bif decide (0<=a.getD 0/\a.getD 0<=b/\b<=c/\c<=(l.length:Int)) then K { s with fr:=(t,.sl τ ((l.drop (a.getD 0).toNat).take (b.toNat-(a.getD 0).toNat)))::s.fr } else none) else none
   |_,_,_,_,_=>none
  |_=>none
 |_,_=>none
def zlu(s:List UInt8):∀(f i:Nat)(acc:Array Value),Conv.runesFrom ⟨s.toArray⟩ f i acc=acc++((qdt s f i).map (Value.int .i32)).toArray
 |0,i,acc=>by simp[Conv.runesFrom,qdt]|f+1,i,acc=>by
  unfold Conv.runesFrom qdt;rw[tx];by_cases h:i<s.length
  ·have hb:Nat.blt i s.length=true:=Nat.ble_eq_true_of_le h;rw[qX h,hb];simp;rw[show Utf8.decode (⟨s.toArray⟩:ByteArray) i=f9 s i from rfl]
   rw[zlu s f];simp
  ·have hb:Nat.blt i s.length=false:=by
    cases hq:Nat.blt i s.length
    ·rfl
    ·exact absurd (Nat.le_of_ble_eq_true hq) h
   rw[qW h,hb];simp
def zlw(s:List UInt8):∀(f i:Nat),(qdt s f i).length<=f
 |0,_=>wF _|f+1,i=>by
  unfold qdt;cases Nat.blt i s.length
  ·simp
  ·simp;have:=zlw s f (i+(f9 s i).2);omega
def zgw(G:Gh):∀(l:List Int),am (List.flatMap (β:=AV) (Ty.int .i32).enc l) G (l.map (Value.int .i32))
 |[]=>trivial|_::l=>⟨rfl,zgw G l⟩
section
variable{P:Program}{vjc:World}{vi7:Gh}{vi9:List (Nat×ah)}{G:Gh}{s:St}{a:Act}{w:World}
def z35(w:World)(o:Obj):cm w (w.drew.alloc o):=⟨rfl,rfl,rfl,oC,fun k hk _=>Below.heap_alloc w.drew _ k hk⟩
def vi5{τ:Ty}{z:τ.den}{x:AV}{G G':Gh}{v:Value}(h:wh τ x=true)(hz:τ.zero1=some z)(hr:aj x G v)(n:Nat):am ((List.replicate n z).flatMap τ.enc) G' (List.replicate n v):=by
 induction n with
 |zero=>trivial|succ n ih=>
  rw[List.replicate_succ,List.replicate_succ,List.flatMap_cons];exact qav (vs:=[v]) (zqt h hz hr) ih
def zyo{R:Type}(hr:ak vjc vi7 vi9 G s a w){o:Oper}{K:St->Option R}{r:Option R}{x:R}(h:q7z P s o K=some r)(hx:r=some x){N:Act->World->Prop}(hN:∀s',K s'=some x->∀G' a' w',ak vjc vi7 vi9 G' s' a' w'->N a' w'):lz P o a w N:=by
 obtain⟨dst,op,ty,pos,after,guard⟩:=o;unfold q7z at h;split at h
 ·rename_i T y1 y2 t e1 e2;simp only at e1 e2;subst e1 e2;split at h
  ·rename_i E hu;split at h
   ·rename_i τ z0 kn n km m hτ hz0 hs1 hn hm;split at h
    ·rename_i z hz;cases hb:wh τ z0&&og P E&&a8 (s.nx+32*t) s.hp&&Nat.blt t s.n<;>rw[hb]at h<;>simp only[qT,qF,reduceCtorEq,qI]at h
     simp only[qA]at hb;subst h;cases hd:decide (0<=n/\n=m/\n<=4294967296)<;>rw[hd]at hx<;>simp only[qT,qF,reduceCtorEq]at hx
     obtain⟨h0,rfl,h2⟩:=of_decide_eq_true hd;have en:a.eval y1 = .int kn n:=mb hr hn;have em:a.eval y2 = .int km n:=mb hr hm;obtain⟨i,zv,hi,hzv,q1,_,q3,q4,q5⟩:=qqj hb.1.1.2 hs1;unfold qa0 at hz0;rw[hi]at hz0;simp only[hzv,qI]at hz0;obtain⟨v,hv,hzo⟩:∃v,zv.cells.toList=[v]/\z0=qo v:=by
      cases hq:zv.cells.toList with
      |nil=>rw[hq]at hz0;cases hz0
      |cons v l=>rw[hq]at hz0;cases l with|nil=>simp only[qo6,List.cons.injEq,and_true]at hz0;exact⟨v,rfl,hz0.symm⟩|cons _ _=>simp[qo6]at hz0
     have hvc:zv.cells=#[v]:=by rw[← Array.toArray_toList (xs:=zv.cells),hv]
     have hv1:v.oneCell'=true:=q4 v (by rw[hv];exact List.mem_singleton.2 rfl)
     have hbytes:(i.bytes:Int)*n<=281474976710656:=by
      have:(i.bytes:Int)*n<=32768*4294967296:=Int.mul_le_mul oA h2 h0 oA
      omega
     have hr1:=run_make (P:=P) w T E i zv hu hi hzv kn km n n h0 (Int.le_refl _) hbytes oA
     have hmc:madeCells zv.cells (n.toNat*i.size)=Array.replicate n.toNat v:=by
      rw[q5,Nat.mul_one,hvc];apply Array.ext
      ·simp[madeCells]
      ·intro j h1 h2;simp[madeCells,Nat.mod_one]
     rw[hmc]at hr1;have hsz:τ.sz=1:=qhe (zcy hz);have hz0v:aj z0 G v:=by rw[hzo];exact qw2 G v
     have ac:(List.replicate n.toNat z).length=n.toNat:=List.length_replicate;obtain⟨G',hG⟩:=qpf (τ:=τ) (l:=List.replicate n.toNat z) (E:=E) (ad:=some ⟨w.heap.size,0,none⟩) (c:=n.toNat) (us:=List.replicate n.toNat v) (w':=w.alloc (.cells (Array.replicate n.toNat v) E)) hr hb.1.2 (qpl _ _)
      ⟨by rw[ac,hsz];simp,.inr ⟨w.heap.size,Array.replicate n.toNat v,(0,0),rfl,tf _ _,.inl rfl,by rw[ac];exact wF _,oM,by simp[hsz],by rw[ac,hsz];simp,fun u hu=>by
       rw[Array.toList_replicate]at hu;rw[(List.mem_replicate.1 hu).2];exact hv1⟩⟩ (vi5 hb.1.1.1 hz hz0v _) (fun b hb=>by injection hb with hb;simp at hb;omega)
      (s':={ s with fr:=(t,.own (s.nx+32*t))::s.fr,hp:=(s.nx+32*t,.row τ (List.replicate n.toNat z) E)::s.hp }) oY
     refine fm oC ?_
     unfold Oper.wp;rw[show(execOp a.eval ⟨some t,.makeSlice T y1 y2,ty,pos,after,guard⟩).run P w = .ok (.value (.slice (some ⟨w.heap.size,0,none⟩) n.toNat n.toNat)) (w.alloc (.cells (Array.replicate n.toNat v) E)) by simp[execOp,en,em,hr1]]
     rw[ac]at hG;exact hN _ hx _ _ _ hG
    ·cases h
   ·cases h
  ·cases h
 ·rename_i src dst y t e1 e2;simp only at e1 e2;subst e1 e2;split at h
  ·rename_i E hs hd;split at h
   ·rename_i b he hy;cases hb:a8 (s.nx+32*t) s.hp&&Nat.blt t s.n<;>rw[hb]at h<;>simp only[qT,qF,reduceCtorEq,qI]at h
    simp only[qA]at hb;subst h;cases hdd:decide (b.length<=4294967296)<;>rw[hdd]at hx<;>simp only[qT,qF,reduceCtorEq]at hx
    have hbl:=of_decide_eq_true hdd;have hev:a.eval y = .string ⟨b.toArray⟩:=bh hr hy;have hrf:Conv.runesFrom (⟨b.toArray⟩:ByteArray) (⟨b.toArray⟩:ByteArray).size 0 #[]=((iu b).map (Value.int .i32)).toArray:=by
     rw[zlu,tx];simp[iu]
    have hlr:(iu b).length<=b.length:=zlw b _ _;have hrun:=run_runes_of_string (P:=P) w src dst E (⟨b.toArray⟩:ByteArray) hs hd he (by rw[hrf];simp;omega)
    rw[hrf]at hrun;simp only[List.size_toArray,wC]at hrun;have hcap:(iu b).length<=grownCap w (iu b).length 0 E:=grownCap_ge _ _ _ _;have hcap2:grownCap w (iu b).length 0 E<=maxLen:=grownCap_le_maxLen _ _ _ _ oM
    obtain⟨G',hG⟩:=qpf (τ := .int .i32) (l:=iu b) (E:=E) (ad:=some ⟨w.heap.size,0,none⟩) (c:=grownCap w (iu b).length 0 E) (us:=(iu b).map (Value.int .i32)) (w':=w.drew.alloc (.cells (((iu b).map (Value.int .i32)).toArray++Array.replicate (grownCap w (iu b).length 0 E-(iu b).length) (.int .i32 0)) E)) hr hb.1 (z35 _ _)
     ⟨by rw[wC];exact(Nat.mul_one _).symm,.inr ⟨w.heap.size,_,(0,0),rfl,tf w.drew _,.inl rfl,hcap,hcap2,by rw[show(Ty.int IntKind.i32).sz=1 from rfl,Nat.mul_one,Array.size_append,Array.size_replicate,List.size_toArray,wC];omega,by rw[show(Ty.int IntKind.i32).sz=1 from rfl,Nat.mul_one,Array.toList_append,show List.length (α:=(Ty.int IntKind.i32).den) (iu b)=((iu b).map (Value.int .i32)).length from(wC _).symm];exact List.take_left' rfl,fun u hu=>by
      simp only[Array.toList_append,wA,List.mem_map,Array.toList_replicate,List.mem_replicate]at hu;rcases hu with⟨c,_,rfl⟩|⟨_,rfl⟩<;>rfl⟩⟩ (zgw _ _) (fun b hb=>by injection hb with hb;simp at hb;omega)
     (s':={ s with fr:=(t,.own (s.nx+32*t))::s.fr,hp:=(s.nx+32*t,.row (.int .i32) (iu b) E)::s.hp }) oY
    refine fm oC ?_
    unfold Oper.wp;rw[show(execOp a.eval ⟨some t,.convert src dst y,ty,pos,after,guard⟩).run P w = .ok (.value (.slice (some ⟨w.heap.size,0,none⟩) (iu b).length (grownCap w (iu b).length 0 E))) (w.drew.alloc (.cells (((iu b).map (Value.int .i32)).toArray++Array.replicate (grownCap w (iu b).length 0 E-(iu b).length) (.int .i32 0)) E)) by simp[execOp,hev,hrun]]
    exact hN _ hx _ _ _ hG
   ·cases h
  ·rename_i E hs hd;split at h
   ·rename_i v he hy;split at h
    ·rename_i l hl;cases ht:Nat.blt t s.n<;>rw[ht]at h<;>simp only[qT,qF,reduceCtorEq,qI]at h
     subst h;have hsrc:=zlv hl;have hrun:(convert src dst (a.eval y)).run P w = .ok (.string ⟨(tv l).toArray⟩) w:=by
      rcases qpk hr (bh hr hy) hsrc with⟨b',rfl,_⟩|⟨ad,c,us,he1,h1,h2,h3⟩
      ·simp[qph]at hl
      ·rw[he1];have hus:=q86 h1
       cases ad with
       |none=>
        have:l=[]:=by
         rcases h3 with h3|⟨_,_,h3,_⟩
         ·rw[hus]at h3;simpa using h3
         ·cases h3
        subst this;rw[run_convert_runes_nil w src dst E _ c hs he hd];rfl
       |some ad=>
        have hlc:=qhw (P:=P) (w:=w) (ad:=ad) h3;have ac:us.length=l.length:=by rw[hus];simp
        rw[ac,hus]at hlc;rw[run_convert_runes_string w src dst E _ _ _ hs he hd,run_runesToString w ad l.length c l hlc,zlt]
     refine fm oC ?_
     unfold Oper.wp;rw[show(execOp a.eval ⟨some t,.convert src dst y,ty,pos,after,guard⟩).run P w = .ok (.value (.string ⟨(tv l).toArray⟩)) w by simp[execOp,hrun]]
     exact hN _ hx _ _ _ (jg (v := .str (tv l)) hr (by simp only[St.add,ht,qT,List.nil_append]) rfl)
    ·cases h
   ·cases h
  ·cases h
 ·rename_i T y lo hi mx t e1 e2;simp only at e1 e2;subst e1 e2;split at h
  ·rename_i E hu;split at h
   ·rename_i sz lo' kb b kc c τ l hsz hlo hhi hmx hy;cases hb:Nat.beq τ.sz sz&&Nat.blt t s.n<;>rw[hb]at h<;>simp only[qT,qF,reduceCtorEq,qI]at h
    simp only[qA]at hb;subst h;cases hdd:decide (0<=lo'.getD 0/\lo'.getD 0<=b/\b<=c/\c<=(l.length:Int))<;>rw[hdd]at hx<;>simp only[qT,qF,reduceCtorEq]at hx
    obtain⟨g0,g1,g2,g3⟩:=of_decide_eq_true hdd;have hq:=qN hb.1;subst hq;obtain⟨ad,cp,hv,hc,hl⟩:=bh hr hy;have eb:a.eval hi = .int kb b:=mb hr hhi;have ec:a.eval mx = .int kc c:=mb hr hmx;have hbounds:(Instr.sliceBounds true l.length cp (lo.map a.eval) (some (a.eval hi)) (some (a.eval mx))).run P w = .ok ((lo'.getD 0).toNat,b.toNat,c.toNat) w:=by
     rcases sy hr hlo with⟨rfl,rfl⟩|⟨xo,kx,m,rfl,rfl,hxo⟩
     ·simp[Instr.sliceBounds,eb,ec,tw (P:=P) (w:=w) (show 0<=c by omega) (show c<=(cp:Int) by omega),tw (P:=P) (w:=w) (show 0<=b by omega) (show b<=(c.toNat:Int) by omega)]
     ·simp only[Option.getD_some]at g0 g1;simp[Instr.sliceBounds,eb,ec,hxo,tw (P:=P) (w:=w) (show 0<=c by omega) (show c<=(cp:Int) by omega),tw (P:=P) (w:=w) (show 0<=b by omega) (show b<=(c.toNat:Int) by omega),tw (P:=P) (w:=w) g0 (show m<=(b.toNat:Int) by omega)]
    generalize lo'.getD 0=i0 at *
    have hrun:(Instr.sliceAt T (a.eval y) (lo.map a.eval) (some (a.eval hi)) (some (a.eval mx))).run P w = .ok (.slice (if c.toNat=i0.toNat then ad else ad.map (·.add (i0.toNat*τ.sz))) (b.toNat-i0.toNat) (c.toNat-i0.toNat)) w:=by
     simp[Instr.sliceAt,Instr.slice,bm hu,hv,hbounds,ir hsz]
    refine fm oC ?_
    unfold Oper.wp
    rw[show(execOp a.eval ⟨some t,.slice T y lo (some hi) (some mx),ty,pos,after,guard⟩).run P w = .ok (.value (.slice (if c.toNat=i0.toNat then ad else ad.map (·.add (i0.toNat*τ.sz))) (b.toNat-i0.toNat) (c.toNat-i0.toNat))) w by simp[execOp,hrun]]
    refine hN _ hx _ _ _ (jg (v := .sl τ ((l.drop i0.toNat).take (b.toNat-i0.toNat))) hr (by simp[St.add,hb.2,qT,List.nil_append]) ?_)
    have ac:((l.drop i0.toNat).take (b.toNat-i0.toNat)).length=b.toNat-i0.toNat:=by simp;omega
    refine⟨_,_,by rw[ac],by rw[ac];omega,?_⟩
    rcases hl with rfl|⟨B,o,rfl,hcells⟩
    ·exact .inl oC
    ·by_cases hci:c.toNat=i0.toNat
     ·exact .inl (List.eq_nil_of_length_eq_zero (by rw[ac];omega))
     ·refine .inr ⟨B,o+i0.toNat*τ.sz,by rw[qW hci];simp[ov],fun k y hy => ?_⟩
      rw[List.getElem?_take]at hy;split at hy
      ·rw[List.getElem?_drop]at hy;have:=hcells _ _ hy
       rwa [show o+i0.toNat*τ.sz+k*τ.sz=o+(i0.toNat+k)*τ.sz by rw[Nat.add_mul];omega]
      ·cases hy
   ·cases h
  ·cases h
 ·cases h
end
section
variable{P:Program}{vjc:World}{vi7:Gh}{vi9:List (Nat×ah)}{G:Gh}{s:St}{a:Act}{w:World}
end
section
variable{P:Program}{vjc:World}{vi7:Gh}{vi9:List (Nat×ah)}{G:Gh}{s:St}{a:Act}{w:World}
end
mutual
def zjr:AV->List Nat|.own k=>[k]|.agg xs=>qdm xs|.tup xs=>qdm xs|.fn _ _ xs=>qdm xs|_=>[]
def qdm:List AV->List Nat|[]=>[]|x::xs=>zjr x++qdm xs
end
mutual
def qvw:Pt->AV->List Nat
 |.h _,x=>zjr x|.agg ps,x=>match x with|.agg xs=>qda ps xs|_=>[]
 |.tup ps,x=>match x with|.tup xs=>qda ps xs|_=>[]
 |.fn _ ps,x=>match x with|.fn _ _ xs=>qda ps xs|_=>[]
 |_,_=>[]
def qda:List Pt->List AV->List Nat
 |[],_=>[]|p::ps,xs=>match xs with|x::xs=>qvw p x++qda ps xs|[]=>[]
end
def frzL:List Nat->St->St
 |[],s=>s|k::ks,s=>match s.freeze k with|some s'=>frzL ks s'|none=>frzL ks s
mutual
def nmP:Pt->AV->NM
 |.ptr b _,x=>match quh x with|some (b',_)=>[(b,b')]|none=>[]
 |.own k,x=>match quf x with|some k'=>[(k,k')]|none=>[]
 |.el k _,x=>match qn2 x with|some (k',_)=>[(k,k')]|none=>[]
 |.iel _ k _,x=>match que x with|some (_,k',_)=>[(k,k')]|none=>[]
 |.yld k,x=>match quj x with|some k'=>[(k,k')]|none=>[]
 |.pn k,x=>match qug x with|some k'=>[(k,k')]|none=>[]
 |.agg ps,x=>match asAgg x with|some xs=>qaq ps xs|none=>[]
 |.tup ps,x=>match qui x with|some xs=>qaq ps xs|none=>[]
 |.fn _ ps,x=>match qud x with|some (_,xs)=>qaq ps xs|none=>[]
 |_,_=>[]
def qaq:List Pt->List AV->NM
 |[],_=>[]|p::ps,xs=>match xs with|x::xs=>nmP p x++qaq ps xs|[]=>[]
end
def qwf:List (Nat×bc)->Nat->Option bc|[],_=>none|(k,v)::r,i=>bif Nat.beq k i then some v else qwf r i
def coB1(bs:List (Nat×bc))(b:Nat):List Pt->Nat->St->St
 |[],_,s=>s|p::ps,off,s=>match p,ag s.hp b with
  |.own k,some (.cells cs _)=>match qwf bs k,cs[off]? with
   | some (.row τ E),some x=>bif nh x then(match s.ownCell b off τ E with
     |some s'=>coB1 bs b ps (off+1) s'| none=>coB1 bs b ps (off+1) s) else coB1 bs b ps (off+1) s
   |_,_=>coB1 bs b ps (off+1) s
  |p,some (.cells cs _)=>match cs[off]? with|some x=>coB1 bs b ps (off+1) (frzL (qvw p x) s)|none=>coB1 bs b ps (off+1) s
  |_,_=>coB1 bs b ps (off+1) s
def coB(bs:List (Nat×bc))(nm:NM):List (Nat×bc)->St->St
 |[],s=>s|(n,p)::r,s=>match p,a7 nm n with
  |.cells ps _,some b=>coB bs nm r (coB1 bs b ps 0 s)|.dat _ _,some b=>match ag s.hp b with|some (.cells cs _)=>coB bs nm r (frzL (qdm cs) s)|_=>coB bs nm r s
  |_,_=>coB bs nm r s
def coF(bs:List (Nat×bc)):List (Nat×Pt)->St->St
 |[],s=>s|(i,p)::r,s=>match p,ag s.fr i with
  | .own k,some x=>bif nh x then(match qwf bs k with
    |some (.row τ E)=>match s.ownNil i τ E with|some s'=>coF bs r s'|none=>coF bs r s
    | _=>coF bs r s) else coF bs r s
  |p,some x=>coF bs r (frzL (qvw p x) s)|_,none=>coF bs r s
def nmF(fr:List (Nat×AV)):List (Nat×Pt)->NM
 |[]=>[]|(i,p)::r=>match ag fr i with|some x=>nmP p x++nmF fr r|none=>nmF fr r
def xx(s:St):List (Nat×bc)->NM->NM
 |[],nm=>nm|(n,p)::r,nm=>match a7 nm n with
  |some b=>match p,ag s.hp b with|.cells ps _,some (.cells cs _)=>xx s r (nm++qaq ps cs)|.loop _ _ _ _ fr _ _ D,some (.loop _ _ _ _ fr' _ _ D')=>xx s r (nm++((D,D')::nmF fr' fr))|_,_=>xx s r nm
  |none=>xx s r nm
def LS.co(ls:LS)(ids:NM)(s:St):St:=coF ls.hp ls.fr (coB ls.hp (xx s ls.hp (ids++nmF s.fr ls.fr)) ls.hp s)
section
variable{P:Program}{vjc:World}{vi7:Gh}{vi9:List (Nat×ah)}{a:Act}{w:World}
def ak.frzL:∀{ks:List Nat}{s:St}{G:Gh},ak vjc vi7 vi9 G s a w->∃G',ak vjc vi7 vi9 G' (frzL ks s) a w
 |[],s,G,hr=>⟨G,hr⟩|k::ks,s,G,hr=>by
  simp[Sym.frzL];split
  ·rename_i s' h;obtain⟨G',hr'⟩:=hr.freeze h;exact ak.frzL hr'
  ·exact ak.frzL hr
def ak.coB1{bs:List (Nat×bc)}{b:Nat}:∀{ps:List Pt}{off:Nat}{s:St}{G:Gh},ak vjc vi7 vi9 G s a w->∃G',ak vjc vi7 vi9 G' (coB1 bs b ps off s) a w
 |[],_,s,G,hr=>⟨G,hr⟩|p::ps,off,s,G,hr=>by
  unfold Sym.coB1;split
  ·split
   ·rename_i x _ _;cases hb:nh x<;>simp
    ·exact ak.coB1 hr
    ·split
     ·rename_i h;obtain⟨G',hr'⟩:=hr.ownCell h;exact ak.coB1 hr'
     ·exact ak.coB1 hr
   ·exact ak.coB1 hr
  ·split
   ·obtain⟨G',hr'⟩:=hr.frzL;exact ak.coB1 hr'
   ·exact ak.coB1 hr
  ·exact ak.coB1 hr
def ak.coB{bs:List (Nat×bc)}{nm:NM}:∀{l:List (Nat×bc)}{s:St}{G:Gh},ak vjc vi7 vi9 G s a w->∃G',ak vjc vi7 vi9 G' (coB bs nm l s) a w
 |[],s,G,hr=>⟨G,hr⟩|(n,p)::r,s,G,hr=>by
  unfold Sym.coB;split
  ·obtain⟨G',hr'⟩:=hr.coB1;exact ak.coB hr'
  ·split
   ·obtain⟨G',hr'⟩:=hr.frzL;exact ak.coB hr'
   ·exact ak.coB hr
  ·exact ak.coB hr
def ak.coF{bs:List (Nat×bc)}:∀{l:List (Nat×Pt)}{s:St}{G:Gh},ak vjc vi7 vi9 G s a w->∃G',ak vjc vi7 vi9 G' (coF bs l s) a w
 |[],s,G,hr=>⟨G,hr⟩|(i,p)::r,s,G,hr=>by
  unfold Sym.coF;split
  ·rename_i x _;cases hb:nh x<;>simp
   ·exact ak.coF hr
   ·split
    ·split
     ·rename_i h;obtain⟨G',hr'⟩:=hr.ownNil h;exact ak.coF hr'
     ·exact ak.coF hr
    ·exact ak.coF hr
  ·obtain⟨G',hr'⟩:=hr.frzL;exact ak.coF hr'
  ·exact ak.coF hr
def ak.co{s:St}{G:Gh}(hr:ak vjc vi7 vi9 G s a w)(ls:LS)(ids:NM):∃G',ak vjc vi7 vi9 G' (ls.co ids s) a w:=by
 obtain⟨G',hr'⟩:=hr.coB (bs:=ls.hp) (nm:=xx s ls.hp (ids++nmF s.fr ls.fr)) (l:=ls.hp);exact hr'.coF
end
def nmY(k:zw)(m:Nat):NM:=match k with|.yld m'=>[(m',m)]|_=>[]
def qvb(g:ee->Bool):List ee->Option ee|[]=>none|e::es=>bif g e then some e else qvb g es
def zf6(tb:Tb)(s:St)(op:Op):Option St:=
 match op with
 |.call { callee := .value g,args,argTypes:=_ }=>match s.ev g,s.evs args.toList with
  |some (.fn (.func f) [] cap),some xs=>match qvb (fun e=>ve f e.key) tb.ents with|some e=>some (coB e.hp (xx s e.hp (qaq e.args (xs++cap))) e.hp (frzL (qda e.args (xs++cap)) s))|none=>none
  |some (.yld m),some ys=>match ag s.hp m with
   | some (.loop _ _ _ _ _ _ tag _)=>match qvb (fun e=>match e.key with
     |.yld m'=>match qwf e.hp m' with|some (.loop _ _ _ _ _ _ tag' _)=>Nat.beq tag' tag|_=>false
     | _=>false) tb.ents with
    |some e=>some (coB e.hp (xx s e.hp (nmY e.key m++qaq e.args ys)) e.hp (frzL (qda e.args ys) s))|none=>none
   |_=>none
  |_,_=>none
 |.slice _ x _ _ _=>match s.ev x with|some (.own k)=>some (frzL [k] s)|_=>none
 |.buildSlice _ _ parts=>match s.evs (parts.toList.map (·.2)) with|some xs=>some (frzL (qdm xs) s)|none=>none
 |_=>none
def exq{R:Type}(P:Program)(tb:Tb)(s:St)(o:Oper)(K:St->Option R):Option R:=
 match xe P tb s o.op with
 |some q=>q.K fun d=>match w9 P s d o with|some (_,s')=>K s'|none=>none
 |none=>none
def zia:Option Rq->Bool|some _=>true|none=>false
def ex1{R:Type}(P:Program)(tb:Tb)(s:St)(o:Oper)(K:St->Option R):Option R:=
 match q7z P s o K with
 |some r=>r|none=>match q68 P s o K with
 |some r=>r|none=>match q73 P s o with
 |some (b,s')=>bif b then K s' else none|none=>match q49 P s o with
 |some (b,s')=>bif b then K s' else none|none=>match q6r P s o with
 |some (b,s')=>bif b then K s' else none|none=>match q6l tb s o K with
 |some r=>r|none=>match q9p P tb s o with
 |some (b,s')=>bif b then K s' else none|none=>bif zia (xe P tb s o.op) then exq P tb s o K else
  match zf6 tb s o.op with|some s'=>exq P tb s' o K|none=>none
def St.know(s:St)(x:Operand)(b:Bool):St:=match x with|.tmp t=>bif Nat.blt t s.n then{ s with fr:=(t,.val (.bool b))::s.fr } else s|_=>s
def qg6(ops:Array Oper)(j:Nat):Operand:=match ops[j]? with
 |some o=>match o.dst with|some t => .tmp t|none => .const undef
 |none => .const undef
def op1{R:Type}(P:Program)(tb:Tb)(ops:Array Oper)(s:St)(o:Oper)(K:St->Option R):Option R:=
 match o.guard with
 |none=>ex1 P tb s o K|some (j,want)=>match xl ops s j with
  |none=>none|some none=>match s.add o.dst (.val undef) [] with|some s'=>K s'|none=>none
  |some (some b)=>bif b then
    (bif want then ex1 P tb (s.know (qg6 ops j) true) o K else match(s.know (qg6 ops j) true).add o.dst (.val undef) [] with
     |some s'=>K s'| none=>none)
   else(bif want then(match(s.know (qg6 ops j) false).add o.dst (.val undef) [] with
     |some s'=>K s'| none=>none) else ex1 P tb (s.know (qg6 ops j) false) o K)
def qdl{R:Type}(P:Program)(tb:Tb)(ops:Array Oper):List Oper->St->(St->Option R)->Option R|[],s,K=>K s|o::l,s,K=>op1 P tb ops s o fun s'=>qdl P tb ops l s' K
section
variable{P:Program}{vjc:World}{vi7:Gh}{vi9:List (Nat×ah)}{G:Gh}{a:Act}{w:World}{R:Type}{tb:Tb}{s:St}
def zg3(hT:∀e∈tb.ents,e.Sound P)(hr:ak vjc vi7 vi9 G s a w){o:Oper}{K:St->Option R}{x:R}(h:exq P tb s o K=some x){N:Act->World->Prop}(hN:∀s',K s'=some x->∀G' a' w',ak vjc vi7 vi9 G' s' a' w'->N a' w'):lz P o a w N:=by
 unfold exq at h;split at h
 ·rename_i q hq;obtain⟨d,h1,h2⟩:=Rq.K_some h;split at h2
  ·rename_i ps s' ha;exact zer hr ha (ze1 hT hq h1 ha) (hN s' h2)
  ·cases h2
 ·cases h
def q6i(hT:∀e∈tb.ents,e.Sound P)(hr:ak vjc vi7 vi9 G s a w){o:Oper}{K:St->Option R}{x:R}(h:ex1 P tb s o K=some x){N:Act->World->Prop}(hN:∀s',K s'=some x->∀G' a' w',ak vjc vi7 vi9 G' s' a' w'->N a' w'):lz P o a w N:=by
 unfold ex1 at h;split at h
 ·rename_i r' hs;exact zyo hr hs h hN
 split at h
 ·rename_i r' hs;exact zxd hr hs h hN
 split at h
 ·rename_i b s' hs;cases b<;>simp at h
  exact zy7 hr hs (hN s' h)
 split at h
 ·rename_i b s' hs;cases b<;>simp at h
  exact zsp hr hs (hN s' h)
 split at h
 ·rename_i b s' hs;cases b<;>simp at h
  exact zvz hr hs (hN s' h)
 split at h
 ·rename_i r' hs;exact zvq hT hr hs h hN
 split at h
 ·rename_i b s' hs;cases b<;>simp at h
  exact z4c hr hs (hN s' h)
 cases hq:zia (xe P tb s o.op)<;>rw[hq]at h<;>simp at h
 ·split at h
  ·rename_i s' hs;have:∃G',ak vjc vi7 vi9 G' s' a w:=by
    unfold zf6 at hs;split at hs
    ·split at hs
     ·split at hs
      ·simp at hs;subst hs;obtain⟨G1,hr1⟩:=hr.frzL;exact hr1.coB
      ·cases hs
     ·split at hs
      ·split at hs
       ·simp at hs;subst hs;obtain⟨G1,hr1⟩:=hr.frzL;exact hr1.coB
       ·cases hs
      ·cases hs
     ·cases hs
    ·split at hs
     ·simp at hs;subst hs;exact hr.frzL
     ·cases hs
    ·split at hs
     ·simp at hs;subst hs;exact hr.frzL
     ·cases hs
    ·cases hs
   obtain⟨G',hr'⟩:=this;exact zg3 hT hr' h hN
  ·cases h
 ·exact zg3 hT hr h hN
def ak.know(hr:ak vjc vi7 vi9 G s a w){x:Operand}{b:Bool}(h:a.eval x = .bool b):ak vjc vi7 vi9 G (s.know x b) a w:=by
 unfold St.know;split
 ·rename_i t;cases hb:Nat.blt t s.n
  ·exact hr
  ·refine⟨hr.defers,hr.size,fun i y hy => ?_,hr.fresh,hr.fin⟩
   simp[qT,ag]at hy;cases hq:Nat.beq t i
   ·rw[hq]at hy;exact hr.frame i y hy
   ·rw[hq]at hy;simp at hy;subst hy;have:=qN hq;subst this;have hlt:t<a.tmps.size:=by rw[hr.size];exact Nat.lt_of_lt_of_le (Nat.lt_succ_self t) (Nat.le_of_ble_eq_true hb)
    refine⟨a.tmps[t],by simp[hlt],?_⟩
    have h:a.tmps.getD t undef = .bool b:=h;simp[Array.getD,hlt,dif_pos]at h;exact h
 ·exact hr
def vi0{ops:Array Oper}{j:Nat}{b:Bool}(h:yielded ops a.tmps j=some b):a.eval (qg6 ops j) = .bool b:=by
 unfold qg6;unfold yielded at h
 cases ho:ops[j]? with
 |none=>rw[ho]at h;simp at h|some o=>
  rw[ho]at h
  cases hd:o.dst with
  |none=>simp[hd]at h|some t=>
   simp[hd,qB]at h ⊢;show a.tmps.getD t undef=_;rw[Array.getD_eq_getD_getElem?]
   cases hv:a.tmps[t]? with
   |none=>rw[hv]at h;simp at h|some v=>
    rw[hv]at h;simp at h ⊢;split at h
    ·rename_i e;simp at h;subst h;exact qJ e
    ·cases h
def ak.skip(hr:ak vjc vi7 vi9 G s a w){dst:Option Tmp}{s':St}(h:s.add dst (.val undef) []=some s'):ak vjc vi7 vi9 G s' (a.put dst undef) w:=jg hr h rfl
def zjm(hT:∀e∈tb.ents,e.Sound P)(hr:ak vjc vi7 vi9 G s a w){ops:Array Oper}{i:Nat}{o:Oper}(ho:ops[i]? = some o){K:St->Option R}{x:R}(h:op1 P tb ops s o K=some x){N:Act->World->Prop}(hN:∀s',K s'=some x->∀G' a' w',ak vjc vi7 vi9 G' s' a' w'->N a' w'):uw P ops i N a w:=by
 have skip:∀{s:St},ak vjc vi7 vi9 G s a w->(match s.add o.dst (.val undef) [] with|some s'=>K s'|none=>none)=some x->¬Region.wanted o (yielded ops a.tmps)=true->uw P ops i N a w:=fun hr h hw=>by
  split at h
  ·rename_i s' hs;exact q56 ho hw (hN s' h _ _ _ (hr.skip hs))
  ·cases h
 unfold op1 at h;split at h
 ·rename_i hg;exact qgx ho (by simp[Region.wanted,hg]) (q6i hT hr h hN)
 ·rename_i j want hg;split at h
  ·cases h
  ·rename_i hgo;have hy:=qvy hr hgo;exact skip hr h (by simp[Region.wanted,hg,hy])
  ·rename_i b hgo;have hy:=qvy hr hgo;have hk:=hr.know (vi0 hy);cases b<;>cases want<;>simp at h
   ·exact qgx ho (by simp[Region.wanted,hg,hy]) (q6i hT hk h hN)
   ·exact skip hk h (by simp[Region.wanted,hg,hy])
   ·exact skip hk h (by simp[Region.wanted,hg,hy])
   ·exact qgx ho (by simp[Region.wanted,hg,hy]) (q6i hT hk h hN)
def zjp(hT:∀e∈tb.ents,e.Sound P){ops:Array Oper}{K:St->Option R}{x:R}{N:Act->World->Prop}(hN:∀s',K s'=some x->∀G' a' w',ak vjc vi7 vi9 G' s' a' w'->N a' w') :
  ∀(l:List Oper)(i:Nat)(s:St)(G:Gh)(a:Act)(w:World),(∀j,j<l.length->ops[i+j]? = l[j]?)->qdl P tb ops l s K=some x->ak vjc vi7 vi9 G s a w->xh P ops N (List.range' i l.length) a w
 |[],i,s,G,a,w,_,h,hr=>hN s h G a w hr|o::l,i,s,G,a,w,hl,h,hr=>by
  simp;exact zjm hT hr (by have:=hl 0 oC;simpa using this) h (fun s' h' G' a' w' hr'=>zjp hT hN l (i+1) s' G' a' w' (fun j hj=>by have:=hl (j+1) oB;simpa [Nat.add_assoc,Nat.add_comm 1 j] using this) h' hr')
end
end Go.Sym
namespace Go.Sym
open Go.RowKit
variable[LC]
def qhk:List (Nat×Bool)->Nat->Option Bool|[],_=>none|(k,v)::r,i=>bif Nat.beq k i then some v else qhk r i
def qxa(t:Nat):List HR->Nat->Option Nat|[],_=>none|r::rs,j=>bif Nat.beq r.dst t then some j else qxa t rs (j+1)
def zig(pred:List Nat)(Rs:List HR)(kn:List (Nat×Bool))(op:Op):Option Bool:=
 match op with
 |.pick (.tmp c) _ _=>match qxa c Rs 0 with|some j=>bif bf pred j then qhk kn j else none|none=>none
 |_=>none
def zex(P:Program)(tb:Tb)(t:St)(pred:List Nat)(Rs:List HR)(kn:List (Nat×Bool))(op:Op):Option Rq:=
 match zig pred Rs kn op with|some d=>some (.tot (.b d))|none=>xe P tb t op
def exH{R:Type}(P:Program)(tb:Tb)(t:St)(pred:List Nat)(Rs:List HR)(kn:List (Nat×Bool))(o:Oper)(K:AV->List (Nat×ah)->Option R):Option R:=
 match zex P tb t pred Rs kn o.op with
 |some q=>q.K fun d=>match f5 P t d o with|some (_,v,new)=>K v new|none=>none
 |none=>none
def qov:AV->Bool|.bool _=>true|_=>false
def w6(pred:List Nat)(Rs:List HR)(j:Nat)(d:Bool)(kn:List (Nat×Bool)):List (Nat×Bool):=match Rs[j]? with|some r=>bif bf pred j&&qov r.v then(j,d)::kn else kn|none=>kn
def opH{R:Type}(P:Program)(tb:Tb)(ops:Array Oper)(t:St)(pred:List Nat)(Rs:List HR)(kn:List (Nat×Bool))(o:Oper)(K:AV->List (Nat×ah)->List (Nat×Bool)->Option R):Option R:=
 match o.guard with
 |none=>exH P tb t pred Rs kn o fun v new=>K v new kn
 |some (j,want)=>match xl ops t j with
  |none=>none|some none=>K (.val undef) [] kn|some (some b)=>match(bif bf pred j then qhk kn j else none) with
   |some d=>bif d==want then(exH P tb t pred Rs kn o fun v new=>K v new kn) else K (.val undef) [] kn
   |none=>bif b then(bif want then(exH P tb t pred Rs (w6 pred Rs j true kn) o fun v new=>K v new (w6 pred Rs j true kn)) else K (.val undef) [] (w6 pred Rs j true kn))
    else(bif want then K (.val undef) [] (w6 pred Rs j false kn) else(exH P tb t pred Rs (w6 pred Rs j false kn) o fun v new=>K v new (w6 pred Rs j false kn)))
def qv1{R:Type}(P:Program)(tb:Tb)(ops:Array Oper)(s:St)(K:List HR->List (Nat×Bool)->Option R):List Oper->Nat->List HR->List (Nat×Bool)->Option R
 |[],_,Rs,kn=>K Rs kn|o::l,i,Rs,kn=>match o.dst,pl Rs o.after.toList with
  |some d,some pred=>bif Nat.blt d s.n&&a8 (s.nx+32*d) s.hp&&td d Rs&&vk pred (lg ops o) Rs 0&&vy ops d pred i then
    opH P tb ops (up pred Rs 0 s) pred Rs kn o fun v new kn'=>qv1 P tb ops s K l (i+1) (Rs++[⟨d,v,new,pred⟩]) kn'
   else none
  |_,_=>none
def q5u:List Oper->Nat->Nat|[],n=>n|o::l,n=>bif Nat.ble 2 n&&qpx o (n-2) then q5u l (n-1) else n-1
def zhb(ops:Array Oper):List Oper->Nat->Nat|[],n=>n|o::l,n=>bif zkh ops o n then n else zhb ops l (n+1)
def kg(ops:Array Oper):Nat:=zhb ops (ops.toList.drop (q5u ops.toList.reverse ops.toList.length)) (q5u ops.toList.reverse ops.toList.length)
def qal(Rs:List HR)(kn:List (Nat×Bool)):List (Nat×Bool)->St->St
 |[],s=>s|(j,_)::l,s=>match qhk kn j,Rs[j]? with|some d,some r=>(qal Rs kn l s).know (.tmp r.dst) d|_,_=>qal Rs kn l s
def q6c{R:Type}(P:Program)(tb:Tb)(ops:Array Oper)(s:St)(K:St->Option R):Option R:=
 bif o6 ops.toList 0&&pq ops (kg ops)&&Nat.ble (kg ops) ops.toList.length then
  qv1 P tb ops s (fun Rs kn=>qdl P tb ops (ops.toList.drop (kg ops)) (qal Rs kn kn (mv Rs s)) K) (ops.toList.take (kg ops)) 0 [] []
 else none
section
variable{P:Program}{vjc:World}{vi7:Gh}{vi9:List (Nat×ah)}{G:Gh}{a:Act}{w:World}{R:Type}{tb:Tb}{s:St}
def oo(Rs:List HR)(kn:List (Nat×Bool)):Prop:=∀j d,qhk kn j=some d->∃r,Rs[j]? = some r/\r.v = .bool d
def zr7{pred:List Nat}{Rs:List HR}{j:Nat}{d:Bool}{kn:List (Nat×Bool)}(hk:oo Rs kn)(h:∀r,Rs[j]? = some r->bf pred j=true->qov r.v=true->r.v = .bool d):oo Rs (w6 pred Rs j d kn):=by
 unfold w6;split
 ·rename_i r hr;cases hb:bf pred j&&qov r.v
  ·exact hk
  ·simp at hb;intro j' d' h';simp[qT,qhk]at h';cases hq:Nat.beq j j'
   ·rw[hq]at h';exact hk j' d' h'
   ·rw[hq]at h';simp at h';subst h';have:=qN hq;subst this;exact⟨r,hr,h r hr hb.1 hb.2⟩
 ·exact hk
def zlf{t:Nat}:∀{rs:List HR}{j0 j:Nat},qxa t rs j0=some j->∃k r,j=j0+k/\rs[k]? = some r/\r.dst=t
 |[],j0,j,h=>by cases h
 |r::rs,j0,j,h=>by
  simp[qxa]at h;cases hq:Nat.beq r.dst t
  ·rw[hq]at h;obtain⟨k,r',h1,h2,h3⟩:=zlf h;exact⟨k+1,r',oA,by simpa using h2,h3⟩
  ·rw[hq]at h;simp at h;exact⟨0,r,oA,oC,qN hq⟩
def qvg(hT:∀e∈tb.ents,e.Sound P){t:St}{pred:List Nat}{Rs:List HR}{kn:List (Nat×Bool)}{o:Oper}{K:AV->List (Nat×ah)->Option R}{x:R}(hkn:oo Rs kn)(hv:∀j r,bf pred j=true->Rs[j]? = some r->ag t.fr r.dst=some r.v)
  (h:exH P tb t pred Rs kn o K=some x):∃ps d v new,f5 P t d o=some (ps,v,new)/\ax ps/\K v new=some x:=by
 unfold exH at h;split at h
 ·rename_i q hq;obtain⟨d,h1,h2⟩:=Rq.K_some h;split at h2
  ·rename_i ps v new ha;refine⟨ps,d,v,new,ha,?_,h2⟩;unfold zex at hq;split at hq
   ·rename_i d' hd;simp at hq;subst hq;have h1:d = .b d':=h1;subst h1;unfold zig at hd;split at hd
    ·rename_i c y z hop;split at hd
     ·rename_i j hj;obtain⟨k,r,rfl,i1,i2⟩:=zlf hj;rw[wO]at hd;cases hm:bf pred k<;>rw[hm]at hd<;>simp at hd
      obtain⟨r',j1,j2⟩:=hkn k d' hd;rw[i1]at j1;have:=qJ j1;subst this;have hl:=hv k r hm i1;rw[i2,j2]at hl;unfold f5 at ha;rw[hop]at ha;have hev:t.ev (.tmp c)=some (.bool d'):=hl;simp[di,hev]at ha;split at ha
      ·rename_i ps1 v1 e;simp at ha;obtain⟨rfl,_,_⟩:=ha;split at e
       ·simp at e;obtain⟨rfl,_⟩:=e;exact⟨trivial,trivial⟩
       ·cases e
      ·unfold jv at ha;rw[hop]at ha;cases ha
     ·cases hd
    ·cases hd
   ·exact ze0 hT hq h1 ha
  ·cases h2
 ·cases h
def zjn(hT:∀e∈tb.ents,e.Sound P){ops:Array Oper}{t:St}{pred:List Nat}{Rs:List HR}{kn:List (Nat×Bool)}{o:Oper}{K:AV->List (Nat×ah)->List (Nat×Bool)->Option R}{x:R}(hkn:oo Rs kn)
  (hv:∀j r,bf pred j=true->Rs[j]? = some r->ag t.fr r.dst=some r.v) (hd:∀(j:Nat)(r:HR),bf pred j=true->Rs[j]? = some r->∃oj:Oper,ops[j]? = some oj/\oj.dst=some r.dst)
  (h:opH P tb ops t pred Rs kn o K=some x):∃ps,∃c:y5,∃v new kn',ox P ops t c o=some (ps,v,new)/\ax ps/\oo Rs kn'/\K v new kn'=some x:=by
 unfold opH at h;unfold ox;split at h
 ·rename_i hg;obtain⟨ps,d,v,new,h1,h2,h3⟩:=qvg hT hkn hv h;exact⟨ps,(false,d),v,new,kn,by rw[hg];exact h1,h2,hkn,h3⟩
 ·rename_i j want hg;split at h
  ·cases h
  ·rename_i hgo;exact⟨[],(false,.none),_,_,kn,by simp[hg,hgo],trivial,hkn,h⟩
  ·rename_i b hgo;have hb:∀r,Rs[j]? = some r->bf pred j=true->qov r.v=true->r.v = .bool b:=fun r hr hm hi=>by
    obtain⟨oj,k1,k2⟩:=hd j r hm hr;have hl:=hv j r hm hr;unfold xl at hgo;simp[k1,k2,hl]at hgo;cases hrv:r.v<;>rw[hrv]at hi<;>simp[qov,wJ]at hi
    rw[hrv]at hgo;simp at hgo;subst hgo;rfl
   split at h
   ·rename_i d hkd;cases hm:bf pred j<;>rw[hm]at hkd<;>simp at hkd
    obtain⟨r,i1,i2⟩:=hkn j d hkd;have hbd:b=d:=by
     have:=hb r i1 hm (by rw[i2];rfl)
     rw[i2]at this;simpa using this.symm
    cases hw:d==want<;>rw[hw]at h<;>simp at h
    ·exact⟨[b=d],(d,.none),_,_,kn,by simp[hg,hgo,hw],⟨hbd,trivial⟩,hkn,h⟩
    ·obtain⟨ps,d',v,new,h1,h2,h3⟩:=qvg hT hkn hv h;exact⟨(b=d)::ps,(d,d'),v,new,kn,by simp[hg,hgo,hw,h1],⟨hbd,h2⟩,hkn,h3⟩
   ·have hkn':∀d,b=d->oo Rs (w6 pred Rs j d kn):=fun d e=>zr7 hkn (by subst e;exact hb)
    cases b<;>cases want<;>simp at h
    ·obtain⟨ps,d',v,new,h1,h2,h3⟩:=qvg hT (hkn' false rfl) hv h;exact⟨(false=false)::ps,(false,d'),v,new,_,by simp[hg,hgo,h1],⟨rfl,h2⟩,hkn' false rfl,h3⟩
    ·exact⟨[false=false],(false,.none),_,_,_,by simp[hg,hgo],⟨rfl,trivial⟩,hkn' false rfl,h⟩
    ·exact⟨[true=true],(true,.none),_,_,_,by simp[hg,hgo],⟨rfl,trivial⟩,hkn' true rfl,h⟩
    ·obtain⟨ps,d',v,new,h1,h2,h3⟩:=qvg hT (hkn' true rfl) hv h;exact⟨(true=true)::ps,(true,d'),v,new,_,by simp[hg,hgo,h1],⟨rfl,h2⟩,hkn' true rfl,h3⟩
def zeo{sel:List Nat}{d:Nat}:∀{rs:List HR}{j:Nat}{t:St},(∀r∈rs,r.dst≠d)->ag (up sel rs j t).fr d=ag t.fr d
 |[],_,_,_=>rfl|r::rs,j,t,h=>by
  simp[up];rw[zeo (fun r' hr'=>h r' (qE _ hr'))]
  cases bf sel j
  ·rfl
  ·simp[qT,St.addR,ag];have:=h r qH;cases hq:Nat.beq r.dst d
   ·rfl
   ·exact absurd (qN hq) this
def zen{sel:List Nat}:∀{rs:List HR}{j k:Nat}{t:St}{r:HR},rs[k]? = some r->bf sel (j+k)=true->(∀k' r',k<k'->rs[k']? = some r'->r'.dst≠r.dst)->ag (up sel rs j t).fr r.dst=some r.v
 |[],_,_,_,_,h,_,_=>by simp at h|r0::rs,j,0,t,r,h,hm,hd=>by
  simp at h;subst h;simp[up];rw[zeo (fun r' hr'=>by
   obtain⟨k,hk⟩:=List.getElem?_of_mem hr';exact hd (k+1) r' oA (by simpa using hk))]
  rw[Nat.add_zero]at hm;rw[hm];simp[St.addR,ag]
 |r0::rs,j,k+1,t,r,h,hm,hd=>by
  simp[up];exact zen (k:=k) (by simpa using h) (by rw[show j+1+k=j+(k+1) by omega];exact hm) (fun k' r' hk hr'=>hd (k'+1) r' oA (by simpa using hr'))
def zej{d:Nat}:∀{rs:List HR}{t:St},(∀r∈rs,r.dst≠d)->ag (mv rs t).fr d=ag t.fr d
 |[],_,_=>rfl|r::rs,t,h=>by
  simp[mv];rw[zej (fun r' hr'=>h r' (qE _ hr'))]
  show(bif Nat.beq r.dst d then some r.v else ag t.fr d)=_
  cases hb:Nat.beq r.dst d
  ·rfl
  ·exact absurd (qN hb) (h r qH)
def zei:∀{rs:List HR}{k:Nat}{t:St}{r:HR},rs[k]? = some r->(∀k' r',k<k'->rs[k']? = some r'->r'.dst≠r.dst)->ag (mv rs t).fr r.dst=some r.v
 |[],_,_,_,h,_=>by simp at h|r0::rs,0,t,r,h,hd=>by
  simp at h;subst h;simp[mv];rw[zej (fun r' hr'=>by
   obtain⟨k,hk⟩:=List.getElem?_of_mem hr';exact hd (k+1) r' oA (by simpa using hk))]
  show(bif Nat.beq r0.dst r0.dst then some r0.v else ag t.fr r0.dst)=_
  simp
 |r0::rs,k+1,t,r,h,hd=>by
  simp[mv];exact zei (k:=k) (by simpa using h) (fun k' r' hk hr'=>hd (k'+1) r' oA (by simpa using hr'))
def zih{Rs:List HR}(hdis:∀(k k':Nat)(r r':HR),k<k'->Rs[k]? = some r->Rs[k']? = some r'->r'.dst≠r.dst)(hr:ak vjc vi7 vi9 G (mv Rs s) a w){kn:List (Nat×Bool)}(hkn:oo Rs kn):∀{l:List (Nat×Bool)},ak vjc vi7 vi9 G (qal Rs kn l (mv Rs s)) a w
 |[]=>hr|(j,_)::l=>by
  have ih:=zih hdis hr hkn (l:=l);unfold qal;split
  ·rename_i d r h0 h1;obtain⟨r',i1,h2⟩:=hkn j d h0;rw[h1]at i1;have:=qJ i1;subst this;refine ih.know ?_;obtain⟨v,v1,v2⟩:=hr.frame r.dst _ (zei h1 (fun k' r' hk hr'=>hdis j k' r r' hk h1 hr'))
   rw[h2]at v2;have v2:v = .bool d:=v2;subst v2;show a.tmps.getD r.dst undef=_;rw[Array.getD_eq_getD_getElem?,v1];rfl
  ·exact ih
def zh0(hT:∀e∈tb.ents,e.Sound P){ops:Array Oper}{K:List HR->List (Nat×Bool)->Option R}{x:R}:∀(l:List Oper)(i:Nat)(Rs:List HR)(kn:List (Nat×Bool)),(∀j,j<l.length->ops[i+j]? = l[j]?)->Rs.length=i->oo Rs kn ->
  (∀j o,j<i->ops[j]? = some o->HOk P ops s Rs j o)->qv1 P tb ops s K l i Rs kn=some x->∃Rs' kn',K Rs' kn'=some x/\oo Rs' kn'/\Rs'.length=i+l.length/\∀j o,j<i+l.length->ops[j]? = some o->HOk P ops s Rs' j o
 |[],i,Rs,kn,_,ac,hkn,hH,h=>⟨Rs,kn,h,hkn,ac,hH⟩|o::l,i,Rs,kn,hl,ac,hkn,hH,h=>by
  have ho:ops[i]? = some o:=by have:=hl 0 oC;simpa using this
  have hops:∀j,j<i->∃oj,ops[j]? = some oj:=fun j hj=>by
   have:i<ops.size:=(Array.getElem?_eq_some_iff.1 ho).1;exact⟨ops[j],by simp[show j<ops.size by omega]⟩
  simp[qv1]at h;split at h
  ·rename_i d pred hd hp;cases hb:Nat.blt d s.n&&a8 (s.nx+32*d) s.hp&&td d Rs&&vk pred (lg ops o) Rs 0&&vy ops d pred i<;>rw[hb]at h<;>simp at h
   simp only[qA]at hb;obtain⟨⟨⟨⟨b1,b2⟩,b3⟩,b4⟩,b5⟩:=hb;have hdst:∀(j:Nat)(r:HR),Rs[j]? = some r->∃oj:Oper,ops[j]? = some oj/\oj.dst=some r.dst:=fun j r hr=>by
    have hj:j<i:=by have:=(List.getElem?_eq_some_iff.1 hr).1;omega
    obtain⟨oj,hoj⟩:=hops j hj;obtain⟨r',_,_,k1,k2,_⟩:=hH j oj hj hoj;rw[hr]at k1;have:=qJ k1;subst this;exact⟨oj,hoj,k2⟩
   have hdis:∀(k k':Nat)(r r':HR),k<k'->Rs[k]? = some r->Rs[k']? = some r'->r'.dst≠r.dst:=fun k k' r r' hkk hr hr' e=>by
    have hk':k'<i:=by have:=(List.getElem?_eq_some_iff.1 hr').1;omega
    obtain⟨oj,hoj⟩:=hops k' hk';obtain⟨r2,_,_,k1,_,_,_,_,k6,_⟩:=hH k' oj hk' hoj;rw[hr']at k1;have:=qJ k1;subst this;exact qaf.1 k6 r (List.mem_of_getElem? (i:=k) (by rw[List.getElem?_take,qX hkk];exact hr)) e.symm
   obtain⟨ps,c,v,new,kn',h1,h2,h3,h4⟩:=zjn hT hkn (fun j r hm hr=>zen (k:=j) hr (by rw[wO];exact hm) (fun k' r' hk hr'=>hdis j k' r r' hk hr hr')) (fun j r _ hr=>hdst j r hr) h
   obtain⟨Rs',kn2,k1,kk,k2,k3⟩:=zh0 hT l (i+1) (Rs++[⟨d,v,new,pred⟩]) kn' (fun j hj=>by have:=hl (j+1) oB;simpa [Nat.add_assoc,Nat.add_comm 1 j] using this) (by simp[ac])
    (fun j d' hj=>by
     obtain⟨r,i1,i2⟩:=h3 j d' hj;exact⟨r,by rw[List.getElem?_append_left (List.getElem?_eq_some_iff.1 i1).1];exact i1,i2⟩)
    (fun j oj hj hoj=>by
     by_cases hji:j<i
     ·obtain⟨r,ps',c',j1,j2,j3,j4,j5,j6,j7,j8,j9,j10⟩:=hH j oj hji hoj;have ht:(Rs++[(⟨d,v,new,pred⟩:HR)]).take j=Rs.take j:=by rw[List.take_append_of_le_length oA]
      exact⟨r,ps',c',by rw[List.getElem?_append_left oA];exact j1,j2,j3,j4,by rw[ht];exact j5,by rw[ht];exact j6,by rw[ht];exact j7,j8,by rw[ht];exact j9,j10⟩
     ·have:j=i:=oA
      subst this;rw[ho]at hoj;have:=qJ hoj;subst this;have ht:(Rs++[(⟨d,v,new,pred⟩:HR)]).take j=Rs:=by rw[← ac,List.take_left]
      exact⟨⟨d,v,new,pred⟩,ps,c,by rw[← ac];simp,hd,Nat.lt_of_lt_of_le (Nat.lt_succ_self d) (Nat.le_of_ble_eq_true b1),b2,by rw[ht];exact hp,by rw[ht];exact b3,by rw[ht];exact b4,b5,by rw[ht];exact h1,h2⟩)
    h4
   exact⟨Rs',kn2,k1,kk,by rw[k2,qL];omega,fun j oj hj=>k3 j oj (by rw[qL]at hj;omega)⟩
  ·cases h
def q91(hT:∀e∈tb.ents,e.Sound P){ops:Array Oper}{K:St->Option R}{x:R}{n:Nat}{N:Act->World->Prop}(he:o6 ops.toList 0=true)(ht:pq ops n=true)(hN:∀s',K s'=some x->∀G' a' w',ak vjc vi7 vi9 G' s' a' w'->N a' w') :
  ∀(l:List Oper)(m:Nat),n<=m->ops.toList.drop m=l->m<=ops.size->∀(s:St)(G:Gh)(a:Act)(w:World)(listed:Array Bool),qdl P tb ops l s K=some x->ak vjc vi7 vi9 G s a w->qcv ops m listed->oz P ops N (ops.size-m) listed a w
 |[],m,hn,hl,hm,s,G,a,w,listed,h,hr,hu=>by
  have:m=ops.size:=by
   have:=congrArg List.length hl;simp at this;omega
  subst this;exact z4j hu (hN s h G a w hr)
 |o::l,m,hn,hl,hm,s,G,a,w,listed,h,hr,hu=>by
  have hlt:m<ops.size:=by
   have:=congrArg List.length hl;simp at this;omega
  have ho:ops[m]? = some o:=by
   have:=congrArg (fun l=>l[0]?) hl
   simpa using this
  refine z4k he ht hn hlt hu (zjm hT hr ho h (fun s' h' G' a' w' hr' listed' hu' => ?_))
  exact q91 hT he ht hN l (m+1) oA (by rw[← List.drop_drop,hl];rfl) oA s' G' a' w' listed' h' hr' hu'
def zu8(hT:∀e∈tb.ents,e.Sound P)(hm:P.follows .mixedOrders=true){ops:Array Oper}{K:St->Option R}{x:R}(h:q6c P tb ops s K=some x){N:Act->World->Prop}(hN:∀s',K s'=some x->∀G' a' w',ak vjc vi7 vi9 G' s' a' w'->N a' w')
  (hr:ak vjc vi7 vi9 G s a w) (id:Nat) (b:Frame) (k:List Item) (cs:List Frame) (hk:b.kind = .normal) :
  ∃a' w',N a' w'/\Steps P (lone (b.atR a (.code (.region id ops true)::k)) cs w) (lone (b.atR a' k) cs w'):=by
 unfold q6c at h;generalize kg ops=n at h;cases hb:o6 ops.toList 0&&pq ops n&&Nat.ble n ops.toList.length<;>rw[hb]at h<;>simp at h
 simp only[qA]at hb;obtain⟨⟨b1,b2⟩,b3⟩:=hb;have hn:n<=ops.size:=by have:=Nat.le_of_ble_eq_true b3;simpa using this
 have ac:(ops.toList.take n).length=n:=by simp;omega
 obtain⟨Rs,kn,k1,kk,k2,k3⟩:=zh0 hT (ops.toList.take n) 0 [] [] (fun j hj=>by
  rw[ac]at hj;rw[List.getElem?_take,qX hj,wO];simp) rfl (fun j d h=>by cases h) (fun j o hj=>oA) h
 rw[wO,ac]at k2 k3;have hdis:∀(k k':Nat)(r r':HR),k<k'->Rs[k]? = some r->Rs[k']? = some r'->r'.dst≠r.dst:=fun k k' r r' hkk hr hr' e=>by
  have hk':k'<n:=by have:=(List.getElem?_eq_some_iff.1 hr').1;omega
  obtain⟨oj,hoj⟩:∃oj,ops[k']? = some oj:=⟨ops[k'],by simp[show k'<ops.size by omega]⟩
  obtain⟨r2,_,_,j1,_,_,_,_,j6,_⟩:=k3 k' oj hk' hoj;rw[hr']at j1;have:=qJ j1;subst this;exact qaf.1 j6 r (List.mem_of_getElem? (i:=k) (by rw[List.getElem?_take,qX hkk];exact hr)) e.symm
 exact zvb hn b1 b2 hm k2 k3 (fun G a w listed hr' hu=>q91 hT b1 b2 hN _ n (wF _) rfl hn _ G a w listed k1 (zih hdis hr' kk) hu) hr id b k cs hk
end
structure Md:Type where
 f:List (Nat×AV)
 h:List (Nat×ah)
def St.addM(s:St)(m:Md):St:={ s with fr:=m.f++s.fr,hp:=m.h++s.hp }
def qor(K:List Nat):List (Nat×ah)->List (Nat×ah)|[]=>[]|(n,b)::r=>bif bf K n then qor K r else(n,b)::qor K r
def St.hide(s:St)(K:List Nat):St:={ s with hp:=qor K s.hp }
def q7r{K:List Nat}:∀{l:List (Nat×ah)}{n:Nat}{b:ah},ag (qor K l) n=some b->ag l n=some b/\n∉K
 |[],n,b,h=>by cases h
 |(k,v)::r,n,b,h=>by
  simp[qor]at h;cases hm:bf K k<;>rw[hm]at h<;>simp at h
  ·simp[ag]at h ⊢;cases hb:Nat.beq k n<;>rw[hb]at h<;>simp at h ⊢
   ·exact q7r h
   ·refine⟨h,fun hn => ?_⟩
    rw[← qN hb]at hn;rw[gp.2 hn]at hm;cases hm
  ·obtain⟨h1,h2⟩:=q7r h;refine⟨?_,h2⟩;simp[ag];cases hb:Nat.beq k n
   ·exact h1
   ·exfalso;apply h2;rw[← qN hb];exact gp.1 hm
def qhn(s:St)(q:Prop)(ys:List AV)(names:List (Nat×Nat))(xs:List AV)(hp:List (Nat×ah))(r:AV)(hp':List (Nat×ah))(t:Nat):Option (List Prop×Md):=
 bif ei names&&uz names&&a8 (s.nx+32*t) s.hp&&Nat.blt t s.n then
  match jp (ay names) s.hp names,bg false [] (AV.rens (ay names) ys) xs with
  |some hpv,some ps1=>match l7 hpv hp with|some ps2=>some (q::(ps1++ps2),⟨[(t,r.ren (l9 names hp' (s.nx+32*t)))],mz (l9 names hp' (s.nx+32*t)) hp'++o5 names⟩)|none=>none
  |_,_=>none
 else none
def zyl{s:St}{q:Prop}{ys:List AV}{names:List (Nat×Nat)}{xs:List AV}{hp:List (Nat×ah)}{r:AV}{hp':List (Nat×ah)}{t:Nat}{ps:List Prop}{m:Md}(h:qhn s q ys names xs hp r hp' t=some (ps,m)):qao s q ys names xs hp r hp' t=some (ps,s.addM m):=by
 unfold qhn at h;unfold qao;cases hc:ei names&&uz names&&a8 (s.nx+32*t) s.hp&&Nat.blt t s.n<;>rw[hc]at h<;>simp only[qT,qF,reduceCtorEq]at h ⊢
 split at h
 ·rename_i hpv ps1 h1 h2;split at h
  ·rename_i ps2 h3;simp only[qI,qP]at h;obtain⟨rfl,rfl⟩:=h;rw[h1,h2];simp[h3,St.addM,wM,qS]
  ·cases h
 ·cases h
def znb{ρ:Nat->Option Nat}{hp hp':List (Nat×ah)}(hhp:∀n b,ag hp n=some b->ag hp' n=some b):∀{l:List (Nat×Nat)}{r:List (Nat×ah)},jp ρ hp l=some r->jp ρ hp' l=some r
 |[],_,h=>h|(m,n)::l,r,h=>by
  simp[jp]at h ⊢;split at h
  ·rename_i b l' h1 h2;rw[hhp _ _ h1,znb hhp h2];exact h
  ·cases h
def zym{t s:St}{q:Prop}{ys:List AV}{names:List (Nat×Nat)}{xs:List AV}{hp:List (Nat×ah)}{r:AV}{hp':List (Nat×ah)}{tt:Nat}{R:List Prop×Md}(hhp:∀n b,ag t.hp n=some b->ag s.hp n=some b)(hroom:a8 (s.nx+32*tt) s.hp=true)(hnx:t.nx=s.nx)(hn:t.n=s.n)
  (h:qhn t q ys names xs hp r hp' tt=some R):qhn s q ys names xs hp r hp' tt=some R:=by
 unfold qhn at h ⊢;cases hc:ei names&&uz names&&a8 (t.nx+32*tt) t.hp&&Nat.blt tt t.n<;>rw[hc]at h<;>simp at h
 simp only[qA]at hc;rw[hroom,← hn,hc.1.1.1,hc.1.1.2,hc.2,← hnx];split at h
 ·rename_i hpv ps1 h1 h2;rw[znb hhp h1,h2];exact h
 ·cases h
def qdg(P:Program)(t:St)(d:D)(o:Oper):Option (List Prop×Md):=
 match o.op,o.dst with
 |.store T x y,none=>match t.ev x,t.ev y,er P T with
  |some (.ptr b off),some v,some n=>match ag t.hp b with|some (.cells cs T')=>bif Nat.beq v.cells.length n&&AV.ones v.cells&&Nat.ble (off+n) cs.length then some ([],⟨[],[(b,.cells (gc cs off v.cells) T')]⟩) else none|_=>none
  |_,_,_=>none
 |.call { callee := .builtin .append,args,argTypes },some tt=>match args.toList,argTypes.toList with
  |[x,y],[ty,ty2]=>match t.ev x,t.ev y with
   |some (.own k),some v=>match ag t.hp k with
    |some (.row τ0 l0 E0)=>match qd P t d ty ty2 (l0.flatMap τ0.enc) l0.length v with|some (ps,.row τ l E)=>bif a8 (t.nx+32*tt) t.hp&&Nat.beq τ.sz τ0.sz&&Nat.beq E E0&&Nat.blt tt t.n then some (ps,⟨[(tt,.own (t.nx+32*tt))],[(t.nx+32*tt,.row τ l E),(k,.dead)]⟩) else none|_=>none
    |_=>none
   |_,_=>none
  |_,_=>none
 |.call { callee := .value g,args,argTypes:=_ },some tt=>match t.ev g,t.evs args.toList,d with|some (.fn (.func f) [] cap),some ys,.mem names xs hp r hp'=>qhn t (r7 P f/\de P f xs hp r hp') (ys++cap) names xs hp r hp' tt|_,_,_=>none
 |_,_=>none
def zi1{P:Program}{t:St}{d:D}{o:Oper}{ps:List Prop}{m:Md}(h:qdg P t d o=some (ps,m)):w9 P t d o=some (ps,t.addM m):=by
 obtain⟨dst,op,ty,pos,after,guard⟩:=o;unfold qdg at h;split at h
 ·rename_i T x y ho hd;simp only at ho hd;subst ho hd;split at h
  ·rename_i b off v n hx hy hn;split at h
   ·rename_i cs T' hb;cases hc:Nat.beq v.cells.length n&&AV.ones v.cells&&Nat.ble (off+n) cs.length<;>rw[hc]at h<;>simp at h
    obtain⟨rfl,rfl⟩:=h;unfold w9;rw[show f5 P t d ⟨none,.store T x y,ty,pos,after,guard⟩=none from rfl]
    simp[sf,hx,hy,hn,hb,hc,qT];rfl
   ·cases h
  ·cases h
 ·rename_i args argTypes tt ho hd;simp only at ho hd;subst ho hd;split at h
  ·rename_i x y t1 t2 ha ht;split at h
   ·rename_i k v hx hy;split at h
    ·rename_i τ0 l0 E0 hk;split at h
     ·rename_i ps' τ l E hap;cases hc:a8 (t.nx+32*tt) t.hp&&Nat.beq τ.sz τ0.sz&&Nat.beq E E0&&Nat.blt tt t.n<;>rw[hc]at h<;>simp at h
      obtain⟨rfl,rfl⟩:=h;have hadd:f5 P t d ⟨some tt,.call { callee := .builtin .append,args:=args,argTypes:=argTypes },ty,pos,after,guard⟩=none:=by
       simp[f5,di,jv,ha,ht,hx,hy]
      unfold w9;rw[hadd];simp[sf,ha,ht,hx,hy,hk,hap,hc,qT];rfl
     ·cases h
    ·cases h
   ·cases h
  ·cases h
 ·rename_i g args argTypes tt ho hd;simp only at ho hd;subst ho hd;split at h
  ·rename_i f cap ys names xs hp r hp' hg hys;have hadd:f5 P t (.mem names xs hp r hp') ⟨some tt,.call { callee := .value g,args:=args,argTypes:=argTypes },ty,pos,after,guard⟩=none:=by
    simp[f5,di,jv,hg,hys]
   unfold w9;rw[hadd];simp[sf,hg,hys];exact zyl h
  ·cases h
 ·cases h
def zyq{P:Program}{t st:St}{d:D}{o:Oper}{R:List Prop×Md}(hs:qct o t st)(hn:t.n=st.n)(h:qdg P t d o=some R):qdg P st d o=some R:=by
 obtain⟨dst,op,ty,pos,after,guard⟩:=o;have hev:=hs.ev;have hhp:=hs.hp;have hroom:=hs.room;have hnx:=hs.nx;simp only at hev hroom;unfold qdg at h ⊢;split at h
 ·rename_i T x y ho hd;simp only at ho hd;subst ho hd;rw[hev x oH,hev y oH]at h
  split at h
  ·rename_i b off v n hx hy hn;split at h
   ·rename_i cs T' hb;simp[hhp _ _ hb];exact h
   ·cases h
  ·cases h
 ·rename_i args argTypes tt ho hd;simp only at ho hd;subst ho hd;have hm:∀z∈args.toList,t.ev z=st.ev z:=fun z hz=>hev z (by simp[Op.operands,Call.operands];simpa using hz)
  split at h
  ·rename_i x y t1 t2 ha ht;rw[hm x (by rw[ha];simp),hm y (by rw[ha];simp)]at h
   split at h
   ·rename_i k v hx hy;split at h
    ·rename_i τ0 l0 E0 hk;simp[hhp _ _ hk];split at h
     ·rename_i ps' τ l E hap;simp[zeb hhp hap];cases hc:a8 (t.nx+32*tt) t.hp&&Nat.beq τ.sz τ0.sz&&Nat.beq E E0&&Nat.blt tt t.n<;>rw[hc]at h<;>simp only[qT,qF,reduceCtorEq]at h
      simp only[qA]at hc;rw[hroom tt rfl,← hn,hc.1.1.2,hc.1.2,hc.2,← hnx];exact h
     ·cases h
    ·cases h
   ·cases h
  ·cases h
 ·rename_i g args argTypes tt ho hd;simp only at ho hd;subst ho hd;have h1:t.ev g=st.ev g:=hev g (by simp[Op.operands,Call.operands])
  have h2:t.evs args.toList=st.evs args.toList:=qoh (fun x hx=>hev x (by simp[Op.operands,Call.operands];exact .inr (by simpa using hx)))
  rw[h1,h2]at h;split at h
  ·exact zym hhp (hroom tt rfl) hnx hn h
  ·cases h
 ·cases h
def ix{β:Type}(A:Nat->List (Nat×β)):List Nat->List (Nat×β)->List (Nat×β)|[],b=>b|i::L,b=>A i++ix A L b
def q7q{β:Type}(l r:List (Nat×β))(n:Nat):ag (l++r) n=match ag l n with|some b=>some b|none=>ag r n:=by
 induction l with
 |nil=>rfl|cons x l ih=>
  obtain⟨k,v⟩:=x;simp[wK,ag];cases Nat.beq k n<;>simp[ih]
def xt{β:Type}:∀{l:List (Nat×β)}{m:Nat},ag l m≠none->∃e∈l,e.1=m
 |[],m,h=>absurd rfl h|(k,v)::r,m,h=>by
  simp[ag]at h;cases hb:Nat.beq k m
  ·rw[hb]at h;obtain⟨e,h1,h2⟩:=xt h;exact⟨e,qE _ h1,h2⟩
  ·exact⟨(k,v),qH,qN hb⟩
def zfz{β:Type}(A:Nat->List (Nat×β)):∀(L M:List Nat)(b:List (Nat×β)),ix A (L++M) b=ix A L (ix A M b)|[],M,b=>rfl|i::L,M,b=>by simp[wK,ix,zfz A L M b]
def quq{β:Type}{A:Nat->List (Nat×β)}{x:Nat}{b:List (Nat×β)}:∀{L:List Nat},(∀j∈L,ag (A j) x=none)->ag (ix A L b) x=ag b x
 |[],_=>rfl|i::L,h=>by
  simp[ix];rw[q7q,h i qH];exact quq (fun j hj=>h j (qE _ hj))
def ziy{β:Type}{A:Nat->List (Nat×β)}{b:List (Nat×β)}:∀{L:List Nat}{e:Nat×β},e∈ix A L b->(∃j∈L,e∈A j)\/e∈b
 |[],e,h => .inr h|i::L,e,h=>by
  rcases List.mem_append.1 h with h|h
  ·exact .inl ⟨i,qH,h⟩
  ·rcases ziy h with⟨j,h1,h2⟩|h
   ·exact .inl ⟨j,qE _ h1,h2⟩
   ·exact .inr h
def p6(pr:Nat->List Nat):List Nat->Prop|[]=>True|i::L=>i∉L/\(∀j∈pr i,j∈L)/\p6 pr L
def p6.closed{pr:Nat->List Nat}:∀{L:List Nat},p6 pr L->∀i∈L,∀j∈pr i,j∈L
 |[],_,i,hi,_,_=>by cases hi
 |k::L,h,i,hi,j,hj=>by
  rcases List.mem_cons.1 hi with rfl|hi
  ·exact qE _ (h.2.1 j hj)
  ·exact qE _ (h.2.2.closed i hi j hj)
def q5r{β:Type}{A:Nat->List (Nat×β)}{x:Nat}{b:List (Nat×β)}{pr:Nat->List Nat}:∀{L:List Nat},p6 pr L->(∀i∈L,∀j∈L,i<j->ag (A i) x≠none->ag (A j) x≠none->i∈pr j) ->
  ∀j∈L,ag (A j) x≠none->(∀k∈L,ag (A k) x≠none->k<=j)->ag (ix A L b) x=ag (A j) x
 |[],_,_,j,hj,_,_=>by cases hj
 |i::L,hg,hd,j,hj,hx,hm=>by
  simp[ix];rw[q7q]
  cases hq:ag (A i) x with
  |some v=>
   have hij:i<=j:=hm i qH (by rw[hq];simp)
   rcases Nat.lt_or_eq_of_le hij with h|h
   ·exfalso;have hjL:j∈L:=by
     rcases List.mem_cons.1 hj with e|e
     ·omega
     ·exact e
    exact hg.1 (hg.2.2.closed j hjL i (hd i qH j hj h (by rw[hq];simp) hx))
   ·subst h;rw[hq]
  |none=>
   have hjL:j∈L:=by
    rcases List.mem_cons.1 hj with e|e
    ·subst e;exact absurd hq hx
    ·exact e
   exact q5r hg.2.2 (fun a ha c hc=>hd a (qE _ ha) c (qE _ hc)) j hjL hx (fun k hk=>hm k (qE _ hk))
def zg2(p:Nat->Prop):∀(L:List Nat),(∃j∈L,p j)->∃j∈L,p j/\∀k∈L,p k->k<=j
 |[],h=>by obtain⟨j,hj,_⟩:=h;cases hj
 |i::L,h=>by
  by_cases hL:∃j∈L,p j
  ·obtain⟨j,hj,pj,hm⟩:=zg2 p L hL;by_cases hi:p i/\j<i
   ·exact⟨i,qH,hi.1,fun k hk pk=>by
     rcases List.mem_cons.1 hk with e|e
     ·omega
     ·have:=hm k e pk;omega⟩
   ·exact⟨j,qE _ hj,pj,fun k hk pk=>by
     rcases List.mem_cons.1 hk with e|e
     ·subst e;have:¬j<k:=fun h=>hi ⟨pk,h⟩
      omega
     ·exact hm k e pk⟩
  ·obtain⟨j,hj,pj⟩:=h;rcases List.mem_cons.1 hj with e|e
   ·subst e;exact⟨j,qH,pj,fun k hk pk=>by
     rcases List.mem_cons.1 hk with e|e
     ·omega
     ·exact absurd ⟨k,e,pk⟩ hL⟩
   ·exact absurd ⟨j,e,pj⟩ hL
def qur{β:Type}{A:Nat->List (Nat×β)}{x:Nat}{b:List (Nat×β)}{pr:Nat->List Nat}{L L':List Nat}(hg:p6 pr L)(hg':p6 pr L')(hd:∀i j,(i∈L\/i∈L')->(j∈L\/j∈L')->i<j->ag (A i) x≠none->ag (A j) x≠none->i∈pr j)
  (hs:∀j,ag (A j) x≠none->(j∈L↔j∈L')):ag (ix A L b) x=ag (ix A L' b) x:=by
 by_cases hex:∃j∈L,ag (A j) x≠none
 ·obtain⟨j,hj,hx,hm⟩:=zg2 (fun j=>ag (A j) x≠none) L hex
  rw[q5r hg (fun i hi j hj=>hd i j (.inl hi) (.inl hj)) j hj hx hm,q5r hg' (fun i hi j hj=>hd i j (.inr hi) (.inr hj)) j ((hs j hx).1 hj) hx (fun k hk hk2=>hm k ((hs k hk2).2 hk) hk2)]
 ·have h1:∀j∈L,ag (A j) x=none:=fun j hj=>by
   cases hq:ag (A j) x with|none=>rfl|some v=>exact absurd ⟨j,hj,by rw[hq];simp⟩ hex
  have h2:∀j∈L',ag (A j) x=none:=fun j hj=>by
   cases hq:ag (A j) x with|none=>rfl|some v=>exact absurd ⟨j,(hs j (by rw[hq];simp)).2 hj,by rw[hq];simp⟩ hex
  rw[quq h1,quq h2]
def q63{sel:List Nat}{pr:Nat->List Nat}:∀(m:Nat),(∀i,i<m->i∈sel->∀j∈pr i,j<i/\j∈sel)->p6 pr (((List.range' 0 m).filter (bf sel)).reverse)
 |0,_=>trivial|m+1,h=>by
  have ih:=q63 m (fun i hi=>h i oA)
  rw[List.range'_1_concat,List.filter_append,List.reverse_append,wO];cases hm:bf sel m
  ·rw[List.filter_cons_of_neg (by simp[hm])];exact ih
  ·rw[List.filter_cons_of_pos hm];refine⟨fun hin => ?_,fun j hj => ?_,ih⟩
   ·have hin:m∈((List.range' 0 m).filter (bf sel)).reverse:=hin;simp only[List.mem_reverse,List.mem_filter,List.mem_range'_1]at hin;omega
   ·have:=h m oA (gp.1 hm) j hj
    show j∈((List.range' 0 m).filter (bf sel)).reverse;rw[List.mem_reverse,List.mem_filter,List.mem_range'_1,gp];exact⟨⟨oA,oA⟩,this.2⟩
def jx(Rs:List HR)(Ms:List (Nat×Md))(j:Nat):List (Nat×AV):=match ag Ms j with
 |some md=>md.f|none=>match Rs[j]? with|some r=>[(r.dst,r.v)]|none=>[]
def jy(Rs:List HR)(Ms:List (Nat×Md))(j:Nat):List (Nat×ah):=match ag Ms j with
 |some md=>md.h|none=>match Rs[j]? with|some r=>r.new|none=>[]
def lf(Rs:List HR)(j:Nat):List Nat:=match Rs[j]? with|some r=>r.pred|none=>[]
def ml(Rs:List HR)(Ms:List (Nat×Md))(L:List Nat)(s:St):St:={ s with fr:=ix (jx Rs Ms) L s.fr,hp:=ix (jy Rs Ms) L s.hp }
def fh(Ms:List (Nat×Md))(sel:List Nat):List HR->Nat->St->St
 |[],_,t=>t| r::rs,j,t=>fh Ms sel rs (j+1) (bif bf sel j then(match ag Ms j with
  |some md=>t.addM md| none=>t.addR r) else t)
def qt7{Rs:List HR}{Ms:List (Nat×Md)}{sel:List Nat}:∀(rs:List HR)(j:Nat)(t:St),(∀k,k<rs.length->Rs[j+k]? = rs[k]?)->fh Ms sel rs j t=ml Rs Ms (((List.range' j rs.length).filter (bf sel)).reverse) t
 |[],j,t,_=>rfl|r::rs,j,t,h=>by
  have h0:Rs[j]? = some r:=by simpa using h 0 oC
  rw[fh,qt7 rs (j+1) _ (fun k hk=>by have:=h (k+1) oB;rw[show j+1+k=j+(k+1) by omega,this];simp),qL,List.range'_succ]
  cases hm:bf sel j
  ·rw[List.filter_cons_of_neg (by simp[hm])];rfl
  ·rw[List.filter_cons_of_pos hm,List.reverse_cons];simp only[ml,zfz,ix,qT,jx,jy,h0];cases ag Ms j<;>rfl
def me(Cs:List (Nat×List Nat×List Nat))(pred:List Nat)(i:Nat):List Nat:=match Cs with|[]=>[]|(m,K,Pm)::r=>bif Nat.beq m i||bf pred m||bf Pm i then me r pred i else K++me r pred i
def zi0{pred:List Nat}{i x:Nat}:∀{Cs:List (Nat×List Nat×List Nat)}{m:Nat}{K Pm:List Nat},(m,K,Pm)∈Cs->m≠i->m∉pred->i∉Pm->x∈K->x∈me Cs pred i
 |(m',K',P')::Cs,m,K,Pm,h,h1,h2,h3,h4=>by
  simp[me];rcases List.mem_cons.1 h with e|h
  ·simp at e;obtain⟨rfl,rfl,rfl⟩:=e;have hc:(Nat.beq m i||bf pred m||bf Pm i)=false:=by
    simp;refine⟨⟨?_,?_⟩,?_⟩
    ·cases hb:Nat.beq m i
     ·rfl
     ·exact absurd (qN hb) h1
    ·cases hb:bf pred m
     ·rfl
     ·exact absurd (gp.1 hb) h2
    ·cases hb:bf Pm i
     ·rfl
     ·exact absurd (gp.1 hb) h3
   rw[hc];exact List.mem_append.2 (.inl h4)
  ·have ih:=zi0 h h1 h2 h3 h4;cases Nat.beq m' i||bf pred m' || bf P' i
   ·exact List.mem_append.2 (.inr ih)
   ·exact ih
def ng(lo k:Nat):Prop:=lo<=k/\k<lo+32
def qww{Rs:List HR}:∀{es:List Edge}{l:List Nat},pl Rs es=some l->∀e∈es,Region.binds .any e=true->∀r,Rs[e.on]? = some r->∀j∈r.pred,j∈l
 |[],l,_,e,he,_,_,_,_,_=>by cases he
 |e0::es,l,h,e,he,hb,r,hr,j,hj=>by
  simp[pl]at h;cases hb0:Region.binds .any e0<;>rw[hb0]at h<;>simp at h
  ·rcases List.mem_cons.1 he with rfl|he
   ·rw[hb0]at hb;cases hb
   ·exact qww h e he hb r hr j hj
  ·split at h
   ·rename_i r' l' h1 h2;simp at h;subst h;rw[qo0];rcases List.mem_cons.1 he with rfl|he
    ·rw[hr]at h1;cases h1;exact .inl (qE _ hj)
    ·exact .inr (qww h2 e he hb r hr j hj)
   ·cases h
section
variable{P:Program}{vjc:World}{vi7:Gh}{vi9:List (Nat×ah)}{s:St}
structure OkX(ops:Array Oper)(s:St)(Rs:List HR)(Ms:List (Nat×Md))(Cs:List (Nat×List Nat×List Nat))(i:Nat)(o:Oper)(r:HR):Prop where
 get:Rs[i]? = some r
 room:a8 (s.nx+32*r.dst) s.hp=true
 pred:pl (Rs.take i) o.after.toList=some r.pred
 fresh:td r.dst (Rs.take i)=true
 reads:vk r.pred (lg ops o) (Rs.take i) 0=true
 writes:vy ops r.dst r.pred i=true
 f:∀e∈jx Rs Ms i,e.1=r.dst
 h:∀e∈jy Rs Ms i,ng (s.nx+32*r.dst) e.1\/(ag Ms i≠none/\(∃K Pm,(i,K,Pm)∈Cs/\e.1∈K/\∀j∈Pm,j∈r.pred)/\((∃b,ag s.hp e.1=some b)\/∃c rc,c∈r.pred/\Rs[c]? = some rc/\ng (s.nx+32*rc.dst) e.1)/\∀j,j<i->ag Ms j≠none->j∈r.pred)
def n9(s:St)(Rs:List HR)(Ms:List (Nat×Md))(Cs:List (Nat×List Nat×List Nat))(i:Nat)(r:HR):St:=(fh Ms r.pred (Rs.take i) 0 s).hide (me Cs r.pred i)
def StX(P:Program)(ops:Array Oper)(s:St)(Rs:List HR)(Ms:List (Nat×Md))(Cs:List (Nat×List Nat×List Nat))(i:Nat)(o:Oper)(r:HR):Prop:=
 (ag Ms i=none/\o.dst=some r.dst/\r.dst<s.n/\∃ps,∃c:y5,ox P ops (n9 s Rs Ms Cs i r) c o=some (ps,r.v,r.new)/\ax ps) \/
 (∃ps d md,ag Ms i=some md/\o.guard=none/\(∀t,o.dst=some t->t=r.dst/\t<s.n)/\qdg P (n9 s Rs Ms Cs i r) d o=some (ps,md)/\ax ps)
def zwm{ops:Array Oper}{n:Nat}{Rs:List HR}{Ms:List (Nat×Md)}{Cs:List (Nat×List Nat×List Nat)}{N:Act->World->Prop}(hn:n<=ops.size)(hed:o6 ops.toList 0=true)(ht:pq ops n=true)(ac:Rs.length=n)
  (hO:∀i o,i<n->ops[i]? = some o->∃r,OkX ops s Rs Ms Cs i o r/\StX P ops s Rs Ms Cs i o r)
  (htail:∀(G:Gh)(a:Act)(w:World)(listed:Array Bool),ak vjc vi7 vi9 G (fh Ms (List.range n) Rs 0 s) a w->qcv ops n listed->oz P ops N (ops.size-n) listed a w) :
  ∀(g:Nat)(L:List Nat)(listed:Array Bool)(G:Gh)(a:Act)(w:World),ops.size=g+L.length->Inv ops n L listed->p6 (lf Rs) L->ak vjc vi7 vi9 G (ml Rs Ms L s) a w->oz P ops N g listed a w:=by
 have hop:∀i,i<n->ops[i]? = some (ops[i]?.getD default):=fun i hi=>by
  have:i<ops.size:=oA
  simp[this]
 -- predecessors
 have hpreds:∀{L:List Nat},(∀i∈L,∀o,ops[i]? = some o->∀e∈o.after,Region.binds .any e=true->e.on∈L)->∀(i:Nat)(o:Oper)(r:HR),i<n->ops[i]? = some o->Rs[i]? = some r->(∀e∈o.after,Region.binds .any e=true->e.on∈L)->(∀j∈r.pred,j∈L/\j<i):=by
  intro L hcl i
  induction i using Nat.strongRecOn with
  |ind i ih=>
   intro o r hi ho hr hall j hj;obtain⟨r',ok,_⟩:=hO i o hi ho;have h1:=ok.get;rw[hr]at h1;injection h1 with h1;subst h1
   obtain⟨e,he,hb,hje⟩:=(qo9 ok.pred).2 j hj;have hlt:=o7 hed i o (by simpa using ho) e (by simpa using he) hb
   have hlt':e.on<i:=oA
   have heL:=hall e (by simpa using he) hb
   rcases hje with rfl|⟨re,hre,hje⟩
   ·exact⟨heL,hlt'⟩
   ·have hre':Rs[e.on]? = some re:=by rw[List.getElem?_take]at hre;rw[qX hlt']at hre;exact hre
    have hoe:ops[e.on]? = some ops[e.on]:=oC
    have:=ih e.on hlt' ops[e.on] re oA hoe hre' (hcl e.on heL _ hoe) j hje
    exact⟨this.1,oA⟩
 have hlt:∀(i:Nat)(r:HR),i<n->Rs[i]? = some r->∀j∈r.pred,j<i:=fun i r hi hr j hj=>by
  refine(hpreds (L:=List.range n) (fun k hk o ho e he hb => ?_) i _ r hi (hop i hi) hr (fun e he hb => ?_) j hj).2
  ·have:=o7 hed k o (by simpa using ho) e (by simpa using he) hb
   have hk':=List.mem_range.1 hk;exact List.mem_range.2 oA
  ·have:=o7 hed i _ (by simpa using hop i hi) e (by simpa using he) hb
   exact List.mem_range.2 oA
 have htrans:∀(i:Nat)(r:HR),i<n->Rs[i]? = some r->∀k∈r.pred,∀rk:HR,Rs[k]? = some rk->∀c∈rk.pred,c∈r.pred:=by
  intro i
  induction i using Nat.strongRecOn with
  |ind i ih=>
   intro r hi hr k hk rk hrk c hc;obtain⟨r',ok,_⟩:=hO i _ hi (hop i hi);have h1:=ok.get;rw[hr]at h1;injection h1 with h1;subst h1
   obtain⟨e,he,hb,hje⟩:=(qo9 ok.pred).2 k hk;have hle:=o7 hed i _ (by simpa using hop i hi) e (by simpa using he) hb
   have hle':e.on<i:=oA
   rcases hje with rfl|⟨re,hre,hje⟩
   ·exact qww ok.pred e he hb rk (by rw[List.getElem?_take,qX hle'];exact hrk) c hc
   ·have hre':Rs[e.on]? = some re:=by rw[List.getElem?_take,qX hle']at hre;exact hre
    exact qww ok.pred e he hb re hre c (ih e.on hle' re oA hre' k hje rk hrk c hc)
 have hdst:∀(i j:Nat)(r r':HR),i<n->j<n->Rs[i]? = some r->Rs[j]? = some r'->r.dst=r'.dst->i=j:=fun i j r r' hi hj hr hr' hd=>by
  rcases Nat.lt_trichotomy i j with h|h|h
  ·obtain⟨r2,ok,_⟩:=hO j _ hj (hop j hj);have h1:=ok.get;rw[hr']at h1;injection h1 with h1;subst h1
   exact absurd hd (qaf.1 ok.fresh r (List.mem_of_getElem? (i:=i) (by rw[List.getElem?_take,qX h];exact hr)))
  ·exact h
  ·obtain⟨r2,ok,_⟩:=hO i _ hi (hop i hi);have h1:=ok.get;rw[hr]at h1;injection h1 with h1;subst h1
   exact absurd hd.symm (qaf.1 ok.fresh r' (List.mem_of_getElem? (i:=j) (by rw[List.getElem?_take,qX h];exact hr')))
 have hrs:∀i,i<n->∃r,Rs[i]? = some r/\OkX ops s Rs Ms Cs i (ops[i]?.getD default) r:=fun i hi=>by
  obtain⟨r,ok,_⟩:=hO i _ hi (hop i hi);exact⟨r,ok.get,ok⟩
 -- two that touch the same are ordered
 have old:∀(i:Nat)(r:HR)(x:Nat),OkX ops s Rs Ms Cs i (ops[i]?.getD default) r->ng (s.nx+32*r.dst) x->ag s.hp x=none:=fun i r x ok hx=>by
  cases hq:ag s.hp x with
  |none=>rfl|some b=>
   have:=qas.1 ok.room _ (qde hq);unfold ng at hx;simp only at this;omega
 have hC1:∀(x i j:Nat),i<n->j<n->i<j->ag (jy Rs Ms i) x≠none->ag (jy Rs Ms j) x≠none->i∈lf Rs j:=fun x i j hi hj hij h1 h2=>by
  obtain⟨ri,gi,oki⟩:=hrs i hi;obtain⟨rj,gj,okj⟩:=hrs j hj;have hpj:lf Rs j=rj.pred:=by unfold lf;rw[gj]
  rw[hpj];obtain⟨e1,m1,rfl⟩:=xt h1;obtain⟨e2,m2,hx⟩:=xt h2;rcases oki.h e1 m1 with a1|⟨n1,_,c1,_⟩
  ·rcases okj.h e2 m2 with a2|⟨n2,_,c2,_⟩
   ·rw[hx]at a2;exact absurd (hdst i j ri rj hi hj gi gj (by unfold ng at a1 a2;omega)) oA
   ·rw[hx]at c2;rcases c2 with⟨b,hb⟩|⟨c,rc,c3,c4,c5⟩
    ·rw[old i ri _ oki a1]at hb;cases hb
    ·have hcn:c<n:=by have:=hlt j rj hj gj c c3;omega
     have:c=i:=hdst c i rc ri hcn hi c4 gi (by unfold ng at a1 c5;omega)
     exact this▸c3
  ·rcases okj.h e2 m2 with a2|⟨n2,_,c2,c6⟩
   ·rw[hx]at a2;rcases c1 with⟨b,hb⟩|⟨c,rc,c3,c4,c5⟩
    ·rw[old j rj _ okj a2]at hb;cases hb
    ·have hcn:c<i:=hlt i ri hi gi c c3;have:c=j:=hdst c j rc rj oA hj c4 gj (by unfold ng at a2 c5;omega)
     omega
   ·exact c6 i hij n1
 have hC2:∀(d i j:Nat),i<n->j<n->i<j->ag (jx Rs Ms i) d≠none->ag (jx Rs Ms j) d≠none->i∈lf Rs j:=fun d i j hi hj hij h1 h2=>by
  obtain⟨ri,gi,oki⟩:=hrs i hi;obtain⟨rj,gj,okj⟩:=hrs j hj;obtain⟨e1,m1,rfl⟩:=xt h1;obtain⟨e2,m2,hx⟩:=xt h2;have:=oki.f e1 m1;have:=okj.f e2 m2;exact absurd (hdst i j ri rj hi hj gi gj oA) oA
 -- all have run
 have fin:∀(L:List Nat)(listed:Array Bool)(G:Gh)(a:Act)(w:World),(∀i,i<n->i∈L)->Inv ops n L listed->p6 (lf Rs) L->ak vjc vi7 vi9 G (ml Rs Ms L s) a w->oz P ops N (ops.size-n) listed a w:=by
  intro L listed G a w hall hinv hgood hr;refine htail G a w listed (hr.eqv ?_) ⟨hinv.size,fun j hj=>by rw[hinv.iff j hj];exact⟨fun h=>hinv.lt j h,fun h=>hall j h⟩⟩
  rw[qt7 (Rs:=Rs) Rs 0 s (fun k _=>by rw[wO]),ac]
  have hmem:∀j,j∈((List.range' 0 n).filter (bf (List.range n))).reverse↔j∈L:=fun j=>by
   rw[List.mem_reverse,List.mem_filter,gp,List.mem_range'_1,List.mem_range];exact⟨fun h=>hall j h.2,fun h=>by have:=hinv.lt j h;exact⟨⟨oA,oA⟩,this⟩⟩
  have hg2:p6 (lf Rs) (((List.range' 0 n).filter (bf (List.range n))).reverse):=q63 n (fun i hi _ j hj=>by
   obtain⟨r,gr,_⟩:=hrs i hi;have hp:lf Rs i=r.pred:=by unfold lf;rw[gr]
   rw[hp]at hj;have:=hlt i r hi gr j hj;exact⟨this,List.mem_range.2 oA⟩)
  have hb:∀i,(i∈L\/i∈((List.range' 0 n).filter (bf (List.range n))).reverse)->i<n:=fun i h=>by
   rcases h with h|h
   ·exact hinv.lt i h
   ·exact hinv.lt i ((hmem i).1 h)
  exact⟨rfl,rfl,fun d=>qur hgood hg2 (fun i j hi hj=>hC2 d i j (hb i hi) (hb j hj)) (fun j _=>(hmem j).symm),fun x=>qur hgood hg2 (fun i j hi hj=>hC1 x i j (hb i hi) (hb j hj)) (fun j _=>(hmem j).symm),rfl⟩
 intro g
 induction g with
 |zero=>
  intro L listed G a w hg hinv hgood hr;have h1:=qat n L hinv.nodup hinv.lt;have hnn:n=ops.size:=oA
  have hall:∀i,i<n->i∈L:=fun i hi=>by
   by_cases hm:i∈L
   ·exact hm
   ·have:=qat n (i::L) (List.nodup_cons.2 ⟨hm,hinv.nodup⟩) (fun j hj=>by
     rcases List.mem_cons.1 hj with rfl|hj;· exact hi
     ·exact hinv.lt j hj)
    simp at this;omega
  have:=fin L listed G a w hall hinv hgood hr
  rwa [hnn,Nat.sub_self]at this
 |succ g ih=>
  intro L listed G a w hg hinv hgood hr;by_cases hall:∀i,i<n->i∈L
  ·have h1:=qat n L hinv.nodup hinv.lt;have h2:=q7g n L hall;have:=fin L listed G a w hall hinv hgood hr
   rwa [show ops.size-n=g+1 by omega]at this
  ·have hex:∃i,i<n/\i∉L/\∀j,j<i->j∈L:=by
    have:∃i,i<n/\i∉L:=by
     simpa using hall
    obtain⟨i,hi,hm⟩:=this;clear hall
    induction i using Nat.strongRecOn with
    |ind i ih=>
     by_cases hsm:∀j,j<i->j∈L
     ·exact⟨i,hi,hm,hsm⟩
     ·have:∃j,j<i/\j∉L:=by simpa using hsm
      obtain⟨j,hj,hjm⟩:=this;exact ih j hj oA hjm
   obtain⟨i0,hi0,hm0,hsm0⟩:=hex;have hi0s:i0<ops.size:=oA
   have h0r:i0∈Region.ready .any ops listed:=by
    refine qdf.2 ⟨hi0s,?_,ops[i0],oC,fun e he hb => ?_⟩
    ·cases hq:listed.getD i0 true
     ·rfl
     ·exact absurd ((hinv.iff i0 hi0s).1 hq) hm0
    ·have:=o7 hed i0 ops[i0] oC e he hb
     have hlt:e.on<i0:=oA
     exact(hinv.getD_false oA).2 (hsm0 _ hlt)
   refine⟨fun hnil=>(by rw[hnil]at h0r;cases h0r),fun i hi => ?_⟩
   obtain⟨i1,i2,o,i3,i4⟩:=qdf.1 hi;have hiL:i∉L:=fun h=>by rw[(hinv.iff i i1).2 h]at i2;cases i2
   have hin:i<n:=by
    rcases Nat.lt_or_ge i n with h|h
    ·exact h
    ·rcases Nat.lt_or_ge n i with h|h
     ·obtain⟨e,he1,he2,he3⟩:=zah (q90 ht h i3);have:=i4 e he1 he3;rw[he2,hinv.getD_false oA]at this
      have:=hinv.lt _ this;omega
     ·have:i=n:=oA
      subst this;exact absurd (zml ht i3 hinv.closed (fun e he hb=>by
       have hlt:=o7 hed i o (by simpa using i3) e he hb
       exact(hinv.getD_false oA).1 (i4 e he hb)) i0 hi0) hm0
   have hedge:∀e∈o.after,Region.binds .any e=true->e.on∈L:=fun e he hb=>by
    have hlt:=o7 hed i o (by simpa using i3) e he hb
    exact(hinv.getD_false oA).1 (i4 e he hb)
   obtain⟨r,ok,st⟩:=hO i o hin i3;have gr:=ok.get;have hpred:=hpreds hinv.closed i o r hin i3 gr hedge;have hpr:lf Rs i=r.pred:=by unfold lf;rw[gr]
   have hgood':p6 (lf Rs) (i::L):=⟨hiL,fun j hj=>by rw[hpr]at hj;exact(hpred j hj).1,hgood⟩
   have hnext:Inv ops n (i::L) (listed.setIfInBounds i true):=by
    refine⟨List.nodup_cons.2 ⟨hiL,hinv.nodup⟩,fun j hj => ?_,by simp[hinv.size],fun j hj => ?_,fun j hj oj hoj e he hb => ?_⟩
    ·rcases List.mem_cons.1 hj with rfl|hj
     ·exact hin
     ·exact hinv.lt j hj
    ·rw[Array.getD_eq_getD_getElem?,Array.getElem?_setIfInBounds];by_cases hij:i=j
     ·subst hij;simp[hinv.size,i1]
     ·rw[qW hij];have:=hinv.iff j hj;rw[Array.getD_eq_getD_getElem?]at this;rw[this,wE];exact⟨fun h => .inr h,fun h=>h.resolve_left (fun e=>hij e.symm)⟩
    ·rcases List.mem_cons.1 hj with rfl|hj
     ·rw[i3]at hoj;injection hoj with hoj;subst hoj
      exact qE _ (hedge e he hb)
     ·exact qE _ (hinv.closed j hj oj hoj e he hb)
   have htk:(Rs.take i).length=i:=by simp;omega
   have hlen':∀k,k<(Rs.take i).length->Rs[0+k]? = (Rs.take i)[k]? := fun k hk=>by
    rw[List.getElem?_take,qX (by rw[htk]at hk;omega),wO]
   have hseen:n9 s Rs Ms Cs i r=(ml Rs Ms (((List.range' 0 i).filter (bf r.pred)).reverse) s).hide (me Cs r.pred i):=by
    unfold n9;rw[qt7 (Rs:=Rs) (Rs.take i) 0 s hlen',htk]
   have hsel:∀j,j∈((List.range' 0 i).filter (bf r.pred)).reverse↔j∈r.pred:=fun j=>by
    rw[List.mem_reverse,List.mem_filter,gp];refine⟨fun h=>h.2,fun h=>⟨?_,h⟩⟩
    rw[List.mem_range'_1];exact⟨oA,by have:=(hpred j h).2;omega⟩
   have hgsel:p6 (lf Rs) (((List.range' 0 i).filter (bf r.pred)).reverse):=q63 i (fun k hk hks j hj=>by
    obtain⟨rk,gk,_⟩:=hrs k oA
    have hpk:lf Rs k=rk.pred:=by unfold lf;rw[gk]
    rw[hpk]at hj;exact⟨hlt k rk oA gk j hj,htrans i r hin gr k hks rk gk j hj⟩)
   have hbn:∀k,(k∈((List.range' 0 i).filter (bf r.pred)).reverse\/k∈L)->k<n:=fun k h=>by
    rcases h with h|h
    ·have:=(hpred k ((hsel k).1 h)).2;omega
    ·exact hinv.lt k h
   -- an operation that has run already,and is no predecessor,writes nothing that is looked at
   have late:∀(j:Nat)(rj:HR),Rs[j]? = some rj->j∈L->rj.dst∈lg ops o->j∈r.pred:=by
    intro j rj hj h hd;have hjn:=hinv.lt j h;have hji:j≠i:=fun e=>hiL (e▸h)
    rcases Nat.lt_or_gt_of_ne hji with hlt'|hgt
    ·rcases q84 ok.reads j rj (by rw[List.getElem?_take,qX hlt'];exact hj) with h'|h'
     ·simpa using h'
     ·exact absurd hd h'
    ·have hoj:=hop j hjn;obtain⟨rj',okj,_⟩:=hO j _ hjn hoj;have k1:=okj.get;rw[hj]at k1;injection k1 with k1;subst k1
     rcases zai okj.writes i o hgt i3 with h'|h'
     ·have:=hpreds hinv.closed j _ rj hjn hoj hj (hinv.closed j h _ hoj) i h';exact absurd this.1 hiL
     ·exact absurd hd h'
   have hreads:∀d∈lg ops o,ag (n9 s Rs Ms Cs i r).fr d=ag (ml Rs Ms L s).fr d:=fun d hd=>by
    rw[hseen];show ag (ix (jx Rs Ms) _ s.fr) d=ag (ix (jx Rs Ms) L s.fr) d;refine qur hgsel hgood (fun a b ha hb=>hC2 d a b (hbn a ha) (hbn b hb)) (fun j hj=>⟨fun h=>(hpred j ((hsel j).1 h)).1,fun h=>(hsel j).2 ?_⟩)
    obtain⟨rj,gj,okj⟩:=hrs j (hinv.lt j h);obtain⟨e,he,rfl⟩:=xt hj;exact late j rj gj h (by rw[← okj.f e he];exact hd)
   have hhp:∀x b,ag (n9 s Rs Ms Cs i r).hp x=some b->ag (ml Rs Ms L s).hp x=some b:=fun x b hb=>by
    rw[hseen]at hb;obtain⟨b1,b2⟩:=q7r hb;have b1':ag (ix (jy Rs Ms) (((List.range' 0 i).filter (bf r.pred)).reverse) s.hp) x=some b:=b1;rw[← b1'];refine(qur hgsel hgood (fun a b ha hb=>hC1 x a b (hbn a ha) (hbn b hb)) (fun j hj=>⟨fun h=>(hpred j ((hsel j).1 h)).1,fun h=>(hsel j).2 ?_⟩)).symm
    have hjn:=hinv.lt j h;obtain⟨rj,gj,okj⟩:=hrs j hjn;obtain⟨e,he,hex⟩:=xt hj;by_cases hjp:j∈r.pred
    ·exact hjp
    ·exfalso;have hji:j≠i:=fun e=>hiL (e▸h)
     rcases okj.h e he with a1|⟨_,⟨K,Pm,k1,k2,k3⟩,_,_⟩
     ·rw[hex]at a1;by_cases hk:∃k∈((List.range' 0 i).filter (bf r.pred)).reverse,ag (jy Rs Ms k) x≠none
      ·obtain⟨k,hk1,hk2⟩:=hk;have hkp:=(hsel k).1 hk1;have hkn:k<n:=hbn k (.inl hk1);obtain⟨rk,gk,okk⟩:=hrs k hkn;obtain⟨e2,he2,hex2⟩:=xt hk2;rcases okk.h e2 he2 with a2|⟨_,_,c1,_⟩
       ·rw[hex2]at a2;have:j=k:=hdst j k rj rk hjn hkn gj gk (by unfold ng at a1 a2;omega)
        exact hjp (this▸hkp)
       ·rw[hex2]at c1;rcases c1 with⟨b',hb'⟩|⟨c,rc,c3,c4,c5⟩
        ·rw[old j rj x okj a1]at hb';cases hb'
        ·have hcn:c<n:=by have:=hlt k rk hkn gk c c3;omega
         have:c=j:=hdst c j rc rj hcn hjn c4 gj (by unfold ng at a1 c5;omega)
         exact hjp (htrans i r hin gr k hkp rk gk j (this▸c3))
      ·have hnone:∀k∈((List.range' 0 i).filter (bf r.pred)).reverse,ag (jy Rs Ms k) x=none:=fun k hk1=>by
        cases hq:ag (jy Rs Ms k) x with|none=>rfl|some v=>exact absurd ⟨k,hk1,by rw[hq];simp⟩ hk
       rw[quq hnone,old j rj x okj a1]at b1';cases b1'
     ·refine b2 (zi0 k1 hji hjp (fun hiP=>hiL ?_) (hex▸k2))
      exact hgood.closed j h i (by unfold lf;rw[gj];exact k3 i hiP)
   have hroom:a8 (s.nx+32*r.dst) (ml Rs Ms L s).hp=true:=by
    rw[qas];intro e he;rcases ziy he with⟨j,hj,he⟩|he
    ·have hjn:=hinv.lt j hj;have hji:j≠i:=fun e=>hiL (e▸hj)
     obtain⟨rj,gj,okj⟩:=hrs j hjn;rcases okj.h e he with a1|⟨_,_,c1,_⟩
     ·have:rj.dst≠r.dst:=fun hq=>hji (hdst j i rj r hjn hin gj gr hq)
      unfold ng at a1;omega
     ·rcases c1 with⟨b',hb'⟩|⟨c,rc,c3,c4,c5⟩
      ·exact qas.1 ok.room (e.1,b') (qde hb')
      ·have hcL:c∈L:=hgood.closed j hj c (by unfold lf;rw[gj];exact c3)
       have hcn:=hinv.lt c hcL;have:rc.dst≠r.dst:=fun hq=>hiL ((hdst c i rc r hcn hin c4 gr hq)▸hcL)
       unfold ng at c5;omega
    ·exact qas.1 ok.room _ he
   have hsees:(∀d,o.dst=some d->d=r.dst)->qct o (n9 s Rs Ms Cs i r) (ml Rs Ms L s):=fun hd=>by
    refine⟨by rw[hseen];rfl,fun x hx => ?_,hhp,fun d hd' => ?_⟩
    ·cases x with
     |tmp t=>
      exact hreads t (by simp only[lg];refine List.mem_append.2 (.inl ?_);rw[List.mem_filterMap];exact⟨.tmp t,hx,rfl⟩)
     |_=>rfl
    ·rw[hd d hd'];exact hroom
   rcases st with⟨s1,s2,s3,ps,c,s4,s5⟩|⟨ps,d,md,s1,s2,s3,s4,s5⟩
   ·have h9':=ze6 (hsees (fun d hd=>by rw[s2]at hd;injection hd with hd;exact hd.symm)) hreads s4
    have hadd:(ml Rs Ms L s).add o.dst r.v r.new=some (ml Rs Ms (i::L) s):=by
     rw[s2];have hbl:Nat.blt r.dst s.n=true:=by simpa using s3
     simp only[St.add,ml,hbl,qT,ix,jx,jy,s1,gr,wM]
    exact ze5 hr i3 h9' s5 hadd (fun G' a' w' hr'=>ih (i::L) _ G' a' w' oB hnext hgood' hr')
   ·have h9':=zyq (hsees (fun d hd=>(s3 d hd).1)) (by rw[hseen];rfl) s4
    refine qgx i3 (by simp[Region.wanted,s2]) (zer hr (zi1 h9') s5 (fun G' a' w' hr'=>ih (i::L) _ G' a' w' oB hnext hgood' ?_))
    have:(ml Rs Ms L s).addM md=ml Rs Ms (i::L) s:=by
     simp[St.addM,ml,ix,jx,jy,s1]
    rw[← this];exact hr'
end
mutual
def quk:AV->List Nat|.ptr b _=>[b]|.own k=>[k]|.oel k _ _ _=>[k]|.osl k _ _=>[k]|.iface _ x=>quk x|.agg xs=>qgk xs|.fn _ _ xs=>qgk xs|_=>[]
def qgk:List AV->List Nat|[]=>[]|x::xs=>quk x++qgk xs
end
def qpy(s:St):List Nat->List Nat
 |[]=>[]| k::ks=>(match ag s.hp k with
  |some (.cells cs _)=>qgk cs| _=>[])++qpy s ks
def z08(lo:Nat):List Nat:=[lo,lo+1,lo+2,lo+3,lo+4,lo+5,lo+6,lo+7,lo+8,lo+9,lo+10,lo+11,lo+12,lo+13,lo+14,lo+15]
def ss(s:St)(l:List Oper):Nat->Operand->List Nat
 |0,_=>[]|n+1,x=>match x with
  |.tmp t=>match l.find? (fun o=>match o.dst with|some d=>Nat.beq d t|none=>false) with
   |some o=>match o.op with|.move y=>ss s l n y|.assign y=>ss s l n y|.fieldAddr _ y _=>ss s l n y|.indexAddr _ y _=>ss s l n y|.load _ y=>qpy s (ss s l n y)|.alloc _=>[s.nx+32*t]|.box _ _=>[s.nx+32*t]|.buildSlice _ _ _=>[s.nx+32*t]|.call { callee := .builtin .append,args:=_,argTypes:=_ }=>[s.nx+32*t]|.call _=>z08 (s.nx+32*t)|_=>[]
   |none=>match s.ev x with|some v=>quk v|none=>[]
  |x=>match s.ev x with|some v=>quk v|none=>[]
def qgr(s:St)(l:List Oper):List Operand->List Nat|[]=>[]|x::xs=>ss s l 8 x++qgr s l xs
def zix(f:FuncId):List ee->Bool|[]=>false|e::es=>(ve f e.key && !(match e.hp with|[]=>true|_=>false))||zix f es
def zty(tb:Tb)(s:St)(l:List Oper)(o:Oper):List Nat:=match o.guard with
 |some _=>[]|none=>match o.op with
  |.store _ x _=>ss s l 8 x|.call { callee := .builtin .append,args,argTypes:=_ }=>match args.toList with|x::_=>ss s l 8 x|[]=>[]
  |.call { callee := .value g,args,argTypes:=_ }=>match s.ev g with|some (.fn (.func f) [] cap)=>bif zix f tb.ents then(qgr s l args.toList++qgk cap)++qpy s (qgr s l args.toList++qgk cap) else[]|some _=>[]|none=>(qgr s l args.toList++ss s l 8 g)++qpy s (qgr s l args.toList++ss s l 8 g)
  |_=>[]
def q71(s:St)(l:List Oper):Nat->Operand->List Nat
 |0,_=>[]|n+1,x=>match x with
  |.tmp t=>match l.find? (fun o=>match o.dst with|some d=>Nat.beq d t|none=>false) with
   |some o=>match o.op with|.move y=>q71 s l n y|.assign y=>q71 s l n y|.load _ y=>qpy s (ss s l n y)|.build _ parts=>qgr s l (parts.toList.map (·.2))|_=>[]
   |none=>match s.ev x with|some (.agg xs)=>qdm xs|_=>[]
  |_=>[]
def zi3(s:St)(l:List Oper):List Operand->List Nat|[]=>[]|x::xs=>q71 s l 8 x++zi3 s l xs
def q8x(s:St)(all:List Oper):List Oper->List Nat
 |[]=>[]| o::l=>(match o.op with
  |.call { callee := .value g,args,argTypes:=_ }=>match s.ev g with|some (.fn (.func _) [] _)=>zi3 s all args.toList|_=>[]
  | _=>[])++q8x s all l
def zhz:List Oper->List HR->List (List Nat)
 |[],_=>[]|o::l,Rs=>match pl Rs o.after.toList with|some p=>p::zhz l (Rs++[⟨0,.undef,[],p⟩])|none=>[]
def q5t(tb:Tb)(s:St)(all:List Oper):List Oper->List (List Nat)->Nat->List (Nat×List Nat×List Nat)
 |o::l,p::ps,i=>match zty tb s all o with|[]=>q5t tb s all l ps (i+1)|K=>(i,K,p)::q5t tb s all l ps (i+1)
 |_,_,_=>[]
def qvo(i:Nat):List (Nat×List Nat×List Nat)->Option (List Nat×List Nat)|[]=>none|(m,r)::l=>bif Nat.beq m i then some r else qvo i l
def qpo(l pred:List Nat):Bool:=match l with|[]=>true|x::xs=>bf pred x&&qpo xs pred
def qpn(pred:List Nat):List (Nat×Md)->Bool|[]=>true|(m,_)::r=>bf pred m&&qpn pred r
def qwi(s:St)(Rs:List HR)(k:Nat):List Nat->Bool
 |[]=>false| c::cs=>(match Rs[c]? with
  |some r=>Nat.ble (s.nx+32*r.dst) k&&Nat.blt k (s.nx+32*r.dst+32)| none=>false)||qwi s Rs k cs
def qox(s:St)(Rs:List HR)(pred:List Nat)(dst:Nat)(K:List Nat):List (Nat×ah)->Bool|[]=>true|e::r=>((Nat.ble (s.nx+32*dst) e.1&&Nat.blt e.1 (s.nx+32*dst+32))||(bf K e.1&&((match ag s.hp e.1 with|some _=>true|none=>false)||qwi s Rs e.1 pred)))&&qox s Rs pred dst K r
def qoy(dst:Nat):List (Nat×AV)->Bool|[]=>true|e::r=>Nat.beq e.1 dst&&qoy dst r
def qwo(Ms:List (Nat×Md))(j:Nat):Bool:=match ag Ms j with|some _=>false|none=>true
def qaa(Ms:List (Nat×Md)):List Nat->List Nat|[]=>[]|x::xs=>bif qwo Ms x then x::qaa Ms xs else qaa Ms xs
def jw(s:St)(i:Nat):Option Tmp->Nat|some t=>t|none=>s.n+i
def q6f(s:St):Option Tmp->Bool|some t=>Nat.blt t s.n|none=>true
def qhd{R:Type}(P:Program)(tb:Tb)(ops:Array Oper)(s:St)(Cs:List (Nat×List Nat×List Nat))(fin:List (Nat×Md)->List HR->List (Nat×Bool)->Option R):List Oper->Nat->List HR->List (Nat×Bool)->List (Nat×Md)->Option R
 |[],_,Rs,kn,Ms=>fin Ms Rs kn|o::l,i,Rs,kn,Ms=>match pl Rs o.after.toList with
  |none=>none|some pred=>bif q6f s o.dst&&a8 (s.nx+32*jw s i o.dst) s.hp&&td (jw s i o.dst) Rs&&vk pred (lg ops o) Rs 0&&vy ops (jw s i o.dst) pred i then
    match qvo i Cs,o.guard with
    |some (K,Pm),none=>match xe P tb ((fh Ms pred Rs 0 s).hide (me Cs pred i)) o.op with
     |some q=>q.K fun d=>match f5 P ((fh Ms pred Rs 0 s).hide (me Cs pred i)) d o,o.dst with
      |some (_,v,new),some tt=>qhd P tb ops s Cs fin l (i+1) (Rs++[⟨tt,v,new,pred⟩]) kn Ms|_,_=>match qdg P ((fh Ms pred Rs 0 s).hide (me Cs pred i)) d o with
       |some (_,md)=>bif qox s Rs pred (jw s i o.dst) K md.h&&qoy (jw s i o.dst) md.f&&qpo Pm pred&&qpn pred Ms then
         qhd P tb ops s Cs fin l (i+1) (Rs++[⟨jw s i o.dst,.undef,[],pred⟩]) kn ((i,md)::Ms) else none
       |none=>none
     |none=>none
    |_,_=>match o.dst with
     |some d=>opH P tb ops ((fh Ms pred Rs 0 s).hide (me Cs pred i)) (qaa Ms pred) Rs kn o fun v new kn'=>qhd P tb ops s Cs fin l (i+1) (Rs++[⟨d,v,new,pred⟩]) kn' Ms
     |none=>none
   else none
def q6b{R:Type}(P:Program)(tb:Tb)(ops:Array Oper)(s:St)(Cs:List (Nat×List Nat×List Nat))(K:St->Option R):Option R:=
 bif o6 ops.toList 0&&pq ops (kg ops)&&Nat.ble (kg ops) ops.toList.length then
  qhd P tb ops s Cs (fun Ms Rs kn=>qdl P tb ops (ops.toList.drop (kg ops)) (qal Rs kn kn (fh Ms (List.range (kg ops)) Rs 0 s)) K) (ops.toList.take (kg ops)) 0 [] [] []
 else none
def q6e{R:Type}(P:Program)(tb:Tb)(ops:Array Oper)(s:St)(K:St->Option R):Option R:=
 match q5t tb s (ops.toList.take (kg ops)) (ops.toList.take (kg ops)) (zhz (ops.toList.take (kg ops)) []) 0 with|[]=>q6c P tb ops s K|Cs=>q6b P tb ops s Cs K
def q6d{R:Type}(P:Program)(tb:Tb)(ops:Array Oper)(s:St)(K:St->Option R):Option R:=
 q6e P tb ops (frzL (q8x s (ops.toList.take (kg ops)) (ops.toList.take (kg ops))) s) K
section
variable{P:Program}{vjc:World}{vi7:Gh}{vi9:List (Nat×ah)}{G:Gh}{a:Act}{w:World}{R:Type}{tb:Tb}{s:St}
def zi6{Ms:List (Nat×Md)}{j:Nat}:qwo Ms j=true↔ag Ms j=none:=by
 unfold qwo;cases ag Ms j<;>simp
def qwl{Ms:List (Nat×Md)}{j:Nat}:∀{l:List Nat},j∈qaa Ms l↔j∈l/\ag Ms j=none
 |[]=>by simp[qaa]|x::xs=>by
  simp[qaa];cases hb:qwo Ms x
  ·simp only[qF,qwl (l:=xs),wE];refine⟨fun h=>⟨.inr h.1,h.2⟩,fun⟨h1,h2⟩=>⟨h1.resolve_left (fun e => ?_),h2⟩⟩
   subst e;rw[zi6.2 h2]at hb;cases hb
  ·have:=zi6.1 hb;simp[qT,wE,qwl (l:=xs)];refine⟨fun h => ?_,fun⟨h1,h2⟩ => ?_⟩
   ·rcases h with rfl|h
    ·exact⟨.inl rfl,this⟩
    ·exact⟨.inr h.1,h.2⟩
   ·rcases h1 with h1|h1
    ·exact .inl h1
    ·exact .inr ⟨h1,h2⟩
def zha{i:Nat}{r:List Nat×List Nat}:∀{l:List (Nat×List Nat×List Nat)},qvo i l=some r->(i,r)∈l
 |[],h=>by cases h
 |(m,r')::l,h=>by
  simp[qvo]at h;cases hb:Nat.beq m i<;>rw[hb]at h<;>simp only[qT,qF]at h
  ·exact qE _ (zha h)
  ·simp only[qI]at h;subst h;rw[qN hb];exact qH
def zmg{pred:List Nat}:∀{l:List Nat},qpo l pred=true->∀j∈l,j∈pred
 |[],_,j,h=>by cases h
 |x::xs,h,j,hj=>by
  simp[qpo,qA]at h;rcases List.mem_cons.1 hj with rfl|hj
  ·exact gp.1 h.1
  ·exact zmg h.2 j hj
def zmf{pred:List Nat}:∀{Ms:List (Nat×Md)},qpn pred Ms=true->∀j,ag Ms j≠none->j∈pred
 |[],_,j,h=>absurd rfl h|(m,md)::r,h,j,hj=>by
  simp[qpn,qA]at h;simp[ag]at hj;cases hb:Nat.beq m j<;>rw[hb]at hj<;>simp at hj
  ·exact zmf h.2 j hj
  ·rw[← qN hb];exact gp.1 h.1
def zis{Rs:List HR}{k:Nat}:∀{cs:List Nat},qwi s Rs k cs=true->∃c rc,c∈cs/\Rs[c]? = some rc/\ng (s.nx+32*rc.dst) k
 |[],h=>by cases h
 |c::cs,h=>by
  simp[qwi,Bool.or_eq_true]at h;rcases h with h|h
  ·split at h
   ·rename_i r hr;simp only[qA,Nat.blt_eq]at h;exact⟨c,r,qH,hr,Nat.le_of_ble_eq_true h.1,h.2⟩
   ·cases h
  ·obtain⟨c',rc,h1,h2⟩:=zis h;exact⟨c',rc,qE _ h1,h2⟩
def zit{Rs:List HR}{pred:List Nat}{dst:Nat}{K:List Nat}:∀{l:List (Nat×ah)},qox s Rs pred dst K l=true->∀e∈l,ng (s.nx+32*dst) e.1\/(e.1∈K/\((∃b,ag s.hp e.1=some b)\/∃c rc,c∈pred/\Rs[c]? = some rc/\ng (s.nx+32*rc.dst) e.1))
 |[],_,e,he=>by cases he
 |x::r,h,e,he=>by
  simp only[qox,qA,Bool.or_eq_true]at h;rcases List.mem_cons.1 he with rfl|he
  ·rcases h.1 with h1|⟨h1,h2⟩
   ·simp only[Nat.blt_eq]at h1;exact .inl ⟨Nat.le_of_ble_eq_true h1.1,h1.2⟩
   ·refine .inr ⟨gp.1 h1,?_⟩;rcases h2 with h2|h2
    ·cases hq:ag s.hp e.1 with
     |none=>rw[hq]at h2;cases h2
     |some b=>exact .inl ⟨b,rfl⟩
    ·exact .inr (zis h2)
  ·exact zit h.2 e he
def ziu{dst:Nat}:∀{l:List (Nat×AV)},qoy dst l=true->∀e∈l,e.1=dst
 |[],_,e,he=>by cases he
 |x::r,h,e,he=>by
  simp only[qoy,qA]at h;rcases List.mem_cons.1 he with rfl|he
  ·exact qN h.1
  ·exact ziu h.2 e he
def q4y{Ms Ms':List (Nat×Md)}{sel:List Nat}:∀(rs:List HR)(j:Nat)(t:St),(∀k,k<j+rs.length->ag Ms k=ag Ms' k)->fh Ms sel rs j t=fh Ms' sel rs j t
 |[],_,_,_=>rfl|r::rs,j,t,h=>by
  simp[fh];rw[h j oC,q4y rs (j+1) _ (fun k hk=>h k oB)]
def zem{Ms:List (Nat×Md)}{sel:List Nat}{d:Nat}:∀{rs:List HR}{j:Nat}{t:St},(∀(k:Nat)(r:HR),rs[k]? = some r->(ag Ms (j+k)=none->r.dst≠d)/\∀md,ag Ms (j+k)=some md->∀e∈md.f,e.1≠d)->ag (fh Ms sel rs j t).fr d=ag t.fr d
 |[],_,_,_=>rfl|r::rs,j,t,h=>by
  simp[fh];rw[zem (fun k r' hr'=>by have:=h (k+1) r' (by simpa using hr');rwa [show j+(k+1)=j+1+k by omega]at this)]
  cases bf sel j
  ·rfl
  ·simp;have h0:=h 0 r oC
   rw[Nat.add_zero]at h0
   cases hm:ag Ms j with
   |none=>
    simp[St.addR,ag];cases hq:Nat.beq r.dst d
    ·rfl
    ·exact absurd (qN hq) (h0.1 hm)
   |some md=>
    simp[St.addM];rw[q7q]
    cases hq:ag md.f d with
    |none=>rfl|some v=>
     obtain⟨e,he,hx⟩:=xt (l:=md.f) (m:=d) (by rw[hq];simp)
     exact absurd hx (h0.2 md hm e he)
def q4z{Ms:List (Nat×Md)}{sel:List Nat}:∀{rs:List HR}{j k:Nat}{t:St}{r:HR},rs[k]? = some r->bf sel (j+k)=true->ag Ms (j+k)=none ->
  (∀(k':Nat)(r':HR),k<k'->rs[k']? = some r'->r'.dst≠r.dst/\∀md,ag Ms (j+k')=some md->∀e∈md.f,e.1≠r.dst)->ag (fh Ms sel rs j t).fr r.dst=some r.v
 |[],_,_,_,_,h,_,_,_=>by simp at h|r0::rs,j,0,t,r,h,hm,hn,hd=>by
  simp at h;subst h;simp[fh];rw[zem (fun k r' hr'=>by
   have:=hd (k+1) r' oA (by simpa using hr')
   rw[show j+(k+1)=j+1+k by omega]at this
   exact⟨fun _=>this.1,this.2⟩)]
  rw[Nat.add_zero]at hm hn;rw[hm,hn];simp[St.addR,ag]
 |r0::rs,j,k+1,t,r,h,hm,hn,hd=>by
  simp[fh];rw[show j+(k+1)=j+1+k by omega]at hm hn
  exact q4z (k:=k) (by simpa using h) hm hn (fun k' r' hk hr'=>by
   have:=hd (k'+1) r' oA (by simpa using hr')
   rwa [show j+(k'+1)=j+1+k' by omega]at this)
structure HX(P:Program)(ops:Array Oper)(s:St)(Cs:List (Nat×List Nat×List Nat))(i:Nat)(Rs:List HR)(Ms:List (Nat×Md)):Prop where
 len:Rs.length=i
 all:∀j o,j<i->ops[j]? = some o->∃r,OkX ops s Rs Ms Cs j o r/\StX P ops s Rs Ms Cs j o r
 lt:∀j,ag Ms j≠none->j<i
 und:∀(j:Nat)(r:HR)(md:Md),Rs[j]? = some r->ag Ms j=some md->r.v = .undef
def HX.more{ops:Array Oper}{Cs:List (Nat×List Nat×List Nat)}{i:Nat}{Rs:List HR}{Ms Ms':List (Nat×Md)}{r0:HR}(hI:HX P ops s Cs i Rs Ms)(hM:∀j,j<i->ag Ms' j=ag Ms j){j:Nat}{o:Oper}{r:HR}(hj:j<i)
  (ok:OkX ops s Rs Ms Cs j o r) (st:StX P ops s Rs Ms Cs j o r):OkX ops s (Rs++[r0]) Ms' Cs j o r/\StX P ops s (Rs++[r0]) Ms' Cs j o r:=by
 have hl:=hI.len;have hg:∀k,k<i->(Rs++[r0])[k]? = Rs[k]? := fun k hk=>List.getElem?_append_left oA
 have ht:(Rs++[r0]).take j=Rs.take j:=by rw[List.take_append_of_le_length oA]
 have hf:jx (Rs++[r0]) Ms' j=jx Rs Ms j:=by unfold jx;rw[hM j hj,hg j hj]
 have hh:jy (Rs++[r0]) Ms' j=jy Rs Ms j:=by unfold jy;rw[hM j hj,hg j hj]
 have hs:n9 s (Rs++[r0]) Ms' Cs j r=n9 s Rs Ms Cs j r:=by
  unfold n9;rw[ht,q4y (Rs.take j) 0 s (fun k hk=>hM k (by simp at hk;omega))]
 refine⟨⟨by rw[hg j hj];exact ok.get,ok.room,by rw[ht];exact ok.pred,by rw[ht];exact ok.fresh,by rw[ht];exact ok.reads,ok.writes,by rw[hf];exact ok.f,fun e he => ?_⟩,?_⟩
 ·rw[hh]at he;rcases ok.h e he with h|⟨h1,h2,h3,h4⟩
  ·exact .inl h
  ·refine .inr ⟨by rw[hM j hj];exact h1,h2,?_,fun k hk hkm=>h4 k hk (by rw[← hM k oA];exact hkm)⟩
   rcases h3 with h3|⟨c,rc,c1,c2,c3⟩
   ·exact .inl h3
   ·have:c<i:=by have:=(List.getElem?_eq_some_iff.1 c2).1;omega
    exact .inr ⟨c,rc,c1,by rw[hg c this];exact c2,c3⟩
 ·rcases st with⟨s1,s2,s3,s4⟩|⟨ps,d,md,s1,s2,s3,s4,s5⟩
  ·exact .inl ⟨by rw[hM j hj];exact s1,s2,s3,by rw[hs];exact s4⟩
  ·exact .inr ⟨ps,d,md,by rw[hM j hj];exact s1,s2,s3,by rw[hs];exact s4,s5⟩
def HX.dis{ops:Array Oper}{Cs:List (Nat×List Nat×List Nat)}{i:Nat}{Rs:List HR}{Ms:List (Nat×Md)}(hi:i<=ops.size)(hI:HX P ops s Cs i Rs Ms):∀(k k':Nat)(r r':HR),k<k'->Rs[k]? = some r->Rs[k']? = some r'->r'.dst≠r.dst/\∀md,ag Ms k'=some md->∀e∈md.f,e.1≠r.dst:=fun k k' r r' hk h1 h2=>by
 have hk':k'<i:=by have:=(List.getElem?_eq_some_iff.1 h2).1;have:=hI.len;omega
 obtain⟨ok',hok'⟩:∃o,ops[k']? = some o:=⟨ops[k'],by simp[show k'<ops.size by omega]⟩
 obtain⟨r2,ok,_⟩:=hI.all k' _ hk' hok';have h3:=ok.get;rw[h2]at h3;injection h3 with h3;subst h3
 have hne:r'.dst≠r.dst:=fun e=>qaf.1 ok.fresh r (List.mem_of_getElem? (i:=k) (by rw[List.getElem?_take,qX hk];exact h1)) e.symm
 refine⟨hne,fun md hmd e he => ?_⟩
 have:jx Rs Ms k'=md.f:=by unfold jx;rw[hmd]
 rw[ok.f e (by rw[this];exact he)];exact hne
def qv2(hT:∀e∈tb.ents,e.Sound P){ops:Array Oper}{Cs:List (Nat×List Nat×List Nat)}{fin:List (Nat×Md)->List HR->List (Nat×Bool)->Option R}{x:R}:∀(l:List Oper)(i:Nat)(Rs:List HR)(kn:List (Nat×Bool))(Ms:List (Nat×Md)),(∀j,j<l.length->ops[i+j]? = l[j]?)->oo Rs kn->HX P ops s Cs i Rs Ms->i<=ops.size ->
  qhd P tb ops s Cs fin l i Rs kn Ms=some x->∃Ms' Rs' kn',fin Ms' Rs' kn'=some x/\oo Rs' kn'/\HX P ops s Cs (i+l.length) Rs' Ms'
 |[],i,Rs,kn,Ms,_,hkn,hI,_,h=>⟨Ms,Rs,kn,h,hkn,hI⟩|o::l,i,Rs,kn,Ms,hl,hkn,hI,his,h=>by
  have ho:ops[i]? = some o:=by have:=hl 0 oC;simpa using this
  have hil:i<ops.size:=(Array.getElem?_eq_some_iff.1 ho).1;have hl':∀j,j<l.length->ops[i+1+j]? = l[j]? := fun j hj=>by have:=hl (j+1) oB;simpa [Nat.add_assoc,Nat.add_comm 1 j] using this
  have knm:∀(r0:HR)(kn':List (Nat×Bool)),oo Rs kn'->oo (Rs++[r0]) kn':=fun r0 kn' hk j d hj=>by
   obtain⟨r,i1,i2⟩:=hk j d hj;exact⟨r,by rw[List.getElem?_append_left (List.getElem?_eq_some_iff.1 i1).1];exact i1,i2⟩
  have htl:∀r0:HR,(Rs++[r0]).take i=Rs:=fun r0=>by rw[← hI.len,List.take_left]
  have hge:∀r0:HR,(Rs++[r0])[i]? = some r0:=fun r0=>by rw[← hI.len];simp
  have hMi:ag Ms i=none:=by
   cases hq:ag Ms i with|none=>rfl|some v=>have:=hI.lt i (by rw[hq];simp);omega
  have hdis:=hI.dis his
  -- a further operation that leaves own memory
  have normal:∀(pred:List Nat)(tt:Nat)(v:AV)(new:List (Nat×ah))(ps:List Prop)(c:y5),pl Rs o.after.toList=some pred->o.dst=some tt->Nat.blt tt s.n=true->a8 (s.nx+32*tt) s.hp=true->td tt Rs=true->vk pred (lg ops o) Rs 0=true->vy ops tt pred i=true ->
    ox P ops ((fh Ms pred Rs 0 s).hide (me Cs pred i)) c o=some (ps,v,new)->ax ps->HX P ops s Cs (i+1) (Rs++[⟨tt,v,new,pred⟩]) Ms:=fun pred tt v new ps c hp hd b1 b2 b3 b4 b5 hst hps=>by
   refine⟨by rw[qM,hI.len];rfl,fun j oj hj hoj => ?_,fun j hj=>by have:=hI.lt j hj;omega,fun j r md hr hm=>by
    have hji:=hI.lt j (by rw[hm];simp)
    exact hI.und j r md (by rw[List.getElem?_append_left (by have:=hI.len;omega)]at hr;exact hr) hm⟩
   by_cases hji:j<i
   ·obtain⟨r,ok,st⟩:=hI.all j oj hji hoj;exact⟨r,hI.more (fun _ _=>rfl) hji ok st⟩
   ·have:j=i:=oA
    subst this;rw[ho]at hoj;cases hoj;have hs:n9 s (Rs++[⟨tt,v,new,pred⟩]) Ms Cs j ⟨tt,v,new,pred⟩=(fh Ms pred Rs 0 s).hide (me Cs pred j):=by unfold n9;rw[htl]
    have hef:jx (Rs++[⟨tt,v,new,pred⟩]) Ms j=[(tt,v)]:=by unfold jx;rw[hMi,hge]
    have heh:jy (Rs++[⟨tt,v,new,pred⟩]) Ms j=new:=by unfold jy;rw[hMi,hge]
    have hnm:=ze4 hd hst;have hnx:((fh Ms pred Rs 0 s).hide (me Cs pred j)).nx=s.nx:=by
     rw[qt7 (Rs:=Rs) Rs 0 s (fun k _=>by rw[wO])];rfl
    rw[hnx]at hnm;refine⟨⟨tt,v,new,pred⟩,⟨hge _,b2,by rw[htl];exact hp,by rw[htl];exact b3,by rw[htl];exact b4,b5,fun e he => ?_,fun e he => .inl ?_⟩,.inl ⟨hMi,hd,by simpa using b1,ps,c,by rw[hs];exact hst,hps⟩⟩
    ·rw[hef]at he;rw[List.mem_singleton]at he;subst he;rfl
    ·rw[heh]at he;exact hnm e he
  simp[qhd]at h;split at h
  ·cases h
  ·rename_i pred hp;cases hc:q6f s o.dst&&a8 (s.nx+32*jw s i o.dst) s.hp&&td (jw s i o.dst) Rs&&vk pred (lg ops o) Rs 0&&vy ops (jw s i o.dst) pred i<;>rw[hc]at h<;>simp at h
   simp at hc;obtain⟨⟨⟨⟨b1,b2⟩,b3⟩,b4⟩,b5⟩:=hc;split at h
   ·rename_i K Pm hf hg;split at h
    ·rename_i q hq;obtain⟨d,q1,q2⟩:=Rq.K_some h;split at q2
     ·rename_i ps v new tt ha hd;rw[hd]at b1 b2 b3 b5;have hps:=ze0 hT hq q1 ha;have hI':=normal pred tt v new ps (false,d) hp hd b1 b2 b3 b4 b5 (by unfold ox;rw[hg];exact ha) hps
      obtain⟨Ms',Rs',kn',e1,e2,e3⟩:=qv2 hT l (i+1) _ kn Ms hl' (knm _ _ hkn) hI' oA q2
      exact⟨Ms',Rs',kn',e1,e2,by rw[qL,show i+(l.length+1)=i+1+l.length by omega];exact e3⟩
     ·split at q2
      ·rename_i ps md hmo;cases hx:qox s Rs pred (jw s i o.dst) K md.h&&qoy (jw s i o.dst) md.f&&qpo Pm pred&&qpn pred Ms<;>rw[hx]at q2<;>simp at q2
       simp at hx;obtain⟨⟨⟨x1,x2⟩,x3⟩,x4⟩:=hx;have hps:=ze1 hT hq q1 (zi1 hmo);have hM':∀j,j<i->ag ((i,md)::Ms) j=ag Ms j:=fun j hj=>by
        have:Nat.beq i j=false:=by
         cases hb:Nat.beq i j
         ·rfl
         ·have:=qN hb;omega
        simp[ag,this,qF]
       have hMM:ag ((i,md)::Ms) i=some md:=by simp[ag]
       have hI':HX P ops s Cs (i+1) (Rs++[⟨jw s i o.dst,.undef,[],pred⟩]) ((i,md)::Ms):=by
        refine⟨by rw[qM,hI.len];rfl,fun j oj hj hoj => ?_,fun j hj => ?_,fun j r md' hr hm => ?_⟩
        ·by_cases hji:j<i
         ·obtain⟨r,ok,st⟩:=hI.all j oj hji hoj;exact⟨r,hI.more hM' hji ok st⟩
         ·have:j=i:=oA
          subst this;rw[ho]at hoj;cases hoj;have hs:n9 s (Rs++[⟨jw s j o.dst,.undef,[],pred⟩]) ((j,md)::Ms) Cs j ⟨jw s j o.dst,.undef,[],pred⟩=(fh Ms pred Rs 0 s).hide (me Cs pred j):=by
           unfold n9;rw[htl,q4y (Ms':=Ms) Rs 0 s (fun k hk=>hM' k (by have:=hI.len;omega))]
          have hef:jx (Rs++[⟨jw s j o.dst,.undef,[],pred⟩]) ((j,md)::Ms) j=md.f:=by unfold jx;rw[hMM]
          have heh:jy (Rs++[⟨jw s j o.dst,.undef,[],pred⟩]) ((j,md)::Ms) j=md.h:=by unfold jy;rw[hMM]
          refine⟨⟨jw s j o.dst,.undef,[],pred⟩,⟨hge _,b2,by rw[htl];exact hp,by rw[htl];exact b3,by rw[htl];exact b4,b5,fun e he => ?_,fun e he => ?_⟩,.inr ⟨ps,d,md,hMM,hg,fun t ht => ?_,by rw[hs];exact hmo,hps⟩⟩
          ·rw[hef]at he;exact ziu x2 e he
          ·rw[heh]at he;rcases zit x1 e he with h'|⟨h1,h2⟩
           ·exact .inl h'
           ·refine .inr ⟨by rw[hMM];simp,⟨K,Pm,zha hf,h1,zmg x3⟩,?_,fun k hk hkm=>zmf x4 k (by rw[hM' k hk]at hkm;exact hkm)⟩
            rcases h2 with h2|⟨c,rc,c1,c2,c3⟩
            ·exact .inl h2
            ·have:c<Rs.length:=(List.getElem?_eq_some_iff.1 c2).1;exact .inr ⟨c,rc,c1,by rw[List.getElem?_append_left this];exact c2,c3⟩
          ·rw[ht]at b1 ⊢;exact⟨rfl,by simpa [q6f] using b1⟩
        ·simp[ag]at hj;cases hb:Nat.beq i j<;>rw[hb]at hj<;>simp at hj
         ·have:=hI.lt j hj;omega
         ·have:=qN hb;omega
        ·by_cases hji:j=i
         ·subst hji;rw[hge]at hr;cases hr;rfl
         ·have hr':(Rs++[⟨jw s i o.dst,.undef,[],pred⟩])[j]? = some r:=hr;have hjl:j<i+1:=by have:=(List.getElem?_eq_some_iff.1 hr).1;simp at this;have:=hI.len;omega
          exact hI.und j r md' (by rw[List.getElem?_append_left (by have:=hI.len;omega)]at hr;exact hr) (by rw[hM' j oA]at hm;exact hm)
       obtain⟨Ms',Rs',kn',e1,e2,e3⟩:=qv2 hT l (i+1) _ kn _ hl' (knm _ _ hkn) hI' oA q2
       exact⟨Ms',Rs',kn',e1,e2,by rw[qL,show i+(l.length+1)=i+1+l.length by omega];exact e3⟩
      ·cases q2
    ·cases h
   ·split at h
    ·rename_i d hd;rw[hd]at b1 b2 b3 b5;have hv:∀j r,bf (qaa Ms pred) j=true->Rs[j]? = some r->ag ((fh Ms pred Rs 0 s).hide (me Cs pred i)).fr r.dst=some r.v:=fun j r hm hr=>by
      obtain⟨h1,h2⟩:=qwl.1 (gp.1 hm);exact q4z (k:=j) hr (by rw[wO];exact gp.2 h1) (by rw[wO];exact h2) (fun k' r' hk hr'=>by rw[wO];exact hdis j k' r r' hk hr hr')
     have hdd:∀(j:Nat)(r:HR),bf (qaa Ms pred) j=true->Rs[j]? = some r->∃oj:Oper,ops[j]? = some oj/\oj.dst=some r.dst:=fun j r hm hr=>by
      obtain⟨h1,h2⟩:=qwl.1 (gp.1 hm);have hj:j<i:=by have:=(List.getElem?_eq_some_iff.1 hr).1;have:=hI.len;omega
      obtain⟨oj,hoj⟩:∃o,ops[j]? = some o:=⟨ops[j],by simp[show j<ops.size by omega]⟩
      obtain⟨r2,ok,st⟩:=hI.all j oj hj hoj;have h3:=ok.get;rw[hr]at h3;injection h3 with h3;subst h3
      rcases st with⟨_,s2,_⟩|⟨_,_,md,s1,_⟩
      ·exact⟨oj,hoj,s2⟩
      ·rw[h2]at s1;cases s1
     obtain⟨ps,c,v,new,kn',h1,h2,h3,h4⟩:=zjn hT hkn hv hdd h;have hI':=normal pred d v new ps c hp hd b1 b2 b3 b4 b5 h1 h2;obtain⟨Ms',Rs',kn2,e1,e2,e3⟩:=qv2 hT l (i+1) _ kn' Ms hl' (knm _ _ h3) hI' oA h4
     exact⟨Ms',Rs',kn2,e1,e2,by rw[qL,show i+(l.length+1)=i+1+l.length by omega];exact e3⟩
    ·cases h
def zu7(hT:∀e∈tb.ents,e.Sound P)(hm:P.follows .mixedOrders=true){ops:Array Oper}{Cs:List (Nat×List Nat×List Nat)}{K:St->Option R}{x:R}(h:q6b P tb ops s Cs K=some x){N:Act->World->Prop}(hN:∀s',K s'=some x->∀G' a' w',ak vjc vi7 vi9 G' s' a' w'->N a' w')
  (hr:ak vjc vi7 vi9 G s a w) (id:Nat) (b:Frame) (kk:List Item) (cs:List Frame) (hk:b.kind = .normal) :
  ∃a' w',N a' w'/\Steps P (lone (b.atR a (.code (.region id ops true)::kk)) cs w) (lone (b.atR a' kk) cs w'):=by
 unfold q6b at h;generalize kg ops=n at h;cases hb:o6 ops.toList 0&&pq ops n&&Nat.ble n ops.toList.length<;>rw[hb]at h<;>simp at h
 simp only[qA]at hb;obtain⟨⟨b1,b2⟩,b3⟩:=hb;have hn:n<=ops.size:=by have:=Nat.le_of_ble_eq_true b3;simpa using this
 have ac:(ops.toList.take n).length=n:=by simp;omega
 obtain⟨Ms,Rs,kn,k1,kkn,hI⟩:=qv2 hT (ops.toList.take n) 0 [] [] [] (fun j hj=>by
  rw[ac]at hj;rw[List.getElem?_take,qX hj,wO];simp) (fun j d h=>by cases h) ⟨rfl,fun j o hj=>oA,fun j hj=>absurd rfl hj,fun j r md h=>by simp at h⟩ (Nat.zero_le _) h
 rw[wO,ac]at hI;have base:∀(G:Gh)(a:Act)(w:World),ak vjc vi7 vi9 G (fh Ms (List.range n) Rs 0 s) a w->∀l,ak vjc vi7 vi9 G (qal Rs kn l (fh Ms (List.range n) Rs 0 s)) a w:=by
  intro G a w hr l
  induction l with
  |nil=>exact hr|cons e l ih=>
   obtain⟨j,d⟩:=e;unfold qal;split
   ·rename_i d' r h0 h1;obtain⟨r',i1,h2⟩:=kkn j d' h0;rw[h1]at i1;have:=qJ i1;subst this;have hj:j<n:=by have:=(List.getElem?_eq_some_iff.1 h1).1;rw[hI.len]at this;exact this
    refine ih.know ?_
    cases hMj:ag Ms j with
    |some md=>
     have:=hI.und j r md h1 hMj;rw[h2]at this;cases this
    |none=>
     have hin:ag (fh Ms (List.range n) Rs 0 s).fr r.dst=some r.v:=q4z (k:=j) h1 (by rw[wO,gp];exact List.mem_range.2 hj) (by rw[wO];exact hMj) (fun k' r' hk hr'=>by rw[wO];exact hI.dis hn j k' r r' hk h1 hr')
     obtain⟨v,v1,v2⟩:=hr.frame r.dst _ hin;rw[h2]at v2;have v2:v = .bool d':=v2;subst v2;show a.tmps.getD r.dst undef=_;rw[Array.getD_eq_getD_getElem?,v1];rfl
   ·exact ih
 refine zgh hm ?_ b kk cs hk;refine zwm (vjc:=vjc) (vi7:=vi7) (vi9:=vi9) (N:=N) hn b1 b2 hI.len hI.all (fun G a w listed hr' hu=>q91 hT b1 b2 hN _ n (wF _) rfl hn _ G a w listed k1 (base G a w hr' kn) hu) ops.size [] _ G a _ oC ?_ trivial ?_
 ·refine⟨List.nodup_nil,fun i hi=>(by cases hi),oC,fun j hj => ?_,fun i hi=>(by cases hi)⟩
  rw[Array.getD_eq_getD_getElem?];simp[hj]
 ·exact⟨hr.defers,hr.size,hr.frame,hr.fresh,⟨⟨hr.fin.mem.agree,hr.fin.mem.one,hr.fin.mem.holds,hr.fin.mem.apart,hr.fin.mem.tab⟩,⟨hr.fin.bel.os,hr.fin.bel.tape,hr.fin.bel.output,hr.fin.bel.size,hr.fin.bel.block⟩,hr.fin.imm_le,hr.fin.imm_new,hr.fin.base,hr.fin.keep,hr.fin.keepOwn⟩⟩
def zva(hT:∀e∈tb.ents,e.Sound P)(hm:P.follows .mixedOrders=true){ops:Array Oper}{K:St->Option R}{x:R}(h:q6e P tb ops s K=some x){N:Act->World->Prop}(hN:∀s',K s'=some x->∀G' a' w',ak vjc vi7 vi9 G' s' a' w'->N a' w')
  (hr:ak vjc vi7 vi9 G s a w) (id:Nat) (b:Frame) (k:List Item) (cs:List Frame) (hk:b.kind = .normal) :
  ∃a' w',N a' w'/\Steps P (lone (b.atR a (.code (.region id ops true)::k)) cs w) (lone (b.atR a' k) cs w'):=by
 unfold q6e at h;split at h
 ·exact zu8 hT hm h hN hr id b k cs hk
 ·exact zu7 hT hm h hN hr id b k cs hk
def zu9(hT:∀e∈tb.ents,e.Sound P)(hm:P.follows .mixedOrders=true){ops:Array Oper}{K:St->Option R}{x:R}(h:q6d P tb ops s K=some x){N:Act->World->Prop}(hN:∀s',K s'=some x->∀G' a' w',ak vjc vi7 vi9 G' s' a' w'->N a' w')
  (hr:ak vjc vi7 vi9 G s a w) (id:Nat) (b:Frame) (k:List Item) (cs:List Frame) (hk:b.kind = .normal) :
  ∃a' w',N a' w'/\Steps P (lone (b.atR a (.code (.region id ops true)::k)) cs w) (lone (b.atR a' k) cs w'):=by
 obtain⟨G',hr'⟩:=hr.frzL (ks:=q8x s (ops.toList.take (kg ops)) (ops.toList.take (kg ops)));exact zva hT hm h hN hr' id b k cs hk
end
end Go.Sym
namespace Go.Sym
open Go.RowKit
variable[LC]
def xg(i:Nat)(c:Code):Code:=match c with
 |.seq a b=>match i with|0=>a|_=>b
 |.cond _ a b=>match i with|0=>a|_=>b
 |.block _ a=>a|.loop a=>a|.scope a=>a|.rangeFunc _ _ a b=>match i with|0=>a|_=>b
 |c=>c
def sub(body:Code):List Nat->Code|[]=>body|i::p=>xg i (sub body p)
structure eh where
 kd:Nat
 path:List Nat
 it:Item
def qai(body:Code)(kd:Nat)(p:List Nat):Item:=match kd with
 |0 => .code (sub body p)|1=>match sub body p with|.block id _ => .inBlock id|c => .code c
 |2=>match sub body p with|.loop x => .inLoop x|c => .code c
 |3=>match sub body p with|.scope x => .inScope x|c => .code c
 |_ => .beginRound
def eh.Ok(body:Code)(i:eh):Prop:=i.it=qai body i.kd i.path
abbrev wz:=List (Nat×List Nat)
def mf(body:Code):wz->List eh|[]=>[]|(kd,p)::r=>⟨kd,p,qai body kd p⟩::mf body r
def eu:List eh->List Item|[]=>[]|i::r=>i.it::eu r
def qg7:wz->List eh->Bool|[],[]=>true|(kd,p)::r,i::k=>Nat.beq kd i.kd&&sw p i.path&&qg7 r k|_,_=>false
def zgz{body:Code}:∀{key:wz}{k:List eh},qg7 key k=true->(∀i∈k,i.Ok body)->eu (mf body key)=eu k
 |[],[],_,_=>rfl|(kd,p)::r,⟨kd',p',it⟩::k,h,hk=>by
  simp only[qg7,qA]at h;obtain⟨⟨h1,h2⟩,h3⟩:=h;have h1:=qN h1;have h2:=qvd h2;subst h1 h2;have ho:it=qai body kd p:=hk _ qH;simp only[mf,eu];rw[zgz h3 (fun i hi=>hk i (qE _ hi)),ho]
 |[],_::_,h,_=>by cases h
 |_::_,[],h,_=>by cases h
def q69{body:Code}:∀{key:wz},∀i∈mf body key,i.Ok body
 |[],i,h=>by cases h
 |(kd,p)::r,i,h=>by
  rcases List.mem_cons.1 h with rfl|h
  ·rfl
  ·exact q69 i h
def zxe{body:Code}{kd:Nat}{p:List Nat}{c:Code}(h:Item.code c=qai body kd p):sub body p=c:=by
 unfold qai at h;split at h
 ·injection h with h;exact h.symm
 ·split at h
  ·cases h
  ·injection h with h;exact h.symm
 ·split at h
  ·cases h
  ·injection h with h;exact h.symm
 ·split at h
  ·cases h
  ·injection h with h;exact h.symm
 ·cases h
def zxf{body:Code}{kd:Nat}{p:List Nat}{c:Code}(h:Item.inLoop c=qai body kd p):sub body p = .loop c:=by
 unfold qai at h;split at h
 ·cases h
 ·split at h<;>cases h
 ·split at h
  ·rename_i e;injection h with h;subst h;exact e
  ·cases h
 ·split at h<;>cases h
 ·cases h
def ta(id:Nat):List eh->Option (List eh)
 |[]=>none|i::k=>match i.it with|.inBlock id'=>if id'==id then some k else ta id k|_=>ta id k
def q6k{id:Nat}:∀{k k':List eh},ta id k=some k'->exitTo id (eu k)=some (eu k')/\∀i∈k',i∈k
 |[],_,h=>by cases h
 |⟨kd,p,it⟩::k,k',h=>by
  simp only[ta]at h;split at h
  ·rename_i id';split at h
   ·rename_i he;simp only[qI]at h;subst h;exact⟨by simp only[eu,exitTo];rw[qX he],fun i hi=>qE _ hi⟩
   ·rename_i he;obtain⟨h1,h2⟩:=q6k h;exact⟨by simp only[eu,exitTo];rw[qW he];exact h1,fun i hi=>qE _ (h2 i hi)⟩
  ·rename_i hne;obtain⟨h1,h2⟩:=q6k h;refine⟨?_,fun i hi=>qE _ (h2 i hi)⟩
   (try simp only at hne)
   simp[eu];cases it<;>first
    |(exfalso;exact hne _ rfl)
    |(simp[exitTo];exact h1)
def q47(P:Program)(s:St):ResultVar->Option AV
 |.tmp t=>ag s.fr t|.cell t T=>match ag s.fr t with
  |some (.ptr b off)=>match ag s.hp b with|some (.cells cs _)=>ow P T cs off|_=>none
  |some (.rop cs)=>ow P T cs 0|some (.oel k sz 0 0)=>match ag s.hp k,qaz P T,er P T with|some (.row τ l _),some true,some _=>bif τ.is1&&Nat.beq sz 1 then some (.arr τ l) else none|_,_,_=>none
  |_=>none
def q89(P:Program)(s:St):ResultVar->Bool
 |.tmp _=>true|.cell t T=>match ag s.fr t with
  |some (.oel k _ 0 0)=>match ag s.hp k,er P T with|some (.row _ l _),some n=>decide (l.length=n)|_,_=>true
  |_=>true
def qpe(P:Program)(s:St):List ResultVar->Bool|[]=>true|x::xs=>q89 P s x&&qpe P s xs
def qgj(P:Program)(s:St):List ResultVar->Option (List AV)
 |[]=>some []|x::xs=>match q47 P s x with
  |some v=>match qgj P s xs with|some vs=>some (v::vs)|none=>none
  |none=>none
def q48(P:Program)(fn:Func)(s:St):Option AV:=
 match qgj P s fn.results.toList with
 |some vs=>match vs with|[v]=>some v|vs=>some (.tup vs)
 |none=>none
def frzC(p:Pt)(b off:Nat)(s:St):St:=match ag s.hp b with|some (.cells cs _)=>frzL (qvw p (.agg (cs.drop off))) s|_=>s
def coR(bs:List (Nat×bc)):List ResultVar->List Pt->St->St
 |[],_,s=>s|x::xs,ps,s=>match ps with
  |[]=>s|p::ps=>match x with
   |.tmp t=>coR bs xs ps (coF bs [(t,p)] s)|.cell t _=>match ag s.fr t with|some (.ptr b off)=>coR bs xs ps (frzC p b off (coB1 bs b [p] off s))|_=>coR bs xs ps s
def qwy:Pt->List Pt|.tup ps=>ps|p=>[p]
def qvl(v:AV)(ids:NM)(p:Pt)(hp:List (Nat×bc))(s:St):Option (p.den×g7 hp):=
 match p.get v ids with
 |some (d,nm)=>match ut s.hp hp nm with|some (d',nm')=>bif ei nm'&&xc nm' hp then some (d,d') else none|none=>none
 |none=>none
def q6o(P:Program)(fn:Func)(ids:NM)(rv:Option AV)(p:Pt)(hp:List (Nat×bc))(s:St):Option (p.den×g7 hp):=
 match rv with
 |some v=>qvl v ids p hp (coB hp ids hp s)|none=>match q48 P fn (coR hp fn.results.toList (qwy p) (coB hp ids hp s)) with|some v=>qvl v ids p hp (coR hp fn.results.toList (qwy p) (coB hp ids hp s))|none=>none
def q6p(P:Program)(fn:Func)(ids:NM)(rv:Option AV)(p:Pt)(hp:List (Nat×bc))(s:St):Bool:=
 match rv with|some _=>true|none=>qpe P (coR hp fn.results.toList (qwy p) (coB hp ids hp s)) fn.results.toList
def RS.fin(P:Program)(fn:Func)(ids:NM)(rv:Option AV)(s:St):{α:Type}->RS α->Option α
 | _,.one p hp _ fro _=>bif q6p P fn ids rv p hp s then(match q6o P fn ids rv p hp s with
  |some y=>some (fro y)| none=>none) else none
 |_,.two l r=>match l.fin P fn ids rv s with
  |some a=>some (.inl a)|none=>match r.fin P fn ids rv s with|some b=>some (.inr b)|none=>none
structure gh(R:Type) where
 key:wz
 ls:LS
 F:ls.den->Option R
def qdn{R:Type}(ids:NM)(s:St)(k:List eh):List (gh R)->Option (gh R)
 |[]=>none| l::ls=>bif qg7 l.key k then(match qdn ids s k ls with
   |none=>some l|some l'=>match l.ls.get ids (l.ls.co ids s) with
    |some _=>some l| none=>some l') else qdn ids s k ls
structure Cx:Type 1 where
 P:Program
 tb:Tb
 fn:Func
 f:FuncId
 ids:NM
 rd:Option Nat
 tags:List (List Nat×Nat)
def St.noDf(s:St):Bool:=match s.df with|[]=>true|_=>false
def qn7:List Nat->St->Option St
 |[],s=>some { s with df:=[] }|n::ns,s=>match ag s.hp n with|some .dfr=>qn7 ns { s with hp:=(n,.dead)::s.hp,df:=ns }|_=>none
def xp:Option dx->Bool|none=>true|some _=>false
def qf(cx:Cx){R:Type}(enc:RS R)(j:Option dx)(s:St):Option R:=
 match cx.rd with
 |none=>match qn7 s.df s with|some s'=>enc.fin cx.P cx.fn cx.ids none s'|none=>none
 |some m=>bif s.noDf then
   (match ag s.hp m with
   |some (.loop _ _ f n fr ps tag D)=>enc.fin cx.P cx.fn cx.ids (some (.val (.bool (xp j)))) { s with hp:=(m,.loop (bif xp j then .ready else .done) j f n fr ps tag D)::s.hp }| _=>none)
  else none
def St.enterRF(s:St)(f:FuncId)(ps:List Tmp)(tag:Nat)(around:Option Nat):Option St:=
 bif a8 s.nx s.hp then
  (match around with
  |none=>some { s with hp:=(s.nx,.loop .ready none f s.n s.fr ps tag (s.nx+1))::(s.nx+1,.dfr)::s.hp,df:=(s.nx+1)::s.df,nx:=s.nx+32 }|some m=>match ag s.hp m with
   |some (.loop _ _ _ _ _ _ _ D)=>some { s with hp:=(s.nx,.loop .ready none f s.n s.fr ps tag D)::s.hp,nx:=s.nx+32 }| _=>none)
 else none
def zk3(s:St)(ys:List AV)(d:D):Option St:=match d with
 |.mem names xs hp _ hp'=>
  bif ei names&&uz names&&a8 s.nx s.hp then
   (match jp (ay names) s.hp names,bg false [] (AV.rens (ay names) ys) xs with
   |some hpv,some _=>match l7 hpv hp with|some _=>some { s with hp:=mz (l9 names hp' s.nx) hp'++(o5 names++s.hp),nx:=s.nx+32 }|none=>none
   | _,_=>none)
  else none
 |_=>none
def pf(p:List Nat):List (List Nat×Nat)->Option Nat|[]=>none|(q,t)::r=>bif sw q p then some t else pf p r
def zja:LoopState->Bool|.busy=>false|_=>true
def qw4(cx:Cx)(p:List Nat)(g:Operand)(ps:List Tmp)(s:St):Option (Rq×St×List AV):=
 match pf p cx.tags,s.ev g with
 |some tag,some (.fn (.func h) [] cap)=>match s.enterRF cx.f ps tag cx.rd with
  |some s1=>match qc7 (qn6 s1 h (.yld s.nx::cap)) cx.tb.ents with|some q=>some (q,s1,.yld s.nx::cap)|none=>none
  |none=>none
 |_,_=>none
def zk5(cx:Cx)(p:List Nat)(g:Operand)(ps:List Tmp)(s:St):Option St:=
 match pf p cx.tags,s.ev g with
 |some tag,some (.fn (.func h) [] cap)=>match s.enterRF cx.f ps tag cx.rd with
  |some s1=>match qvb (fun e=>ve h e.key) cx.tb.ents with|some e=>some (coB e.hp (xx s1 e.hp (qaq e.args (.yld s.nx::cap))) e.hp (frzL (qda e.args (.yld s.nx::cap)) s))|none=>none
  |none=>none
 |_,_=>none
def qw5{R:Type}(nl:Nat)(a:Rq×St×List AV)(K:Option dx->St->Option R):Option R:=
 a.1.K fun d=>match zk3 a.2.1 a.2.2 d with
  |some s3=>match ag s3.hp nl with|some (.loop st pe _ _ _ _ _ _)=>bif zja st then K pe { s3 with hp:=(nl,.dead)::s3.hp } else none|_=>none
  |none=>none
def rfR(cx:Cx){R:Type}(p:List Nat)(g:Operand)(ps:List Tmp)(s:St)(K:Option dx->St->Option R):Option R:=
 match qw4 cx p g ps s with
 |some a=>qw5 s.nx a K|none=>match zk5 cx p g ps s with
  |some s'=>match qw4 cx p g ps s' with|some a=>qw5 s'.nx a K|none=>none
  |none=>none
def run(cx:Cx){R:Type}(enc:RS R)(labs:List (gh R)):Nat->Bool->List eh->St->Option R
 |0,_,_,_=>none|n+1,chk,k,s=>match(bif chk then qdn cx.ids s k labs else none) with
  |some lab=>match lab.ls.get cx.ids (lab.ls.co cx.ids s) with|some d=>lab.F d|none=>none
  |none=>match k with
   |[]=>qf cx enc none s|⟨_,p,it⟩::k'=>match it with
    |.code c=>match c with
     |.skip=>run cx enc labs n true k' s|.label _=>run cx enc labs n true k' s|.seq x y=>run cx enc labs n true (⟨0,0::p,.code x⟩::⟨0,1::p,.code y⟩::k') s|.cond c x y=>match s.ev c with|some (.bool b)=>bif b then run cx enc labs n true (⟨0,0::p,.code x⟩::k') (s.know c true) else run cx enc labs n true (⟨0,1::p,.code y⟩::k') (s.know c false)|some (.val (.bool b))=>bif b then run cx enc labs n true (⟨0,0::p,.code x⟩::k') s else run cx enc labs n true (⟨0,1::p,.code y⟩::k') s|_=>none
     |.block id x=>run cx enc labs n true (⟨0,0::p,.code x⟩::⟨1,p,.inBlock id⟩::k') s|.loop x=>run cx enc labs n true (⟨0,0::p,.code x⟩::⟨2,p,.inLoop x⟩::k') s|.scope x=>run cx enc labs n true (⟨0,0::p,.code x⟩::⟨3,p,.inScope x⟩::k') s|.exit id=>match ta id k' with
      |some k''=>run cx enc labs n true k'' s|none=>match cx.rd with|some _=>qf cx enc (some (.exit id)) s|none=>none
     |.region _ ops d=>bif d then q6d cx.P cx.tb ops s (fun s'=>run cx enc labs n true k' s'.bump) else qdl cx.P cx.tb ops ops.toList s (fun s'=>run cx enc labs n true k' s'.bump)
     |.ret=>qf cx enc (some .ret) s|.rangeFunc g ps _ _=>rfR cx p g ps.toList s fun j s'=>match j with
      |none=>run cx enc labs n true k' s'|some .ret=>qf cx enc (some .ret) s'|some (.exit id)=>match ta id k' with
       |some k''=>run cx enc labs n true k'' s'|none=>match cx.rd with|some _=>qf cx enc (some (.exit id)) s'|none=>none
     |_=>none
    |.inBlock _=>run cx enc labs n true k' s|.inScope _=>run cx enc labs n true k' s|.inLoop x=>run cx enc labs n true (⟨0,0::p,.code x⟩::⟨2,p,.inLoop x⟩::k') s|.beginRound=>match cx.rd with
     |some m=>match ag s.hp m with|some (.loop .ready pe f n' fr ps tag D)=>run cx enc labs n true k' { s with hp:=(m,.loop .busy pe f n' fr ps tag D)::s.hp }|_=>none
     |none=>none
    |_=>none
end Go.Sym
