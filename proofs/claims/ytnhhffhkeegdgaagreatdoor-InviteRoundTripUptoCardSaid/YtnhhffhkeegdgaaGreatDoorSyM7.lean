/- What the claim rests on, part 7: gathered texts. -/
import Derived.Test.YtnhhffhkeegdgaaGreatDoorSyM6
set_option linter.defProp false
set_option linter.unusedSimpArgs false
set_option linter.unusedVariables false
namespace Go.Sym
open Go.Lib (decDigits itoa)
def oq(r1:mh)(n:Nat)(l:Bs)(ls:List Bs)(t:Bs)(evs:List bz)(u:Bs)(me sq:Int)(su pl og zn:Bs)(y mo da hh mi ss tz le fr ev co un:Int)(hu go:Bool)(gs:List (Bs×Int))(wd ex ad:List Int)(d:qej)(h:ef FU l u me sq su pl og zn y mo da hh mi ss tz le fr ev co un hu go gs wd ex ad=some d)(hn:∀x∈l,x≠10)(hl:(fc (l::ls)++t).length<=100000)(h1:l≠[66,69,71,73,78,58,69,86,69,78,84])(h2:l≠[69,78,68,58,69,86,69,78,84]) :
  P3 r1 (n+1) [10] (fc (l::ls)++t) 0 evs u me sq su pl og zn y mo da hh mi ss tz le fr ev co un hu go gs wd ex ad=P3 r1 n [10] (fc ls++t) 0 evs d.1 d.2.1 d.2.2.1 d.2.2.2.1 d.2.2.2.2.1 d.2.2.2.2.2.1 d.2.2.2.2.2.2.1 d.2.2.2.2.2.2.2.1 d.2.2.2.2.2.2.2.2.1 d.2.2.2.2.2.2.2.2.2.1 d.2.2.2.2.2.2.2.2.2.2.1 d.2.2.2.2.2.2.2.2.2.2.2.1 d.2.2.2.2.2.2.2.2.2.2.2.2.1 d.2.2.2.2.2.2.2.2.2.2.2.2.2.1 d.2.2.2.2.2.2.2.2.2.2.2.2.2.2.1 d.2.2.2.2.2.2.2.2.2.2.2.2.2.2.2.1 d.2.2.2.2.2.2.2.2.2.2.2.2.2.2.2.2.1 d.2.2.2.2.2.2.2.2.2.2.2.2.2.2.2.2.2.1 d.2.2.2.2.2.2.2.2.2.2.2.2.2.2.2.2.2.2.1 d.2.2.2.2.2.2.2.2.2.2.2.2.2.2.2.2.2.2.2.1 d.2.2.2.2.2.2.2.2.2.2.2.2.2.2.2.2.2.2.2.2.1 d.2.2.2.2.2.2.2.2.2.2.2.2.2.2.2.2.2.2.2.2.2.1 d.2.2.2.2.2.2.2.2.2.2.2.2.2.2.2.2.2.2.2.2.2.2.1 d.2.2.2.2.2.2.2.2.2.2.2.2.2.2.2.2.2.2.2.2.2.2.2.1 d.2.2.2.2.2.2.2.2.2.2.2.2.2.2.2.2.2.2.2.2.2.2.2.2:=by
 rw[qge]at hl ⊢;exact zss r1 n l _ evs u me sq su pl og zn y mo da hh mi ss tz le fr ev co un hu go gs wd ex ad d h hn oA h1 h2
def oy{l:Bs}{ls:List Bs}{t:Bs}(h:(fc (l::ls)++t).length<=100000):(fc ls++t).length<=100000/\l.length<=100000:=by
 rw[qge]at h;simp only[qM,qL]at h ⊢;omega
def qzv(g:Bs×Int):rl g=[71,85,69,83,84]++58::(jk.getD (g.2-1).toNat []++32::g.1):=by unfold rl;simp
def zas(r1:mh)(n:Nat)(ls:List Bs)(t:Bs)(evs:List bz):∀(aa:List (Bs×Int))(u:Bs)(me sq:Int)(su pl og zn:Bs)(y mo da hh mi ss tz le fr ev co un:Int)(hu go:Bool)(gs:List (Bs×Int))(wd ex ad:List Int),(∀x∈aa,x.1.length<=300/\1<=x.2/\x.2<=4)->(∀x∈aa,∀c∈rl x,c≠10)->gs.length+aa.length<=30->(fc (aa.map rl++ls)++t).length<=100000 ->
  P3 r1 (aa.length+n) [10] (fc (aa.map rl++ls)++t) 0 evs u me sq su pl og zn y mo da hh mi ss tz le fr ev co un hu go gs wd ex ad=P3 r1 n [10] (fc ls++t) 0 evs u me sq su pl og zn y mo da hh mi ss tz le fr ev co un hu go (gs++aa) wd ex ad
 |[],u,me,sq,su,pl,og,zn,y,mo,da,hh,mi,ss,tz,le,fr,ev,co,un,hu,go,gs,wd,ex,ad,_,_,_,_=>by simp|g::aa,u,me,sq,su,pl,og,zn,y,mo,da,hh,mi,ss,tz,le,fr,ev,co,un,hu,go,gs,wd,ex,ad,hg,hn,hl,hu2=>by
  obtain⟨b1,b2,b3⟩:=hg g qH;have m:=hu2;rw[List.map_cons,wK]at m;obtain⟨m1,m2⟩:=oy m;have ls0:=qrq (g.2-1).toNat;rw[qL,Nat.add_right_comm,List.map_cons,wK];simp only[qL]at hl;have gr:=zow (g.2-1).toNat oA g.1 oA u me sq su pl og zn y mo da hh mi ss tz le fr ev co un hu go gs wd ex ad
  rw[show(((g.2-1).toNat:Nat):Int)+1=g.2 by omega]at gr
  have hr:=zsk (jk.getD (g.2-1).toNat []++32::g.1) _ u me sq su pl og zn y mo da hh mi ss tz le fr ev co un hu go gs wd ex ad oP gr
  rw[← qzv g]at hr;refine Eq.trans (oq r1 _ (rl g) _ t evs u me sq su pl og zn y mo da hh mi ss tz le fr ev co un hu go gs wd ex ad _ hr (hn g qH) m (by rw[qzv];simp) (by rw[qzv];simp)) ?_
  dsimp only;have:=zas r1 n ls t evs aa u me sq su pl og zn y mo da hh mi ss tz le fr ev co un hu go (gs++[(g.1,g.2)]) wd ex ad (fun x hx=>hg x (qE _ hx)) (fun x hx=>hn x (qE _ hx)) oE m1
  refine Eq.trans this ?_;rw[qS];rfl
def zvm{r:im}(h:(ko r).1=0):(r.2.2.2.2.1=false->r.2.2.2.1=0)/\∀x∈r.2.2.2.2.2.1,0<=x/\x<=1000000000000:=by
 unfold ko at h;by_cases c1:¬(0<=r.1/\r.1<=4)
 ·rw[qX c1]at h;simp at h
 rw[qW c1]at h;by_cases c2:¬(1<=r.2.1/\r.2.1<=100)
 ·rw[qX c2]at h;simp at h
 rw[qW c2]at h;by_cases c3:¬(0<=r.2.2.1/\r.2.2.1<=1500)
 ·rw[qX c3]at h;simp at h
 rw[qW c3]at h;by_cases c4:r.2.2.2.2.1=true/\¬(-68719476736<=r.2.2.2.1/\r.2.2.2.1<=68719476736)
 ·rw[qX c4]at h;simp at h
 rw[qW c4]at h;by_cases c5:r.2.2.2.2.1=false/\r.2.2.2.1≠0
 ·rw[qX c5]at h;simp at h
 rw[qW c5]at h;by_cases c6:(mg r).1≠0
 ·rw[qX c6]at h;exact absurd h c6
 have c6':=Classical.not_not.1 c6;refine⟨fun q=>Classical.not_not.1 fun k=>c5 ⟨q,k⟩,?_⟩
 unfold mg at c6';by_cases q:0<r.2.2.2.2.2.1.length/\r.1≠2
 ·rw[qX q]at c6';simp at c6'
 ·rw[qW q,qj4]at c6';obtain⟨_,i2,_⟩:=qlp vb _ none c6';intro x hx;have:=of_decide_eq_true (i2 x hx);omega
def lnT(e:bz):List Bs:=(hdE e).tail++e.2.2.2.2.2.2.1.map rl++tlE e
def zbv(e:bz):jf e=[66,69,71,73,78,58,69,86,69,78,84]::lnT e:=rfl
def zlx(e:bz)(h:nw e)(r1:mh)(m:Nat)(t:Bs)(evs:List bz)(hl:(fc (lnT e)++t).length<=100000)(hev:evs.length<=1000)(hEvL:qf e) :
  P3 r1 (e.2.2.2.2.2.2.1.length+(m+7)+6) [10] (fc (lnT e)++t) 0 evs [] 1 0 [] [] [] [] 0 0 0 0 0 0 0 0 0 1 0 0 false true [] [] [] []=r1 [10] t 0 (evs++[e]):=by
 have hval:vq FU e=some (0,0):=by rw[q96 e hEvL,h.z]
 have hln:∀s∈lnT e,∀c∈s,c≠10:=fun s hs c hc=>((q0e h s (by rw[zbv];exact qE _ hs)).2.1 c hc).1
 have hb:=qp6 h;obtain⟨hr0,hrw⟩:=zvm h.r;obtain⟨hrl,_⟩:=q1p h.r;obtain⟨uid,me,sq,su,pl,og,gs,zn,⟨y,mo,da,hh,mi,ss,tz⟩,le,⟨fr,ev,co,un,hu,wd,ex,ad⟩⟩:=e;have e1:=h.me;have e2:=h.sq;have e3:=h.le;have e4:=h.dy;have e5:=h.d;have e6:=h.d0;have b1:=hb.su;have b2:=hb.pl;have b3:=hb.og;have b4:=hb.ul;have b5:=hb.zn;have b6:=hb.gl;have b7:=hb.g;have c1:=hrl.f;have c2:=hrl.u;have c3:=hrl.wl;have c4:=hrl.xl;have c5:=hrl.x;have c6:=hrl.al;have c7:=hrl.a;obtain⟨_,hk,_⟩:=zek _ h.r;have k1:=hk.e1;have k2:=hk.e2;have k3:=hk.c1;have k4:=hk.c2;clear h hb hrl hk;dsimp only at e1 e2 e3 e4 e5 e6 b1 b2 b3 b4 b5 b6 b7 c1 c2 c3 c4 c5 c6 c7 k1 k2 k3 k4 hr0 hrw hval;obtain⟨⟨v1,v2,v3,v4,v5,v6⟩,x1,x2,y1,y2,z1,z2,_⟩:=e5;dsimp only at v1 v2 v3 v4 v5 v6 x1 x2 y1 y2 z1 z2;have hdim:=(Cal.dim_bd y mo).2;subst e6;obtain⟨i,rfl⟩:∃i:Nat,me=(i:Int)+1:=⟨(me-1).toNat,oA⟩
 obtain⟨n2,rfl⟩:∃i:Nat,sq=i:=⟨sq.toNat,oA⟩
 obtain⟨d1,rfl⟩:∃i:Nat,y=i:=⟨y.toNat,oA⟩
 obtain⟨d2,rfl⟩:∃i:Nat,mo=i:=⟨mo.toNat,oA⟩
 obtain⟨d3,rfl⟩:∃i:Nat,da=i:=⟨da.toNat,oA⟩
 obtain⟨d4,rfl⟩:∃i:Nat,hh=i:=⟨hh.toNat,oA⟩
 obtain⟨d5,rfl⟩:∃i:Nat,mi=i:=⟨mi.toNat,oA⟩
 obtain⟨d6,rfl⟩:∃i:Nat,ss=i:=⟨ss.toNat,oA⟩
 obtain⟨n3,rfl⟩:∃i:Nat,le=i:=⟨le.toNat,oA⟩
 obtain⟨f,rfl⟩:∃i:Nat,fr=i:=⟨fr.toNat,oA⟩
 obtain⟨n4,rfl⟩:∃i:Nat,ev=i:=⟨ev.toNat,oA⟩
 obtain⟨n5,rfl⟩:∃i:Nat,co=i:=⟨co.toNat,oA⟩
 have eT:lnT (uid,(i:Int)+1,(n2:Int),su,pl,og,gs,zn,((d1:Int),(d2:Int),(d3:Int),(d4:Int),(d5:Int),(d6:Int),0),(n3:Int),((f:Int),(n4:Int),(n5:Int),un,hu,wd,ex,ad)) =
   ([77,69,84,72,79,68]++58::jq.getD i [])::([85,73,68]++58::uid)::([83,69,81,85,69,78,67,69]++58::decDigits n2)::([83,85,77,77,65,82,89]++58::du su)::([80,76,65,67,69]++58::du pl)::([79,82,71,65,78,73,90,69,82]++58::og)::(gs.map rl ++
   [[90,79,78,69]++58::zn,[83,84,65,82,84]++58::ov ((d1:Int),(d2:Int),(d3:Int),(d4:Int),(d5:Int),(d6:Int),0),[76,69,78,71,84,72]++58::decDigits n3,[82,69,80,69,65,84]++58::ot ((f:Int),(n4:Int),(n5:Int),un,hu,wd,ex,ad),[69,88,67,69,80,84]++58::dz ex,[65,68,68]++58::dz ad,[69,78,68,58,69,86,69,78,84]]):=by
  unfold lnT hdE tlE;dsimp only;rw[oh,oh,show((i:Int)+1-1).toNat=i by omega]
  rfl
 rw[eT]at hl hln ⊢;clear eT;have q0:=oy hl;have q1:=oy q0.1;have q2:=oy q1.1;have q3:=oy q2.1;have q4:=oy q3.1;have q5:=oy q4.1;dsimp only;have l1:=q0l i;have l2:=t7 13 n2 oA oA
 have l3:=qff su;have l4:=qff pl;have l5:=t7 13 n3 oA oA
 refine Eq.trans (oq r1 _ ([77,69,84,72,79,68]++58::_) _ t evs _ _ _ _ _ _ _ _ _ _ _ _ _ _ _ _ _ _ _ _ _ _ _ _ _ _ (zsm i oA _ _ _ _ _ _ _ _ _ _ _ _ _ _ _ _ _ _ _ _ _ _ _ _ _) (hln _ oC) hl oC oC) ?_
 dsimp only;refine Eq.trans (oq r1 _ ([85,73,68]++58::_) _ t evs _ _ _ _ _ _ _ _ _ _ _ _ _ _ _ _ _ _ _ _ _ _ _ _ _ _ (zsu uid _ _ _ _ _ _ _ _ _ _ _ _ _ _ _ _ _ _ _ _ _ _ _ _ _) (hln _ oC) q0.1 oC oC) ?_
 dsimp only;refine Eq.trans (oq r1 _ ([83,69,81,85,69,78,67,69]++58::_) _ t evs _ _ _ _ _ _ _ _ _ _ _ _ _ _ _ _ _ _ _ _ _ _ _ _ _ _ (zsq n2 oA _ _ _ _ _ _ _ _ _ _ _ _ _ _ _ _ _ _ _ _ _ _ _ _ _) (hln _ oC) q1.1 oC oC) ?_
 dsimp only;refine Eq.trans (oq r1 _ ([83,85,77,77,65,82,89]++58::_) _ t evs _ _ _ _ _ _ _ _ _ _ _ _ _ _ _ _ _ _ _ _ _ _ _ _ _ _ (zst su b1 _ _ _ _ _ _ _ _ _ _ _ _ _ _ _ _ _ _ _ _ _ _ _ _ _) (hln _ oC) q2.1 oC oC) ?_
 dsimp only;refine Eq.trans (oq r1 _ ([80,76,65,67,69]++58::_) _ t evs _ _ _ _ _ _ _ _ _ _ _ _ _ _ _ _ _ _ _ _ _ _ _ _ _ _ (zso pl b2 _ _ _ _ _ _ _ _ _ _ _ _ _ _ _ _ _ _ _ _ _ _ _ _ _) (hln _ oC) q3.1 oC oC) ?_
 dsimp only;refine Eq.trans (oq r1 _ ([79,82,71,65,78,73,90,69,82]++58::_) _ t evs _ _ _ _ _ _ _ _ _ _ _ _ _ _ _ _ _ _ _ _ _ _ _ _ _ _ (zsn og _ _ _ _ _ _ _ _ _ _ _ _ _ _ _ _ _ _ _ _ _ _ _ _ _) (hln _ oC) q4.1 oC oC) ?_
 dsimp only;refine Eq.trans (zas r1 (m+7) _ t evs gs _ _ _ _ _ _ _ _ _ _ _ _ _ _ _ _ _ _ _ _ _ [] _ _ _ b7 (fun x hx=>hln _ (by simp;exact .inr (.inr (.inr (.inr (.inr (.inr (.inl ⟨_,_,hx,rfl⟩)))))))) (by simpa using b6) q5.1) ?_
 rw[List.nil_append];have q6:(fc [[90,79,78,69]++58::zn,[83,84,65,82,84]++58::ov ((d1:Int),(d2:Int),(d3:Int),(d4:Int),(d5:Int),(d6:Int),0),[76,69,78,71,84,72]++58::decDigits n3,[82,69,80,69,65,84]++58::ot ((f:Int),(n4:Int),(n5:Int),un,hu,wd,ex,ad),[69,88,67,69,80,84]++58::dz ex,[65,68,68]++58::dz ad,[69,78,68,58,69,86,69,78,84]]++t).length<=100000:=by
  have:=q5.1;unfold fc at this ⊢;rw[List.flatMap_append,qS,qM]at this;omega
 have q7:=oy q6;have q8:=oy q7.1;have q9:=oy q8.1;have qa:=oy q9.1;have qb:=oy qa.1;have qc:=oy qb.1;have s8:=q8.2;have sa:=qa.2;have sb:=qb.2;have sc:=qc.2;simp only[qM,qL,qZ]at s8 sa sb sc;refine Eq.trans (oq r1 _ ([90,79,78,69]++58::_) _ t evs _ _ _ _ _ _ _ _ _ _ _ _ _ _ _ _ _ _ _ _ _ _ _ _ _ _ (zsv zn _ _ _ _ _ _ _ _ _ _ _ _ _ _ _ _ _ _ _ _ _ _ _ _ _) (hln _ oC) q6 oC oC) ?_
 dsimp only;refine Eq.trans (oq r1 _ ([83,84,65,82,84]++58::_) _ t evs _ _ _ _ _ _ _ _ _ _ _ _ _ _ _ _ _ _ _ _ _ _ _ _ _ _ (zsr _ _ _ _ _ _ _ _ _ _ _ _ _ _ _ _ _ _ _ _ _ _ _ _ _ _ _ oA (zuq d1 d2 d3 d4 d5 d6 oA oA oA oA oA oA 0 _ _ _ _ _ _ _ _ _ _ _ _ _ _ _ _ _ _ _ _ _ _ _ _ _)) (hln _ oC) q7.1 oC oC) ?_
 dsimp only;refine Eq.trans (oq r1 _ ([76,69,78,71,84,72]++58::_) _ t evs _ _ _ _ _ _ _ _ _ _ _ _ _ _ _ _ _ _ _ _ _ _ _ _ _ _ (zsl n3 oA _ _ _ _ _ _ _ _ _ _ _ _ _ _ _ _ _ _ _ _ _ _ _ _ _) (hln _ oC) q8.1 oC oC) ?_
 dsimp only;refine Eq.trans (oq r1 _ ([82,69,80,69,65,84]++58::_) _ t evs _ _ _ _ _ _ _ _ _ _ _ _ _ _ _ _ _ _ _ _ _ _ _ _ _ _ (zsp _ _ _ _ _ _ _ _ _ _ _ _ _ _ _ _ _ _ _ _ _ _ _ _ _ _ _ oA (zs5 f n4 n5 oA oA oA hu un c2 hr0 wd ex ad c3 hrw _ _ _ _ _ _ _ _ _ _ _ _ _ _ _ _ _ _ _ _ _ _ _ _ _)) (hln _ oC) q9.1 oC oC) ?_
 dsimp only;refine Eq.trans (oq r1 _ ([69,88,67,69,80,84]++58::_) _ t evs _ _ _ _ _ _ _ _ _ _ _ _ _ _ _ _ _ _ _ _ _ _ _ _ _ _ (zsj ex c4 c5 _ _ _ _ _ _ _ _ _ _ _ _ _ _ _ _ _ _ _ _ _ _ _ _ _) (hln _ oC) qa.1 oC oC) ?_
 dsimp only;refine Eq.trans (oq r1 _ ([65,68,68]++58::_) _ t evs _ _ _ _ _ _ _ _ _ _ _ _ _ _ _ _ _ _ _ _ _ _ _ _ _ _ (zsh ad c6 c7 _ _ _ _ _ _ _ _ _ _ _ _ _ _ _ _ _ _ _ _ _ _ _ _ _) (hln _ oC) qb.1 oC oC) ?_
 dsimp only;rw[qge,zf6];have qd:=qc.1;rw[qge,zf6]at qd;exact zsi r1 m t evs uid _ _ su pl og zn _ _ _ _ _ _ _ _ _ _ _ _ _ gs wd ex ad hval (by simp at qd;omega) oA
end Go.Sym
namespace Go.Sym
def qzz(l:List Int)(h:l.length<=1000):xv FU l l=some true:=by
 rw[zpg FU l l oA (Nat.lt_of_le_of_lt h oD),decide_eq_true rfl]
def zt2(e:bz)(hg:e.2.2.2.2.2.2.1.length<=30)(h1:e.2.2.2.2.2.2.2.2.2.2.2.2.2.2.2.1.length<=1000)(h2:e.2.2.2.2.2.2.2.2.2.2.2.2.2.2.2.2.1.length<=1000)(h3:e.2.2.2.2.2.2.2.2.2.2.2.2.2.2.2.2.2.length<=1000)(n:Nat):∀(ab aa:List (Bs×Int)),e.2.2.2.2.2.2.1=ab++aa->aa.length<n->qhc FU n (ab.length:Int) e e=some true:=by
 induction n with
 |zero=>intro ab aa _ h;omega|succ n ih=>
  intro ab aa eg hn;have hll:=congrArg List.length eg;rw[qM]at hll;rw[qhc,qsz]
  cases aa with
  |nil=>
   rw[bp (by simp at hll;omega)]
   simp only[beq_self_eq_true,qT,qzz _ h1,qzz _ h2,qzz _ h3,qB]
  |cons g aa=>
   simp only[qL]at hll hn;rw[ao oA,show ap e.2.2.2.2.2.2.1 (ab.length:Int)=some g by rw[eg];exact gx _ _ _]
   simp only[qB,beq_self_eq_true,Bool.and_self,Bool.not_true,qF];rw[ce _]
   have:=ih (ab++[g]) aa (by rw[eg];simp) oA
   rw[qM,wD]at this;exact this
def q8p(x:Int):(x != x)=false:=oC
def zt3(e:bz)(h:EvB e)(hw:e.2.2.2.2.2.2.2.2.2.2.2.2.2.2.2.1.length<=1000):qhb FU e e=some true:=by
 have g:=zt2 e h.gl hw (by have:=h.r.xl;omega) (by have:=h.r.al;omega) FU [] e.2.2.2.2.2.2.1 rfl (Nat.lt_of_le_of_lt h.gl oD)
 unfold qhb;simp only[beq_self_eq_true,q8p,Bool.and_self,Bool.not_true,qF];exact g
def zof{e:bz}(h:nw e):e.2.2.2.2.2.2.2.2.2.2.2.2.2.2.2.1.length<=1000:=by have:=(q1p h.r).2;omega
def zt4(l:List bz)(hl:l.length<=20)(h:∀e∈l,nw e)(n:Nat):∀(ab aa:List bz),l=ab++aa->aa.length<n->qhd FU n l l (ab.length:Int)=some true:=by
 induction n with
 |zero=>intro ab aa _ h;omega|succ n ih=>
  intro ab aa e hn;have hll:=congrArg List.length e;rw[qM]at hll;rw[qhd,qs0]
  cases aa with
  |nil=>rw[bp (by simp at hll;omega)]|cons v aa=>
   simp only[qL]at hll hn;have hv:=h v (by rw[e];simp)
   rw[ao oA,show ap l (ab.length:Int)=some v by rw[e];exact gx _ _ _]
   simp only[qB];rw[zt3 v (qp6 hv) (zof hv),qB,ak,ce _]
   have:=ih (ab++[v]) aa (by rw[e];simp) oA
   rw[qM,wD]at this;exact this
def zt5(l:List bz)(hl:l.length<=20)(h:∀e∈l,nw e):qmi FU l l=some true:=by
 unfold qmi;rw[q8p,qF];exact zt4 l hl h FU [] l rfl (Nat.lt_of_le_of_lt hl oD)
def lnS(l:List bz):List Bs:=l.flatMap jf
def zbx(e:bz)(l:List bz):lnS (e::l)=jf e++lnS l:=rfl
def zf5(a b:List Bs)(t:Bs):fc (a++b)++t=fc a++(fc b++t):=by simp[fc]
def zoe(e:bz)(h:nw e)(hE:qf e)(n:Nat)(t:Bs)(evs:List bz)(hl:(fc (jf e)++t).length<=100000)(hev:evs.length<=1000):P1 (n+1) [10] (fc (jf e)++t) 0 evs=P1 n [10] t 0 (evs++[e]):=by
 have hg:=h.gl;obtain⟨m,hm⟩:∃m,FU=e.2.2.2.2.2.2.1.length+(m+7)+6:=⟨FU-13-e.2.2.2.2.2.2.1.length,oL⟩
 rw[zbv,qge]at hl ⊢;have hl2:(fc (lnT e)++t).length<=100000:=by rw[qM,qL (a:=10)]at hl;omega
 have:=zlx e h (P1 n) m t evs hl2 hev hE;rw[← hm]at this;rw[zsf n _ evs]
 exact this
def q99:∀(l:List bz)(t:Bs)(evs:List bz)(n:Nat),(∀e∈l,nw e/\qf e)->(fc (lnS l)++t).length<=100000->evs.length+l.length<=1000->P1 (l.length+n) [10] (fc (lnS l)++t) 0 evs=P1 n [10] t 0 (evs++l)
 |[],t,evs,n,_,_,_=>by
  rw[List.append_nil];show P1 (0+n) [10] ([]++t) 0 evs=_;rw[wO,List.nil_append]
 |e::l,t,evs,n,h,hl,hn=>by
  obtain⟨h1,h2⟩:=h e qH;rw[zbx,zf5]at hl ⊢;rw[qL]at hn ⊢;rw[Nat.add_right_comm,zoe e h1 h2 _ _ evs hl oA]
  have:=q99 l t (evs++[e]) n (fun x hx=>h x (qE _ hx)) (by rw[qM]at hl;omega) (by rw[qM,wD];omega)
  rw[this,qS];rfl
def zf2(s:Bs)(hs:HdL s):∀l:List bz,(∀e∈l,nw e)->mf (l.flatMap nt++s)=fc (lnS l)++mf s/\HdL (l.flatMap nt++s)
 |[],_=>⟨rfl,hs⟩|e::l,h=>by
  obtain⟨i1,i2⟩:=zf2 s hs l fun x hx=>h x (qE _ hx)
  rw[List.flatMap_cons,qS,zbx,zf5];obtain⟨k1,k2⟩:=zf3 _ i2 (jf e) (q0e (h e qH));exact⟨by rw[show nt e=(jf e).flatMap lg from rfl,k1,i1],k2⟩
def zsw(t:Bs)(ht:t.length<=12000)(s:Bs)(l:List bz)(hl:l.length<=20)(h:P1 FU [10] (mf t) 0 []=some (.inl ([10],s,0,l))):qh8 FU t=some ((0,0),l):=by
 unfold qh8;rw[bp,zvr t,qB]
 unfold qv3;rw[ak]
 have h:qa6 FU FU [10] (mf t) 0 []=some (.inl ([10],s,0,l)):=h;dsimp only;rw[h,qB];dsimp only[ay];rw[bp];rfl
def zpy(l:List bz)(hw:∀e∈l,qf e):qcx FU l=some true:=by
 unfold qcx;rw[zog,qB,ak,zwh l hw,qB]
 rcases zwe l with⟨h1,h2⟩|⟨h1,h2,h3,h4⟩
 ·rw[ia,qX h1,h2];rfl
 ·rw[h1,ia,qW oC]
  obtain⟨u1,_⟩:=zf2 [] (.inl rfl) l h3;rw[List.append_nil]at u1;have ul:=zvq (l.flatMap nt);rw[u1]at ul;have hr:P1 FU [10] (mf (l.flatMap nt)) 0 []=some (.inl ([10],[],0,l)):=by
   obtain⟨m,hm⟩:∃m,FU=l.length+(m+1):=⟨FU-1-l.length,oL⟩
   have:=q99 l (mf []) [] (m+1) (fun e he=>⟨h3 e he,hw e he⟩) oA oE
   rw[← hm]at this;rw[u1,this];exact zsg m [] ([]++l) oC oC oC
  dsimp only;rw[zsw _ h4 [] l h2 hr,qB,au,zt5 l h2 h3];rfl
def zpz(x:List bz×Unit)(h:bks [.list ue] x<=1048576):qcx 100000000 x.1=some true:=
 zpy x.1 (zlu x h)
end Go.Sym
