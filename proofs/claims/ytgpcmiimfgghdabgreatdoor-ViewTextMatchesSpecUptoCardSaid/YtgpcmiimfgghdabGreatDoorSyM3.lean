/- What the claim rests on, part 3: gathered texts. -/
import Derived.Lib.ItoaNum
import Derived.Lib.Index
import Derived.Lib.AtoiAll
import Derived.Shelf.SlSortCmp.Insertion
import Derived.Lib.Replace
import Derived.Lib.Repeat
import Derived.Lib.MapLaws
import Derived.Lib.ValidLaws
import Derived.Lib.BytesEntry
import Derived.Laws.Externs
import Derived.Lib.Bytealg
import Derived.WalkKit
import Derived.ProofKit
import Derived.OpenShut
import Derived.ShutString
import Derived.ChangeOld
import Derived.Carry
import Derived.Handed
import Derived.Deep.DeepHandedRow
import Derived.LaidMore
import Derived.Lay
import Derived.LaidHandle
import Derived.MakeChecks
import Derived.LaidLaws
import Derived.Test.YtgpcmiimfgghdabGreatDoorSyM2
set_option linter.defProp false
set_option linter.unusedSimpArgs false
set_option linter.unusedVariables false
namespace Go.Sym
open Go.RowKit
variable[LC]
def zf(P:Program)(ro:Option Nat)(f:FuncId)(x:Machine)(cs:List Frame)(Q:Value->World->Prop):Prop:=
 match ro with|none=>∃v w' fr,Q v w'/\Steps P x (lone fr cs w')/\fr.fn=f/\fr.leaving P w' (.returned v)|some _=>∀c cs',cs=c::cs'->∃v w',Q v w'/\Steps P x (lone (c.finish v) cs' w')
def zf.head{P:Program}{ro:Option Nat}{f:FuncId}{x y:Machine}{cs:List Frame}{Q:Value->World->Prop}(h:Steps P x y)(k:zf P ro f y cs Q):zf P ro f x cs Q:=by
 cases ro with
 |none=>obtain⟨v,w',fr,h1,h2,h3⟩:=k;exact⟨v,w',fr,h1,h.trans h2,h3⟩
 |some l=>exact fun c cs' e=>by obtain⟨v,w',h1,h2⟩:=k c cs' e;exact⟨v,w',h1,h.trans h2⟩
section
variable{P:Program}{vcg:World}{vcb:Gh}{vcd:List (Nat×ah)}{G:Gh}{s:St}{a:Act}{w:World}
def qb4(tmps:Array Value)(x:ResultVar):Sem Value:=match x with|.tmp t=>pure (tmps.getD t undef)|.cell a t=>do loadVar t (← asAddr (tmps.getD a undef))
def zvi(fn:Func)(tmps:Array Value):results fn tmps=(do let vs ← fn.results.mapM (qb4 tmps);pure (if h:vs.size=1 then vs[0] else .tuple vs)):=rfl
def zml(hr:ak vcg vcb vcd G s a w){x:ResultVar}{v:AV}(hq:q4w P s x=true)(h:q02 P s x=some v):∃u,(qb4 a.tmps x).run P w = .ok u w/\aj v G u:=by
 cases x with
 |tmp t=>
  obtain⟨u,h1,h2⟩:=hr.frame t v h;exact⟨u,by simp[qb4,Array.getD_eq_getD_getElem?,h1],h2⟩
 |cell t T=>
  simp only[q02]at h;split at h
  ·rename_i b off hb;split at h
   ·rename_i cs T' hc;obtain⟨u,h1,B,hB,rfl⟩:=hr.frame _ _ hb;obtain⟨B',vs,k1,k2,k3,_⟩:=hr.fin.mem.holds _ _ hc;rw[k1]at hB;injection hB with hB;subst hB
    obtain⟨z,hz,hrz⟩:=qb6 (P:=P) (w:=w) h (o:=0) k3 (fun j u hu=>by rw[wO];exact cell_of_heap k2 hu)
    rw[wO]at hz;exact⟨z,by simp[qb4,Array.getD_eq_getD_getElem?,h1,asAddr,hz],hrz⟩
   ·cases h
  ·rename_i cs hb;obtain⟨u,h1,b,o,rfl,hc⟩:=hr.frame _ _ hb;obtain⟨vs,k1,k2⟩:=hc.values;obtain⟨z,hz,hrz⟩:=qb6 (P:=P) (w:=w) h (o:=o) k1 (fun j u hu=>hr.fin.mem.agree _ _ _ (k2 j u hu))
   exact⟨z,by simpa [qb4,Array.getD_eq_getD_getElem?,h1,asAddr] using hz,hrz⟩
  ·rename_i k sz hb;split at h
   ·rename_i τ l E n hl hagg hn;simp only[q4w,hb,hl,hn,decide_eq_true_eq]at hq;cases hbb:τ.is1&&Nat.beq sz 1<;>rw[hbb]at h<;>simp only[qT,qF,reduceCtorEq,qI]at h
    subst h;simp only[qA]at hbb;have hsz:τ.sz=1:=qfm hbb.1;obtain⟨u,h1,B,n0,c0,ho,rfl⟩:=hr.frame _ _ hb;obtain⟨ad,c',q1,q2⟩:=hr.fin.mem.holds _ _ hl;rw[ho]at q1;simp only[qI,qP]at q1;obtain⟨rfl,rfl,rfl⟩:=q1;rcases q2 with⟨q2,_⟩|⟨g,vs,fz,k1,k2,k3,k4,k5,k6,k7,k8,k9⟩
    ·cases q2
    ·simp only[qI,Addr.mk.injEq,and_true]at k1;subst k1;have hfl:(l.flatMap τ.enc).length=n:=by rw[ta,hsz,hq,Nat.mul_one]
     have hload:nq P T (l.flatMap τ.enc) 0=some (.agg (l.flatMap τ.enc)):=by
      unfold nq;rw[hagg,hn];have:Nat.ble (0+n) (l.flatMap τ.enc).length=true:=by rw[hfl,wO];simp
      simp only[this,qT,List.drop_zero];rw[List.take_of_length_le (by rw[hfl];exact wF _)]
     obtain⟨u,hu,us,rfl,hru⟩:=qb6 (P:=P) (w:=w) hload (B:=B) (o:=0) k7 (fun j u hu=>by
      rw[List.getElem?_take]at hu;split at hu
      ·rw[wO];exact cell_of_heap k2 hu
      ·cases hu)
     simp at hu;refine⟨.agg us,by simp[qb4,Array.getD_eq_getD_getElem?,h1,asAddr,hu],?_⟩
     have:=q4s (G:=G) hbb.1 hru;simpa using this
   ·cases h
  ·cases h
def q92(hr:ak vcg vcb vcd G s a w):∀{xs:List ResultVar}{vs:List AV},qml P s xs=true->qer P s xs=some vs ->
  ∃us:List Value,(xs.mapM (qb4 a.tmps)).run P w = .ok us w/\am vs G us
 |[],vs,_,h=>by simp only[qer,qI]at h;subst h;exact⟨[],oC,trivial⟩|x::xs,vs,hq,h=>by
  simp only[qml,qA]at hq;simp only[qer]at h;split at h
  ·rename_i v hv;split at h
   ·rename_i us hus;simp only[qI]at h;subst h;obtain⟨u,hu,hru⟩:=zml hr hq.1 hv;obtain⟨us',hu',hru'⟩:=q92 hr hq.2 hus;refine⟨u::us',?_,hru,hru'⟩;rw[List.mapM_cons];simp[Sem.run_bind,hu,Result.andThen_ok,hu',Sem.run_pure]
   ·cases h
  ·cases h
def zmm(hr:ak vcg vcb vcd G s a w){fn:Func}{v:AV}(hq:qml P s fn.results.toList=true)(h:q03 P fn s=some v):∃u,(results fn a.tmps).run P w = .ok u w/\aj v G u:=by
 unfold q03 at h;have key:∀vs,qer P s fn.results.toList=some vs->∃us:List Value,(results fn a.tmps).run P w = .ok (if h:us.toArray.size=1 then us.toArray[0] else .tuple us.toArray) w/\am vs G us:=fun vs hv=>by
  obtain⟨us,h1,h2⟩:=q92 hr hq hv;refine⟨us,?_,h2⟩;rw[zvi,Array.mapM_eq_mapM_toList];simp only[Sem.run_bind,Sem.run_map,h1,Result.andThen_ok,Sem.run_pure]
 split at h
 ·rename_i vs hv;obtain⟨us,h1,h2⟩:=key _ hv;split at h
  ·simp at h;subst h
   match us,h2 with|[u],h2=>exact⟨u,by rw[h1];rfl,h2.1⟩|[],h2=>exact h2.elim|_::_::_,h2=>exact h2.2.elim
  ·rename_i hne;simp at h;subst h;refine⟨.tuple us.toArray,?_,us.toArray,rfl,by simpa using h2⟩
   rw[h1,dif_neg];intro he;have hl:=h2.length;simp at he;rw[he]at hl
   match vs,hl,hne with|[x],_,hne=>exact hne x rfl
 ·cases h
def ak.frzC{p:Pt}{b off:Nat}{s:St}{G:Gh}(hr:ak vcg vcb vcd G s a w):∃G',ak vcg vcb vcd G' (frzC p b off s) a w:=by
 unfold Sym.frzC;split
 ·exact hr.frzL
 ·exact⟨G,hr⟩
def ak.coR{bs:List (Nat×a8)}:∀{xs:List ResultVar}{ps:List Pt}{s:St}{G:Gh},ak vcg vcb vcd G s a w->∃G',ak vcg vcb vcd G' (coR bs xs ps s) a w
 |[],_,s,G,hr=>⟨G,hr⟩|x::xs,ps,s,G,hr=>by
  unfold Sym.coR;split
  ·exact⟨G,hr⟩
  ·split
   ·obtain⟨G',hr'⟩:=hr.coF (bs:=bs) (l:=[(_,_)]);exact ak.coR hr'
   ·split
    ·obtain⟨G',hr'⟩:=hr.coB1 (bs:=bs);obtain⟨G2,hr2⟩:=hr'.frzC;exact ak.coR hr2
    ·exact ak.coR hr
def zb5(hr:ak vcg vcb vcd G s a w){ids:NM}(hid:∀n bx,af vcd n=some bx->ay ids n=some n){v:AV}{p:Pt}{hp:List (Nat×a8)}{y:p.den×ge hp}(h:qsk v ids p hp s=some y) :
  ∃G',Fin vcg vcb vcd G' (cm hp y.2) w/\∀u,aj v G u->aj (p.put y.1) G' u:=by
 unfold qsk at h;split at h
 ·rename_i d nm h1;split at h
  ·rename_i d' nm' h2;cases hq:d7 nm'&&uy nm' hp<;>rw[hq]at h<;>simp only[qT,qF,reduceCtorEq]at h
   have h:=qJ h;subst h;simp at hq;obtain⟨g1,g2⟩:=Pt.get_seen h1;obtain⟨b1,b2⟩:=qa8 h2;obtain⟨b3,_⟩:=b2 nm' hq.1 (cw.refl _);exact⟨G.view nm',hr.fin.fit hq.1 (fun n bx hb=>b1 _ _ (g1 _ _ (hid n bx hb))) b3,fun u hu=>(g2 nm' hq.1 b1).rep hu⟩
  ·cases h
 ·cases h
def qky(P:Program)(fn:Func)(rv:Option AV)(a:Act)(w:World)(Q:Value->Prop):Prop:=
 match rv with|none=>∃u,(results fn a.tmps).run P w = .ok u w/\Q u|some x=>∀b,x = .val (.bool b)->Q (.bool b)
def zpl(hr:ak vcg vcb vcd G s a w){ids:NM}(hid:∀n bx,af vcd n=some bx->ay ids n=some n){fn:Func}{rv:Option AV}{p:Pt}{hp:List (Nat×a8)}{y:p.den×ge hp}(hq:q2n P fn ids rv p hp s=true)(h:q2m P fn ids rv p hp s=some y) :
  qky P fn rv a w fun u=>∃G',Fin vcg vcb vcd G' (cm hp y.2) w/\aj (p.put y.1) G' u:=by
 unfold q2m at h;split at h
 ·rename_i x;obtain⟨G1,hr1⟩:=hr.coB (bs:=hp) (nm:=ids) (l:=hp);obtain⟨G',h1,h2⟩:=zb5 hr1 hid h;exact fun b e=>⟨G',h1,h2 _ (by subst e;rfl)⟩
 ·split at h
  ·rename_i v hv;obtain⟨G1,hr1⟩:=hr.coB (bs:=hp) (nm:=ids) (l:=hp);obtain⟨G2,hr2⟩:=hr1.coR (bs:=hp) (xs:=fn.results.toList) (ps:=qtp p);obtain⟨G',h1,h2⟩:=zb5 hr2 hid h;obtain⟨u,hu,hru⟩:=zmm hr2 hq hv;exact⟨u,hu,G',h1,h2 _ hru⟩
  ·cases h
def qky.mono{fn:Func}{rv:Option AV}{Q Q':Value->Prop}(h:qky P fn rv a w Q)(k:∀v,Q v->Q' v):qky P fn rv a w Q':=by
 cases rv with
 |none=>obtain⟨u,h1,h2⟩:=h;exact⟨u,h1,k _ h2⟩
 |some x=>exact fun b e=>k _ (h b e)
def qsl(hr:ak vcg vcb vcd G s a w){ids:NM}(hid:∀n bx,af vcd n=some bx->ay ids n=some n){fn:Func}{rv:Option AV}:∀{α:Type}{enc:RS α}{x:α},enc.fin P fn ids rv s=some x ->
  qky P fn rv a w fun u=>∃G',Fin vcg vcb vcd G' (enc.res x).2 w/\aj (enc.res x).1 G' u
 |_,.one p hp tq fro ok,x,h=>by
  simp[RS.fin]at h;cases hq:q2n P fn ids rv p hp s<;>rw[hq]at h<;>simp at h
  split at h
  ·rename_i y hy;have h:=qJ h;subst h;have:=zpl (P:=P) hr hid hq hy;simp[RS.res,ok];exact this
  ·cases h
 |_,.two l r,x,h=>by
  simp[RS.fin]at h;split at h
  ·rename_i y hy;have h:=qJ h;subst h;have:=qsl (enc:=l) hr hid hy;exact this
  ·split at h
   ·rename_i y hy;have h:=qJ h;subst h;have:=qsl (enc:=r) hr hid hy;exact this
   ·cases h
def za2:∀{ns:List Nat}{s s':St}{G:Gh}{a:Act}{w:World},s.df=ns->qlg ns s=some s'->ak vcg vcb vcd G s a w->∀(fr:Frame)(cs:List Frame),fr.mode = .returning->fr.defers=a.defers ->
  ∃w',ak vcg vcb vcd G s' { a with defers:=[] } w'/\Steps P (lone fr cs w) (lone { fr with defers:=[] } cs w')
 |[],s,s',G,a,w,hd,h,hr,fr,cs,hm,hfd=>by
  simp[qlg,qI]at h;subst h;obtain⟨bs,h1,h2⟩:=hr.defers;rw[hd]at h2;have:bs=[]:=by cases bs with|nil=>rfl|cons _ _=>simp at h2
  subst this;refine⟨w,⟨⟨[],rfl,rfl⟩,hr.size,hr.frame,hr.fresh,hr.fin⟩,?_⟩;have e:({ fr with defers:=[] }:Frame)=fr:=by rw[← show fr.defers=[] by rw[hfd,h1];rfl]
  rw[e];exact .refl _ _
 |n::ns,s,s',G,a,w,hd,h,hr,fr,cs,hm,hfd=>by
  simp[qlg]at h;split at h
  ·rename_i hl;obtain⟨bs,h1,h2⟩:=hr.defers;rw[hd]at h2
   cases bs with
   |nil=>simp at h2|cons b bs=>
    simp at h2;obtain⟨B,k1,k2,k3⟩:=hr.fin.mem.holds n _ hl;rw[k1]at h2;obtain⟨e,h2⟩:=h2;injection e with e;subst e
    have hr1:=hr.setBox (bx' := .dead) (o := .deferred none) hl (show G.at n .dfr=some b from k1) (fun c hc=>by cases hc) trivial k3
    have hr2:ak vcg vcb vcd G { s with hp:=(n,.dead)::s.hp,df:=ns } { a with defers:=bs.map (fun b=>{ target := .collected b,args:=#[] }) } (w.putObj b (.deferred none)):=
     ⟨⟨bs,rfl,h2⟩,hr1.size,hr1.frame,hr1.fresh,hr1.fin⟩
    have hs:=step_collected (P:=P) (cs:=cs) (fr:=fr) (by rw[hm];simp) (by rw[hfd,h1];rfl) rfl (run_takeDeferred k2)
    obtain⟨w',i1,i2⟩:=za2 (a:={ a with defers:=bs.map (fun b=>{ target := .collected b,args:=#[] }) }) rfl h hr2 { fr with defers:=[]++bs.map (fun b=>{ target := .collected b,args:=#[] }) } cs hm rfl
    exact⟨w',i1,(Steps.one hs).trans i2⟩
  ·cases h
end
structure Cx.Ok(cx:Cx)(body:Code):Prop where
 ents:∀e∈cx.tb.ents,e.Sound cx.P
 mixed:cx.P.follows .mixedOrders=true
 func:cx.P.funcs[cx.f]? = some cx.fn
 tags:∀p t,ob p cx.tags=some t->∀g ps x y,sub body p = .rangeFunc g ps x y->LC.lc t=some (x,y)
def sf(cx:Cx)(vcb:Gh)(vcd:List (Nat×ah))(b:Frame):Prop:=match cx.rd with|none=>b.roundOf=none|some m=>∃B bx,vcb.box m=some B/\af vcd m=some bx/\b.roundOf=some B
section
variable{vcg:World}{vcb:Gh}{vcd:List (Nat×ah)}{G:Gh}{s:St}{a:Act}{w:World}
def zwh{P:Program}(fn:FuncId)(tmps:Array Value)(ps:Array Tmp)(asn bo:Code){l:Nat}{r:Loop}(h:w.heap[l]? = some (.loop r)) :
  (Instr.enterLoop fn tmps ps asn bo (some l)).run P w = .ok (w.heap.size,[]) (w.alloc (.loop { state := .ready,pending:=none,fn,tmps,params:=ps,assign:=asn,body:=bo,defers:=r.defers })):=by
 unfold Instr.enterLoop;simp only[Sem.run_bind,run_getLoop h,run_newObj_alloc,Result.andThen,Sem.run_pure]
def zdd(hr:ak vcg vcb vcd G s a w){k D DB:Nat}{f:FuncId}{ps:Array Tmp}{tag:Nat}{asn bo:Code}(htag:LC.lc tag=some (asn,bo))(hk:af s.hp k=none)(hkx:s.nx<=k)(hD:G.box D=some DB)(hne:D≠k) :
  ak vcg vcb vcd (G.addBox k w.heap.size) { s with hp:=(k,.loop .ready none f s.n s.fr ps.toList tag D)::s.hp } a (w.alloc (.loop { state := .ready,pending:=none,fn:=f,tmps:=a.tmps,params:=ps,assign:=asn,body:=bo,defers:=DB })):=by
 have hle:G.le (G.addBox k w.heap.size):=Gh.addBox_le (hr.fresh k hkx hk).1;refine hr.newBox hk hkx (fun b hb => ?_) ⟨w.heap.size,a.tmps,DB,Gh.addBox_self,by rw[Gh.addBox_ne hne];exact hD,⟨asn,bo,htag,?_⟩,hr.size,fun i x hx => ?_,fun o => ?_⟩
 ·have hb:(G.addBox k w.heap.size).box k=some b:=hb;rw[Gh.addBox_self]at hb;injection hb with hb;exact hb.symm
 ·rw[qo];simp
 ·obtain⟨v,h1,h2⟩:=hr.frame i x hx;exact⟨v,h1,h2.le hle⟩
 ·cases hq:(G.addBox k w.heap.size).imm w.heap.size o with
  |none=>rfl|some v=>
   have:=World.block_lt_of_cell? _ _ (hr.fin.mem.agree _ _ _ hq);simp at this
def ak.nx(hr:ak vcg vcb vcd G s a w){k:Nat}(h:s.nx<=k):ak vcg vcb vcd G { s with nx:=k } a w:=⟨hr.defers,hr.size,hr.frame,fun m hm hl=>hr.fresh m (Nat.le_trans h hm) hl,hr.fin⟩
def zpe(hr:ak vcg vcb vcd G s a w){cx:Cx}{ps:Array Tmp}{tag:Nat}{asn bo:Code}(htag:LC.lc tag=some (asn,bo)){s1:St}(h:s.enterRF cx.f ps.toList tag cx.rd=some s1){b:Frame}(hb:b.fn=cx.f)(hrd:sf cx vcb vcd b) :
  ∃G1 l mark w1,(Instr.enterLoop b.fn a.tmps ps asn bo b.roundOf).run cx.P w = .ok (l,mark) w1/\G1.box s.nx=some l/\G.le G1/\ak vcg vcb vcd G1 s1 { a with defers:=mark++a.defers } w1/\s1.nx=s.nx+32:=by
 unfold St.enterRF at h;cases hn:az s.nx s.hp<;>rw[hn]at h<;>simp only[qT,qF,reduceCtorEq]at h
 have hk0:=mq hn s.nx (wF _) oA
 have hk1:=mq hn (s.nx+1) oA oA
 unfold sf at hrd;split at h
 ·rename_i hc;rw[hc]at hrd;simp only at hrd;simp only[qI]at h;subst h;have hr1:=hr.newBox (k:=s.nx+1) (bx := .dfr) (o := .deferred (some [])) hk1 oA (fun b hb=>by
   have hb:(G.addBox (s.nx+1) w.heap.size).box (s.nx+1)=some b:=hb;rw[Gh.addBox_self]at hb;injection hb with hb;exact hb.symm)
   ⟨w.heap.size,Gh.addBox_self,qo _ _,fun o=>by
    cases hq:(G.addBox (s.nx+1) w.heap.size).imm w.heap.size o with
    |none=>rfl|some v=>
     have:=World.block_lt_of_cell? _ _ (hr.fin.mem.agree _ _ _ hq);simp at this⟩
  have hk0':af ((s.nx+1,ah.dfr)::s.hp) s.nx=none:=by
   simp only[af];have:Nat.beq (s.nx+1) s.nx=false:=by
    cases hq:Nat.beq (s.nx+1) s.nx
    ·rfl
    ·have:=qN hq;omega
   rw[this];exact hk0
  have hr2:=zdd hr1 (k:=s.nx) (D:=s.nx+1) (f:=cx.f) (ps:=ps) htag hk0' (wF _) Gh.addBox_self oA
  have hle1:G.le (G.addBox (s.nx+1) w.heap.size):=Gh.addBox_le (hr.fresh (s.nx+1) oA hk1).1
  have hle2:(G.addBox (s.nx+1) w.heap.size).le ((G.addBox (s.nx+1) w.heap.size).addBox s.nx (w.alloc (.deferred (some []))).heap.size):=Gh.addBox_le (hr1.fresh s.nx (wF _) hk0').1;refine⟨_,w.heap.size+1,[{ target := .collected w.heap.size,args:=#[] }],_,by rw[hrd,hb];exact run_enterLoop_outer _ _ _ _ _,?_,hle1.trans hle2,?_,rfl⟩
  ·rw[Gh.addBox_self,World.size_alloc]
  ·have hr3:=hr2.nx (k:=s.nx+32) (by show s.nx<=_;omega)
   refine⟨?_,hr3.size,hr3.frame,hr3.fresh,hr3.fin⟩;obtain⟨bs,h1,h2⟩:=hr3.defers;refine⟨w.heap.size::bs,by rw[h1];rfl,?_⟩
   simp only[List.map_cons,List.cons.injEq];refine⟨?_,h2⟩;rw[Gh.addBox_ne oA,Gh.addBox_self]
 ·rename_i m hc;rw[hc]at hrd;simp only at hrd;obtain⟨B,bx0,e1,e2,e3⟩:=hrd;split at h
  ·rename_i D hm;simp only[qI]at h;subst h;obtain⟨B',tmps,DB,k1,k2,⟨asn',bo',_,k3⟩,_⟩:=hr.fin.mem.holds _ _ hm;have:=hr.fin.keep m bx0 B e2 e1;rw[this]at k1;injection k1 with k1;subst k1
   have hne:D≠s.nx:=fun e=>by subst e;rw[(hr.fresh _ (wF _) hk0).1]at k2;cases k2
   have hr2:=zdd hr (k:=s.nx) (D:=D) (f:=cx.f) (ps:=ps) htag hk0 (wF _) k2 hne;have hle2:G.le (G.addBox s.nx w.heap.size):=Gh.addBox_le (hr.fresh s.nx (wF _) hk0).1;refine⟨_,w.heap.size,[],_,by rw[e3,hb];exact zwh _ _ _ _ _ k3,Gh.addBox_self,hle2,?_,rfl⟩
   exact hr2.nx (k:=s.nx+32) (by show s.nx<=_;omega)
  ·cases h
end
def q27:Option dt->List Item|none=>[]|some j=>[.code j.code]
section
variable{vcg:World}{vcb:Gh}{vcd:List (Nat×ah)}{G:Gh}{s:St}{a:Act}{w:World}{cx:Cx}{body:Code}{R:Type}
def zfo(ok:cx.Ok body)(hr:ak vcg vcb vcd G s a w){p:List Nat}{g:Operand}{ps:Array Tmp}{asn bo:Code}(hsub:sub body p = .rangeFunc g ps asn bo){q:Rq×St×List AV}(hq:qtv cx p g ps.toList s=some q)
  {K:Option dt->St->Option R} {x:R} (h:qtw s.nx q K=some x) {b:Frame} (cs:List Frame) (hb:b.fn=cx.f) (_hkind:b.kind = .normal) (hrd:sf cx vcb vcd b) (k:List Item) :
  ∃j s' G' a' w',K j s'=some x/\ak vcg vcb vcd G' s' a' w'/\Steps cx.P (lone (b.atR a (.code (.rangeFunc g ps asn bo)::k)) cs w) (lone (b.atR a' (q27 j++k)) cs w'):=by
 unfold qtv at hq;split at hq
 ·rename_i tag h0 cap ht hg;split at hq
  ·rename_i s1 hs1;split at hq
   ·rename_i q1 hq1;have hq:=qJ hq;subst hq;obtain⟨G1,l,mark,w1,he,hl,hle,hr1,hnx⟩:=zpe hr (ok.tags p tag ht g ps asn bo hsub) hs1 hb hrd;unfold qtw at h;obtain⟨d,hd,h⟩:=Rq.K_some h;simp only at h hd;obtain⟨e,hemem,hc⟩:=qbl hq1;unfold qlf at hc;cases hkk:ti h0 e.key<;>rw[hkk]at hc<;>simp only[qT,qF,reduceCtorEq]at hc
    obtain⟨N,x1,x1',y,k1,k2,k3,k4,k5,k6⟩:=qtc hc hd;subst k2;have hs:=ok.ents e hemem x1 x1' y k1;rw[q29 hkk]at hs;obtain⟨hpl,hct⟩:=hs;unfold zfn at h;simp only at h;cases hbb:d7 N&&sy N&&az s1.nx s1.hp<;>rw[hbb]at h<;>simp only[qT,qF,reduceCtorEq]at h
    simp only[qA]at hbb;obtain⟨⟨hb1,_⟩,hb2⟩:=hbb
    cases hv:iw (ax N) s1.hp N with
    |none=>rw[hv]at h;simp only[reduceCtorEq]at h|some hpv=>
    cases hvs:bh false [] (AV.rens (ax N) (.yld s.nx::cap)) (Pts.put e.args x1) with
    |none=>rw[hv,hvs]at h;simp only[reduceCtorEq]at h|some ps1=>
    rw[hv,hvs]at h;simp only at h
    cases hvw:kw hpv (cm e.hp x1') with
    |none=>rw[hvw]at h;simp only[reduceCtorEq]at h|some ps2=>
    rw[hvw]at h;simp only at h;have p1:=k5 _ hvs;have p2:=k6 _ _ hv hvw;obtain⟨fs,cps,hge,hfs,hcs⟩:=bi hr hg;have hfs0:fs=#[]:=Array.eq_empty_of_size_eq_zero (by simpa using hfs.length.symm)
    subst hfs0;have hge':({ a with defers:=mark++a.defers }:Act).eval g = .func (.func h0) #[] cps:=hge
    have hres:(resolve a.eval (rangeCall g l) 0).run cx.P w1 = .ok { target := .fn (.func h0) cps,args:=#[.func (.yield l) #[] #[]] } w1:=by
     have hy:a.eval (.const (.func (.yield l) #[] #[])) = .func (.yield l) #[] #[]:=rfl;simp[resolve,hge,Deferred.ofValue,hy]
    have hinv:(invoke (.fn (.func h0) cps) #[.func (.yield l) #[] #[]]).run cx.P w1 = .ok (.enter h0 (#[.func (.yield l) #[] #[]]++cps)) w1:=by
     simp[invoke,hpl _ w1]
    have henter:=stepR_rangeFunc (P:=cx.P) (b:=b) (a:=a) (k:=k) (cs:=cs) he hres hinv;have hreps:am (.yld s.nx::cap) G1 (.func (.yield l) #[] #[]::cps.toList):=⟨⟨l,hl,rfl⟩,hcs.le hle⟩;have hm:dd (G1.view N) (cm e.hp x1') w1:=(hr1.fin.mem.view hv (qfa hb1)).vw hvw p2;have hreps2:=lu (Gh.le.refl _) (fun e=>by cases e) hvs p1 (am.ren (G:=G1) (G':=G1.view N) (fun _ _ _ h=>h) (tz N) (v8 N) hreps)
    have hcalls:=hct w1 (G1.view N) _ hm hreps2;have e1:(Value.func (.yield l) #[] #[]::cps.toList).toArray=#[.func (.yield l) #[] #[]]++cps:=oC
    rw[e1]at hcalls;obtain⟨en,w2,fr,hpost,hcomes,hfrfn,hleave⟩:=hcalls (b.atR { a with defers:=mark++a.defers } (.inRangeFunc l::k)::cs)
    obtain⟨G2,v,rfl,_,hle2,hr2⟩:=zdm hr1 hb1 hb2 (wF _) hv hvw p2 hpost;have hsteps:Steps cx.P (lone (b.atR a (.code (.rangeFunc g ps asn bo)::k)) cs w) (lone (b.atR { a with defers:=mark++a.defers } (.endRangeFunc l::k)) cs w2):=by
     refine(Steps.one henter).trans (Steps.trans hcomes (.one ?_));rw[← finish_atR_inRangeFunc l v];exact step_leave_returned hleave
    split at h
    ·rename_i st pe f' n' fr' ps' tag' D' hlk;cases hnb:zdy st<;>rw[hnb]at h<;>simp only[qT,qF,reduceCtorEq]at h
     obtain⟨B,tmps,DB,i1,i2,⟨asn',bo',_,i3⟩,i4,i5,i6⟩:=hr2.fin.mem.holds _ _ hlk;have:=hle2.box _ _ hl;rw[this]at i1;injection i1 with i1;subst i1
     have hend:=run_endLoop (P:=cx.P) i3 (by intro e;simp only at e;subst e;cases hnb)
     have hst:=stepR_endRangeFunc (b:=b) (a:={ a with defers:=mark++a.defers }) (k:=k) (cs:=cs) hend
     have e2:(Option.map Item.code (Option.map dt.code pe)).toList=q27 pe:=by cases pe<;>rfl
     rw[e2]at hst;exact⟨pe,_,G2,{ a with defers:=mark++a.defers },_,h,(hr2.nx (k:=s1.nx+32) (Nat.le_add_right _ _)).setBox (bx' := .dead) hlk (show G2.at s.nx (.loop st pe f' n' fr' ps' tag' D')=some l from this) (fun c hc=>by cases hc) trivial i6,hsteps.trans (.one hst)⟩
    ·cases h
   ·cases hq
  ·cases hq
 ·cases hq
def zvj(ok:cx.Ok body)(hr:ak vcg vcb vcd G s a w){p:List Nat}{g:Operand}{ps:Array Tmp}{asn bo:Code}(hsub:sub body p = .rangeFunc g ps asn bo)
  {K:Option dt->St->Option R} {x:R} (h:rfR cx p g ps.toList s K=some x) {b:Frame} (cs:List Frame) (hb:b.fn=cx.f) (hkind:b.kind = .normal) (hrd:sf cx vcb vcd b) (k:List Item) :
  ∃j s' G' a' w',K j s'=some x/\ak vcg vcb vcd G' s' a' w'/\Steps cx.P (lone (b.atR a (.code (.rangeFunc g ps asn bo)::k)) cs w) (lone (b.atR a' (q27 j++k)) cs w'):=by
 unfold rfR at h;split at h
 ·rename_i q hq;exact zfo ok hr hsub hq h cs hb hkind hrd k
 ·split at h
  ·rename_i s' hs';have:∃G',ak vcg vcb vcd G' s' a w:=by
    unfold zfp at hs';split at hs'
    ·split at hs'
     ·split at hs'
      ·have hs':=qJ hs';subst hs';obtain⟨G1,hr1⟩:=hr.frzL;exact hr1.coB
      ·cases hs'
     ·cases hs'
    ·cases hs'
   obtain⟨G',hr'⟩:=this;split at h
   ·rename_i q hq;exact zfo ok hr' hsub hq h cs hb hkind hrd k
   ·cases h
  ·cases h
def kg(cx:Cx)(vcd:List (Nat×ah)){R:Type}(enc:RS R)(k:List Item)(s:St)(r:R):Prop:=
 ∀(vcg:World)(vcb G:Gh)(a:Act)(w:World),ak vcg vcb vcd G s a w->∀(b:Frame)(cs:List Frame),b.fn=cx.f->b.kind = .normal->sf cx vcb vcd b ->
  zf cx.P b.roundOf cx.f (lone (b.atR a k) cs w) cs fun v w'=>∃G',Fin vcg vcb vcd G' (enc.res r).2 w'/\aj (enc.res r).1 G' v
def qvf(cx:Cx)(j:Option dt)(k:List Item):Prop:=match j with|none=>k=[]|some .ret=>∃k',k = .code .ret::k'|some (.exit id)=>cx.rd≠none/\∃k',k = .code (.exit id)::k'/\exitTo id k'=none
def qr9(ok:cx.Ok body)(hid:∀n bx,af vcd n=some bx->ay cx.ids n=some n){enc:RS R}{j:Option dt}{r:R}{k:List Item}(hk:qvf cx j k)(h:o8 cx enc j s=some r):kg cx vcd enc k s r:=by
 intro vcg vcb G a w hr b cs hb hkind hrd;unfold o8 at h;unfold sf at hrd;split at h
 ·rename_i hrdn;rw[hrdn]at hrd;simp only at hrd;split at h
  ·rename_i s' hs';have h1:Steps cx.P (lone (b.atR a k) cs w) (lone { b.atR a k with mode := .returning } cs w):=by
    cases j with
    |none=>simp only[qvf]at hk;subst hk;exact .one (stepR_end hrd)|some j=>cases j with
     |ret=>obtain⟨k',rfl⟩:=hk;exact .one (stepR_ret hrd)
     |exit id=>exact absurd hrdn hk.1
   obtain⟨w',i1,i2⟩:=za2 (P:=cx.P) rfl hs' hr { b.atR a k with mode := .returning } cs rfl rfl
   obtain⟨u,u1,u2⟩:=qsl (P:=cx.P) i1 hid h;rw[hrd];exact⟨u,w',_,u2,h1.trans i2,hb,rfl,rfl,hkind,cx.fn,by rw[← ok.func,← hb];rfl,u1⟩
  ·cases h
 ·rename_i m hrdm;rw[hrdm]at hrd;simp only at hrd;obtain⟨B,bx0,e1,e2,e3⟩:=hrd;cases hd:s.noDf<;>rw[hd]at h<;>simp only[qT,qF,reduceCtorEq]at h
  split at h
  ·rename_i st pe f n fr ps tag D hl;obtain⟨B',tmps,DB,i1,i2,⟨asn,bo,i3,i4⟩,i5,i6,i7⟩:=hr.fin.mem.holds _ _ hl;have:=hr.fin.keep m bx0 B e2 e1;rw[this]at i1;injection i1 with i1;subst i1
   have hend:=run_endRound (P:=cx.P) (j.map dt.code) i4;have hiso:(j.map dt.code).isNone=vf j:=by cases j<;>rfl
   rw[hiso]at hend;have hst:(if vf j=true then LoopState.ready else LoopState.done)=(bif vf j then LoopState.ready else LoopState.done):=by cases vf j<;>rfl
   rw[hst]at hend;have hr2:=hr.setBox (bx' := .loop (bif vf j then .ready else .done) j f n fr ps tag D) (o := .loop { state:=bif vf j then .ready else .done,pending:=j.map dt.code,fn:=f,tmps:=tmps,params:=ps.toArray,assign:=asn,body:=bo,defers:=DB }) hl (show G.box m=some B from this)
    (fun c hc=>by have hc:G.box m=some c:=hc;rw[this]at hc;injection hc with hc;exact hc.symm)
    ⟨B,tmps,DB,this,i2,⟨asn,bo,i3,by rw[World.putObj_heap_same (Array.getElem?_eq_some_iff.1 i4).1]⟩,i5,i6,i7⟩ i7
   have hfin:=qsl (P:=cx.P) hr2 hid h;rw[e3];intro c cs' hcs;subst hcs;refine⟨.bool (vf j),_,hfin _ rfl,.one ?_⟩
   cases j with
   |none=>simp only[qvf]at hk;subst hk;exact stepR_round_end e3 hkind hend|some j=>cases j with
    |ret=>obtain⟨k',rfl⟩:=hk;exact stepR_round_ret e3 hkind hend
    |exit id=>obtain⟨_,k',rfl,hx⟩:=hk;exact stepR_round_exit e3 hkind hx hend
  ·cases h
end
section
variable{vcd:List (Nat×ah)}{s:St}{cx:Cx}{body:Code}{R:Type}{enc:RS R}
def kg.via{k k':List Item}{s':St}{r:R}(h:kg cx vcd enc k' s' r)(hs:∀vcg vcb G a w,ak vcg vcb vcd G s a w->∀(b:Frame)(cs:List Frame),b.fn=cx.f->b.kind = .normal->sf cx vcb vcd b ->
  ∃G' a' w',ak vcg vcb vcd G' s' a' w'/\Steps cx.P (lone (b.atR a k) cs w) (lone (b.atR a' k') cs w')):kg cx vcd enc k s r:=by
 intro vcg vcb G a w hr b cs hb hk hrd;obtain⟨G',a',w',h1,h2⟩:=hs vcg vcb G a w hr b cs hb hk hrd;exact(h vcg vcb G' a' w' h1 b cs hb hk hrd).head h2
def kg.one{k k':List Item}{r:R}(h:kg cx vcd enc k' s r)(hs:∀(a:Act)(w:World)(b:Frame)(cs:List Frame),step cx.P (lone (b.atR a k) cs w) = .next (lone (b.atR a k') cs w)):kg cx vcd enc k s r:=
 h.via fun _ _ G a w hr b cs _ _ _=>⟨G,a,w,hr,.one (hs a w b cs)⟩
def r7(cx:Cx)(vcd:List (Nat×ah)){R:Type}(enc:RS R)(body:Code)(l:fw R):Prop:=∀d r,l.F d=some r->kg cx vcd enc (eg (oa body l.key)) (l.ls.st d) r
def q4e{ids:NM}{s:St}{k:List d6}:∀{ls:List (fw R)}{l:fw R},qb0 ids s k ls=some l->l∈ls/\qfe l.key k=true
 |[],_,h=>by cases h
 |x::xs,l,h=>by
  simp only[qb0]at h;cases hb:qfe x.key k<;>rw[hb]at h<;>simp only[qT,qF]at h
  ·obtain⟨h1,h2⟩:=q4e h;exact⟨qE _ h1,h2⟩
  ·split at h
   ·simp only[qI]at h;subst h;exact⟨qH,hb⟩
   ·rename_i l' hl;split at h
    ·simp only[qI]at h;subst h;exact⟨qH,hb⟩
    ·simp only[qI]at h;subst h;obtain⟨h1,h2⟩:=q4e hl;exact⟨qE _ h1,h2⟩
def zd7{i:d6}{k:List d6}(h:∀x∈i::k,x.Ok body):i.Ok body/\∀x∈k,x.Ok body:=⟨h _ qH,fun x hx=>h x (qE _ hx)⟩
def mf{i:d6}{k:List d6}(h:i.Ok body)(k':∀x∈k,x.Ok body):∀x∈i::k,x.Ok body:=fun x hx=>by
 rcases List.mem_cons.1 hx with rfl|hx
 ·exact h
 ·exact k' x hx
def zn4{kd:Nat}{p:List Nat}{c:Code}(h:(d6.mk kd p (.code c)).Ok body):sub body p=c:=zq3 h
def su{p:List Nat}{c:Code}(i:Nat){x:Code}(h:sub body p=c)(hc:u7 i c=x):(d6.mk 0 (i::p) (.code x)).Ok body:=by
 show Item.code x = .code (u7 i (sub body p));rw[h,hc]
def znh{p:List Nat}{id:Nat}{x:Code}(h:sub body p = .block id x):(d6.mk 1 p (.inBlock id)).Ok body:=by
 show Item.inBlock id=(match sub body p with | .block id _ => .inBlock id|c => .code c)
 rw[h]
def zdc{p:List Nat}{x:Code}(h:sub body p = .loop x):(d6.mk 2 p (.inLoop x)).Ok body:=by
 show Item.inLoop x=(match sub body p with | .loop x => .inLoop x|c => .code c)
 rw[h]
def zxh{P:Program}{b:Frame}{a:Act}{k:List Item}{cs:List Frame}{w:World}{x:Code}:step P (lone (b.atR a (.inScope x::k)) cs w) = .next (lone (b.atR a k) cs w):=
 step_lone_go (by simp[stepG,stepG.exec,Frame.atR])
def zxi{P:Program}{b:Frame}{a:Act}{k:List Item}{cs:List Frame}{w:World}{c:Code} :
  step P (lone (b.atR a (.code (.scope c)::k)) cs w) = .next (lone (b.atR a (.code c :: .inScope c::k)) cs w):=
 step_lone_go (by simp[stepG,stepG.exec,Frame.atR])
def zw0{p:List Nat}{x:Code}(h:sub body p = .scope x):(d6.mk 3 p (.inScope x)).Ok body:=by
 show Item.inScope x=(match sub body p with | .scope x => .inScope x|c => .code c)
 rw[h]
def q2i{id:Nat}:∀{k:List d6},qh id k=none->(∀i∈k,i.Ok body)->exitTo id (eg k)=none
 |[],_,_=>rfl|⟨kd,p,it⟩::k,h,hk=>by
  simp only[qh]at h;have hk':=(zd7 hk).2;split at h
  ·rename_i id';split at h
   ·cases h
   ·rename_i he;simp only[eg,exitTo];rw[qW he];exact q2i h hk'
  ·rename_i hne;have:=q2i h hk';simp only[eg];cases it<;>first
    |(exfalso;exact hne _ rfl)
    |(simp only[exitTo];exact this)
abbrev IH(cx:Cx)(vcd:List (Nat×ah)){R:Type}(enc:RS R)(body:Code)(labs:List (fw R))(n:Nat):Prop:=
 ∀(chk:Bool)(k:List d6)(s:St)(r:R),(∀i∈k,i.Ok body)->run cx enc labs n chk k s=some r->kg cx vcd enc (eg k) s r
def qb5(cx:Cx){R:Type}(enc:RS R)(labs:List (fw R))(n:Nat)(p:List Nat)(k':List d6)(s:St)(c:Code):Option R:=match c with
 |.skip=>run cx enc labs n true k' s|.label _=>run cx enc labs n true k' s|.seq x y=>run cx enc labs n true (⟨0,0::p,.code x⟩::⟨0,1::p,.code y⟩::k') s|.cond c x y=>match s.ev c with|some (.bool b)=>bif b then run cx enc labs n true (⟨0,0::p,.code x⟩::k') (s.know c true) else run cx enc labs n true (⟨0,1::p,.code y⟩::k') (s.know c false)|some (.val (.bool b))=>bif b then run cx enc labs n true (⟨0,0::p,.code x⟩::k') s else run cx enc labs n true (⟨0,1::p,.code y⟩::k') s|_=>none
 |.block id x=>run cx enc labs n true (⟨0,0::p,.code x⟩::⟨1,p,.inBlock id⟩::k') s|.loop x=>run cx enc labs n true (⟨0,0::p,.code x⟩::⟨2,p,.inLoop x⟩::k') s|.scope x=>run cx enc labs n true (⟨0,0::p,.code x⟩::⟨3,p,.inScope x⟩::k') s|.exit id=>match qh id k' with
  |some k''=>run cx enc labs n true k'' s|none=>match cx.rd with|some _=>o8 cx enc (some (.exit id)) s|none=>none
 |.region _ ops d=>bif d then q2a cx.P cx.tb ops s (fun s'=>run cx enc labs n true k' s'.bump) else qby cx.P cx.tb ops ops.toList s (fun s'=>run cx enc labs n true k' s'.bump)
 |.ret=>o8 cx enc (some .ret) s|.rangeFunc g ps _ _=>rfR cx p g ps.toList s fun j s'=>match j with
  |none=>run cx enc labs n true k' s'|some .ret=>o8 cx enc (some .ret) s'|some (.exit id)=>match qh id k' with
   |some k''=>run cx enc labs n true k'' s'|none=>match cx.rd with|some _=>o8 cx enc (some (.exit id)) s'|none=>none
 |_=>none
def zwg{labs:List (fw R)}{n:Nat}(ih:IH cx vcd enc body labs n){p:List Nat}{k':List d6}{c:Operand}{x y:Code}{r:R}(hsub:sub body p = .cond c x y)(hk':∀i∈k',i.Ok body)(h:qb5 cx enc labs n p k' s (.cond c x y)=some r):kg cx vcd enc (.code (.cond c x y)::eg k') s r:=by
 unfold qb5 at h;simp only at h;split at h
 ·rename_i t ht;cases t<;>simp only[qT,qF]at h
  ·refine(ih true _ _ r (mf (su 1 hsub rfl) hk') h).via fun vcg vcb G a w hr b cs _ _ _ => ?_
   have he:a.eval c = .bool false:=bi hr ht;exact⟨G,a,w,hr.know he,.one (stepR_cond he)⟩
  ·refine(ih true _ _ r (mf (su 0 hsub rfl) hk') h).via fun vcg vcb G a w hr b cs _ _ _ => ?_
   have he:a.eval c = .bool true:=bi hr ht;exact⟨G,a,w,hr.know he,.one (stepR_cond he)⟩
 ·rename_i t ht;cases t<;>simp only[qT,qF]at h
  ·refine(ih true _ _ r (mf (su 1 hsub rfl) hk') h).via fun vcg vcb G a w hr b cs _ _ _ => ?_
   have he:a.eval c = .bool false:=bi hr ht;exact⟨G,a,w,hr,.one (stepR_cond he)⟩
  ·refine(ih true _ _ r (mf (su 0 hsub rfl) hk') h).via fun vcg vcb G a w hr b cs _ _ _ => ?_
   have he:a.eval c = .bool true:=bi hr ht;exact⟨G,a,w,hr,.one (stepR_cond he)⟩
 ·cases h
def zwm(ok:cx.Ok body){labs:List (fw R)}{n:Nat}(ih:IH cx vcd enc body labs n){p:List Nat}{k':List d6}{id:Nat}{ops:Array Oper}{d:Bool}{r:R}(hk':∀i∈k',i.Ok body)(h:qb5 cx enc labs n p k' s (.region id ops d)=some r):kg cx vcd enc (.code (.region id ops d)::eg k') s r:=by
 unfold qb5 at h;simp only at h;cases d<;>simp only[qT,qF]at h
 ·intro vcg vcb G a w hr b cs hb hkd hrd;have hops:=zed (P:=cx.P) (ops:=ops) ok.ents (N:=fun a' w'=>zf cx.P b.roundOf cx.f (lone (b.atR a' (eg k')) cs w') cs fun v w'=>∃G',Fin vcg vcb vcd G' (enc.res r).2 w'/\aj (enc.res r).1 G' v)
   (fun s' h' G' a' w' hr'=>ih true k' s'.bump r hk' h' vcg vcb G' a' w' hr'.bump b cs hb hkd hrd) ops.toList 0 s G a w (fun j hj=>oC) h hr
  have e:List.range' 0 ops.toList.length=List.range ops.size:=by simp[List.range_eq_range']
  rw[e]at hops;obtain⟨a',w',h1,h2⟩:=zoj (id:=id) hops b (eg k') cs hkd;exact h1.head h2
 ·intro vcg vcb G a w hr b cs hb hkd hrd;obtain⟨a',w',h1,h2⟩:=zoz (P:=cx.P) ok.ents ok.mixed h (N:=fun a' w'=>zf cx.P b.roundOf cx.f (lone (b.atR a' (eg k')) cs w') cs fun v w'=>∃G',Fin vcg vcb vcd G' (enc.res r).2 w'/\aj (enc.res r).1 G' v)
   (fun s' h' G' a' w' hr'=>ih true k' s'.bump r hk' h' vcg vcb G' a' w' hr'.bump b cs hb hkd hrd) hr id b (eg k') cs hkd
  exact h1.head h2
def zga(ok:cx.Ok body)(hid:∀n bx,af vcd n=some bx->ay cx.ids n=some n){labs:List (fw R)}{n:Nat}(ih:IH cx vcd enc body labs n){k':List d6}{id:Nat}{r:R}(hk':∀i∈k',i.Ok body)
  (h:(match qh id k' with
   |some k''=>run cx enc labs n true k'' s|none=>match cx.rd with
    |some _=>o8 cx enc (some (.exit id)) s| none=>none)=some r):kg cx vcd enc (.code (.exit id)::eg k') s r:=by
 split at h
 ·rename_i k'' hx;obtain⟨h1,h2⟩:=q2j hx;exact(ih true k'' s r (fun i hi=>hk' i (h2 i hi)) h).one fun a w b cs=>stepR_exit h1
 ·rename_i hx;split at h
  ·rename_i m hm;exact qr9 ok hid (j:=some (.exit id)) ⟨by rw[hm];simp,_,rfl,q2i hx hk'⟩ h
  ·cases h
def zwl(ok:cx.Ok body)(hid:∀n bx,af vcd n=some bx->ay cx.ids n=some n){labs:List (fw R)}{n:Nat}(ih:IH cx vcd enc body labs n){p:List Nat}{k':List d6}{g:Operand}{ps:Array Tmp}{asn bo:Code}{r:R}(hsub:sub body p = .rangeFunc g ps asn bo)(hk':∀i∈k',i.Ok body)
  (h:qb5 cx enc labs n p k' s (.rangeFunc g ps asn bo)=some r):kg cx vcd enc (.code (.rangeFunc g ps asn bo)::eg k') s r:=by
 unfold qb5 at h;simp only at h;intro vcg vcb G a w hr b cs hb hkd hrd;obtain⟨j,s',G',a',w',h1,h2,h3⟩:=zvj ok hr hsub h cs hb hkd hrd (eg k');refine zf.head h3 ?_
 cases j with
 |none=>exact ih true k' s' r hk' h1 vcg vcb G' a' w' h2 b cs hb hkd hrd|some j=>cases j with|ret=>exact qr9 ok hid (j:=some .ret) (k := .code .ret::eg k') ⟨_,rfl⟩ h1 vcg vcb G' a' w' h2 b cs hb hkd hrd|exit id=>exact zga ok hid ih hk' h1 vcg vcb G' a' w' h2 b cs hb hkd hrd
def zwf(ok:cx.Ok body)(hid:∀n bx,af vcd n=some bx->ay cx.ids n=some n){labs:List (fw R)}{n:Nat}(ih:IH cx vcd enc body labs n){kd:Nat}{p:List Nat}{k':List d6}{c:Code}{r:R}(hi:(d6.mk kd p (.code c)).Ok body)(hk':∀i∈k',i.Ok body)
  (h:qb5 cx enc labs n p k' s c=some r):kg cx vcd enc (.code c::eg k') s r:=by
 have hsub:=zn4 hi
 cases c with
 |skip=>exact(ih true k' s r hk' h).one fun a w b cs=>stepR_skip
 |label l=>exact(ih true k' s r hk' h).one fun a w b cs=>stepR_label
 |seq x y=>exact(ih true _ s r (mf (su 0 hsub rfl) (mf (su 1 hsub rfl) hk')) h).one fun a w b cs=>stepR_seq
 |cond c x y=>exact zwg ih hsub hk' h|block id x=>exact(ih true _ s r (mf (su 0 hsub rfl) (mf (znh hsub) hk')) h).one fun a w b cs=>stepR_block
 |loop x=>exact(ih true _ s r (mf (su 0 hsub rfl) (mf (zdc hsub) hk')) h).one fun a w b cs=>stepR_loop
 |scope x=>exact(ih true _ s r (mf (su 0 hsub rfl) (mf (zw0 hsub) hk')) h).one fun a w b cs=>zxi
 |exit id=>exact zga ok hid ih hk' h|region id ops d=>exact zwm ok ih hk' h|ret=>exact qr9 ok hid (j:=some .ret) ⟨_,rfl⟩ h|rangeFunc g ps asn bo=>exact zwl ok hid ih hsub hk' h|_=>cases h
def zwe{labs:List (fw R)}{n:Nat}(ih:IH cx vcd enc body labs n){k':List d6}{r:R}(hk':∀i∈k',i.Ok body)
  (h:(match cx.rd with
   |some m=>match af s.hp m with|some (.loop .ready pe f n' fr ps tag D)=>run cx enc labs n true k' { s with hp:=(m,.loop .busy pe f n' fr ps tag D)::s.hp }|_=>none
   | none=>none)=some r):kg cx vcd enc (.beginRound::eg k') s r:=by
 split at h
 ·rename_i m hm;split at h
  ·rename_i pe f n' fr ps tag D hl;refine(ih true k' _ r hk' h).via fun vcg vcb G a w hr b cs _ _ hrd => ?_
   unfold sf at hrd;rw[hm]at hrd;simp only at hrd;obtain⟨B,bx0,e1,e2,e3⟩:=hrd;obtain⟨B',tmps,DB,i1,i2,⟨asn,bo,i3,i4⟩,i5,i6,i7⟩:=hr.fin.mem.holds _ _ hl;have:=hr.fin.keep m bx0 B e2 e1;rw[this]at i1;injection i1 with i1;subst i1
   have hbr:=run_beginRound (P:=cx.P) i4 rfl;exact⟨G,a,_,hr.setBox (bx' := .loop .busy pe f n' fr ps tag D) hl (show G.box m=some B from this)
    (fun c hc=>by have hc:G.box m=some c:=hc;rw[this]at hc;injection hc with hc;exact hc.symm)
    ⟨B,tmps,DB,this,i2,⟨asn,bo,i3,by rw[World.putObj_heap_same (Array.getElem?_eq_some_iff.1 i4).1]⟩,i5,i6,i7⟩ i7,.one (stepR_beginRound e3 hbr)⟩
  ·cases h
 ·cases h
def q43(ok:cx.Ok body)(hid:∀n bx,af vcd n=some bx->ay cx.ids n=some n){labs:List (fw R)}(hlab:∀l∈labs,r7 cx vcd enc body l) :
  ∀(n:Nat)(chk:Bool)(k:List d6)(s:St)(r:R),(∀i∈k,i.Ok body)->run cx enc labs n chk k s=some r->kg cx vcd enc (eg k) s r:=by
 intro n
 induction n with
 |zero=>intro chk k s r _ h;cases h
 |succ n ih=>
  intro chk k s r hk h;unfold run at h
  cases hl:(bif chk then qb0 cx.ids s k labs else none) with
  |some lab=>
   rw[hl]at h;have hl:qb0 cx.ids s k labs=some lab:=by cases chk<;>simp only[qT,qF,reduceCtorEq]at hl;exact hl
   obtain⟨hm,hkey⟩:=q4e hl;simp only at h;split at h
   ·rename_i d hd;have hg:=hlab lab hm d r h;rw[zbx hkey hk]at hg;refine hg.via fun vcg vcb G a w hr b cs _ _ _ => ?_
    obtain⟨G1,hr1⟩:=hr.co lab.ls cx.ids;obtain⟨G2,hr2⟩:=hr1.fit hid hd;exact⟨G2,a,w,hr2,.refl _ _⟩
   ·cases h
  |none=>
   rw[hl]at h;simp only at h;clear hl
   cases k with
   |nil=>exact qr9 ok hid (by rfl) h|cons i k'=>
    obtain⟨kd,p,it⟩:=i;obtain⟨hi,hk'⟩:=zd7 hk;clear hk
    cases it with
    |code c=>exact zwf ok hid ih hi hk' h|inBlock id=>exact(ih true k' s r hk' h).one fun a w b cs=>stepR_inBlock
    |inScope id=>exact(ih true k' s r hk' h).one fun a w b cs=>zxh
    |inLoop x=>
     have hsub:sub body p = .loop x:=zq4 hi;exact(ih true _ s r (mf (su 0 hsub rfl) (mf (zdc hsub) hk')) h).one fun a w b cs=>stepR_inLoop
    |beginRound=>exact zwe ih hk' h|_=>cases h
end
def St.reCell(s:St)(b off:Nat):St:=
 match af s.hp b with
 |some (.cells cs T)=>match cs[off]? with
  |some (.own k)=>match af s.hp k with|some (.row τ l E)=>bif az s.nx s.hp then{ s with hp:=(b,.cells (cs.set off (.own s.nx)) T)::(s.nx,.row τ l E)::(k,.dead)::s.hp,nx:=s.nx+32 } else s|_=>s
  |_=>s
 |_=>s
def qs3:Pt->Bool|.own _=>true|_=>false
def reB1(b:Nat):List Pt->Nat->St->St|[],_,s=>s|p::ps,off,s=>reB1 b ps (off+1) (bif qs3 p then s.reCell b off else s)
def reB:List (Nat×a8)->St->St
 |[],s=>s|(n,p)::r,s=>match p with|.cells ps _=>reB r (reB1 n ps 0 s)|_=>reB r s
def St.reSlot(s:St)(i:Nat):St:=
 match af s.fr i with
 |some (.own k)=>match af s.hp k with|some (.row τ l E)=>bif az s.nx s.hp&&Nat.blt i s.n then{ s with fr:=(i,.own s.nx)::s.fr,hp:=(s.nx,.row τ l E)::(k,.dead)::s.hp,nx:=s.nx+32 } else s|_=>s
 |_=>s
def reA:List Pt->Nat->St->St|[],_,s=>s|p::ps,i,s=>reA ps (i+1) (bif qs3 p then s.reSlot i else s)
section
variable{vcg:World}{vcb:Gh}{vcd:List (Nat×ah)}{G:Gh}{s:St}{a:Act}{w:World}
def Fin.rename{hp:List (Nat×ah)}(hf:Fin vcg vcb vcd G hp w){k k':Nat}{τ:Ty}{l:List τ.den}{E:TypeId}{v:Option Addr×Nat×Nat}(hk:af hp k=some (.row τ l E))(hk':af hp k'=none)(hfr:G.own k'=none)(ho:G.own k=some v) :
  Fin vcg vcb vcd (G.addOwn k' v) ((k',.row τ l E)::(k,.dead)::hp) w:=by
 have hle:G.le (G.addOwn k' v):=Gh.addOwn_le hfr;have hlk:∀m b,af ((k',ah.row τ l E)::(k,.dead)::hp) m=some b->(m=k'/\b = .row τ l E)\/b = .dead\/(m≠k/\af hp m=some b):=fun m b h=>by
  simp[af]at h;cases hb:Nat.beq k' m
  ·rw[hb]at h;cases hb2:Nat.beq k m
   ·rw[hb2]at h;exact .inr (.inr ⟨fun e=>by subst e;simp at hb2,h⟩)
   ·rw[hb2]at h;simp at h;exact .inr (.inl h.symm)
  ·rw[hb]at h;simp at h;exact .inl ⟨(qN hb).symm,h.symm⟩
 have hat:(G.addOwn k' v).at k' (.row τ l E)=G.at k (.row τ l E):=by simp[Gh.at,Gh.addOwn_self,ho]
 refine⟨⟨hf.mem.agree,hf.mem.one,?_,?_,hf.mem.tab⟩,hf.bel,hf.imm_le,hf.imm_new,?_,fun n bx B h1 h2=>hle.box _ _ (hf.keep n bx B h1 h2),fun n bx B h1 h2=>hle.own _ _ (hf.keepOwn n bx B h1 h2)⟩
 ·intro m b h;rcases hlk m b h with⟨rfl,rfl⟩|rfl|⟨_,h⟩
  ·obtain⟨ad,c,i1,i2⟩:=hf.mem.holds k _ hk;rw[ho]at i1;injection i1 with i1;subst i1
   exact⟨ad,c,Gh.addOwn_self,i2⟩
  ·trivial
  ·exact(hf.mem.holds m b h).mono hle (fun _ _=>rfl) (fun _ _ _ h => .inl h)
 ·intro m m' b b' c h1 h2 h3 h4;rcases hlk m b h1 with⟨rfl,rfl⟩|rfl|⟨n1,g1⟩<;>rcases hlk m' b' h2 with⟨e2,rfl⟩|rfl|⟨n2,g2⟩
  ·exact e2.symm
  ·cases h4
  ·rw[hat]at h3;rw[(hf.mem.holds m' b' g2).at_le hle]at h4;exact absurd (hf.mem.apart m' k b' _ c g2 hk h4 h3) n2
  ·cases h3
  ·cases h3
  ·cases h3
  ·subst e2;rw[hat]at h4;rw[(hf.mem.holds m b g1).at_le hle]at h3;exact absurd (hf.mem.apart m k b _ c g1 hk h3 h4) n1
  ·cases h4
  ·rw[(hf.mem.holds m b g1).at_le hle]at h3;rw[(hf.mem.holds m' b' g2).at_le hle]at h4;exact hf.mem.apart m m' b b' c g1 g2 h3 h4
 ·intro m b c h1 h2;rcases hlk m b h1 with⟨rfl,rfl⟩|rfl|⟨n1,h1⟩
  ·rw[hat]at h2;exact hf.base k _ c hk h2
  ·cases h2
  ·rw[(hf.mem.holds m b h1).at_le hle]at h2;exact hf.base m b c h1 h2
def ak.reCell(hr:ak vcg vcb vcd G s a w)(b off:Nat):∃G',ak vcg vcb vcd G' (s.reCell b off) a w:=by
 unfold St.reCell;split
 ·rename_i cs T hb0;split
  ·rename_i k hx0;split
   ·rename_i τ l E hk0;cases hn:az s.nx s.hp
    ·exact⟨G,hr⟩
    ·simp;have hk:=mq hn s.nx (wF _) oA
     obtain⟨ad,c,i1,_⟩:=hr.fin.mem.holds k _ hk0;have hfresh:=hr.fresh s.nx (wF _) hk;have hle:G.le (G.addOwn s.nx (ad,l.length,c)):=Gh.addOwn_le hfresh.2;have hf:=hr.fin.rename hk0 hk hfresh.2 i1;have hne:s.nx≠b:=fun e=>by rw[e,hb0]at hk;cases hk
     have hne2:k≠b:=fun e=>by rw[e,hb0]at hk0;cases hk0
     have hb1:af ((s.nx,ah.row τ l E)::(k,.dead)::s.hp) b=some (.cells cs T):=by
      simp[af];cases hq:Nat.beq s.nx b
      ·cases hq2:Nat.beq k b
       ·exact hb0
       ·exact absurd (qN hq2) hne2
      ·exact absurd (qN hq) hne
     obtain⟨B,vs,k1,k2,k3,k4,k5⟩:=hf.mem.holds _ _ hb1;have hv:vs.toList[off]? = some (.slice ad l.length c):=by
      obtain⟨v,h1,h2⟩:=kp k3 hx0;obtain⟨a',n',c',q1,q2⟩:=h2;rw[hle.own _ _ i1]at q1;simp at q1;obtain⟨rfl,rfl,rfl⟩:=q1;subst q2;exact h1
     have hset:vs.toList.set off (.slice ad l.length c)=vs.toList:=by
      obtain⟨hlt,he⟩:=List.getElem?_eq_some_iff.1 hv;rw[← he,List.set_getElem_self]
     refine⟨G.addOwn s.nx (ad,l.length,c),⟨by obtain⟨bs,q1,q2⟩:=hr.defers;exact⟨bs,q1,sx hle.box q2⟩,hr.size,fun j x hx=>by obtain⟨v,h1,h2⟩:=hr.frame j x hx;exact⟨v,h1,h2.le hle⟩,fun m hm hl => ?_,?_⟩⟩
     ·simp only at hm;have hmn:s.nx≠m:=oA
      simp[af]at hl;cases hq:Nat.beq b m<;>rw[hq]at hl<;>simp at hl
      cases hq1:Nat.beq s.nx m<;>rw[hq1]at hl<;>simp at hl
      cases hq2:Nat.beq k m<;>rw[hq2]at hl<;>simp at hl
      obtain⟨h1,h2⟩:=hr.fresh m oA hl
      refine⟨h1,?_⟩;show(bif Nat.beq m s.nx then some _ else G.own m)=none
      cases hbm:Nat.beq m s.nx
      ·exact h2
      ·exact absurd (qN hbm).symm hmn
     ·refine hf.update (bx := .cells cs T) (bx' := .cells (cs.set off (.own s.nx)) T) hb1 (B:=B) k1 k1 ⟨rfl,rfl,rfl,wF _,fun _ _ _=>rfl⟩ ⟨B,vs,k1,k2,?_,k4,k5⟩ k5
      have:=qmk off k3 (x := .own s.nx) (v := .slice ad l.length c) ⟨ad,l.length,c,Gh.addOwn_self,rfl⟩
      rwa [hset]at this
   ·exact⟨G,hr⟩
  ·exact⟨G,hr⟩
 ·exact⟨G,hr⟩
def ak.reSlot(hr:ak vcg vcb vcd G s a w)(i:Nat):∃G',ak vcg vcb vcd G' (s.reSlot i) a w:=by
 unfold St.reSlot;split
 ·rename_i k hx0;split
  ·rename_i τ l E hk0;cases hn:az s.nx s.hp&&Nat.blt i s.n
   ·exact⟨G,hr⟩
   ·simp;simp at hn;have hk:=mq hn.1 s.nx (wF _) oA
    obtain⟨ad,c,i1,_⟩:=hr.fin.mem.holds k _ hk0;have hfresh:=hr.fresh s.nx (wF _) hk;have hle:G.le (G.addOwn s.nx (ad,l.length,c)):=Gh.addOwn_le hfresh.2;refine⟨G.addOwn s.nx (ad,l.length,c),⟨by obtain⟨bs,q1,q2⟩:=hr.defers;exact⟨bs,q1,sx hle.box q2⟩,hr.size,fun j x hx => ?_,fun m hm hl => ?_,hr.fin.rename hk0 hk hfresh.2 i1⟩⟩
    ·simp[af]at hx;cases hq:Nat.beq i j
     ·rw[hq]at hx;obtain⟨v,h1,h2⟩:=hr.frame j x hx;exact⟨v,h1,h2.le hle⟩
     ·rw[hq]at hx;simp at hx;subst hx;have:=qN hq;subst this;obtain⟨v,h1,a',n',c',q1,q2⟩:=hr.frame i _ hx0;rw[i1]at q1;simp at q1;obtain⟨rfl,rfl,rfl⟩:=q1;exact⟨v,h1,ad,l.length,c,Gh.addOwn_self,q2⟩
    ·simp only at hm;have hmn:s.nx≠m:=oA
     simp[af]at hl;cases hq1:Nat.beq s.nx m<;>rw[hq1]at hl<;>simp at hl
     cases hq2:Nat.beq k m<;>rw[hq2]at hl<;>simp at hl
     obtain⟨h1,h2⟩:=hr.fresh m oA hl
     refine⟨h1,?_⟩;show(bif Nat.beq m s.nx then some _ else G.own m)=none
     cases hbm:Nat.beq m s.nx
     ·exact h2
     ·exact absurd (qN hbm).symm hmn
  ·exact⟨G,hr⟩
 ·exact⟨G,hr⟩
def ak.reA:∀{ps:List Pt}{i:Nat}{s:St}{G:Gh},ak vcg vcb vcd G s a w->∃G',ak vcg vcb vcd G' (reA ps i s) a w
 |[],_,s,G,hr=>⟨G,hr⟩|p::ps,i,s,G,hr=>by
  unfold Sym.reA;cases qs3 p
  ·exact ak.reA hr
  ·obtain⟨G',hr'⟩:=hr.reSlot i;exact ak.reA hr'
def ak.reB1{b:Nat}:∀{ps:List Pt}{off:Nat}{s:St}{G:Gh},ak vcg vcb vcd G s a w->∃G',ak vcg vcb vcd G' (reB1 b ps off s) a w
 |[],_,s,G,hr=>⟨G,hr⟩|p::ps,off,s,G,hr=>by
  unfold Sym.reB1;cases qs3 p
  ·exact ak.reB1 hr
  ·obtain⟨G',hr'⟩:=hr.reCell b off;exact ak.reB1 hr'
def ak.reB:∀{l:List (Nat×a8)}{s:St}{G:Gh},ak vcg vcb vcd G s a w->∃G',ak vcg vcb vcd G' (reB l s) a w
 |[],s,G,hr=>⟨G,hr⟩|(n,p)::r,s,G,hr=>by
  unfold Sym.reB;split
  ·obtain⟨G',hr'⟩:=hr.reB1;exact ak.reB hr'
  ·exact ak.reB hr
end
def ep:List (Nat×a8)->NM|[]=>[]|(n,_)::r=>(n,n)::ep r
def kh(N:NM)(n:Nat):Bool:=match ax N n with|some m=>Nat.beq m n|none=>false
def xx{N:NM}{n:Nat}(h:kh N n=true):ax N n=some n:=by
 unfold kh at h;split at h
 ·rename_i m hm;have:=qN h;subst this;exact hm
 ·cases h
mutual
def q4k(N:NM):Pt->Bool|.agg ps=>q9 N ps|.tup ps=>q9 N ps|.ptr b _=>kh N b|.own k=>kh N k|.el k _=>kh N k|.iel _ k _=>kh N k|.yld k=>kh N k|.pn k=>kh N k|.fn _ ps=>q9 N ps|_=>true
def q9(N:NM):List Pt->Bool|[]=>true|p::ps=>q4k N p&&q9 N ps
end
def zm4{ρ:Nat->Option Nat}:∀{τ:Ty}{d:τ.den},(τ.av d).ren ρ=τ.av d|.int _,_=>rfl|.byte,_=>rfl|.bool,_=>rfl|.str,_=>rfl|.unit,_=>rfl|.list _,_=>rfl|.prod a b,d=>by show AV.agg (AV.rens ρ ((Ty.prod a b).enc d))=_;rw[Ty.enc_ren];rfl|.tree a,d=>by show AV.agg (AV.rens ρ ((Ty.tree a).enc d))=_;rw[Ty.enc_ren];rfl
mutual
def zev{N:NM}:∀{p:Pt}{d:p.den},q4k N p=true->(p.put d).ren (ax N)=p.put d|.h τ,d,_=>zm4|.c _,_,_=>rfl|.agg ps,d,h=>congrArg AV.agg (qb2 (ps:=ps) (d:=d) h)|.tup ps,d,h=>congrArg AV.tup (qb2 (ps:=ps) (d:=d) h)|.ptr b off,_,h=>by show AV.ren (ax N) (.ptr b off)=_;simp[AV.ren,xx (show kh N b=true from h)];rfl|.own k,_,h=>by show AV.ren (ax N) (.own k)=_;simp[AV.ren,xx (show kh N k=true from h)];rfl|.arr _,_,_=>rfl|.el k sz,_,h=>by show AV.ren (ax N) (.oel k sz 0 0)=_;simp[AV.ren,xx (show kh N k=true from h)];rfl|.iel t k sz,_,h=>by show AV.ren (ax N) (.iface t (.oel k sz 0 0))=_;simp[AV.ren,xx (show kh N k=true from h)];rfl|.yld k,_,h=>by show AV.ren (ax N) (.yld k)=_;simp[AV.ren,xx (show kh N k=true from h)];rfl|.pn k,_,h=>by show AV.ren (ax N) (.pn k)=_;simp[AV.ren,xx (show kh N k=true from h)];rfl|.fn f ps,d,h=>congrArg (AV.fn (.func f) []) (qb2 (ps:=ps) (d:=d) h)|.u,_,_=>rfl
def qb2{N:NM}:∀{ps:List Pt}{d:Pts.den ps},q9 N ps=true->AV.rens (ax N) (Pts.put ps d)=Pts.put ps d
 |[],_,_=>rfl|p::ps,d,h=>by
  simp[q9,qA]at h;have h1:=zev (p:=p) (d:=d.1) h.1;have h2:=qb2 (ps:=ps) (d:=d.2) h.2;show AV.ren (ax N) (p.put d.1)::AV.rens (ax N) (Pts.put ps d.2)=p.put d.1::Pts.put ps d.2;rw[h1,h2]
end
def fIn(N:NM):List (Nat×Pt)->Bool|[]=>true|(_,p)::r=>q4k N p&&fIn N r
def zcm{N:NM}:∀{l:List (Nat×Pt)}{d:qj l},fIn N l=true->pf (ax N) (lg l d)=lg l d
 |[],_,_=>rfl|(i,p)::r,d,h=>by
  simp[fIn,qA]at h;have h1:=zev (p:=p) (d:=d.1) h.1;have h2:=zcm (l:=r) (d:=d.2) h.2;show(i,AV.ren (ax N) (p.put d.1))::pf (ax N) (lg r d.2)=(i,p.put d.1)::lg r d.2;rw[h1,h2]
def q1h(N:NM):a8->Bool|.cells ps _=>q9 N ps|.loop _ _ _ _ fr _ _ D=>kh N D&&fIn N fr|_=>true
def bIn(N:NM):List (Nat×a8)->Bool|[]=>true|(n,p)::r=>kh N n&&q1h N p&&bIn N r
def znm{N:NM}:∀{p:a8}{d:p.den},q1h N p=true->ee (ax N) (p.put d)=p.put d
 |.cells ps T,d,h=>congrArg (fun l=>ah.cells l T) (qb2 (ps:=ps) (d:=d) h)
 |.row _ _,_,_=>rfl|.loop st pe f n fr ps tag D,d,h=>by
  simp[q1h,qA]at h;have h2:=zcm (l:=fr) (d:=d) h.2;have h3:ee (ax N) (.loop st pe f n (lg fr d) ps tag D) = .loop st pe f n (pf (ax N) (lg fr d)) ps tag D:=by simp[ee,xx h.1]
  exact h3.trans (congrArg (fun l=>ah.loop st pe f n l ps tag D) h2)
 |.dfr,_,_=>rfl|.it,_,_=>rfl|.dead,_,_=>rfl|.dat τ T,d,_=>congrArg (fun l=>ah.cells l T) (Ty.enc_ren (ax N) τ d)
def q07{N:NM}:∀{l:List (Nat×a8)}{d:ge l},bIn N l=true->∀n b,af (cm l d) n=some b->ax N n=some n/\ee (ax N) b=b
 |[],_,_,_,_,h=>by cases h
 |(m,p)::r,d,h,n,b,hl=>by
  simp[bIn,qA]at h;have hl:(bif Nat.beq m n then some (p.put d.1) else af (cm r d.2) n)=some b:=hl
  cases hb:Nat.beq m n
  ·rw[hb]at hl;exact q07 (d:=d.2) h.2 n b hl
  ·rw[hb]at hl;have:=qN hb;subst this;simp at hl;subst hl;exact⟨xx h.1.1,znm h.1.2⟩
def dd.only{G:Gh}{hp:List (Nat×ah)}{w:World}{N:NM}(hm:dd G hp w)(h:∀n b,af hp n=some b->ax N n=some n/\ee (ax N) b=b):dd (G.view N) hp w:=by
 have hb:∀n b,af hp n=some b->(G.view N).box n=G.box n/\(G.view N).own n=G.own n:=fun n b hl=>by
  have:=tu (h n b hl).1;exact⟨by simp[Gh.view,this],by simp[Gh.view,this]⟩
 have hat:∀n b c,af hp n=some b->(G.view N).at n b=some c->G.at n b=some c:=fun n b c hl hc=>by
  have:=(h n b hl).2;exact sq (G:=G) (G':=G.view N) (ρ:=ax N) (hb n b hl).1 (hb n b hl).2 (by rw[this];exact hc)
 refine⟨hm.agree,hm.one,fun n b hl => ?_,fun n m b b' c h1 h2 h3 h4=>hm.apart n m b b' c h1 h2 (hat _ _ _ h1 h3) (hat _ _ _ h2 h4),hm.tab⟩
 have:=dj.ren (G:=G) (G':=G.view N) (ρ:=ax N) (n:=n) (m:=n) (fun _ _ _ h=>h) (fun _ _ _ h=>h) (tz N) (v8 N) (fun B hB=>by rw[(hb n b hl).1];exact hB) (fun B hB=>by rw[(hb n b hl).2];exact hB) (hm.holds n b hl)
 rw[(h n b hl).2]at this;exact this
def Fin.only{G G':Gh}{hp hp':List (Nat×ah)}{w w':World}{N:NM}(h:∀n b,af hp n=some b->ax N n=some n/\ee (ax N) b=b)(hf:Fin w (G.view N) hp G' hp' w'):Fin w G hp G' hp' w':=by
 have hb:∀n b,af hp n=some b->(G.view N).box n=G.box n/\(G.view N).own n=G.own n:=fun n b hl=>by
  have:=tu (h n b hl).1;exact⟨by simp[Gh.view,this],by simp[Gh.view,this]⟩
 have hblk:∀c,p9 (G.view N) hp c->p9 G hp c:=fun c⟨n,b,h1,h2⟩=>⟨n,b,h1,sq (G:=G) (G':=G.view N) (ρ:=ax N) (hb n b h1).1 (hb n b h1).2 (by rw[(h n b h1).2];exact h2)⟩
 refine⟨hf.mem,⟨hf.bel.os,hf.bel.tape,hf.bel.output,hf.bel.size,fun k hk hS=>hf.bel.block k hk fun hx=>hS (hblk k hx)⟩,hf.imm_le,fun b o v hv => ?_,fun n b c h1 h2 => ?_,fun n b B h1 h2=>hf.keep n b B h1 (by rw[(hb n b h1).1];exact h2),fun n b B h1 h2=>hf.keepOwn n b B h1 (by rw[(hb n b h1).2];exact h2)⟩
 ·rcases hf.imm_new b o v hv with h|h|h
  ·exact .inl h
  ·exact .inr (.inl h)
  ·exact .inr (.inr (hblk _ h))
 ·rcases hf.base n b c h1 h2 with h|h
  ·exact .inl h
  ·exact .inr (hblk _ h)
def ql1:List AV->Nat->List (Nat×AV)|[],_=>[]|x::xs,i=>(i,x)::ql1 xs (i+1)
def zcx:∀{xs:List AV}{G:Gh}{vs:List Value}(i:Nat),am xs G vs->∀j x,af (ql1 xs i) j=some x->i<=j/\∃v,vs[j-i]? = some v/\aj x G v
 |[],_,[],_,_,j,x,h=>by cases h
 |x::xs,G,v::vs,i,hr,j,y,h=>by
  simp[ql1,af]at h;cases hb:Nat.beq i j
  ·rw[hb]at h;obtain⟨h1,u,h2,h3⟩:=zcx (i+1) hr.2 j y h;refine⟨oA,u,?_,h3⟩
   rw[show j-i=(j-(i+1))+1 by omega];simpa using h2
  ·rw[hb]at h;have:=qN hb;subst this;simp at h;subst h;exact⟨wF _,v,oC,hr.1⟩
 |[],_,_::_,_,h,_,_,_=>h.elim|_::_,_,[],_,h,_,_,_=>h.elim
def qew{G:Gh}{w:World}{hp:List (Nat×ah)}(hm:dd G hp w):Fin w G hp G hp w:=
 ⟨hm,⟨rfl,rfl,rfl,wF _,fun _ _ _=>rfl⟩,fun _ _ _ h=>h,fun _ _ _ h => .inl h,fun n bx _b h1 h2 => .inr ⟨n,bx,h1,h2⟩,fun _ _ _ _ h=>h,fun _ _ _ _ h=>h⟩
def NX:Nat:=64
def q41(cx:Cx)(body:Code){R:Type}(enc:RS R)(labs:List (fw R))(asn:List Pt)(pts:List (Nat×a8))(xs:List AV)(hp:List (Nat×ah)):Option R:=
 run cx enc labs 1000000 true [⟨0,[],.code body⟩] (reB pts (reA (bif cx.tb.sub then asn else[]) 0 { n:=cx.fn.ntmps,fr:=ql1 xs 0,hp:=hp,nx:=NX,df:=[] }))
def qsp(cx:Cx)(args:List Pt)(hp:List (Nat×a8)):Bool:=q9 (ep hp) args&&bIn (ep hp) hp&&Nat.ble args.length cx.fn.ntmps
def qsy:∀{l:List (Nat×a8)}{d:ge l}{n:Nat}{b:ah},af (cm l d) n=some b->ay (ep l) n=some n
 |[],_,_,_,h=>by cases h
 |(m,p)::r,d,n,b,h=>by
  have h:(bif Nat.beq m n then some (p.put d.1) else af (cm r d.2) n)=some b:=h
  simp[ep,ay];cases hb:Nat.beq m n
  ·rw[hb]at h;exact qsy (d:=d.2) h
  ·have:=qN hb;subst this;rfl
def q3y{m:Nat}:∀{l:List (Nat×a8)}{d:ge l},af (cm l d) m=none->ay (ep l) m=none
 |[],_,_=>rfl|(n,p)::r,d,h=>by
  have h:(bif Nat.beq n m then some (p.put d.1) else af (cm r d.2) m)=none:=h
  simp[ep,ay];cases hb:Nat.beq n m
  ·rw[hb]at h;exact q3y (d:=d.2) h
  ·rw[hb]at h;cases h
def zew:∀{ps:List Pt}{d:Pts.den ps},(Pts.put ps d).length=ps.length|[],_=>rfl|p::ps,d=>by show(p.put d.1::Pts.put ps d.2).length=_;simp[zew]
def d5.sound_fn{e:d5}{cx:Cx}{body:Code}{labs:List (fw e.R)}(ok:cx.Ok body)(hkey:e.key = .fn cx.f)(hbody:cx.fn.body=some body)(hrd:cx.rd=none)(hids:cx.ids=ep e.hp)(hpl:sc cx.P cx.f)
  (hfine:qsp cx e.args e.hp=true) (hlab:∀d',∀l∈labs,r7 cx (cm e.hp d') e.out body l) (hF:∀d d',q41 cx body e.out labs e.args e.hp (Pts.put e.args d) (cm e.hp d')=e.F d d'):e.Sound cx.P:=by
 intro d d' r hr;rw[hkey];refine⟨hpl,fun w G vs hm hreps => ?_⟩
 simp only[qsp,qA]at hfine;obtain⟨⟨f1,f2⟩,f3⟩:=hfine;have f3:=Nat.le_of_ble_eq_true f3;have hin:=q07 (d:=d') f2;have hm':=hm.only hin;have hreps':am (Pts.put e.args d) (G.view (ep e.hp)) vs:=by
  have:=am.ren (ρ:=ax (ep e.hp)) (G:=G) (G':=G.view (ep e.hp)) (fun _ _ _ h=>h) (tz _) (v8 _) hreps
  rwa [qb2 f1]at this
 have hlv:=hreps.length;rw[zew]at hlv;have hrun:=hF d d';rw[hr]at hrun;have hg:=q43 (enc:=e.out) ok (vcd:=cm e.hp d') (fun n bx h=>by rw[hids];exact qsy h) (hlab d') _ _ _ _ _ (fun i hi=>by
  rcases List.mem_cons.1 hi with rfl|hi
  ·rfl
  ·cases hi) hrun
 have hr0:ak w (G.view (ep e.hp)) (cm e.hp d') (G.view (ep e.hp)) { n:=cx.fn.ntmps,fr:=ql1 (Pts.put e.args d) 0,hp:=cm e.hp d',nx:=NX,df:=[] } { tmps:=vs.toArray++Array.replicate (cx.fn.ntmps-vs.toArray.size) undef,defers:=[] } w:=by
  refine⟨⟨[],rfl,rfl⟩,oB,fun i x hx => ?_,fun m _ hl => ?_,qew hm'⟩
  ·obtain⟨_,v,h2,h3⟩:=zcx 0 hreps' i x hx;refine⟨v,?_,h3⟩;have hlt:i<vs.length:=by have:=(List.getElem?_eq_some_iff.1 h2).1;simpa using this
   rw[Array.getElem?_append_left (by simpa using hlt)]
   simpa using h2
  ·have:ay (ep e.hp) m=none:=q3y hl;simp[Gh.view,this]
 obtain⟨G0,hr0'⟩:=hr0.reA (ps:=bif cx.tb.sub then e.args else[]) (i:=0)
 obtain⟨G1,hr1⟩:=hr0'.reB (l:=e.hp);intro cs
 let b:Frame:={ (default:Frame) with fn:=cx.f,kind := .normal }
 have henter:Frame.enter cx.P cx.f vs.toArray .normal=b.atR { tmps:=vs.toArray++Array.replicate (cx.fn.ntmps-vs.toArray.size) undef,defers:=[] } [.code body]:=by
  simp[Frame.enter,Frame.atR,ok.func,hbody,b];rfl
 have:=hg w _ _ _ w hr1 b cs rfl rfl (by unfold sf;rw[hrd];rfl)
 obtain⟨v,w',fr,⟨G',h1,h2⟩,h3,h4,h5⟩:=this;exact⟨.returned v,w',fr,⟨v,G',rfl,h1.only hin,h2⟩,by rw[henter];exact h3,h4,h5⟩
def qtq:List Tmp->List AV->List (Nat×AV)->List (Nat×AV)|p::ps,x::xs,fr=>qtq ps xs ((p,x)::fr)|_,_,fr=>fr
def qk9(n:Nat):List Nat->Bool|[]=>true|p::ps=>Nat.blt p n&&qk9 n ps
def ze2{G:Gh}{n:Nat}:∀{ps:List Tmp}{xs:List AV}{vs:List Value}{fr:List (Nat×AV)}{tmps:Array Value},qk9 n ps=true->tmps.size=n->ps.length=xs.length->am xs G vs->(∀i x,af fr i=some x->∃v,tmps[i]? = some v/\aj x G v) ->
  ((ps.zip vs).foldl (fun(tmps:Array Value)(q:Tmp×Value)=>tmps.setIfInBounds q.1 q.2) tmps).size=n/\∀i x,af (qtq ps xs fr) i=some x->∃v,((ps.zip vs).foldl (fun(tmps:Array Value)(q:Tmp×Value)=>tmps.setIfInBounds q.1 q.2) tmps)[i]? = some v/\aj x G v
 |[],[],[],fr,tmps,_,hn,_,_,hfr=>⟨hn,hfr⟩|p::ps,x::xs,v::vs,fr,tmps,hlt,hn,hl,hr,hfr=>by
  simp[qk9,qA]at hlt;have hp:p<n:=by have:=hlt.1;simpa using this
  simp;refine ze2 hlt.2 (by simp[hn]) (by simpa using hl) hr.2 (fun i y hy => ?_)
  simp[af]at hy;cases he:Nat.beq p i
  ·rw[he]at hy;simp at hy;have hne:p≠i:=fun e=>by subst e;simp at he
   obtain⟨u,h1,h2⟩:=hfr i y hy;exact⟨u,by simp[hne,h1],h2⟩
  ·rw[he]at hy;simp at hy;subst hy;have:=qN he;subst this;exact⟨v,by simp[hn,hp],hr.1⟩
 |[],_::_,_,_,_,_,_,h,_,_=>by simp at h|_::_,[],_,_,_,_,_,h,_,_=>by simp at h|[],[],_::_,_,_,_,_,_,h,_=>h.elim|_::_,_::_,[],_,_,_,_,_,h,_=>h.elim
def yq(cx:Cx)(body:Code)(p:List Nat)(m:Nat){R:Type}(enc:RS R)(labs:List (fw R))(pts:List (Nat×a8))(xs:List AV)(hp:List (Nat×ah)):Option R:=
 match af hp m with
 |some (.loop .ready none f n fr ps tag _)=>bif Nat.beq f cx.f&&qk9 n ps&&eqLen ps xs&&tagIs tag p cx.tags then
   run cx enc labs 1000000 true (oa body [(0,0::p),(4,[]),(0,1::p)]) (reB pts { n:=n,fr:=qtq ps xs fr,hp:=hp,nx:=NX,df:=[] })
  else none
 |_=>none
where
 eqLen:List Tmp->List AV->Bool
  |[],[]=>true|_::ps,_::xs=>eqLen ps xs|_,_=>false
 tagIs (tag:Nat) (p:List Nat) (tags:List (List Nat×Nat)):Bool:=match ob p tags with|some t=>Nat.beq t tag|none=>false
def zby:∀{ps:List Tmp}{xs:List AV},yq.eqLen ps xs=true->ps.length=xs.length
 |[],[],_=>rfl|_::ps,_::xs,h=>by simp[zby (ps:=ps) (xs:=xs) h]|[],_::_,h=>by cases h
 |_::_,[],h=>by cases h
def q23:Code->Bool|.rangeFunc _ _ _ _=>true|_=>false
def d5.sound_yld{e:d5}{cx:Cx}{body:Code}{p:List Nat}{m:Nat}{labs:List (fw e.R)}(ok:cx.Ok body)(hkey:e.key = .yld m)(hrd:cx.rd=some m)(hids:cx.ids=ep e.hp)(hrf:q23 (sub body p)=true)
  (hfine:(q9 (ep e.hp) e.args&&bIn (ep e.hp) e.hp)=true) (hlab:∀d',∀l∈labs,r7 cx (cm e.hp d') e.out body l) (hF:∀d d',yq cx body p m e.out labs e.hp (Pts.put e.args d) (cm e.hp d')=e.F d d'):e.Sound cx.P:=by
 intro d d' r hr;rw[hkey];intro w G vs B hm hreps hB;simp at hfine;obtain⟨f1,f2⟩:=hfine;have hin:=q07 (d:=d') f2;have hm':=hm.only hin;have hreps':am (Pts.put e.args d) (G.view (ep e.hp)) vs:=by
  have:=am.ren (ρ:=ax (ep e.hp)) (G:=G) (G':=G.view (ep e.hp)) (fun _ _ _ h=>h) (tz _) (v8 _) hreps
  rwa [qb2 f1]at this
 have hrun:=hF d d';rw[hr]at hrun;unfold yq at hrun;split at hrun
 ·rename_i f n fr ps tag D hl;cases hb:Nat.beq f cx.f&&qk9 n ps&&yq.eqLen ps (Pts.put e.args d)&&yq.tagIs tag p cx.tags<;>rw[hb]at hrun<;>simp at hrun
  simp only[qA]at hb;obtain⟨⟨⟨b1,b2⟩,b3⟩,b4⟩:=hb;have b1:=qN b1;subst b1;have b3:=zby b3;unfold yq.tagIs at b4;split at b4
  rotate_left
  ·cases b4
  rename_i t ht;have b4:=qN b4;subst b4;obtain⟨B',tmps,DB,i1,i2,⟨asn,bo,i3,i4⟩,i5,i6,i7⟩:=hm'.holds m _ hl;have hBv:(G.view (ep e.hp)).box m=some B:=by
   have:=tu (hin m _ hl).1;simp[Gh.view,this,hB]
  rw[hBv]at i1;injection i1 with i1;subst i1
  obtain⟨g,ps0,x,y,hs⟩:∃g ps x y,sub body p = .rangeFunc g ps x y:=by
   cases hc:sub body p<;>rw[hc]at hrf<;>first|exact⟨_,_,_,_,rfl⟩|cases hrf
  have hcode:=ok.tags p t ht g ps0 x y hs;rw[i3]at hcode;simp at hcode;obtain⟨rfl,rfl⟩:=hcode;have hg:=q43 (enc:=e.out) ok (vcd:=cm e.hp d') (fun n bx h=>by rw[hids];exact qsy h) (hlab d') _ _ _ _ _ q25 hrun
  have hlv:=hreps.length;obtain⟨j1,j2⟩:=ze2 (n:=n) b2 i5 b3 hreps' i6;have hr0:ak w (G.view (ep e.hp)) (cm e.hp d') (G.view (ep e.hp)) { n:=n,fr:=qtq ps (Pts.put e.args d) fr,hp:=cm e.hp d',nx:=NX,df:=[] } { tmps:=(ps.zip vs).foldl (fun(tmps:Array Value)(q:Tmp×Value)=>tmps.setIfInBounds q.1 q.2) tmps,defers:=[] } w:=
   ⟨⟨[],rfl,rfl⟩,j1,j2,fun k _ hk=>by simp[Gh.view,q3y hk],qew hm'⟩
  obtain⟨G1,hr1⟩:=hr0.reB (l:=e.hp);refine⟨_,i4,fun c cs=>⟨oB,?_⟩⟩
  let b:Frame:={ (default:Frame) with fn:=cx.f,kind := .normal,roundOf:=some B }
  have:=hg w _ _ _ w hr1 b (c::cs) rfl rfl (by unfold sf;rw[hrd];exact⟨B,_,hBv,hl,rfl⟩)
  obtain⟨v,w',⟨G',h1,h2⟩,h3⟩:=this c cs rfl;refine⟨v,w',⟨v,G',rfl,h1.only hin,h2⟩,?_⟩;have e1:Frame.round B cx.f ((ps.toArray.zip vs.toArray).foldl (fun tmps(t,a)=>tmps.setIfInBounds t a) tmps) asn bo .normal=b.atR { tmps:=(ps.zip vs).foldl (fun(tmps:Array Value)(q:Tmp×Value)=>tmps.setIfInBounds q.1 q.2) tmps,defers:=[] } (eg (oa body [(0,0::p),(4,[]),(0,1::p)])):=by
   simp[Frame.round,Frame.atR,b,eg,oa,xz,sub,hs,u7,List.zip_toArray]
  simp only at e1 ⊢;rw[e1];exact h3
 ·cases hrun
def r7.of_run{cx:Cx}{body:Code}{vcd:List (Nat×ah)}{R:Type}{enc:RS R}{labs:List (fw R)}(ok:cx.Ok body)(hid:∀n bx,af vcd n=some bx->ay cx.ids n=some n)(hlab:∀l∈labs,r7 cx vcd enc body l){l:fw R}
  (h:∀d,run cx enc labs 1000000 false (oa body l.key) (l.ls.st d)=l.F d):r7 cx vcd enc body l:=fun d r hr=>by
 have:=h d;rw[hr]at this;exact q43 ok hid hlab _ _ _ _ _ q25 this
end Go.Sym
namespace Go.Sym
open Go.RowKit
def xl(f:Func):Code:=match f.body with|some c=>c|none => .skip
def ae(n:Int):Int:=IntKind.i64.wrap n
section
variable[LC]{cx:Cx}{vcd:List (Nat×ah)}{R:Type}{enc:RS R}{body:Code}{P:Program}
def lm:∀p t,ob p []=some t->∀g ps x y,sub body p = .rangeFunc g ps x y->LC.lc t=some (x,y):=fun _ _ h=>by cases h
def ne{p:List Nat}{t:Nat}{tags:List (List Nat×Nat)}(h:LC.lc t=some (u7 0 (sub body p),u7 1 (sub body p)))(k:∀p t,ob p tags=some t->∀g ps x y,sub body p = .rangeFunc g ps x y->LC.lc t=some (x,y)) :
  ∀q u,ob q ((p,t)::tags)=some u->∀g ps x y,sub body q = .rangeFunc g ps x y->LC.lc u=some (x,y):=fun q u hq g ps x y hs=>by
 simp only[ob]at hq;cases hb:qe p q
 ·rw[hb]at hq;exact k q u hq g ps x y hs
 ·rw[hb]at hq;simp only[qT,qI]at hq;subst hq;have:=qsd hb;subst this;rw[h,hs];rfl
end
abbrev Bs:Type:=List UInt8
def zej:Nat->Nat->List Nat|0,_=>[]|f+1,n=>bif Nat.ble n 1 then[] else Nat.mod n 2::zej f (Nat.div n 2)
mutual
def Pt.ts:Pt->List Type->List Type|.h τ,a=>τ.den::a|.agg ps,a=>Pts.ts ps a|.tup ps,a=>Pts.ts ps a|.fn _ ps,a=>Pts.ts ps a|.arr τ,a=>List τ.den::a|_,a=>a
def Pts.ts:List Pt->List Type->List Type|[],a=>a|p::ps,a=>p.ts (Pts.ts ps a)
end
def HL:List Type->Type|[]=>Unit|t::l=>t×HL l
abbrev n9:HL []:=()
mutual
def Pt.pk:(p:Pt)->{a:List Type}->p.den->HL a->HL (p.ts a)|.h _,_,d,x=>(d,x)|.agg ps,_,d,x=>Pts.pk ps d x|.tup ps,_,d,x=>Pts.pk ps d x|.fn _ ps,_,d,x=>Pts.pk ps d x|.arr _,_,d,x=>(d,x)|.c _,_,_,x=>x|.ptr _ _,_,_,x=>x|.own _,_,_,x=>x|.el _ _,_,_,x=>x|.iel _ _ _,_,_,x=>x|.yld _,_,_,x=>x|.pn _,_,_,x=>x|.u,_,_,x=>x
def Pts.pk:(ps:List Pt)->{a:List Type}->Pts.den ps->HL a->HL (Pts.ts ps a)|[],_,_,x=>x|p::ps,_,d,x=>p.pk d.1 (Pts.pk ps d.2 x)
end
mutual
def Pt.un:(p:Pt)->{a:List Type}->HL (p.ts a)->p.den×HL a|.h _,_,x=>x|.agg ps,_,x=>Pts.un ps x|.tup ps,_,x=>Pts.un ps x|.fn _ ps,_,x=>Pts.un ps x|.arr _,_,x=>x|.c _,_,x=>((),x)|.ptr _ _,_,x=>((),x)|.own _,_,x=>((),x)|.el _ _,_,x=>((),x)|.iel _ _ _,_,x=>((),x)|.yld _,_,x=>((),x)|.pn _,_,x=>((),x)|.u,_,x=>((),x)
def Pts.un:(ps:List Pt)->{a:List Type}->HL (Pts.ts ps a)->Pts.den ps×HL a|[],_,x=>((),x)|p::ps,_,x=>(((p.un x).1,(Pts.un ps (p.un x).2).1),(Pts.un ps (p.un x).2).2)
end
mutual
def Pt.un_pk:∀(p:Pt){a:List Type}(d:p.den)(x:HL a),p.un (p.pk d x)=(d,x)|.h _,_,_,_=>rfl|.agg ps,_,d,x=>Pts.un_pk ps d x|.tup ps,_,d,x=>Pts.un_pk ps d x|.fn _ ps,_,d,x=>Pts.un_pk ps d x|.arr _,_,_,_=>rfl|.c _,_,_,_=>rfl|.ptr _ _,_,_,_=>rfl|.own _,_,_,_=>rfl|.el _ _,_,_,_=>rfl|.iel _ _ _,_,_,_=>rfl|.yld _,_,_,_=>rfl|.pn _,_,_,_=>rfl|.u,_,_,_=>rfl
def Pts.un_pk:∀(ps:List Pt){a:List Type}(d:Pts.den ps)(x:HL a),Pts.un ps (Pts.pk ps d x)=(d,x)
 |[],_,_,_=>rfl|p::ps,_,d,x=>by
  show(((p.un (p.pk d.1 (Pts.pk ps d.2 x))).1,(Pts.un ps (p.un (p.pk d.1 (Pts.pk ps d.2 x))).2).1),(Pts.un ps (p.un (p.pk d.1 (Pts.pk ps d.2 x))).2).2)=(d,x);rw[Pt.un_pk p,Pts.un_pk ps];rfl
end
def fts:List (Nat×Pt)->List Type->List Type|[],a=>a|(_,p)::r,a=>p.ts (fts r a)
def nz:(l:List (Nat×Pt))->{a:List Type}->qj l->HL a->HL (fts l a)|[],_,_,x=>x|(_,p)::r,_,d,x=>p.pk d.1 (nz r d.2 x)
def qfi:(l:List (Nat×Pt))->{a:List Type}->HL (fts l a)->qj l×HL a|[],_,x=>((),x)|(_,p)::r,_,x=>(((p.un x).1,(qfi r (p.un x).2).1),(qfi r (p.un x).2).2)
def zcn:∀(l:List (Nat×Pt)){a:List Type}(d:qj l)(x:HL a),qfi l (nz l d x)=(d,x)
 |[],_,_,_=>rfl|(_,p)::r,_,d,x=>by
  show(((p.un (p.pk d.1 (nz r d.2 x))).1,(qfi r (p.un (p.pk d.1 (nz r d.2 x))).2).1),(qfi r (p.un (p.pk d.1 (nz r d.2 x))).2).2)=(d,x);rw[Pt.un_pk p,zcn r];rfl
def a8.ts:a8->List Type->List Type|.cells ps _,a=>Pts.ts ps a|.row τ _,a=>List τ.den::a|.loop _ _ _ _ fr _ _ _,a=>fts fr a|.dfr,a=>a|.it,a=>List UInt8::Nat::a|.dead,a=>a|.dat τ _,a=>τ.den::a
def a8.pk:(p:a8)->{a:List Type}->p.den->HL a->HL (p.ts a)|.cells ps _,_,d,x=>Pts.pk ps d x|.row _ _,_,d,x=>(d,x)|.loop _ _ _ _ fr _ _ _,_,d,x=>nz fr d x|.dfr,_,_,x=>x|.it,_,d,x=>(d.1,(d.2,x))|.dead,_,_,x=>x|.dat _ _,_,d,x=>(d,x)
def a8.un:(p:a8)->{a:List Type}->HL (p.ts a)->p.den×HL a|.cells ps _,_,x=>Pts.un ps x|.row _ _,_,x=>x|.loop _ _ _ _ fr _ _ _,_,x=>qfi fr x|.dfr,_,x=>((),x)|.it,_,x=>((x.1,x.2.1),x.2.2)|.dead,_,x=>((),x)|.dat _ _,_,x=>x
def a8.un_pk:∀(p:a8){a:List Type}(d:p.den)(x:HL a),p.un (p.pk d x)=(d,x)|.cells ps _,_,d,x=>Pts.un_pk ps d x|.row _ _,_,_,_=>rfl|.loop _ _ _ _ fr _ _ _,_,d,x=>zcn fr d x|.dfr,_,_,_=>rfl|.it,_,_,_=>rfl|.dead,_,_,_=>rfl|.dat _ _,_,_,_=>rfl
def bts:List (Nat×a8)->List Type->List Type|[],a=>a|(_,p)::r,a=>p.ts (bts r a)
def gm:(l:List (Nat×a8))->{a:List Type}->ge l->HL a->HL (bts l a)|[],_,_,x=>x|(_,p)::r,_,d,x=>p.pk d.1 (gm r d.2 x)
def bun:(l:List (Nat×a8))->{a:List Type}->HL (bts l a)->ge l×HL a|[],_,x=>((),x)|(_,p)::r,_,x=>(((p.un x).1,(bun r (p.un x).2).1),(bun r (p.un x).2).2)
def zan:∀(l:List (Nat×a8)){a:List Type}(d:ge l)(x:HL a),bun l (gm l d x)=(d,x)
 |[],_,_,_=>rfl|(_,p)::r,_,d,x=>by
  show(((p.un (p.pk d.1 (gm r d.2 x))).1,(bun r (p.un (p.pk d.1 (gm r d.2 x))).2).1),(bun r (p.un (p.pk d.1 (gm r d.2 x))).2).2)=(d,x);rw[a8.un_pk p,zan r];rfl
abbrev Cur:List Type->Type->Type|[],R=>R|t::l,R=>t->Cur l R
def app{R:Type}:{l:List Type}->Cur l R->HL l->R|[],f,_=>f|_::_,f,x=>app (f x.1) x.2
abbrev Nc:List Type->Type|[]=>Unit|[t]=>t|t::u::l=>t×Nc (u::l)
def Nc.fro:(l:List Type)->HL l->Nc l|[],_=>()|[_],x=>x.1|_::u::l,x=>(x.1,Nc.fro (u::l) x.2)
def Nc.to:(l:List Type)->Nc l->HL l|[],_=>()|[_],x=>(x,())|_::u::l,x=>(x.1,Nc.to (u::l) x.2)
def Nc.to_fro:∀(l:List Type)(x:HL l),Nc.to l (Nc.fro l x)=x
 |[],_=>rfl|[_],_=>rfl|_::u::l,x=>by
  show(x.1,Nc.to (u::l) (Nc.fro (u::l) x.2))=x;rw[Nc.to_fro];rfl
def RS.mk(p:Pt)(hp:List (Nat×a8)):RS (Nc (p.ts (bts hp []))):=
 .one p hp (fun x=>((p.un (Nc.to _ x)).1,(bun hp (p.un (Nc.to _ x)).2).1)) (fun y=>Nc.fro _ (p.pk y.1 (gm hp y.2 n9))) fun y=>by
  obtain⟨d,d'⟩:=y;show((p.un (Nc.to _ (Nc.fro _ (p.pk d (gm hp d' n9))))).1,(bun hp (p.un (Nc.to _ (Nc.fro _ (p.pk d (gm hp d' n9))))).2).1)=(d,d');rw[Nc.to_fro,Pt.un_pk,zan]
structure IF:Type 1 where
 key:xf
 args:List Pt
 hp:List (Nat×a8)
 R:Type
 out:RS R
abbrev IF.T(i:IF):Type:=Cur (Pts.ts i.args (bts i.hp [])) (Option i.R)
def IF.e(i:IF)(r:i.T):d5:=⟨i.key,i.args,i.hp,i.R,fun d d'=>app r (Pts.pk i.args d (gm i.hp d' n9)),i.out⟩
abbrev KL:Type:=up×LS
abbrev KL.T(l:KL)(R:Type):Type:=Cur (fts l.2.fr (bts l.2.hp [])) (Option R)
def KL.lab{R:Type}(l:KL)(r:l.T R):fw R:=⟨l.1,l.2,fun d=>app r (nz l.2.fr d.1 (gm l.2.hp d.2 n9))⟩
def kl:Nat->List KL->KL|_,[]=>([],⟨0,[],[],0,[]⟩)|0,l::_=>l|n+1,_::r=>kl n r
def q4o:xf->Option Nat|.yld m=>some m|_=>none
section
variable[LC]{P:Program}{i:IF}
structure EP(P:Program):Type 1 where
 e:d5
 h:e.Sound P
structure EI(P:Program)(i:IF) where
 f:i.T
 h:(i.e f).Sound P
def EI.p(s:EI P i):EP P:=⟨i.e s.f,s.h⟩
def EP.es{P:Program}:List (EP P)->List d5|[]=>[]|x::l=>x.e::EP.es l
def EP.es_ok{P:Program}:∀{l:List (EP P)},∀e∈EP.es l,e.Sound P
 |[],_,h=>by cases h
 |x::_,e,h=>by
  rcases List.mem_cons.1 h with rfl|h
  ·exact x.h
  ·exact EP.es_ok e h
structure Fx(P:Program)(i:IF):Type 1 where
 etys:List (Nat×Ty)
 hm:P.follows .mixedOrders=true
 fn:Func
 f:FuncId
 hf:P.funcs[f]? = some fn
 calls:List (EP P)
 sub:Bool
 tags:List (List Nat×Nat)
 ht:∀p t,ob p tags=some t->∀g ps x y,Sym.sub (xl fn) p = .rangeFunc g ps x y->LC.lc t=some (x,y)
 ls:List KL
def Fx.body(x:Fx P i):Code:=xl x.fn
def Fx.cx(x:Fx P i):Cx:={ P,tb:=⟨EP.es x.calls,x.etys,x.sub⟩,fn:=x.fn,f:=x.f,ids:=ep i.hp,rd:=q4o i.key,tags:=x.tags }
def Fx.ok(x:Fx P i):x.cx.Ok x.body:=⟨EP.es_ok,x.hm,x.hf,x.ht⟩
structure PL(x:Fx P i)(k:Nat) where
 f:(kl k x.ls).T i.R
 h:∀d',r7 x.cx (cm i.hp d') i.out x.body ((kl k x.ls).lab f)
abbrev Fx.L(x:Fx P i)(k:Nat):=PL x k
structure SL(x:Fx P i) where
 q:fw i.R
 h:∀d',r7 x.cx (cm i.hp d') i.out x.body q
def PL.s{x:Fx P i}{k:Nat}(p:PL x k):SL x:=⟨(kl k x.ls).lab p.f,p.h⟩
def SL.qs{x:Fx P i}:List (SL x)->List (fw i.R)|[]=>[]|s::l=>s.q::SL.qs l
def SL.qs_ok{x:Fx P i}{d':ge i.hp}:∀{l:List (SL x)},∀q∈SL.qs l,r7 x.cx (cm i.hp d') i.out x.body q
 |[],_,h=>by cases h
 |s::_,q,h=>by
  rcases List.mem_cons.1 h with rfl|h
  ·exact s.h d'
  ·exact SL.qs_ok q h
def Fx.jn{x:Fx P i}{k:Nat}(f:(kl k x.ls).T i.R)(l:List (SL x))
  (h:∀d,run x.cx i.out (SL.qs l) 1000000 false (oa x.body (kl k x.ls).1) ((kl k x.ls).2.st d)=app f (nz (kl k x.ls).2.fr d.1 (gm (kl k x.ls).2.hp d.2 ()))):PL x k:=
 ⟨f,fun _=>r7.of_run x.ok (fun _ _ h=>qsy h) (SL.qs_ok) h⟩
def Fx.lp{x:Fx P i}{k:Nat}(g:Nat->(kl k x.ls).T i.R)(b:(kl k x.ls).T i.R->(kl k x.ls).T i.R)(h0:∀d:(kl k x.ls).2.den,app (g 0) (nz (kl k x.ls).2.fr d.1 (gm (kl k x.ls).2.hp d.2 ()))=none)(hg:∀n,g (n+1)=b (g n))(l:PL x k->List (SL x))
  (h:∀r d,run x.cx i.out (SL.qs (l r)) 1000000 false (oa x.body (kl k x.ls).1) ((kl k x.ls).2.st d)=app (b r.f) (nz (kl k x.ls).2.fr d.1 (gm (kl k x.ls).2.hp d.2 ()))) (n:Nat):PL x k:=
 ⟨g n,by
  induction n with
  |zero=>intro d' d r hr;have:=h0 d;rw[show((kl k x.ls).lab (g 0)).F d=none from this]at hr;cases hr
  | succ n ih=>rw[hg];exact(Fx.jn (b (g n)) (l ⟨g n,ih⟩) (h ⟨g n,ih⟩)).h⟩
def Fx.fin(x:Fx P i)(f:i.T)(l:List (SL x))(hp:sc P x.f)(hk:i.key = .fn x.f)(hb:x.fn.body=some x.body)(hfine:qsp x.cx i.args i.hp=true)
  (h:∀d d',q41 x.cx x.body i.out (SL.qs l) i.args i.hp (Pts.put i.args d) (cm i.hp d')=app f (Pts.pk i.args d (gm i.hp d' n9))):EI P i:=
 ⟨f,d5.sound_fn (e:=i.e f) (cx:=x.cx) (labs:=SL.qs l) x.ok hk hb (show q4o i.key=none by rw[hk];rfl) rfl hp hfine (fun _=>SL.qs_ok) h⟩
def Fx.fiy(x:Fx P i)(f:i.T)(l:List (SL x))(m:Nat)(hk:i.key = .yld m)(p:List Nat)(hb:q23 (Sym.sub x.body p)=true)(hfine:(q9 (ep i.hp) i.args&&bIn (ep i.hp) i.hp)=true)
  (h:∀d d',yq x.cx x.body p m i.out (SL.qs l) i.hp (Pts.put i.args d) (cm i.hp d')=app f (Pts.pk i.args d (gm i.hp d' n9))):EI P i:=
 ⟨f,d5.sound_yld (e:=i.e f) (cx:=x.cx) (labs:=SL.qs l) (p:=p) (m:=m) x.ok hk (show q4o i.key=some m by rw[hk];rfl) rfl hb hfine (fun _=>SL.qs_ok) h⟩
def EI.rc(g:Nat->i.T)(b:i.T->i.T)(h0:∀d d',app (g 0) (Pts.pk i.args d (gm i.hp d' n9))=none)(hg:∀n,g (n+1)=b (g n))(s:EI P i->EI P i)(hs:∀r,(s r).f=b r.f)(n:Nat):EI P i:=
 ⟨g n,by
  induction n with
  |zero=>intro d d' r hr;have:=h0 d d';rw[show(i.e (g 0)).F d d'=none from this]at hr;cases hr
  | succ n ih=>rw[hg,← hs ⟨g n,ih⟩];exact(s ⟨g n,ih⟩).h⟩
def ya:List Nat->Code->List Nat->up->up
 |[],_,p,k=>(0,p)::k|i::r,c,p,k=>match c with
  |.seq a b=>match i with|0=>ya r a (0::p) ((0,1::p)::k)|_=>ya r b (1::p) k
  |.block _ a=>ya r a (0::p) ((1,p)::k)|.loop a=>ya r a (0::p) ((2,p)::k)|.scope a=>ya r a (0::p) ((3,p)::k)|.rangeFunc _ _ _ b=>ya r b (i::p) []|c=>ya r (u7 i c) (i::p) k
def zrc(b:Code)(n:Nat):up:=ya (zej 200 n).reverse b [] []
def tc(P:Program)(f:FuncId):Func:=match P.funcs[f]? with|some fn=>fn|none=>default
structure LB where
 n:Nat
 fr:List (Nat×Pt)
 hp:List (Nat×a8)
 df:List Nat
abbrev lb(n:Nat)(fr:List (Nat×Pt))(hp:List (Nat×a8):=[])(df:List Nat:=[]):LB:=⟨n,fr,hp,df⟩
def zc8(fn:Func):List LB->List KL|[]=>[]|l::r=>(zrc (xl fn) l.n,⟨fn.ntmps,l.fr,l.hp,64,l.df⟩)::zc8 fn r
def qsq:xf->FuncId|.fn f=>f|.ext f=>f|.yld _=>0
def ztw {f : FuncId} {fn : Func} (hf : P.funcs[f]? = some fn) (hn : (fn.name == "runtime.NumGoroutine") = false) (hb : fn.body.isNone = false) : sc P f := fun args w => by
 have h1 : ¬ fn.name = "runtime.NumGoroutine" := by simpa using hn
 cases hq:fn.body with
 |none=>rw[hq]at hb;cases hb
 |some c=>simp[callFunc,hf,h1,hq]
def Fx.at(etys:List (Nat×Ty))(hm:P.follows .mixedOrders=true)(f:FuncId)(calls:List (EP P))(ls:List LB)(sub:Bool)(tags:List (List Nat×Nat))
  (ht:∀p t,ob p tags=some t->∀g ps x y,Sym.sub (xl (tc P f)) p = .rangeFunc g ps x y->LC.lc t=some (x,y)) (hf:P.funcs[f]? = some (tc P f)):Fx P i:=
 ⟨etys,hm,tc P f,f,hf,calls,sub,tags,ht,zc8 (tc P f) ls⟩
def Fx.fi(x:Fx P i)(f:i.T)(l:List (SL x):=[])(hp:sc P x.f:=by exact ztw (Fx.hf _) oD oD)(hk:i.key = .fn x.f:=by exact rfl)(hb:x.fn.body=some x.body:=by exact rfl)(hfine:qsp x.cx i.args i.hp=true:=by kernel_rfl)
  (h:∀d d',q41 x.cx x.body i.out (SL.qs l) i.args i.hp (Pts.put i.args d) (cm i.hp d')=app f (Pts.pk i.args d (gm i.hp d' n9)):=by intro d d';kernel_rfl):EI P i:=x.fin f l hp hk hb hfine h
def Fx.fo(x:Fx P i)(f:i.T)(l:List (SL x))(m:Nat)(p:List Nat)(hk:i.key = .yld m:=by exact rfl)(hb:q23 (Sym.sub x.body p)=true:=by kernel_rfl)(hfine:(q9 (ep i.hp) i.args&&bIn (ep i.hp) i.hp)=true:=by kernel_rfl)
  (h:∀d d',yq x.cx x.body p m i.out (SL.qs l) i.hp (Pts.put i.args d) (cm i.hp d')=app f (Pts.pk i.args d (gm i.hp d' n9)):=by intro d d';kernel_rfl):EI P i:=x.fiy f l m hk p hb hfine h
def Fx.jm{x:Fx P i}{k:Nat}(f:(kl k x.ls).T i.R)(l:List (SL x):=[])(h:∀d,run x.cx i.out (SL.qs l) 1000000 false (oa x.body (kl k x.ls).1) ((kl k x.ls).2.st d)=app f (nz (kl k x.ls).2.fr d.1 (gm (kl k x.ls).2.hp d.2 ())):=by intro d;kernel_rfl):PL x k:=Fx.jn f l h
def Fx.lq{x:Fx P i}{k:Nat}(g:Nat->(kl k x.ls).T i.R)(b:(kl k x.ls).T i.R->(kl k x.ls).T i.R)(l:PL x k->List (SL x))(h0:∀d:(kl k x.ls).2.den,app (g 0) (nz (kl k x.ls).2.fr d.1 (gm (kl k x.ls).2.hp d.2 ()))=none:=by intro _;exact rfl)(hg:∀n,g (n+1)=b (g n):=by intro _;exact rfl)
  (h:∀r d,run x.cx i.out (SL.qs (l r)) 1000000 false (oa x.body (kl k x.ls).1) ((kl k x.ls).2.st d)=app (b r.f) (nz (kl k x.ls).2.fr d.1 (gm (kl k x.ls).2.hp d.2 ())):=by intro _ d;kernel_rfl) (n:Nat):PL x k:=Fx.lp g b h0 hg l h n
end
end Go.Sym
namespace Go.Sym
def qau(n:Int):Option Bs:=bif decide (-9223372036854775808<=n/\n<=9223372036854775807) then some (Lib.itoa n) else none
def qag(s sep:Bs):Option Int:=bif decide (2<=List.length sep/\List.length s<4294967281/\List.length sep<=maxLen) then some (Lib.index s sep) else none
def ie(s:Bs)(most:Int):Int×Bool:=match Lib.atoiAll s with|.ok v=>if Lib.itoa v=s/\0<=v/\v<=most then(v,true) else(0,false)|_=>(0,false)
def qaf(s:Bs)(most:Int):Option (Int×Bool):=bif decide (List.length s<=281474976710656) then some (ie s most) else none
abbrev Pc:Type:=Bs×Int×Bool×Bs
abbrev Pq:Type:={ x:Pc // -1125899906842624<=x.2.1/\x.2.1<=1125899906842624 }
instance:Inhabited Pq:=⟨⟨([],0,false,[]),oE⟩⟩
def jr(x y:Pq):Int:=ae (x.1.2.1-y.1.2.1)
def iu(l:List Pq):List Pq:=(Go.Sort.pdq (Go.Proofs.ltOf jr) l.toArray 0 l.length (Lib.bitLen l.length) true true).toList
def rl:List Pc->Option (List Pq)|[]=>some []|x::l=>if h : -1125899906842624<=x.2.1/\x.2.1<=1125899906842624 then(match rl l with|some r=>some (⟨x,h⟩::r)|none=>none) else none
def qas(l:List Pc):Option (List Pc):=bif decide (List.length l<=a6) then(match rl l with|some q=>some ((iu q).map (·.1))|none=>none) else none
def xd(s old new:Bs):Option Bs:=bif decide (1<=List.length old/\List.length s<4294967281/\List.length s+List.length s*List.length new<=140737488355328) then some (Lib.replaceAll s old new) else none
def vu(rep:Bs):Nat->Bool->Bs->Bs
 |0,_,_=>[]|_+1,_,[]=>[]|n+1,inv,c::l=>if(Lib.decodeL (c::l)).1=65533/\(Lib.decodeL (c::l)).2=1 then(if inv then[] else rep)++vu rep n true l
  else(c::l).take (Lib.decodeL (c::l)).2++vu rep n false ((c::l).drop (Lib.decodeL (c::l)).2)
def qaw(s rep:Bs):Option Bs:=bif decide (List.length s<=1000000/\List.length rep<=1000) then some (vu rep s.length false s) else none
def qaz(s:Bs):Option Bool:=bif decide (List.length s<=9223372036854775807) then some (Lib.validD s) else none
def qf(a b:UInt8)(na nb:Bs)(c:UInt8):Bs:=if c=a then na else if c=b then nb else[c]
def e7(a b:UInt8)(na nb:Bs)(s:Bs):Bs:=s.flatMap (qf a b na nb)
def js(a b:UInt8)(l:Bs):Nat:=l.count a+l.count b
def qse(a b:UInt8)(na nb s t:Bs):e7 a b na nb (s++t)=e7 a b na nb s++e7 a b na nb t:=List.flatMap_append
def q1q(a b:UInt8)(s t:Bs):js a b (s++t)=js a b s+js a b t:=by unfold js;rw[List.count_append,List.count_append];omega
def q1r{a b:UInt8}(hab:a≠b)(c:UInt8):js a b [c]=if c=a then 1 else if c=b then 1 else 0:=by
 unfold js;simp only[List.count_cons,List.count_nil,beq_iff_eq];by_cases h:c=a
 ·subst h;simp[hab]
 ·by_cases h2:c=b
  ·subst h2;simp[h]
  ·simp[h,h2]
def qsf{a b:UInt8}(hab:a≠b)(a1 a2 b1 b2:UInt8):∀l:Bs,(e7 a b [a1,a2] [b1,b2] l).length=l.length+js a b l
 |[]=>rfl|c::l=>by
  have h:=qsf hab a1 a2 b1 b2 l;rw[show c::l=[c]++l from rfl,qse,qM,qM,q1q,h,q1r hab]
  have:(e7 a b [a1,a2] [b1,b2] [c]).length=1+(if c=a then 1 else if c=b then 1 else 0):=by
   show(qf a b [a1,a2] [b1,b2] c++[]).length=_;unfold qf;split
   ·rfl
   ·split<;>rfl
  rw[this];simp only[qL,qZ];omega
def zbz{a b:UInt8}(hab:a≠b)(na nb:Bs):∀l:Bs,js a b l=0->e7 a b na nb l=l
 |[],_=>rfl|c::l,h=>by
  rw[show c::l=[c]++l from rfl,q1q,q1r hab]at h
  rw[show c::l=[c]++l from rfl,qse,zbz hab na nb l oA]
  congr 1;show qf a b na nb c++[]=[c];unfold qf;by_cases h1:c=a
  ·rw[qX h1]at h;omega
  ·by_cases h2:c=b
   ·rw[qW h1,qX h2]at h;omega
   ·rw[qW h1,qW h2];rfl
def zg2{α:Type}(l:List α)(i:Nat)(h:i<l.length):l.take (i+1)=l.take i++[l[i]]:=by
 rw[List.take_add_one,List.getElem?_eq_getElem h];rfl
def w9(s:Bs)(p0 p1 _p2:Int)(on:List Bs):Option Bs:=
 match on with|[[a],[a1,a2],[b],[b1,b2]]=>bif decide (p0=0/\p1=0/\a≠b/\List.length s<=1000000) then some (e7 a b [a1,a2] [b1,b2] s) else none|_=>none
def zvg{s r:Bs}{p0 p1 p2:Int}{on:List Bs}(h:w9 s p0 p1 p2 on=some r) :
  ∃a a1 a2 b b1 b2,on=[[a],[a1,a2],[b],[b1,b2]]/\p0=0/\p1=0/\a≠b/\List.length s<=1000000/\r=e7 a b [a1,a2] [b1,b2] s:=by
 unfold w9 at h;split at h
 ·rename_i a a1 a2 b b1 b2;cases hd:decide (p0=0/\p1=0/\a≠b/\List.length s<=1000000)<;>rw[hd]at h<;>simp only[qT,qF,reduceCtorEq]at h
  obtain⟨h1,h2,h3,h4⟩:=of_decide_eq_true hd;exact⟨a,a1,a2,b,b1,b2,rfl,h1,h2,h3,h4,(qJ h).symm⟩
 ·cases h
def wz(l:Bs):Option Bs:=some l
def qox(l:Bs):Option Bs:=some l
def qat(s:Bs):Option Int:=bif decide (List.length s<=281474976710656) then(match Lib.atoiAll s with | .ok v=>some v|_=>none) else none
open Go.RowKit
variable[LC]
def ww(b:List UInt8)(c:UInt8):Option Int:=some (Lib.indexByte b c)
def qxz(f:FuncId)(r:List UInt8->UInt8->Option Int):d5:={ key := .ext f,args:=[.h (.list .byte),.h .byte],hp:=[],R:=Int,F:=fun d _=>r d.1 d.2.1,out := .one (α:=Int) (.h (.int .i64)) [] (fun r=>(r,())) (fun y=>y.1) (fun _=>rfl) }
def qxy(f:FuncId)(r:List UInt8->UInt8->Option Int):d5:={ key := .ext f,args:=[.h .str,.h .byte],hp:=[],R:=Int,F:=fun d _=>r d.1 d.2.1,out := .one (α:=Int) (.h (.int .i64)) [] (fun r=>(r,())) (fun y=>y.1) (fun _=>rfl) }
def zau(c:UInt8):((c.toNat:Int)).toNat.toUInt8=c:=oC
def zqp {P : Program} {f : FuncId} {fn : Func} (hf : P.funcs[f]? = some fn) (hname : (fn.name == "runtime.NumGoroutine") = false) (hb : fn.body.isNone = true) (hn : Extern.findNext fn = none) (he : Extern.find fn = some Extern.BytealgIndexByte.indexByte) (b : List UInt8) (c : UInt8) :
  qnp P f [.str b,.byte c] (.int .i64 (Lib.indexByte b c)):=fun w G vs _ hr=>by
 match vs,hr with
 |[v1,v2],⟨h1,h2,_⟩=>
  have h1:v1 = .string ⟨b.toArray⟩:=h1;have h2:v2 = .int .u8 c.toNat:=h2;subst h1 h2;refine⟨.int .i64 (Lib.indexByte b c),?_,rfl⟩;rw[run_callFunc_extern hf hname hb hn he,show([Value.string ⟨b.toArray⟩,.int .u8 c.toNat]:List Value).toArray=#[.string ⟨b.toArray⟩,.int .u8 c.toNat] from rfl,Lib.run_indexByteString,zau]
  rfl
def zqq {P : Program} {f : FuncId} {fn : Func} (hf : P.funcs[f]? = some fn) (hname : (fn.name == "runtime.NumGoroutine") = false) (hb : fn.body.isNone = true) (hn : Extern.findNext fn = none) (he : Extern.find fn = some Extern.BytealgIndexByte.indexByte) (b : List UInt8) (c : UInt8) :
  qnp P f [.sl .byte b,.byte c] (.int .i64 (Lib.indexByte b c)):=fun w G vs hm hr=>by
 match vs,hr with
 |[v1,v2],⟨h1,h2,_⟩=>
  have h2:v2 = .int .u8 c.toNat:=h2;subst h2;obtain⟨a,cp,rfl,hc,hl⟩:l8 1 (Ty.byte.At G.imm) b v1:=h1;refine⟨.int .i64 (Lib.indexByte b c),?_,rfl⟩;rw[run_callFunc_extern hf hname hb hn he];have key:∀k:Int,(Extern.BytealgIndexByte.indexByte #[.slice a b.length cp,.int .u8 c.toNat]).run P w = .ok (.int .i64 k) w->((Extern.BytealgIndexByte.indexByte ([Value.slice a b.length cp,.int .u8 c.toNat]:List Value).toArray).run P w).andThen (fun v w'=>Result.ok (Next.value v) w') = .ok (.value (.int .i64 k)) w:=by
   intro k hk;have e:([Value.slice a b.length cp,.int .u8 c.toNat]:List Value).toArray=#[.slice a b.length cp,.int .u8 c.toNat]:=rfl;rw[e,hk];rfl
  refine key _ ?_;have bb:Lib.bytesOf (b.map fun x=>(x.toNat:Int))=b:=by
   unfold Lib.bytesOf;rw[List.map_map];have:((fun n:Int=>UInt8.ofNat n.toNat) ∘ fun x:UInt8=>(x.toNat:Int))=id:=by funext x;simp
   rw[this,List.map_id]
  rcases hl with rfl|⟨g,o,rfl,hcells⟩
  ·have hs:=Lib.run_indexByteString (P:=P) .empty (c.toNat:Int) w
   cases a with|none=>exact hs|some ad=>exact hs
  ·have:=Lib.run_indexByteSlice (P:=P) (w:=w) g o b.length cp (b.map fun x=>(x.toNat:Int)) oC (fun i hi=>by
    have hk:G.imm g (o+i*1)=some (.int .u8 b[i].toNat):=hcells i _ (List.getElem?_eq_getElem hi);have:=hm.agree _ _ _ hk;rw[Nat.mul_one]at this;rw[this];simp[List.getD_eq_getElem?_getD,hi]) (c.toNat:Int)
   rw[bb,zau]at this;exact this
def zkr {P : Program} {f : FuncId} {fn : Func} (hf : P.funcs[f]? = some fn) (hname : (fn.name == "runtime.NumGoroutine") = false) (hb : fn.body.isNone = true) (hn : Extern.findNext fn = none) (he : Extern.find fn = some Extern.BytealgIndexByte.indexByte) :
  (qxy f ww).Sound P:=fun d d' r h=>by
 have h:some (Lib.indexByte (show List UInt8 from d.1) (show UInt8 from d.2.1))=some r:=h
 have h:=qJ h;subst h;exact zqp hf hname hb hn he _ _
def zkt {P : Program} {f : FuncId} {fn : Func} (hf : P.funcs[f]? = some fn) (hname : (fn.name == "runtime.NumGoroutine") = false) (hb : fn.body.isNone = true) (hn : Extern.findNext fn = none) (he : Extern.find fn = some Extern.BytealgIndexByte.indexByte) :
  (qxz f ww).Sound P:=fun d d' r h=>by
 have h:some (Lib.indexByte (show List UInt8 from d.1) (show UInt8 from d.2.1))=some r:=h
 have h:=qJ h;subst h;exact zqq hf hname hb hn he _ _
end Go.Sym
namespace Go.Sym
open Go.ChangeShapes Go.WideShapes Go.ChangeAt Go.RowKit
variable[LC]
def Gw(w:World):Gh:=⟨fun b o=>match w.cell? ⟨b,o,none⟩ with|some v=>if v.oneCell'=true then some v else none|none=>none,fun _=>none,fun _=>none⟩
def qz8{w:World}{b o:Nat}{v:Value}(h:w.cell? ⟨b,o,none⟩=some v)(h1:v.oneCell'=true):(Gw w).imm b o=some v:=by
 simp[Gw];rw[h];simp[h1]
def zkw(w:World)(ht:LC.tab (Gw w).imm w):dd (Gw w) [] w:=by
 have key:∀b o v,(Gw w).imm b o=some v->w.cell? ⟨b,o,none⟩=some v/\v.oneCell'=true:=by
  intro b o v h;simp[Gw]at h;split at h
  ·rename_i u hu;split at h
   ·rename_i h1;cases h;exact⟨hu,h1⟩
   ·cases h
  ·cases h
 exact⟨fun b o v h=>(key b o v h).1,fun b o v h=>(key b o v h).2,fun n bx h=>(by cases h),fun n m bx bx' b h=>(by cases h),ht⟩
inductive q0i{α:Type}(p:α->Prop):Tree α->Prop
 |mk (a:α) (l:List (Tree α)):p a->l.length<=maxLen->(∀x∈l,q0i p x)->q0i p (.node a l)
def Ty.bd:(τ:Ty)->τ.den->Prop|.int k,n=>(Lit.int k n).wf=true|.str,s=>List.length s<=maxLen|.prod a b,x=>a.bd x.1/\b.bd x.2|.list a,l=>List.length l<=maxLen/\∀x∈(show List a.den from l),a.bd x|.tree a,t=>q0i a.bd t|_,_=>True
def qfh(P:Program)(rec:Ty->TypeId->Bool):Ty->List Field->Nat->Bool|τ,[f],o=>f.offset==o&&(P.cellsOf f.type==τ.sz&&rec τ f.type)|.prod a b,f::fs,o=>f.offset==o&&(P.cellsOf f.type==a.sz&&(rec a f.type&&qfh P rec b fs (o+a.sz)))|_,_,_=>false
def qt6(P:Program)(t g:TypeId):Bool:=match P.underlying g with|some (.slice e)=>e==t|_=>false
def qcb(P:Program)(rec:Ty->TypeId->Bool)(t:TypeId):Ty->List Field->Nat->Bool|τ,[f,g],o=>f.offset==o&&(P.cellsOf f.type==τ.sz&&(rec τ f.type&&(g.offset==o+τ.sz&&(P.cellsOf g.type==1&&qt6 P t g.type))))|.prod a b,f::fs,o=>f.offset==o&&(P.cellsOf f.type==a.sz&&(rec a f.type&&qcb P rec t b fs (o+a.sz)))|_,_,_=>false
def dn(P:Program):Nat->Ty->TypeId->Bool
 |0,_,_=>false|_+1,.int k,t=>match P.underlying t with|some (.int k')=>decide (k'=k)|_=>false
 |_+1,.byte,t=>match P.underlying t with|some (.int k')=>decide (k' = .u8)|_=>false
 |_+1,.bool,t=>match P.underlying t with|some .bool=>true|_=>false
 |_+1,.str,t=>match P.underlying t with|some .string=>true|_=>false
 |n+1,.list a,t=>match P.underlying t with|some (.slice e)=>P.cellsOf e==a.sz&&(decide (0<a.sz)&&dn P n a e)|_=>false
 |n+1,.prod a b,t=>match P.underlying t with|some (.struct fs)=>P.cellsOf t==(Ty.prod a b).sz&&qfh P (dn P n) (.prod a b) fs.toList 0|_=>false
 |n+1,.tree a,t=>match P.underlying t with|some (.struct fs)=>P.cellsOf t==(Ty.tree a).sz&&qcb P (dn P n) t a fs.toList 0|_=>false
 |_+1,_,_=>false
def zhi{P:Program}{n:Nat}{k:IntKind}{t:TypeId}(h:dn P (n+1) (.int k) t=true):P.underlying t=some (.int k):=by
 unfold dn at h;split at h
 ·rename_i k' e;rw[e,of_decide_eq_true h]
 ·cases h
def zhh{P:Program}{n:Nat}{t:TypeId}(h:dn P (n+1) .byte t=true):P.underlying t=some (.int .u8):=by
 unfold dn at h;split at h
 ·rename_i k' e;rw[e,of_decide_eq_true h]
 ·cases h
def zhg{P:Program}{n:Nat}{t:TypeId}(h:dn P (n+1) .bool t=true):P.underlying t=some .bool:=by
 unfold dn at h;split at h
 ·rename_i e;exact e
 ·cases h
def zhj{P:Program}{n:Nat}{t:TypeId}(h:dn P (n+1) .str t=true):P.underlying t=some .string:=by
 unfold dn at h;split at h
 ·rename_i e;exact e
 ·cases h
def am.app{G:Gh}:∀{xs ys:List AV}{us vs:List Value},am xs G us->am ys G vs->am (xs++ys) G (us++vs)|[],_,[],_,_,h=>h|[],_,_::_,_,h,_=>by simp[am]at h|_::_,_,[],_,h,_=>by simp[am]at h|_::_,_,_::_,_,h,k=>⟨h.1,am.app h.2 k⟩
def qr8{G:Gh}:∀(τ:Ty)(x:τ.den)(cs:List Value),am (τ.enc x) G cs->∀v∈cs,v.oneCell'=true
 |.int k,n,[v],h,u,hu=>by
  rw[List.mem_singleton]at hu;subst hu;have h1:u = .int k n:=h.1;rw[h1];rfl
 |.byte,c,[v],h,u,hu=>by
  rw[List.mem_singleton]at hu;subst hu;have h1:u = .int .u8 (UInt8.toNat c):=h.1;rw[h1];rfl
 |.bool,c,[v],h,u,hu=>by
  rw[List.mem_singleton]at hu;subst hu;have h1:u = .bool c:=h.1;rw[h1];rfl
 |.str,s,[v],h,u,hu=>by
  rw[List.mem_singleton]at hu;subst hu;have h1:u = .string ⟨List.toArray s⟩:=h.1;rw[h1];rfl
 |.list a,l,[v],h,u,hu=>by
  rw[List.mem_singleton]at hu;subst hu;obtain⟨ad,c,rfl,_⟩:l8 a.sz (a.At G.imm) l u:=h.1;rfl
 |.unit,_,[],_,u,hu=>by cases hu
 |.unit,_,_::_,h,_,_=>by simp[Ty.enc,am]at h|.prod a b,x,cs,h,u,hu=>by
  have key:∀(xs ys:List AV)(cs:List Value),am (xs++ys) G cs->∃us vs,cs=us++vs/\am xs G us/\am ys G vs:=by
   intro xs
   induction xs with
   |nil=>intro ys cs h;exact⟨[],cs,rfl,trivial,h⟩|cons x xs ih=>
    intro ys cs h
    cases cs with
    |nil=>simp[am]at h|cons c cs=>
     obtain⟨us,vs,e,h1,h2⟩:=ih ys cs h.2;exact⟨c::us,vs,by rw[e];rfl,⟨h.1,h1⟩,h2⟩
  obtain⟨us,vs,rfl,h1,h2⟩:=key _ _ _ h;rcases List.mem_append.1 hu with q|q
  ·exact qr8 a x.1 us h1 u q
  ·exact qr8 b x.2 vs h2 u q
 |.tree a,x,cs,h,u,hu=>by
  have key:∀(xs ys:List AV)(cs:List Value),am (xs++ys) G cs->∃us vs,cs=us++vs/\am xs G us/\am ys G vs:=by
   intro xs
   induction xs with
   |nil=>intro ys cs h;exact⟨[],cs,rfl,trivial,h⟩|cons x xs ih=>
    intro ys cs h
    cases cs with
    |nil=>simp[am]at h|cons c cs=>
     obtain⟨us,vs,e,h1,h2⟩:=ih ys cs h.2;exact⟨c::us,vs,by rw[e];rfl,⟨h.1,h1⟩,h2⟩
  obtain⟨us,vs,rfl,h1,h2⟩:=key _ _ _ h;rcases List.mem_append.1 hu with q|q
  ·exact qr8 a _ us h1 u q
  ·cases vs with
   |nil=>cases q
   |cons v vs=>
    cases vs with
    |cons v' vs=>simp[am]at h2|nil=>
     rw[List.mem_singleton]at q;subst q;obtain⟨ad,c,rfl,_⟩:l8 (Ty.tree a).sz ((Ty.tree a).At G.imm) (Tree.kids x) u:=h2.1;rfl
 |.int _,_,[],h,_,_=>by simp[Ty.enc,am]at h|.int _,_,_::_::_,h,_,_=>by simp[Ty.enc,am]at h|.byte,_,[],h,_,_=>by simp[Ty.enc,am]at h|.byte,_,_::_::_,h,_,_=>by simp[Ty.enc,am]at h|.bool,_,[],h,_,_=>by simp[Ty.enc,am]at h|.bool,_,_::_::_,h,_,_=>by simp[Ty.enc,am]at h|.str,_,[],h,_,_=>by simp[Ty.enc,am]at h|.str,_,_::_::_,h,_,_=>by simp[Ty.enc,am]at h|.list _,_,[],h,_,_=>by simp[Ty.enc,am]at h|.list _,_,_::_::_,h,_,_=>by simp[Ty.enc,am]at h
def am.cells{w:World}{b:Nat}:∀(xs:List AV)(cs:List Value)(o:Nat),am xs (Gw w) cs->(∀v∈cs,v.oneCell'=true)->(∀(j:Nat)(v:Value),cs[j]? = some v->w.cell? ⟨b,o+j,none⟩=some v)->b9 xs (Gw w) b o
 |[],[],_,_,_,_=>trivial|[],_::_,_,h,_,_=>by simp[am]at h|_::_,[],_,h,_,_=>by simp[am]at h|x::xs,c::cs,o,h,h1,h2=>by
  refine⟨⟨c,qz8 (h2 0 c rfl) (h1 c qH),h.1⟩,am.cells xs cs (o+1) h.2 (fun v hv=>h1 v (qE _ hv)) (fun j v hj => ?_)⟩
  have:=h2 (j+1) v hj;rw[show o+1+j=o+(j+1) by omega];exact this
structure ud(H:Type) where
 b:DataW H->Nat
 ba:List (DataW H)->Nat
 str:∀s,b (.lit (.string s))=s.length+1
 lit:∀l,1<=b (.lit l)
 nilb:b .nil=1
 sl:∀e r,b (.slice e r)=ba e+ba r+1
 agg:∀l,b (.agg l)=ba l+1
 nil:ba []=0
 cons:∀d r,ba (d::r)=b d+ba r
def ud.app{H:Type}(B:ud H):∀(l r:List (DataW H)),B.ba (l++r)=B.ba l+B.ba r|[],r=>by rw[List.nil_append,B.nil,wO]|d::l,r=>by rw[wK,B.cons,B.cons,B.app l r,Nat.add_assoc]
mutual
def qgb{α:Type}(f:α->Nat):Tree α->Nat|.node a l=>f a+qm2 f l+2
def qm2{α:Type}(f:α->Nat):List (Tree α)->Nat|[]=>0|t::l=>qgb f t+qm2 f l
end
def zhc{α:Type}(f:α->Nat):∀l:List (Tree α),qm2 f l=(l.map (qgb f)).sum|[]=>by simp[qm2]|t::l=>by rw[qm2,zhc f l,List.map_cons,List.sum_cons]
def zhb{α:Type}(f:α->Nat)(a:α)(l:List (Tree α)):qgb f (.node a l)=f a+(l.map (qgb f)).sum+2:=by
 rw[← zhc];simp[qgb]
def Ty.bk:(τ:Ty)->τ.den->Nat|.str,s=>List.length s+1|.prod a b,x=>a.bk x.1+b.bk x.2|.list a,l=>((show List a.den from l).map a.bk).sum+1|.unit,_=>0|.tree a,t=>qgb a.bk t|_,_=>1
section
variable{H:Type}{enc:TypeId×Value->H}{P:Program}{w:World}{base:Nat}{spare:Nat->Bool}{held:Bool}
def zch(B:ud H)(n m:Nat)(cs:List Value)
  (ih:∀(τ:Ty)(t:TypeId)(cs:List Value)(y:DataW H×List MemPlace),dn P n τ t=true->DataW.trod enc P w base spare held m t cs=some y->∃x:τ.den,τ.bd x/\am (τ.enc x) (Gw w) cs/\τ.bk x<=B.b y.1) :
  ∀(fs:List Field)(τ:Ty)(o:Nat)(xs:List (DataW H×List MemPlace)),qfh P (dn P n) τ fs o=true->xs.length=fs.length->(∀(i:Nat)(f:Field),fs[i]? = some f->DataW.trod enc P w base spare held m f.type ((cs.drop f.offset).take (P.cellsOf f.type))=xs[i]?) ->
   ∃x:τ.den,τ.bd x/\am (τ.enc x) (Gw w) ((cs.drop o).take τ.sz)/\τ.bk x<=B.ba (xs.map (·.1))
 |[],τ,o,xs,h,_,_=>by cases τ<;>simp[qfh]at h
 |[f],τ,o,xs,h,hl,hf=>by
  have h':(f.offset==o&&(P.cellsOf f.type==τ.sz&&dn P n τ f.type))=true:=by cases τ<;>exact h
  simp at h'
  match xs,hl with
  |[y],_=>
   have hy:DataW.trod enc P w base spare held m f.type ((cs.drop f.offset).take (P.cellsOf f.type))=some y:=hf 0 f rfl;rw[h'.1,h'.2.1]at hy;obtain⟨x,x1,x2,x3⟩:=ih τ f.type _ y h'.2.2 hy;exact⟨x,x1,x2,oW⟩
 |f::g::fs,τ,o,xs,h,hl,hf=>by
  cases τ with
  |prod a b=>
   have h':(f.offset==o&&(P.cellsOf f.type==a.sz&&(dn P n a f.type&&qfh P (dn P n) b (g::fs) (o+a.sz))))=true:=h;simp at h'
   match xs,hl with
   |y::ys,hl=>
    have hy:DataW.trod enc P w base spare held m f.type ((cs.drop f.offset).take (P.cellsOf f.type))=some y:=hf 0 f rfl;rw[h'.1,h'.2.1]at hy;obtain⟨x1,b1,r1,k1⟩:=ih a f.type _ y h'.2.2.1 hy;obtain⟨x2,b2,r2,k2⟩:=zch B n m cs ih (g::fs) b (o+a.sz) ys h'.2.2.2 (by simpa using hl) (fun i f' hf'=>hf (i+1) f' hf')
    refine⟨(x1,x2),⟨b1,b2⟩,?_,?_⟩
    ·show am (a.enc x1++b.enc x2) (Gw w) ((cs.drop o).take (a.sz+b.sz));rw[List.take_add,List.drop_drop];exact am.app r1 r2
    ·show a.bk x1+b.bk x2<=_;rw[List.map_cons,B.cons];omega
  |_=>simp[qfh]at h
def zhe(B:ud H)(n m:Nat)(cs:List Value){vcc:Ty}(t:TypeId)
  (ih:∀(τ:Ty)(t:TypeId)(cs:List Value)(y:DataW H×List MemPlace),dn P n τ t=true->DataW.trod enc P w base spare held m t cs=some y->∃x:τ.den,τ.bd x/\am (τ.enc x) (Gw w) cs/\τ.bk x<=B.b y.1)
  (ihk:∀(g:TypeId)(cs:List Value)(y:DataW H×List MemPlace),qt6 P t g=true->DataW.trod enc P w base spare held m g cs=some y->∃l:List (Ty.tree vcc).den,(Ty.list (.tree vcc)).bd l/\am [.sl (.tree vcc) l] (Gw w) cs/\(l.map (Ty.tree vcc).bk).sum+1<=B.b y.1) :
  ∀(fs:List Field)(τ:Ty)(o:Nat)(xs:List (DataW H×List MemPlace)),qcb P (dn P n) t τ fs o=true->xs.length=fs.length->(∀(i:Nat)(f:Field),fs[i]? = some f->DataW.trod enc P w base spare held m f.type ((cs.drop f.offset).take (P.cellsOf f.type))=xs[i]?) ->
   ∃(x:τ.den)(l:List (Ty.tree vcc).den),τ.bd x/\(Ty.list (.tree vcc)).bd l/\am (τ.enc x++[.sl (.tree vcc) l]) (Gw w) ((cs.drop o).take (τ.sz+1))/\τ.bk x+((l.map (Ty.tree vcc).bk).sum+1)<=B.ba (xs.map (·.1))
 |[],τ,o,xs,h,_,_=>by cases τ<;>simp[qcb]at h
 |[f],τ,o,xs,h,_,_=>by cases τ<;>simp[qcb]at h
 |[f,g],τ,o,xs,h,hl,hf=>by
  have h':(f.offset==o&&(P.cellsOf f.type==τ.sz&&(dn P n τ f.type&&(g.offset==o+τ.sz&&(P.cellsOf g.type==1&&qt6 P t g.type)))))=true:=by cases τ<;>exact h
  simp at h'
  match xs,hl with
  |[y,z],_=>
   have hy:DataW.trod enc P w base spare held m f.type ((cs.drop f.offset).take (P.cellsOf f.type))=some y:=hf 0 f rfl;have hz:DataW.trod enc P w base spare held m g.type ((cs.drop g.offset).take (P.cellsOf g.type))=some z:=hf 1 g rfl;rw[h'.1,h'.2.1]at hy;rw[h'.2.2.2.1,h'.2.2.2.2.1]at hz;obtain⟨x,x1,x2,x3⟩:=ih τ f.type _ y h'.2.2.1 hy;obtain⟨l,l1,l2,l3⟩:=ihk g.type _ z h'.2.2.2.2.2 hz;refine⟨x,l,x1,l1,?_,oW⟩
   rw[List.take_add,List.drop_drop];exact am.app x2 l2
 |f::g::k::fs,τ,o,xs,h,hl,hf=>by
  cases τ with
  |prod a b=>
   have h':(f.offset==o&&(P.cellsOf f.type==a.sz&&(dn P n a f.type&&qcb P (dn P n) t b (g::k::fs) (o+a.sz))))=true:=h;simp at h'
   match xs,hl with
   |y::ys,hl=>
    have hy:DataW.trod enc P w base spare held m f.type ((cs.drop f.offset).take (P.cellsOf f.type))=some y:=hf 0 f rfl;rw[h'.1,h'.2.1]at hy;obtain⟨x1,b1,r1,k1⟩:=ih a f.type _ y h'.2.2.1 hy;obtain⟨x2,l,b2,bl,r2,k2⟩:=zhe B n m cs t ih ihk (g::k::fs) b (o+a.sz) ys h'.2.2.2 (by simpa using hl) (fun i f' hf'=>hf (i+1) f' hf')
    refine⟨(x1,x2),l,⟨b1,b2⟩,bl,?_,?_⟩
    ·show am ((a.enc x1++b.enc x2)++[.sl (.tree vcc) l]) (Gw w) ((cs.drop o).take ((a.sz+b.sz)+1));rw[qS,Nat.add_assoc,List.take_add,List.drop_drop];exact am.app r1 r2
    ·show(a.bk x1+b.bk x2)+_<=_;rw[List.map_cons,B.cons];omega
  |_=>simp[qcb]at h
def zs6(B:ud H):∀(m n:Nat)(τ:Ty)(t:TypeId)(cs:List Value)(y:DataW H×List MemPlace),dn P n τ t=true->DataW.trod enc P w base spare held m t cs=some y->∃x:τ.den,τ.bd x/\am (τ.enc x) (Gw w) cs/\τ.bk x<=B.b y.1:=by
 intro m
 induction m with
 |zero=>intro n τ t cs y _ h;simp[DataW.trod]at h|succ m ih=>
  intro n τ t cs y ht h
  cases n with
  |zero=>simp[dn]at ht|succ n=>
   cases τ with
   |int k=>
    obtain⟨n,rfl,rfl,hw⟩:=DataW.trod_int (zhi ht) h;exact⟨n,hw,⟨rfl,trivial⟩,B.lit _⟩
   |byte=>
    obtain⟨n,rfl,rfl,hw⟩:=DataW.trod_int (zhh ht) h;have hb:0<=n/\n<=255:=by simp[Lit.wf,qA,decide_eq_true_eq]at hw;exact hw
    refine⟨UInt8.ofNat n.toNat,trivial,⟨?_,trivial⟩,B.lit _⟩;show Value.int .u8 n = .int .u8 ((UInt8.ofNat n.toNat).toNat:Int);rw[UInt8.toNat_ofNat',Nat.mod_eq_of_lt oA]
    congr 1;omega
   |bool=>
    obtain⟨b,rfl,rfl⟩:=DataW.trod_bool (zhg ht) h;exact⟨b,trivial,⟨rfl,trivial⟩,B.lit _⟩
   |str=>
    obtain⟨s,rfl,rfl,hs⟩:=DataW.trod_string (zhj ht) h;refine⟨s.data.toList,?_,⟨?_,trivial⟩,Nat.le_of_eq (B.str _).symm⟩
    ·show s.data.toList.length<=maxLen;rw[Array.length_toList];exact hs
    ·show Value.string s = .string ⟨s.data.toList.toArray⟩;simp
   |unit=>simp[dn]at ht|tree a=>
    have ht0:=ht;unfold dn at ht;split at ht
    ·rename_i fs hu;simp at ht;obtain⟨xs,n',e1,rfl,ac,hxl,hg⟩:=DataW.trod_struct hu h;cases e1
     obtain⟨x,l,hb,hbl,hr,hk⟩:=zhe B n m cs t (fun τ t cs y=>ih n τ t cs y) (fun g cs y hg hy=>by
      have hg':dn P (n+2) (.list (.tree a)) g=true:=by
       unfold qt6 at hg;unfold dn;split at hg
       ·rename_i e he;have:e=t:=by simpa using hg
        subst this;simp;exact⟨ht.1,by simp[Ty.sz],ht0⟩
       ·cases hg
      exact ih (n+2) (.list (.tree a)) g cs y hg' hy) fs.toList a 0 xs ht.2 (by rw[hxl,Array.length_toList]) (fun i f hf=>hg i f (by rw[← Array.getElem?_toList];exact hf))
     refine⟨.node x l,.mk x l hb hbl.1 hbl.2,?_,?_⟩
     ·rw[List.drop_zero,List.take_of_length_le (by rw[ac,ht.1];exact wF _)]at hr
      exact hr
     ·rw[B.agg];have e:(Ty.tree a).bk (.node x l)=a.bk x+(l.map (Ty.tree a).bk).sum+2:=zhb a.bk x l;omega
    ·cases ht
   |prod a b=>
    unfold dn at ht;split at ht
    ·rename_i fs hu;simp at ht;obtain⟨xs,n',e1,rfl,ac,hxl,hg⟩:=DataW.trod_struct hu h;cases e1
     obtain⟨x,hb,hr,hk⟩:=zch B n m cs (fun τ t cs y=>ih n τ t cs y) fs.toList (.prod a b) 0 xs ht.2 (by rw[hxl,Array.length_toList]) (fun i f hf=>hg i f (by rw[← Array.getElem?_toList];exact hf))
     refine⟨x,hb,?_,by rw[B.agg];omega⟩
     rw[List.drop_zero,List.take_of_length_le (by rw[ac,ht.1];exact wF _)]at hr
     exact hr
    ·cases ht
   |list a=>
    unfold dn at ht;split at ht
    ·rename_i e hu;simp at ht;obtain⟨hsz,hpos,hte⟩:=ht;rcases DataW.trod_slice hu h with⟨rfl,rfl⟩|⟨ad,len,cap,elems,rest,n',e1,rfl,rfl,_,hlc,hcm,hel,hget,_⟩
     ·exact⟨[],⟨Nat.zero_le _,fun x hx=>by cases hx⟩,⟨⟨none,0,rfl,wF _,.inl rfl⟩,trivial⟩,Nat.le_of_eq (show 0+1=_ by rw[B.nilb])⟩
     ·cases e1
      have each:∀i,i<len->∃(x:a.den)(h:i<elems.length),a.bd x/\ad.spot=none/\a.At (Gw w).imm x ad.block (ad.off+i*a.sz)/\a.bk x<=B.b elems[i].1:=by
       intro i hi;have h1:=hget i hi;rw[List.getElem?_eq_getElem oA]at h1
       obtain⟨cs,hc,hc2⟩:=Option.bind_eq_some_iff.1 h1;obtain⟨x,hb,hr,hk⟩:=ih n a e cs _ hte hc2;unfold World.cells? at hc;split at hc
       ·have hl:=mapM_some_length hc;rw[List.length_range,hsz]at hl;have hcell:∀(j:Nat)(v:Value),cs[j]? = some v->w.cell? ((ad.add (i*P.cellsOf e)).add j)=some v:=by
         intro j v hj;have hj':j<cs.length:=by
          by_cases q:j<cs.length
          ·exact q
          ·rw[List.getElem?_eq_none oA]at hj;cases hj
         have:=mapM_some_get hc j j (by rw[List.getElem?_range oA])
         rw[this,hj]
        have hspot:ad.spot=none:=by
         have g0:=hget 0 oA
         rw[List.getElem?_eq_getElem oA]at g0
         obtain⟨cs0,hc0,_⟩:=Option.bind_eq_some_iff.1 g0;unfold World.cells? at hc0;split at hc0
         ·have n9:=mapM_some_length hc0;rw[List.length_range,hsz]at n9;have:=mapM_some_get hc0 0 0 (by rw[List.getElem?_range oA])
          rw[List.getElem?_eq_getElem oA]at this
          simp[Nat.zero_mul,Addr.add,if_true]at this;unfold World.cell? at this
          cases hs:ad.spot with
          |none=>rfl|some q=>
           rw[hs]at this;split at this
           ·simp at this
           ·cases this
         ·cases hc0
        refine⟨x,oA,hb,hspot,?_,hk⟩
        refine wk.1 (am.cells _ cs _ hr (qr8 a x cs hr) (fun j v hj => ?_))
        have:=hcell j v hj;rw[hsz]at this;have ea:(ad.add (i*a.sz)).add j=⟨ad.block,ad.off+i*a.sz+j,none⟩:=by
         obtain⟨b,o,s⟩:=ad;simp at hspot;subst hspot;unfold Addr.add;by_cases q1:i*a.sz=0
         ·by_cases q2:j=0
          ·simp[q1,q2]
          ·simp[q1,q2]
         ·by_cases q2:j=0
          ·simp[q1,q2]
          ·simp[q1,q2]
        rw[ea]at this;exact this
       ·cases hc
      have lst:∀k,k<=len->∃l:List a.den,l.length=k/\(∀x∈l,a.bd x)/\(∀(j:Nat)(x:a.den),l[j]? = some x->a.At (Gw w).imm x ad.block (ad.off+j*a.sz))/\(l.map a.bk).sum<=B.ba ((elems.take k).map (·.1)):=by
       intro k
       induction k with
       |zero=>intro _;exact⟨[],rfl,fun x hx=>(by cases hx),fun j x hj=>(by simp at hj),oC⟩
       |succ k ihk=>
        intro hk;obtain⟨l,l1,l2,l3,l4⟩:=ihk oA
        obtain⟨x,hx,x1,_,x2,x3⟩:=each k oA
        refine⟨l++[x],by simp[l1],fun y hy => ?_,fun j y hj => ?_,?_⟩
        ·rcases List.mem_append.1 hy with q|q
         ·exact l2 y q
         ·rw[List.mem_singleton]at q;subst q;exact x1
        ·by_cases q:j<l.length
         ·rw[List.getElem?_append_left q]at hj;exact l3 j y hj
         ·rw[List.getElem?_append_right oA]at hj
          have:j=k:=by
           by_cases q2:j-l.length=0
           ·omega
           ·rw[List.getElem?_eq_none oB]at hj;cases hj
          subst this;rw[l1,Nat.sub_self]at hj;cases hj
          exact x2
        ·rw[List.take_succ_eq_append_getElem hx,List.map_append,List.map_append,B.app,List.sum_append];simp only[List.map_cons,List.map_nil,B.cons,B.nil,List.sum_cons,List.sum_nil];omega
      obtain⟨l,l1,l2,l3,l4⟩:=lst len (wF _);refine⟨l,⟨by show l.length<=maxLen;omega,l2⟩,⟨⟨some ad,cap,by rw[← l1],oA,?_⟩,trivial⟩,?_⟩
      rotate_left
      ·rw[List.take_of_length_le oA]at l4
       rw[B.sl];show(l.map a.bk).sum+1<=_;omega
      by_cases q:l=[]
      ·exact .inl q
      ·obtain⟨_,_,_,hs,_⟩:=each 0 (by have:=List.length_pos_iff.2 q;omega)
       refine .inr ⟨ad.block,ad.off,?_,l3⟩;cases ad;simp at hs;subst hs;rfl
    ·cases ht
def zs5(B:ud H){r:Reach}{bb n:Nat}{τ:Ty}{t:TypeId}{v:Value}{d:DataW H}{ps:List MemPlace}(ht:dn P n τ t=true)(hv:Value.okWide P w r bb t v)(h:DataW.Trod enc P w base spare held t v d ps) :
  ∃x:τ.den,τ.bd x/\aj (τ.av x) (Gw w) v/\τ.bk x<=B.b d:=by
 obtain⟨m,hm⟩:=h;obtain⟨x,hb,hr,hk⟩:=zs6 B m n τ t _ _ ht hm;refine⟨x,hb,?_,hk⟩
 cases n with
 |zero=>simp[dn]at ht|succ n=>
  cases τ with
  |int k=>obtain⟨_,rfl⟩:=okWide_int (zhi ht) hv;exact hr.1
  |byte=>obtain⟨_,rfl⟩:=okWide_int (zhh ht) hv;exact hr.1
  |bool=>obtain⟨_,rfl⟩:=okWide_bool (zhg ht) hv;exact hr.1
  |str=>obtain⟨_,rfl⟩:=okWide_string (zhj ht) hv;exact hr.1
  |unit=>simp[dn]at ht|tree a=>
   unfold dn at ht;split at ht
   ·rename_i fs hu;obtain⟨cs,rfl,_⟩:=okWide_struct hu hv;exact⟨cs,rfl,hr⟩
   ·cases ht
  |prod a b=>
   unfold dn at ht;split at ht
   ·rename_i fs hu;obtain⟨cs,rfl,_⟩:=okWide_struct hu hv;exact⟨cs,rfl,hr⟩
   ·cases ht
  |list a=>
   unfold dn at ht;split at ht
   ·rename_i e hu;obtain⟨_,_,_,rfl⟩:=okWide_slice hu hv;exact hr.1
   ·cases ht
end
end Go.Sym
namespace Go.Sym
open Go.ChangeShapes Go.WideShapes Go.ChangeAt Go.RowKit
variable[LC]
def qcd(P:Program)(n:Nat):List Ty->List TypeId->Bool|[],[]=>true|τ::τs,t::ts=>dn P n τ t&&qcd P n τs ts|_,_=>false
def bds:(τs:List Ty)->Pts.den (τs.map .h)->Prop|[],_=>True|τ::τs,x=>τ.bd x.1/\bds τs x.2
mutual
def cnt{H:Type}:DataW H->Nat|.lit (.string s)=>s.length+1|.slice e r=>qry e+qry r+1|.agg l=>qry l+1|_=>1
def qry{H:Type}:List (DataW H)->Nat|[]=>0|d::l=>cnt d+qry l
end
section
variable{H:Type}{enc:TypeId×Value->H}{P:Program}{w:World}{base:Nat}{spare:Nat->Bool}{held:Bool}
def bks:(τs:List Ty)->Pts.den (τs.map .h)->Nat|[],_=>0|τ::τs,x=>τ.bk x.1+bks τs x.2
def zec(B:ud H){r:Reach}{bb n:Nat}:∀(τs:List Ty)(ts:List TypeId)(vs:List Value)(ds:List (DataW H))(ps:List MemPlace),qcd P n τs ts=true ->
  (∀(j:Nat) t v,ts[j]? = some t->vs[j]? = some v->Value.okWide P w r bb t v)->DataW.TrodAll enc P w base spare held ts vs ds ps ->
  ∃x:Pts.den (τs.map .h),bds τs x/\am (Pts.put (τs.map .h) x) (Gw w) vs/\bks τs x<=B.ba ds
 |[],[],vs,ds,ps,_,_,h=>by
  obtain⟨rfl,rfl,_⟩:=trodAll_nil h;exact⟨(),trivial,trivial,Nat.zero_le _⟩
 |τ::τs,t::ts,vs,ds,ps,h1,h2,h=>by
  obtain⟨v,vs',d,ds',p,q,rfl,rfl,rfl,hd,hr⟩:=trodAll_cons h;simp only[qcd,qA]at h1;obtain⟨x,xb,xr,xk⟩:=zs5 B h1.1 (h2 0 t v rfl rfl) hd;obtain⟨y,yb,yr,yk⟩:=zec B τs ts vs' ds' q h1.2 (fun j t v ht hv=>h2 (j+1) t v ht hv) hr
  exact⟨(x,y),⟨xb,yb⟩,⟨xr,yr⟩,by rw[B.cons];show τ.bk x+bks τs y<=_;omega⟩
 |[],_::_,_,_,_,h,_,_=>by simp[qcd]at h|_::_,[],_,_,_,h,_,_=>by simp[qcd]at h
def zgp{W W':World}(laid:laidOutB P=true)(hb:Below W.heap.size W W'):∀(ts:List TypeId)(vs:List Value)(ds:List (DataW H))(ps:List MemPlace),
  ts.all (fun t=>P.readableRec t&&decide (t<P.types.size))=true->DataW.TrodAll enc P W 0 (fun _=>true) true ts vs ds ps->DataW.TrodAll enc P W' 0 (fun b=>decide (b<W.heap.size)) true ts vs ds ps
 |[],vs,ds,ps,_,h=>by
  obtain⟨rfl,rfl,rfl⟩:=trodAll_nil h;exact trodAll_mk0
 |t::ts,vs,ds,ps,h1,h=>by
  obtain⟨v,vs',d,ds',p,q,rfl,rfl,rfl,hd,hr⟩:=trodAll_cons h;simp only[List.all_cons,qA,decide_eq_true_eq]at h1;have lt:∀x∈p,x.block<W.heap.size:=by obtain⟨m,hm⟩:=hd;exact DataW.trod_lt m _ _ _ hm
  exact trodAll_cons_mk (Below.trod laid h1.1.1 h1.1.2 hd hb lt) (zgp laid hb ts vs' ds' q h1.2 hr)
end
def zzl{P:Program}{f:FuncId}{xs:List AV}(h:d9 P f xs [] (.bool true) [])(vs:List Value)(w:World)(ht:LC.tab (Gw w).imm w)(hr:am xs (Gw w) vs) :
  Calls P f vs.toArray w fun e w'=>e = .returned (.bool true)/\Below w.heap.size w w':=by
 refine(h w (Gw w) vs (zkw w ht) hr).mono ?_;rintro e w' ⟨v,G,rfl,hfin,hrep⟩
 have hv:v = .bool true:=hrep;subst hv;refine⟨rfl,hfin.bel.os,hfin.bel.tape,hfin.bel.output,hfin.bel.size,fun k hk=>hfin.bel.block k hk ?_⟩
 rintro⟨n,bx,hl,_⟩
 cases hl
end Go.Sym
namespace Go.Sym
open Go.ChangeShapes Go.WideShapes Go.ChangeAt Go.RowKit
variable[LC]
def zrs{H:Type}{enc:TypeId×Value->H}{C:Checked}{os:Os}{f:FuncId}{fn:Func}{s:ChangeSpec}{so:OpenSpec}{F:Stop.Interp}{conds:List PathCond}{t:TypeId}{n:Nat}(τs:List Ty)(l:List (String×DataW Unit))(B:ud H)(M:Nat)
  (ku:(H:Type)->List (DataW H)->Bool) (hso:so={ OpenSpec.ofChange s with cond:=some ku }) (hsm:∀ds:List (DataW H),ku H ds=true->B.ba ds<=M)
  (own:ownKnob C.prog.godebug=none) (laid:laidOutB C.prog=true) (started:os.Started) (noInit:C.prog.inits.idxOf? f=none) (hfn:C.prog.funcs[f]? = some fn)
  (witness:∃(w:World)(tape:Tape)(i:Input),w.os=os/\(w.forCall tape i).Shaped C.prog/\i.vars=[]/\Input.okWide C.prog (w.forCall tape i) .any w.heap.size f i /\
   so.preRow enc C.prog fn conds false l (w.forCall tape i).memory i.args/\({}:Assume).holds C.prog (lone (Frame.enter C.prog f i.args .normal) [] (w.forCall tape i)))
  (hvars:s.vars=[]) (hspec:∀ds:List (DataW H),ds.length=fn.params.size->s.fn H ds={ results:=[.lit (.bool true)],args:=ds })
  (htys:qcd C.prog n τs fn.params.toList=true) (hread:fn.params.toList.all (fun t=>C.prog.readableRec t&&decide (t<C.prog.types.size))=true)
  (hres:fn.resultTypes=#[t]) (hbool:C.prog.underlying t=some .bool)
  (htab:∀W:World,laidMetH C.prog l W->W.ShapedOpen C.prog->LC.tab (Gw W).imm W)
  (hcall:∀x:Pts.den (τs.map .h),bds τs x->bks τs x<=M->d9 C.prog f (Pts.put (τs.map .h) x) [] (.bool true) []) :
  ReturnsInHanded {} C os f .any (so.preRow enc C.prog fn conds false l) ((so.at F).post enc C.prog fn false true false false):=by
 subst hso;refine returnsInHanded_of_row own started noInit hfn witness ?_;intro W base args ds gs before hval hW _ hcond _ hlaid hsh _;have hW':=hW;obtain⟨p,q,hA,hV,rfl,_,_⟩:=hW;rw[show({ OpenSpec.ofChange s with cond:=some ku }:OpenSpec).vars=[] from hvars]at hV
 obtain⟨rfl,rfl⟩:=trodVars_none hV;have hk:=hsm _ (hcond ku rfl);rw[List.append_nil]at hk;have hl:ds.length=fn.params.size:=by
  have key:∀(ts:List TypeId)(vs:List Value)(ds:List (DataW H))(ps:List MemPlace),DataW.TrodAll enc C.prog W 0 (fun _=>true) true ts vs ds ps->ds.length=ts.length:=by
   intro ts
   induction ts with
   |nil=>intro vs ds ps h;obtain⟨_,rfl,_⟩:=trodAll_nil h;rfl
   |cons t ts ih=>
    intro vs ds ps h;obtain⟨v,vs',d,ds',p,q,_,rfl,_,_,hr⟩:=trodAll_cons h;rw[qL,qL,ih _ _ _ hr]
  rw[key _ _ _ _ hA,Array.length_toList]
 obtain⟨x,xb,xr,xk⟩:=zec B τs fn.params.toList args.toList ds p htys (fun j t v ht hv=>hval j t v (by rw[← Array.getElem?_toList];exact ht) (by rw[← Array.getElem?_toList];exact hv)) hA
 have hc:=zzl (hcall x xb (Nat.le_trans xk hk)) args.toList W (htab W hlaid hsh) xr;rw[Array.toArray_toList]at hc;refine hc.mono fun e W'⟨he,bel⟩ => ?_
 subst he;refine⟨_,rfl,ds,[],p++[],[],p,[],hW',?_⟩;show DataW.TrodAll _ _ _ _ _ _ _ _ _ _/\_;rw[List.append_nil,show((OpenSpec.at { OpenSpec.ofChange s with cond:=some ku } F).fn H ds)=s.fn H ds from rfl,hspec ds hl,hres]
 exact⟨trodAll_mk1 (shut_bool hbool _),zgp laid bel _ _ _ _ hread hA,(by rw[show((OpenSpec.at { OpenSpec.ofChange s with cond:=some ku } F).vars)=[] from hvars];rfl),bel.frame _,fun h=>by cases h⟩
def ieq(a b:Int):Bool:=decide (a=b)
def qe4:(τ:Ty)->τ.den->DataW Unit->Bool|.int k,x,.lit (.int k' n)=>decide (k'=k)&&ieq n x|.byte,x,.lit (.int k' n)=>decide (k' = .u8)&&ieq n x.toNat|.prod .byte .byte,x,.agg [.lit (.int _ a),.lit (.int _ b)]=>ieq a x.1.toNat&&ieq b x.2.toNat|_,_,_=>false
def qe5(τ:Ty):List τ.den->List (DataW Unit)->Bool|[],[]=>true|x::l,d::ds=>qe4 τ x d&&qe5 τ l ds|_,_=>false
def qs4(P:Program)(t:TypeId):Bool:=match P.underlying t with|some (.int .u8)=>Nat.beq (P.cellsOf t) 1|_=>false
def qr6(P:Program)(t:TypeId):Ty->Bool
 |.int k=>match P.underlying t with|some (.int k')=>decide (k'=k)|_=>false
 |.byte=>match P.underlying t with|some (.int .u8)=>true|_=>false
 |.prod .byte .byte=>match P.underlying t with
  |some (.struct fs)=>match fs.toList with|[f,g]=>Nat.beq f.offset 0&&Nat.beq g.offset 1&&qs4 P f.type&&qs4 P g.type&&Nat.beq (P.cellsOf t) 2|_=>false
  |_=>false
 |_=>false
section
variable{P:Program}{w:World}{base:Nat}{sp:Nat->Bool}
def zo7{m:Nat}{τ:Ty}{t:TypeId}{cs:List Value}{y:DataW Unit×List MemPlace}{x:τ.den}(ht:qr6 P t τ=true)(h:DataW.trod (fun _=>()) P w base sp false m t cs=some y)(hx:qe4 τ x y.1=true):am (τ.enc x) (Gw w) cs/\∀v∈cs,v.oneCell'=true:=by
 unfold qr6 at ht;split at ht
 ·rename_i k;split at ht
  ·rename_i k' hu;have hk:k'=k:=of_decide_eq_true ht;subst hk;obtain⟨n,rfl,rfl,_⟩:=DataW.trod_int hu h;simp only[qe4,ieq,qA,decide_eq_true_eq]at hx;obtain⟨_,rfl⟩:=hx;exact⟨⟨rfl,trivial⟩,fun v hv=>by rw[List.mem_singleton]at hv;subst hv;rfl⟩
  ·cases ht
 ·split at ht
  ·rename_i hu;obtain⟨n,rfl,rfl,_⟩:=DataW.trod_int hu h;simp only[qe4,ieq,qA,decide_eq_true_eq]at hx;obtain⟨_,rfl⟩:=hx;exact⟨⟨rfl,trivial⟩,fun v hv=>by rw[List.mem_singleton]at hv;subst hv;rfl⟩
  ·cases ht
 ·split at ht
  ·rename_i fs hu;split at ht
   ·rename_i f g hfs;simp only[qA]at ht;obtain⟨⟨⟨⟨o1,o2⟩,u1⟩,u2⟩,c2⟩:=ht;have o1:=qN o1;have o2:=qN o2;have c2:=qN c2;have key:∀t,qs4 P t=true->P.underlying t=some (.int .u8)/\P.cellsOf t=1:=fun t h=>by
     unfold qs4 at h;split at h
     ·rename_i hu;exact⟨hu,qN h⟩
     ·cases h
    obtain⟨k1,s1⟩:=key _ u1;obtain⟨k2,s2⟩:=key _ u2;obtain⟨xs,n,rfl,rfl,hl,hxl,hg⟩:=DataW.trod_struct hu h;have g0:=hg 0 f (by rw[← Array.getElem?_toList,hfs];rfl)
    have g1:=hg 1 g (by rw[← Array.getElem?_toList,hfs];rfl)
    have hsz:fs.size=2:=by rw[← Array.length_toList,hfs];rfl
    rw[hsz]at hxl;rw[c2]at hl
    match cs,hl with
    |[a,b],_=>
     match xs,hxl with
     |[p,q],_=>
      rw[o1,s1]at g0;rw[o2,s2]at g1;obtain⟨n1,e1,rfl,_⟩:=DataW.trod_int k1 g0;obtain⟨n2,e2,rfl,_⟩:=DataW.trod_int k2 g1;simp only[List.drop_zero,List.take_succ_cons,List.take_zero,List.cons.injEq,and_true]at e1;simp only[List.drop_succ_cons,List.drop_zero,List.take_succ_cons,List.take_zero,List.cons.injEq,and_true]at e2;subst e1 e2;simp only[List.map_cons,List.map_nil,qe4,ieq,qA,decide_eq_true_eq]at hx;obtain⟨rfl,rfl⟩:=hx;exact⟨⟨rfl,rfl,trivial⟩,fun v hv=>by
       rcases List.mem_cons.1 hv with rfl|hv
       ·rfl
       ·rw[List.mem_singleton]at hv;subst hv;rfl⟩
   ·cases ht
  ·cases ht
 ·cases ht
def zbg{τ:Ty}:∀{l:List τ.den}{ds:List (DataW Unit)},qe5 τ l ds=true->l.length=ds.length/\∀(j:Nat)(x:τ.den),l[j]? = some x->∃d,ds[j]? = some d/\qe4 τ x d=true
 |[],[],_=>⟨rfl,fun j x h=>by simp at h⟩
 |[],_::_,h=>by simp[qe5]at h|_::_,[],h=>by simp[qe5]at h|y::l,d::ds,h=>by
  simp only[qe5,qA]at h;obtain⟨i1,i2⟩:=zbg h.2;refine⟨by simp[i1],fun j x hx => ?_⟩
  match j with|0=>simp only[List.getElem?_cons_zero,qI]at hx;subst hx;exact⟨d,rfl,h.1⟩|j+1=>exact i2 j x hx
def qt0(P:Program)(g:Nat)(τ:Ty)(l:List τ.den)(n:Nat)(d:DataW Unit):Bool:=match(P.globals[g]?).map (·.type) with
 |some t=>match P.underlying t,d with|some (.array _m E),.agg ds=>qr6 P E τ&&(Nat.beq (P.cellsOf E) τ.sz&&(Nat.beq (P.cellsOf t) n&&qe5 τ l ds))|_,_=>false
 |none=>false
def zvv{g:Nat}{τ:Ty}{l:List τ.den}{n:Nat}{d:DataW Unit}(h:qt0 P g τ l n d=true){t:TypeId}{cs:Array Value}{fuel:Nat}{p:List MemPlace}(ht:(P.globals[g]?).map (·.type)=some t)
  (hc:∃u fr,w.heap[g]? = some (.cells cs u fr)) (hd:DataW.trod (fun _=>()) P w base sp false fuel t cs.toList=some (d,p)) :
  cs.size=n/\∀(j:Nat)(x:τ.den),l[j]? = some x->τ.At (Gw w).imm x g (j*τ.sz):=by
 unfold qt0 at h;rw[ht]at h;simp only at h;split at h
 ·rename_i m E ds hu;simp only[qA]at h;obtain⟨h1,h2,h3,h4⟩:=h;have h2:=qN h2;have h3:=qN h3;obtain⟨xs,m',rfl,e,hl,hxl,hg⟩:=DataW.trod_array hu hd;simp only[qP,DataW.agg.injEq]at e;obtain⟨rfl,rfl⟩:=e;obtain⟨dl,dg⟩:=zbg h4;refine⟨by rw[← Array.length_toList,hl,h3],fun j x hx => ?_⟩
  obtain⟨d,hd1,hd2⟩:=dg j x hx;rw[List.getElem?_map]at hd1;obtain⟨y,hy,rfl⟩:=Option.map_eq_some_iff.1 hd1;have hj:j<m:=by rw[← hxl];exact(List.getElem?_eq_some_iff.1 hy).1
  have:=hg j hj;rw[hy]at this;obtain⟨r1,r2⟩:=zo7 h1 this hd2;refine wk.1 (am.cells _ _ _ r1 r2 fun i v hv => ?_)
  rw[h2,List.getElem?_take]at hv;split at hv
  ·rw[List.getElem?_drop]at hv;obtain⟨u,fr,hh⟩:=hc;simp only[World.cell?,hh];rw[← Array.getElem?_toList];exact hv
  ·cases hv
 ·cases h
def q3a{laid:List (String×DataW Unit)}{n:String}{d:DataW Unit}:∀{l:List (String×DataW Unit)}{ps:List MemPlace},DataW.LaidVars P w l ps->(n,d)∈l ->
  ∃g t cs fuel p,P.globalNamed n=some g/\(P.globals[g]?).map (·.type)=some t/\(∃u fr,w.heap[g]? = some (.cells cs u fr))/\DataW.trod (fun _=>()) P w 0 (fun _=>true) false fuel t cs.toList=some (d,p)
 |[],_,_,h=>by cases h
 |(n',d')::r,ps,hl,h=>by
  obtain⟨g,t,cs,fuel,p,q,h1,h2,h3,h4,h5,_⟩:=hl;rcases List.mem_cons.1 h with e|h
  ·simp only[qP]at e;obtain⟨rfl,rfl⟩:=e;refine⟨g,t,cs,fuel,p,h1,h2,?_,h4⟩;unfold World.var? at h3;rw[h1,qB]at h3;split at h3
   ·rename_i c u fr hh;have:=qJ h3;subst this;exact⟨u,fr,hh⟩
   ·cases h3
  ·exact q3a (laid:=laid) h5 h
end
def q5l(P:Program)(laid:List (String×DataW Unit))(e:Nat×Nat):Bool:=match LC.glob e.1 with
 |some ⟨τ,l⟩=>Nat.blt 0 l.length&&laid.any fun x=>match P.globalNamed x.1 with|some g=>Nat.beq g e.1&&qt0 P e.1 τ l e.2 x.2|none=>false
 |none=>false
def zqn(P:Program)(laid:List (String×DataW Unit))(g:Nat):Bool:=laid.any fun x=>match P.globalNamed x.1 with
 | some g'=>Nat.beq g' g&&(match(P.globals[g]?).map (·.type) with
  |some t=>match P.underlying t,x.2 with|some (.interface _),.iface _ _=>true|_,_=>false
  | none=>false)
 |none=>false
def zqc{P:Program}{laid:List (String×DataW Unit)}{W:World}(h:laidMetH P laid W)(hh:(laid.all fun x=>x.2.handleName?.isNone)=true)
  (hg:∀g τ l,LC.glob g=some ⟨τ,l⟩->∃n,(g,n)∈LC.sizes) (hs:LC.sizes.all (q5l P laid)=true) (hi:LC.ifs.all (zqn P laid)=true) (hn:∀g∈LC.ints,∃k,W.cell? ⟨g,0,none⟩=some (.int .i64 k)):LC.tab (Gw W).imm W:=by
 rw[MakeChecks.laidMetH_plain _ _ _ hh]at h;obtain⟨ps,hl,_⟩:=h;have key:∀e∈LC.sizes,∃τ l,LC.glob e.1=some ⟨τ,l⟩/\0<l.length/\∃(cs:Array Value)(u:TypeId)(fr:Nat×Nat),W.heap[e.1]? = some (.cells cs u fr)/\cs.size=e.2/\∀(j:Nat)(x:τ.den),l[j]? = some x->τ.At (Gw W).imm x e.1 (j*τ.sz):=fun e he=>by
  have h1:=List.all_eq_true.1 hs e he;unfold q5l at h1;split at h1
  ·rename_i τ l hgl;rw[qA]at h1;obtain⟨x,hx,h2⟩:=List.any_eq_true.1 h1.2;split at h2
   ·rename_i g hgn;rw[qA]at h2;have:=qN h2.1;subst this;obtain⟨g',t,cs,fuel,p,k1,k2,⟨u,fr,k3⟩,k4⟩:=q3a (laid:=laid) hl (n:=x.1) (d:=x.2) hx;rw[hgn]at k1;have:=qJ k1;subst this;obtain⟨r1,r2⟩:=zvv h2.2 k2 ⟨u,fr,k3⟩ k4;exact⟨τ,l,hgl,Nat.le_of_ble_eq_true h1.1,cs,u,fr,k3,r1,r2⟩
   ·cases h2
  ·cases h1
 refine⟨fun g τ l hgl j x hx => ?_,fun g hgi => ?_,fun g hgi => ?_,fun e he => ?_⟩
 ·obtain⟨n,hn⟩:=hg g τ l hgl;obtain⟨τ',l',h1,_,cs,u,fr,_,_,h5⟩:=key _ hn;rw[hgl]at h1;cases h1
  exact h5 j x hx
 ·obtain⟨k,hk⟩:=hn g hgi;exact⟨k,qz8 hk rfl⟩
 ·have h1:=List.all_eq_true.1 hi g hgi;obtain⟨x,hx,h2⟩:=List.any_eq_true.1 h1;split at h2
  ·rename_i g' hgn;rw[qA]at h2;have:=qN h2.1;subst this;obtain⟨g2,t,cs,fuel,p,k1,k2,⟨u,fr,k3⟩,k4⟩:=q3a (laid:=laid) hl (n:=x.1) (d:=x.2) hx;rw[hgn]at k1;have:=qJ k1;subst this;have h3:=h2.2;rw[k2]at h3;simp only at h3;split at h3
   ·rename_i ms nm d hu hd;rw[hd]at k4;obtain⟨_,u',v,hcs,_,_⟩:=iface_of_trod hu k4;refine⟨u',v,qz8 ?_ rfl⟩;simp only[World.cell?,k3];rw[← Array.getElem?_toList,hcs];rfl
   ·cases h3
  ·cases h2
 ·obtain⟨τ,l,h1,h2,cs,u,fr,h3,h4,h5⟩:=key e he;refine⟨?_,cs,u,fr,h3,h4⟩;have h6:=h5 0 l[0] (by simp[h2])
  have:∃o v,(Gw W).imm e.1 o=some v:=by
   have hx:=List.all_eq_true.1 hs e he;unfold q5l at hx;rw[h1]at hx;simp only[qA]at hx;obtain⟨x,_,hx⟩:=List.any_eq_true.1 hx.2;split at hx
   ·rw[qA]at hx;have hx:=hx.2;unfold qt0 at hx;split at hx
    ·split at hx
     ·simp only[qA]at hx;have hx:=hx.1;unfold qr6 at hx;split at hx
      ·exact⟨_,_,h6⟩
      ·exact⟨_,_,h6⟩
      ·exact⟨_,_,h6.1⟩
      ·cases hx
     ·cases hx
    ·cases hx
   ·cases hx
  exact this
section
variable{H:Type}{enc:TypeId×Value->H}
def zzp{C:Checked}{os:Os}{f:FuncId}{fn:Func}{s:OpenSpec}{conds:List PathCond}{apart:Bool}{laid:List (String×DataW Unit)}(modest:Bool)(w0:World)(args:Array Value)(hos:w0.os=os)
  (hsh:(w0.forCall (fun _ _=>0) ⟨#[],args,[]⟩).Shaped C.prog) (hok:Input.okWideB C.prog (w0.forCall (fun _ _=>0) ⟨#[],args,[]⟩) f ⟨#[],args,[]⟩=true)
  (hrow:s.preRow enc C.prog fn conds apart laid (w0.forCall (fun _ _=>0) ⟨#[],args,[]⟩).memory args) :
  ∃(w:World)(tape:Tape)(i:Input),w.os=os/\(w.forCall tape i).Shaped C.prog/\i.vars=[]/\Input.okWide C.prog (w.forCall tape i) .any w.heap.size f i /\
   s.preRow enc C.prog fn conds apart laid (w.forCall tape i).memory i.args/\({ modest:=modest }:Assume).holds C.prog (lone (Frame.enter C.prog f i.args .normal) [] (w.forCall tape i)):=
 ⟨w0,fun _ _=>0,⟨#[],args,[]⟩,hos,hsh,(Input.okWide_of_okWideB (base:=0) hok).1,(Input.okWide_of_okWideB hok).2,hrow,by
  simp only[Assume.holds];exact⟨oC,oC,fun _=>Modest.zero,oC,oC⟩⟩
end
end Go.Sym
namespace Go.Sym
set_option linter.unusedVariables false
abbrev wU : Type := Tree (List (Bs × Bs) × Bs)
abbrev wV : Type := List (Bs × Bs)
section
variable(fu:Nat)
def q5j:List UInt8:=[240,240,240,240,240,240,240,240,240,240,240,240,240,240,240,240,240,240,240,240,240,240,240,240,240,240,240,240,240,240,240,240,240,240,240,240,240,240,240,240,240,240,240,240,240,240,240,240,240,240,240,240,240,240,240,240,240,240,240,240,240,240,240,240,240,240,240,240,240,240,240,240,240,240,240,240,240,240,240,240,240,240,240,240,240,240,240,240,240,240,240,240,240,240,240,240,240,240,240,240,240,240,240,240,240,240,240,240,240,240,240,240,240,240,240,240,240,240,240,240,240,240,240,240,240,240,240,240,241,241,241,241,241,241,241,241,241,241,241,241,241,241,241,241,241,241,241,241,241,241,241,241,241,241,241,241,241,241,241,241,241,241,241,241,241,241,241,241,241,241,241,241,241,241,241,241,241,241,241,241,241,241,241,241,241,241,241,241,241,241,241,241,241,241,2,2,2,2,2,2,2,2,2,2,2,2,2,2,2,2,2,2,2,2,2,2,2,2,2,2,2,2,2,2,19,3,3,3,3,3,3,3,3,3,3,3,3,35,3,3,52,4,4,4,68,241,241,241,241,241,241,241,241,241,241,241]
def q5k:List (UInt8×UInt8):=[(128,191),(160,191),(128,159),(144,191),(128,143),(0,0),(0,0),(0,0),(0,0),(0,0),(0,0),(0,0),(0,0),(0,0),(0,0),(0,0)]
def zx1:List Int:=[1,10,100,1000,10000,100000,1000000,10000000,100000000,1000000000,10000000000,100000000000,1000000000000,10000000000000,100000000000000,1000000000000000,10000000000000000,100000000000000000,1000000000000000000,10000000000000000000]
abbrev zk5:=wU
def qao(a:Tree (wV×Bs)):Option zk5:=some (Tree.node a.val a.kids)
def cn(b:Int)(a:Int):Option ((Int×Int)):=some (b,a)
abbrev q87:=((Int×Int)×Bool) ⊕ ((Int×Int)×Bool)
def qy4(d:Int)(g:List (Bs×Bs))(f:Bs)(h:List wU)(c:Int)(a:Int×Int)(b:Bool):Option q87:=bif decide (40<=d) then(cn 2 (-1)).bind fun e=>some (.inl (e,b)) else bif b then some (.inr (a,true)) else some (.inr (a,decide (8<c)))
abbrev qq1:=(Int×(Int×Int)×Bool) ⊕ (Int×(Int×Int)×Bool)
abbrev x3T:=wU->Int->Int->(Int×Int)->Bool->Option qq1
abbrev q7q:=Int->(List wU)->Int->Int->Int->(Int×Int)->Bool->Option qq1
def qy7(d:x3T)(fu:Nat)(l:q7q):q7q:=fun h b c a f j i=>bif decide (a<c) then(ai b a).bind fun g=>(d (Tree.node g.val g.kids) (ae (h+1)) f j i).bind fun m=>be m (fun k=>some (.inl k)) (fun e=>l h b c (ae (a+1)) e.1 e.2.1 e.2.2) else some (.inr (f,(j,i)))
def qka(a:x3T)(fu:Nat):Nat->q7q|0=>fun _ _ _ _ _ _ _=>none|n+1=>qy7 a fu (qka a fu n)
def qp1(c:x3T)(fu:Nat)(a:Tree (wV×Bs))(e:Int)(b:Int)(i:Int×Int)(f:Bool):Option qq1:=(qy4 b a.val.1 a.val.2 a.kids e i f).bind fun g=>be g (fun h=>some (.inl (b,h))) (fun d=>qka c fu fu e a.kids (a.kids.length:Int) 0 (ae (b+1)) d.1 d.2)
def qea(fu:Nat):Nat->x3T|0=>fun _ _ _ _ _=>none|n+1=>qp1 (qea fu n) fu
def q8r(b:Tree (wV×Bs))(d:Int)(c:Int)(e:Int×Int)(a:Bool):Option qq1:=qea fu fu b d c e a
abbrev zk6:=(wU×(Int×Int)×Bool) ⊕ (wU×(Int×Int)×Bool)
def qp0(a:Tree (wV×Bs))(d:Int×Int)(c:Bool):Option zk6:=(q8r fu (Tree.node a.val a.kids) 0 0 d c).bind fun e=>be e (fun f=>some (.inl ((Tree.node a.val a.kids),f.2))) (fun b=>some (.inr ((Tree.node a.val a.kids),b.2)))
def qpf(a:UInt8):Option Bool:=bif decide (33<=a) then bif decide (a<=126) then some (a != 58) else some false else some false
abbrev lx:=Bs->Int->Int->Option Bool
def qxr(fu:Nat)(d:lx):lx:=fun c b a=>bif decide (a<b) then(ai c a).bind fun e=>(qpf e).bind fun f=>bif !f then some false else d c b (ae (a+1)) else some true
def qja(fu:Nat):Nat->lx|0=>fun _ _ _=>none|n+1=>qxr fu (qja fu n)
def qxq(a:Bs):Option Bool:=qja fu fu a (a.length:Int) 0
def qpe(a:Bs):Option Bool:=bif !(a==([]:Bs)) then bif decide ((a.length:Int)<=60) then(qxq fu a).bind fun b=>some b else some false else some false
def qzz(a:Int):Option Bool:=some (decide (8<a))
abbrev qhg:=Bs->Int->(List Bool)->Option ((List Bool)×Bool)
def q8x(fu:Nat)(e:qhg):qhg:=fun d b a=>bif decide (b<(d.length:Int)) then(ai d b).bind fun c=>bif decide (128<=c) then bif decide (a.length=256) then bif decide (a.length=a.length)&&decide (a.length=256) then bif decide (a.length=256)&&(true&&true) then some (a,false) else none else none else none else(a[c.toNat]?).bind fun f=>e d (ae (b+1)) (List.set a c.toNat true) else bif decide (a.length=256) then bif decide (a.length=a.length)&&decide (a.length=256) then bif decide (a.length=256)&&(true&&true) then some (a,true) else none else none else none
def qzy(fu:Nat):Nat->qhg|0=>fun _ _ _=>none|n+1=>q8x fu (qzy fu n)
def qkp(a:Bs):Option ((List Bool)×Bool):=qzy fu fu a 0 (List.replicate 256 false)
def qyj(b:Bs)(a:UInt8):Option Int:=(ww b a).bind fun c=>some c
def xc(b:Bs)(a:UInt8):Option Int:=(qyj b a).bind fun c=>some c
def qqu(a:Int):Option Bool:=bif decide (0<=a) then bif decide (a<55296) then some true else bif decide (57343<a) then bif decide (a<=1114111) then some true else some false else some false else bif decide (57343<a) then bif decide (a<=1114111) then some true else some false else some false
abbrev q6b:=Bs->Nat->Option Int
abbrev q6c:=Bs->Bs->Int->Int->Int->Option Int
abbrev qcf:=Bs->Bs->Int->Int->Option Int
def qzr(fu:Nat)(c:q6b):q6b:=fun b a=>bif Nat.blt a (b.length) then bif(((fa b a).1:Nat):Int)==65533 then some ((a:Nat):Int) else c b (a+(fa b a).2) else some (-1)
def qkm(fu:Nat):Nat->q6b|0=>fun _ _=>none|n+1=>qzr fu (qkm fu n)
def q8w(fu:Nat)(i:qcf)(f:q6c):q6c:=fun e c b d a=>bif decide (a<(c.length:Int)) then(ai e (ae (d-a))).bind fun h=>(ai c (ae (b-a))).bind fun g=>bif h != g then none else f e c b d (ae (a+1)) else some (ae (d-b))
def qzu(fu:Nat)(a:qcf):Nat->q6c|0=>fun _ _ _ _ _=>none|n+1=>q8w fu a (qzu fu a n)
def qzt(d:qcf):qcf:=fun e b a c=>qzu fu d fu e b a c 1
def qzs(e:qcf):qcf:=fun b d c a=>bif decide (a<(b.length:Int)) then(ai b a).bind fun i=>(ai d c).bind fun g=>bif i != g then bif decide (0<=ae (a+1)/\ae (a+1)<=(b.length:Int)) then(ai d c).bind fun h=>(xc (List.drop (ae (a+1)).toNat b) h).bind fun f=>bif decide (f<0) then some (-1) else qzt fu e b d c (ae (a+(ae (f+1)))) else none else qzt fu e b d c a else some (-1)
def qqj(fu:Nat):Nat->qcf|0=>fun _ _ _ _=>none|n+1=>qzs fu (qqj fu n)
def qkl:Bs->Int->Bool->Option Int:=fun c a b=>bif b then(xc c (dc a)).bind fun d=>some d else bif a==65533 then qkm fu fu c 0 else(qqu a).bind fun e=>bif !e then some (-1) else qqj fu fu c (cg a) (ae ((List.length (cg a):Int)-1)) (ae ((List.length (cg a):Int)-1))
def qav(b:Bs)(a:Int):Option Int:=bif decide (0<=a) then qkl fu b a (decide (a<128)) else qkl fu b a false
def qed(b:UInt8)(a:List Bool):Option (Bool×(List Bool)):=(a[b.toNat]?).bind fun c=>some (c,a)
abbrev qci:=Bs->Int->Option Int
abbrev q6m:=Bs->Int->(List Bool)->Option Int
abbrev q6n:=Bs->Bs->Nat->Option Int
def qzq:qci:=fun c a=>(qav fu c a).bind fun b=>some b
def qzo(fu:Nat)(e:q6m):q6m:=fun c a b=>bif decide (a<(c.length:Int)) then(ai c a).bind fun f=>(qed f b).bind fun d=>bif d.1 then some a else e c (ae (a+1)) d.2 else some (-1)
def qkj(fu:Nat):Nat->q6m|0=>fun _ _ _=>none|n+1=>qzo fu (qkj fu n)
def qzp(e:q6n):q6n:=fun c b a=>bif Nat.blt a (b.length) then(qav fu c (((fa b a).1:Nat):Int)).bind fun d=>bif decide (0<=d) then some ((a:Nat):Int) else e c b (a+(fa b a).2) else some (-1)
def qkk(fu:Nat):Nat->q6n|0=>fun _ _ _=>none|n+1=>qzp fu (qkk fu n)
def qqi:Bs->Bs->Option Int:=fun b a=>qkk fu fu a b 0
def qqh(a:Bs)(b:Bs):Option Int:=bif b==([]:Bs) then some (-1) else bif(b.length:Int)==1 then(ai b 0).bind fun d=>bif decide (128<=(d.toNat:Int)) then qzq fu a 65533 else qzq fu a (d.toNat:Int) else(qzz (a.length:Int)).bind fun e=>bif e then(qkp fu b).bind fun c=>bif decide (c.1.length=List.length (List.replicate 256 false))&&decide (c.1.length=256) then bif c.2 then qkj fu fu a 0 c.1 else qqi fu a b else none else qqi fu a b
def qqc(b:Bs)(a:Bs):Option Bool:=(qqh fu b a).bind fun c=>some (decide (0<=c))
def qyc(a:Bs):Option Bool:=(qqc fu a [13,10,0]).bind fun b=>some b
def qae(a:UInt8):Option Bool:=bif a==32 then some true else some (a==9)
def qpi(a:Bs):Option Bool:=(qyc fu a).bind fun e=>bif !e then bif a==([]:Bs) then some true else(ai a 0).bind fun f=>(qae f).bind fun d=>bif !d then(ai a (ae ((a.length:Int)-1))).bind fun c=>(qae c).bind fun b=>some (!b) else some false else some false
abbrev wh:=Bs->Int->Int->Option Int
def qph(fu:Nat)(d:wh):Bs->Int->Int->Bool->Option Int:=fun e b a c=>bif c then d e b (ae (a+1)) else bif decide (0<b) then bif decide (78<a) then some b else d e a (ae (a+1)) else d e a (ae (a+1))
def qyd(d:wh):wh:=fun b c a=>bif decide (a<(b.length:Int)) then(ai b a).bind fun g=>(qae g).bind fun h=>bif !h then qph fu d b c a true else(ai b (ae (a-1))).bind fun f=>(qae f).bind fun e=>qph fu d b c a e else some c
def qjm(fu:Nat):Nat->wh|0=>fun _ _ _=>none|n+1=>qyd fu (qjm fu n)
def qpg(b:Bs)(a:Int):Option Int:=qjm fu fu b 0 (if 1>a then 1 else a)
def dx:Option ((Int×Int)):=some (0,0)
abbrev q7k:=Int->Int->(Int×Int)->(List Bs)->Option ((Int×Int)×(List Bs))
abbrev q7j:=Bs->Int->(Int×Int)->(List Bs)->Option ((Int×Int)×(List Bs))
def qyb(fu:Nat)(g:q7k):q7k:=fun c a d b=>bif decide (a<c) then bif decide (0<=a/\a.toNat<b.length) then(b[a.toNat]?).bind fun e=>bif decide (998<(e.length:Int)) then(cn 1 a).bind fun h=>some (h,[]) else g c (ae (a+1)) d b else none else(dx).bind fun f=>some (f,b)
def qjl(fu:Nat):Nat->q7k|0=>fun _ _ _ _=>none|n+1=>qyb fu (qjl fu n)
def qjk:Bs->(Int×Int)->(List Bs)->Option ((Int×Int)×(List Bs)):=fun b c a=>bif decide (List.length (a++([b]:List Bs))<=a6) then qjl fu fu (List.length (a++([b]:List Bs)):Int) 0 c (a++([b]:List Bs)) else none
def qya(f:q7j):q7j:=fun a e d b=>bif decide (78<(a.length:Int)) then(qpg fu a e).bind fun c=>bif c==0 then qjk fu a d b else bif decide (0<=c/\c<=(a.length:Int)) then bif decide (List.length (b++([List.take c.toNat a]:List Bs))<=a6) then bif decide (0<=c/\c<=(a.length:Int)) then f (List.drop c.toNat a) 0 d (b++([List.take c.toNat a]:List Bs)) else none else none else none else qjk fu a d b
def qjj(fu:Nat):Nat->q7j|0=>fun _ _ _ _=>none|n+1=>qya fu (qjj fu n)
def qpd(a:Bs)(b:Bs):Option ((Int×Int)×(List Bs)):=(qpe fu a).bind fun e=>bif !e then(cn 10 (-1)).bind fun g=>some (g,[]) else bif decide (4000<(b.length:Int)) then(cn 1 (-1)).bind fun d=>some (d,[]) else(qpi fu b).bind fun f=>bif !f then(cn 11 (-1)).bind fun c=>some (c,[]) else bif decide (a.length+List.length ([58,32]:Bs)<=ap) then bif decide (List.length (a++[58,32])+b.length<=ap) then qjj fu fu ((a++[58,32])++b) (ae ((a.length:Int)+2)) (0,0) [] else none else none
def fv(a:Int×Int):Option Bool:=some (a.1 != 0)
abbrev q7l:=wV->Int->Int->(Int×Int)->Option ((Int×Int))
def qye(i:q7l):q7l:=fun c b a d=>bif decide (a<b) then(ai c a).bind fun e=>(qpd fu e.1 e.2).bind fun f=>(fv f.1).bind fun h=>bif h then(cn f.1.1 a).bind fun j=>some j else i c b (ae (a+1)) d else(dx).bind fun g=>some g
def qjn(fu:Nat):Nat->q7l|0=>fun _ _ _ _=>none|n+1=>qye fu (qjn fu n)
def qpj(a:List (Bs×Bs)):Option ((Int×Int)):=bif decide (60<(a.length:Int)) then(cn 2 (-1)).bind fun b=>some b else qjn fu fu a (a.length:Int) 0 (0,0)
abbrev q7m:=Int->Int->Bs->Option (Bs)
def qdv(fu:Nat)(e:q7m):q7m:=fun c a b=>bif decide (a<c) then bif decide (0<=a/\a.toNat<b.length) then(b[a.toNat]?).bind fun d=>bif decide (65<=d) then bif decide (d<=90) then bif decide (0<=a/\a.toNat<b.length) then(b[a.toNat]?).bind fun f=>e c (ae (a+1)) (List.set b a.toNat ((d+97)-65)) else none else e c (ae (a+1)) b else e c (ae (a+1)) b else none else some b
def ul(fu:Nat):Nat->q7m|0=>fun _ _ _=>none|n+1=>qdv fu (ul fu n)
def wv(a:Bs):Option (Bs):=bif decide (a.length<=maxLen) then ul fu fu (a.length:Int) 0 a else none
def ek(b:Bs)(a:Bs):Option Bool:=bif(b.length:Int)==(a.length:Int) then(wv fu b).bind fun d=>(wv fu a).bind fun c=>some (d==c) else some false
abbrev wi:=Bs->UInt8->Option (Bs)
def q8z(fu:Nat)(c:wi):wi:=fun a b=>bif decide (0<(a.length:Int)) then(ai a 0).bind fun d=>bif d==b then bif decide (0<=(1:Int)/\1<=(a.length:Int)) then c (List.drop (1:Int).toNat a) b else none else some a else some a
def qz2(fu:Nat):Nat->wi|0=>fun _ _=>none|n+1=>q8z fu (qz2 fu n)
def q8y(b:Bs)(a:UInt8):Option (Bs):=qz2 fu fu b a
abbrev wj:=Bs->(List Bool)->Option (Bs×(List Bool))
def qz1(fu:Nat)(d:wj):wj:=fun a c=>bif decide (0<(a.length:Int)) then(ai a 0).bind fun e=>(qed e c).bind fun b=>bif !b.1 then some (a,b.2) else bif decide (0<=(1:Int)/\1<=(a.length:Int)) then d (List.drop (1:Int).toNat a) b.2 else none else some (a,c)
def qkq(fu:Nat):Nat->wj|0=>fun _ _=>none|n+1=>qz1 fu (qkq fu n)
def qz0(b:Bs)(a:List Bool):Option (Bs×(List Bool)):=qkq fu fu b a
abbrev qg6:=Bs->Bs->Option (Bs)
abbrev qg5:=Bs->Bs->Bool->Option (Bs)
def qzx:qg6:=fun d b=>(qkp fu b).bind fun a=>bif decide (a.1.length=List.length (List.replicate 256 false))&&decide (a.1.length=256) then bif a.2 then(qz0 fu d a.1).bind fun c=>some c.1 else none else none
def qqm:qg5:=fun c b a=>bif a then(ai b 0).bind fun d=>(q8y fu c d).bind fun e=>some e else qzx fu c b
def qzw:qg6:=fun b a=>bif(a.length:Int)==1 then(ai a 0).bind fun c=>qqm fu b a (decide (c<128)) else qqm fu b a false
def qql:qg5:=fun b c a=>bif a then some b else qzw fu b c
def qqk(b:Bs)(a:Bs):Option (Bs):=bif b==([]:Bs) then qql fu b a true else qql fu b a (a==([]:Bs))
def w7(a:Bs):Option (Bs):=(qqk fu a [32,9]).bind fun b=>some b
def pu(a:UInt8):Option Bool:=bif decide (33<=a) then bif decide (a<=126) then(xc [40,41,60,62,64,44,59,58,92,34,47,91,93,63,61,42,37,39] a).bind fun b=>some (decide (b<0)) else some false else some false
abbrev jq:=Int->Bs->Option (Bs×Bs)
abbrev q7n:=Int->Bool->Bs->Option (Bs×Bs)
def q8k(fu:Nat)(c:jq):jq:=fun a b=>c (ae (a+1)) b
def qyy(d:jq):q7n:=fun a c b=>bif c then q8k fu d a b else bif decide (0<=a/\a<=(b.length:Int)) then bif decide (0<=a/\a<=(b.length:Int)) then some (List.take a.toNat b,List.drop a.toNat b) else none else none
def q8j(c:jq):jq:=fun a b=>bif decide (a<(b.length:Int)) then(ai b a).bind fun d=>(pu d).bind fun e=>qyy fu c a e b else qyy fu c a false b
def qj3(fu:Nat):Nat->jq|0=>fun _ _=>none|n+1=>q8j fu (qj3 fu n)
def qj2(a:Bs):Option (Bs×Bs):=(w7 fu a).bind fun b=>qj3 fu fu 0 b
def qal(b:UInt8)(c:Bs):Option (Bool×Bs):=(w7 fu c).bind fun a=>bif a==([]:Bs) then some (false,a) else(ai a 0).bind fun d=>bif d != b then some (false,a) else bif decide (0<=(1:Int)/\1<=(a.length:Int)) then some (true,List.drop (1:Int).toNat a) else none
def qj1(a:UInt8):Option Bool:=(pu a).bind fun b=>bif b then some true else some (a==42)
def q8m(fu:Nat)(c:jq):jq:=fun a b=>c (ae (a+1)) b
def qyz(d:jq):q7n:=fun a c b=>bif c then q8m fu d a b else bif decide (0<=a/\a<=(b.length:Int)) then bif decide (0<=a/\a<=(b.length:Int)) then some (List.take a.toNat b,List.drop a.toNat b) else none else none
def q8l(c:jq):jq:=fun a b=>bif decide (a<(b.length:Int)) then(ai b a).bind fun d=>(qj1 d).bind fun e=>qyz fu c a e b else qyz fu c a false b
def qj4(fu:Nat):Nat->jq|0=>fun _ _=>none|n+1=>q8l fu (qj4 fu n)
def qps(a:Bs):Option (Bs×Bs):=(w7 fu a).bind fun b=>qj4 fu fu 0 b
def qj6(a:UInt8):Option Bool:=(pu a).bind fun b=>bif b then some true else bif a==37 then some true else bif a==39 then some true else some (a==42)
def q8o(fu:Nat)(c:jq):jq:=fun a b=>c (ae (a+1)) b
def qy0(d:jq):q7n:=fun a c b=>bif c then q8o fu d a b else bif decide (0<=a/\a<=(b.length:Int)) then bif decide (0<=a/\a<=(b.length:Int)) then some (List.take a.toNat b,List.drop a.toNat b) else none else none
def q8n(c:jq):jq:=fun a b=>bif decide (a<(b.length:Int)) then(ai b a).bind fun d=>(qj6 d).bind fun e=>qy0 fu c a e b else qy0 fu c a false b
def qj5(fu:Nat):Nat->jq|0=>fun _ _=>none|n+1=>q8n fu (qj5 fu n)
def qpt(a:Bs):Option (Bs×Bs):=(w7 fu a).bind fun b=>qj5 fu fu 0 b
abbrev q7p:=Int->Bs->Bs->Option (Bs×Bool×Bs)
def qy1(fu:Nat)(e:q7p):q7p:=fun c b a=>bif decide (c<(b.length:Int)) then(ai b c).bind fun d=>bif d==34 then bif decide (0<=ae (c+1)/\ae (c+1)<=(b.length:Int)) then some (a,(true,List.drop (ae (c+1)).toNat b)) else none else bif d==92 then bif(ae (c+1))==(b.length:Int) then some (([]:Bs),(false,b)) else(ai b (ae (c+1))).bind fun f=>bif decide (List.length (a++([f]:Bs))<=a6) then e (ae ((ae (c+1))+1)) b (a++([f]:Bs)) else none else bif decide (List.length (a++([d]:Bs))<=a6) then e (ae (c+1)) b (a++([d]:Bs)) else none else some (([]:Bs),(false,b))
def qj7(fu:Nat):Nat->q7p|0=>fun _ _ _=>none|n+1=>qy1 fu (qj7 fu n)
def qpu(c:Bs):Option (Bs×Bool×Bs):=(qal fu 34 c).bind fun a=>bif !a.1 then(qpt fu a.2).bind fun b=>some (b.1,(true,b.2)) else qj7 fu fu 0 a.2 []
abbrev zjw:=Bs->Bs->Int->Bool->Option Int
def qpl:zjw:=fun c e b a=>bif a then some 0 else bif b==1 then(ai e 0).bind fun f=>(qyj c f).bind fun d=>some d else bif decide ((c.length:Int)<=b) then some (-1) else none
def qpk(b:Bs)(a:Bs):Option Int:=bif(a.length:Int)==0 then qpl b a (a.length:Int) true else qpl b a (a.length:Int) (a==b)
def qyf(b:Bs)(c:Bs):Option (Bs×Bs×Bool):=(qpk b c).bind fun a=>bif decide (0<=a) then bif decide (0<=a/\a<=(b.length:Int)) then bif decide (0<=ae (a+(c.length:Int))/\ae (a+(c.length:Int))<=(b.length:Int)) then some (List.take a.toNat b,(List.drop (ae (a+(c.length:Int))).toNat b,true)) else none else none else some (b,(([]:Bs),false))
def qqd(b:Bs)(a:Bs):Option (Bs×Bs×Bool):=(qyf b a).bind fun c=>some c
def qjo(a:Bs)(b:Bs):Option Bool:=bif decide ((b.length:Int)<=(a.length:Int)) then bif decide (0<=ae ((a.length:Int)-(b.length:Int))/\ae ((a.length:Int)-(b.length:Int))<=(a.length:Int)) then some ((List.drop (ae ((a.length:Int)-(b.length:Int))).toNat a)==b) else none else some false
def qyh(a:Bs)(b:Bs):Option (Bs×Bool):=(qjo a b).bind fun c=>bif !c then some (a,false) else bif decide (0<=ae ((a.length:Int)-(b.length:Int))/\ae ((a.length:Int)-(b.length:Int))<=(a.length:Int)) then some (List.take (ae ((a.length:Int)-(b.length:Int))).toNat a,true) else none
def qqf(b:Bs)(a:Bs):Option (Bs×Bool):=(qyh b a).bind fun c=>some c
abbrev zkz:=(Bs×Int×Bool×Bs)×Bool×Bs
def qpr(g:Bs):Option zkz:=(qps fu g).bind fun f=>(qal fu 61 f.2).bind fun e=>bif !e.1 then some ((([]:Bs),(0,(false,([]:Bs)))),(false,e.2)) else(qpu fu e.2).bind fun a=>(qqd f.1 [42]).bind fun b=>bif b.2.2 then(qqf b.2.1 [42]).bind fun c=>(qaf c.1 1099511627776).bind fun d=>bif a.2.1 then bif d.2 then some ((b.1,(d.1,(c.2,a.1))),(!(b.1==([]:Bs)),a.2.2)) else some ((b.1,(d.1,(c.2,a.1))),(false,a.2.2)) else some ((b.1,(d.1,(c.2,a.1))),(false,a.2.2)) else bif a.2.1 then some ((b.1,((-1),(false,a.1))),(!(b.1==([]:Bs)),a.2.2)) else some ((b.1,((-1),(false,a.1))),(false,a.2.2))
abbrev zky:=Bool×(Bs×Int×Bool×Bs)
def qjv(b:Bs×Int×Bool×Bs)(a:Bs×Int×Bool×Bs):Option zky:=(ek fu b.1 a.1).bind fun c=>some (c,a)
abbrev q88:=Int×(Bs×Int×Bool×Bs)
abbrev q7r:=(List (Bs×Int×Bool×Bs))->Int->Int->(Bs×Int×Bool×Bs)->Option q88
def qzn(g:q7r):q7r:=fun e d a c=>bif decide (a<d) then(ai e a).bind fun f=>(qjv fu f c).bind fun b=>bif b.1 then some (a,b.2) else g e d (ae (a+1)) b.2 else some ((-1),c)
def qkh(fu:Nat):Nat->q7r|0=>fun _ _ _ _=>none|n+1=>qzn fu (qkh fu n)
def qzm(a:List (Bs×Int×Bool×Bs))(b:Bs×Int×Bool×Bs):Option q88:=qkh fu fu a (a.length:Int) 0 b
abbrev zla:=Bool×(Bs×Int×Bool×Bs)
def qqb(c:List (Bs×Int×Bool×Bs))(b:Bs×Int×Bool×Bs):Option zla:=(qzm fu c b).bind fun a=>some (decide (0<=a.1),a.2)
abbrev zj0:=UInt8->Bool->Option (UInt8×Bool)
def qxx:zj0:=fun a b=>bif b then some ((a-65)+10,true) else bif decide (97<=a) then bif decide (a<=102) then some ((a-97)+10,true) else some (0,false) else some (0,false)
def qxw:zj0:=fun a b=>bif b then some (a-48,true) else bif decide (65<=a) then qxx a (decide (a<=70)) else qxx a false
def uk(a:UInt8):Option (UInt8×Bool):=bif decide (48<=a) then qxw a (decide (a<=57)) else qxw a false
def um(a:Bs):Option (UInt8×Bool):=bif decide ((a.length:Int)<2) then some (0,false) else(ai a 0).bind fun e=>(uk e).bind fun c=>(ai a 1).bind fun d=>(uk d).bind fun b=>bif c.2 then some ((nf c.1 (min (4:Int).toNat 8))|||b.1,b.2) else some ((nf c.1 (min (4:Int).toNat 8))|||b.1,false)
abbrev eq:=Bs->Int->Bs->Option (Bs)
abbrev ub:=Bs->Option (Bs)
abbrev zj2:=Bs->Bool->Option (Bs)
def qyw(fu:Nat)(d:eq):eq:=fun c b a=>bif decide (b<(c.length:Int)) then(ai c b).bind fun h=>bif h==37 then bif decide (0<=ae (b+1)/\ae (b+1)<=(c.length:Int)) then(um (List.drop (ae (b+1)).toNat c)).bind fun e=>bif e.2 then bif decide (List.length (a++([e.1]:Bs))<=a6) then d c (ae ((ae (b+2))+1)) (a++([e.1]:Bs)) else none else(ai c b).bind fun g=>bif decide (List.length (a++([g]:Bs))<=a6) then d c (ae (b+1)) (a++([g]:Bs)) else none else none else(ai c b).bind fun f=>bif decide (List.length (a++([f]:Bs))<=a6) then d c (ae (b+1)) (a++([f]:Bs)) else none else some a
def qjz(fu:Nat):Nat->eq|0=>fun _ _ _=>none|n+1=>qyw fu (qjz fu n)
def qd5:ub:=fun a=>qjz fu fu a 0 []
def w6:zj2:=fun b a=>bif a then bif decide (0<=(6:Int)/\6<=(b.length:Int)) then qd5 fu (List.drop (6:Int).toNat b) else none else qd5 fu b
def qpp(a:Bs×Int×Bool×Bs):Option (Bs):=bif !a.2.2.1 then some a.2.2.2 else bif a.2.1==0 then bif decide (6<=(a.2.2.2.length:Int)) then bif decide (0<=(6:Int)/\6<=(a.2.2.2.length:Int)) then(ek fu (List.take (6:Int).toNat a.2.2.2) [117,116,102,56,39,39]).bind fun b=>w6 fu a.2.2.2 b else none else w6 fu a.2.2.2 false else w6 fu a.2.2.2 false
abbrev q7t:=Int->Int->(Bs×Bs)->(Bs×Bs)->(List (Bs×Int×Bool×Bs))->Option ((Bs×Bs)×Bool)
def qyp(i:q7t):q7t:=fun d b e a c=>bif decide (b<d) then bif decide (0<=b/\b.toNat<c.length) then(c[b.toNat]?).bind fun f=>bif f.2.1 != b then some (a,false) else(qpp fu f).bind fun g=>bif decide (a.2.length+g.length<=ap) then i d (ae (b+1)) e (a.1,a.2++g) c else none else none else(qaw a.2 [239,191,189]).bind fun h=>some ((a.1,h),true)
def qjs(fu:Nat):Nat->q7t|0=>fun _ _ _ _ _=>none|n+1=>qyp fu (qjs fu n)
def qjr(a:List (Bs×Int×Bool×Bs)):Option ((Bs×Bs)×Bool):=bif decide (0<=(0:Int)/\(0:Int).toNat<a.length) then(a[(0:Int).toNat]?).bind fun b=>bif decide (0<=(0:Int)/\(0:Int).toNat<a.length) then(a[(0:Int).toNat]?).bind fun e=>bif decide (0<=(0:Int)/\(0:Int).toNat<a.length) then(a[(0:Int).toNat]?).bind fun d=>bif decide (d.2.1<0) then some ((b.1,e.2.2.2),(a.length:Int)==1) else(qas a).bind fun c=>qjs fu fu (c.length:Int) 0 (([]:Bs),([]:Bs)) (b.1,([]:Bs)) c else none else none else none
abbrev qa2:=Bool×wV
abbrev qu4:=(List (Bs×Int×Bool×Bs))->(List (Bs×Int×Bool×Bs))->Int->Int->(List (Bs×Int×Bool×Bs))->Int->Int->(Bs×Int×Bool×Bs)->wV->(List (Bs×Int×Bool×Bs))->Option qa2
abbrev qhb:=(List (Bs×Int×Bool×Bs))->(List (Bs×Int×Bool×Bs))->Int->Int->wV->Option qa2
def qjx(fu:Nat)(l:qhb)(j:qu4):(List (Bs×Int×Bool×Bs))->(List (Bs×Int×Bool×Bs))->Int->Int->(List (Bs×Int×Bool×Bs))->Int->Int->(Bs×Int×Bool×Bs)->(List (Bs×Int×Bool×Bs))->wV->Option qa2:=fun k h i g f b c a e d=>j k h i g f b (ae (c+1)) a d e
def qyt(m:qhb)(p:qu4):qu4:=fun o h i g f e a d c b=>bif decide (a<e) then(ai f a).bind fun k=>(qjv fu k d).bind fun j=>bif j.1 then bif decide (List.length (b++([k]:List (Bs×Int×Bool×Bs)))<=a6) then qjx fu m p o h i g f e a j.2 (b++([k]:List (Bs×Int×Bool×Bs))) c else none else qjx fu m p o h i g f e a j.2 b c else(qjr fu b).bind fun l=>bif !l.2 then some (false,[]) else bif decide (List.length (c++([(d.1,l.1.2)]:List (Bs×Bs)))<=a6) then m o h i (ae (g+1)) (c++([(d.1,l.1.2)]:List (Bs×Bs))) else none
def qjw(fu:Nat)(a:qhb):Nat->qu4|0=>fun _ _ _ _ _ _ _ _ _ _=>none|n+1=>qyt fu a (qjw fu a n)
def qys(g:qhb):qhb:=fun e c d a b=>bif decide (a<d) then(ai c a).bind fun h=>bif decide (0<=a/\a<=(e.length:Int)) then(qqb fu (List.take a.toNat e) h).bind fun f=>bif f.1 then g e c d (ae (a+1)) b else qjw fu g fu e c d a e (e.length:Int) 0 f.2 b [] else none else some (true,b)
def qd4(fu:Nat):Nat->qhb|0=>fun _ _ _ _ _=>none|n+1=>qys fu (qd4 fu n)
def qd3(a:List (Bs×Int×Bool×Bs)):Option qa2:=qd4 fu fu a a (a.length:Int) 0 []
abbrev qkx:=(Bs×Bs×Bool) ⊕ (Bs×Bs×Bool×wV)
abbrev q7u:=Bs->Bs->Bs->Bs->Bs->(List (Bs×Int×Bool×Bs))->Option qkx
def qyu(j:q7u):q7u:=fun c e g a b d=>(qal fu 59 g).bind fun h=>bif h.1 then(qpr fu h.2).bind fun f=>bif !f.2.1 then some (.inl (a,(b,false))) else bif decide (List.length (d++([f.1]:List (Bs×Int×Bool×Bs)))<=a6) then j c e f.2.2 a b (d++([f.1]:List (Bs×Int×Bool×Bs))) else none else(w7 fu h.2).bind fun k=>(qd3 fu d).bind fun i=>bif i.1 then some (.inr (a,(b,(k==([]:Bs),i.2)))) else some (.inr (a,(b,(false,i.2))))
def qjy(fu:Nat):Nat->q7u|0=>fun _ _ _ _ _ _=>none|n+1=>qyu fu (qjy fu n)
def qyv:Bs->Bs->Bs->Bs->Bs->Option qkx:=fun a b e c d=>qjy fu fu a b e c d []
def w3:Bool->Bs->Bs->Bs->Bs->Bs->Option qkx:=fun f c d e a b=>bif f then some (.inl (a,(b,false))) else qyv fu c d e a b
def qpo(d:Bs):Option qkx:=(qj2 fu d).bind fun b=>(qal fu 47 b.2).bind fun c=>(qj2 fu c.2).bind fun a=>bif b.1==([]:Bs) then w3 fu true [] [] a.2 b.1 a.1 else bif !c.1 then w3 fu true [] [] a.2 b.1 a.1 else w3 fu (a.1==([]:Bs)) [] [] a.2 b.1 a.1
def q8d(fu:Nat)(d:lx):lx:=fun c b a=>bif decide (a<b) then(ai c a).bind fun e=>(pu e).bind fun f=>bif !f then some false else d c b (ae (a+1)) else some true
def qjb(fu:Nat):Nat->lx|0=>fun _ _ _=>none|n+1=>q8d fu (qjb fu n)
def qo0(a:Bs):Option Bool:=qjb fu fu a (a.length:Int) 0
def qam(a:Bs):Option Bool:=bif !(a==([]:Bs)) then bif decide ((a.length:Int)<=60) then(qo0 fu a).bind fun b=>some b else some false else some false
def qym(b:Bs×Bs)(a:Bs×Bs):Option (Bool×(Bs×Bs)):=(ek fu b.1 a.1).bind fun c=>some (c,a)
abbrev q7v:=wV->Int->Int->(Bs×Bs)->Option (Int×(Bs×Bs))
def qzl(g:q7v):q7v:=fun e d a c=>bif decide (a<d) then(ai e a).bind fun f=>(qym fu f c).bind fun b=>bif b.1 then some (a,b.2) else g e d (ae (a+1)) b.2 else some ((-1),c)
def qkg(fu:Nat):Nat->q7v|0=>fun _ _ _ _=>none|n+1=>qzl fu (qkg fu n)
def qzk(a:List (Bs×Bs))(b:Bs×Bs):Option (Int×(Bs×Bs)):=qkg fu fu a (a.length:Int) 0 b
def qqa(c:List (Bs×Bs))(b:Bs×Bs):Option (Bool×(Bs×Bs)):=(qzk fu c b).bind fun a=>some (decide (0<=a.1),a.2)
abbrev qu6:=wV->Int->Int->(Bs×Bs×wV)->(Int×Int)->Option ((Int×Int))
abbrev zj8:=(Bs×Bs×wV)->(Int×Int)->Option ((Int×Int))
abbrev zj7:=Bool->(Bs×Bs×wV)->(Int×Int)->Option ((Int×Int))
def qak(l:qu6):(Int->wV->Int->Int->Bool->(Bs×Bs×wV)->(Int×Int)->(Bs×Bs)->Option ((Int×Int))):=fun b i g c f a d h=>bif f then(cn 10 b).bind fun p=>some p else bif decide (0<=b/\b<=(a.2.2.length:Int)) then(qqa fu (List.take b.toNat a.2.2) h).bind fun e=>bif e.1 then(cn 7 b).bind fun j=>some j else bif decide (500<(e.2.2.length:Int)) then(cn 1 b).bind fun k=>some k else(qaz e.2.2).bind fun m=>bif !m then(cn 5 b).bind fun o=>some o else l i g (ae (c+1)) a d else none
def qyn(g:qu6):qu6:=fun c b a d e=>bif decide (a<b) then(ai c a).bind fun f=>(qam fu f.1).bind fun i=>bif !i then qak fu g a c b a true d e f else qak fu g a c b a (decide (20<(f.1.length:Int))) d e f else(dx).bind fun h=>some h
def qd1(fu:Nat):Nat->qu6|0=>fun _ _ _ _ _=>none|n+1=>qyn fu (qd1 fu n)
def qyo:zj8:=fun a b=>bif decide (60<(a.2.2.length:Int)) then(cn 2 (-3)).bind fun c=>some c else qd1 fu fu a.2.2 (a.2.2.length:Int) 0 a b
def qd0:zj7:=fun c a b=>bif c then(cn 10 (-2)).bind fun d=>some d else qyo fu a b
def uo(a:Bs×Bs×wV):Option ((Int×Int)):=(qam fu a.1).bind fun c=>bif !c then qd0 fu true a (0,0) else(qam fu a.2.1).bind fun b=>qd0 fu (!b) a (0,0)
abbrev q86:=(Bs×Bs×Int×Int) ⊕ (Bs×Bs×Int×Int×wV)
def qdz(h:Bs):Option q86:=bif decide (4000<(h.length:Int)) then(cn 1 (-1)).bind fun m=>some (.inl (([]:Bs),(([]:Bs),m))) else(qpo fu h).bind fun p=>be p (fun b=>bif !b.2.2 then(cn 11 (-5)).bind fun k=>some (.inl (([]:Bs),(([]:Bs),k))) else(uo fu (b.1,(b.2.1,[]))).bind fun i=>(fv i).bind fun o=>bif o then(cn i.1 (-6)).bind fun l=>some (.inl (([]:Bs),(([]:Bs),l))) else(dx).bind fun j=>some (.inl (b.1,(b.2.1,j)))) (fun a=>bif !a.2.2.1 then(cn 11 (-5)).bind fun e=>some (.inl (([]:Bs),(([]:Bs),e))) else(uo fu (a.1,(a.2.1,a.2.2.2))).bind fun c=>(fv c).bind fun f=>bif f then(cn c.1 (-6)).bind fun g=>some (.inl (([]:Bs),(([]:Bs),g))) else(dx).bind fun d=>some (.inr (a.1,(a.2.1,(d.1,(d.2,a.2.2.2))))))
abbrev q0d:=(Bs×Bs×Int×Bool) ⊕ (Bs×Bs×Int×Bool×wV)
abbrev qnm:=wV->Int->wV->Int->Int->Bs->Bs->Option q0d
def qd8(fu:Nat)(g:qnm):qnm:=fun h f c e d a b=>g h f c e (ae (d+1)) a b
def qpw(j:qnm):qnm:=fun i f d e b a c=>bif decide (b<e) then(ai d b).bind fun k=>(ek fu k.1 [67,111,110,116,101,110,116,45,84,121,112,101]).bind fun o=>bif o then bif decide (0<=f) then some (.inl (([]:Bs),(([]:Bs),(0,false)))) else qd8 fu j i b d e b a c else qd8 fu j i f d e b a c else bif decide (f<0) then some (.inl (([]:Bs),(([]:Bs),(0,false)))) else(ai i f).bind fun l=>(qdz fu l.2).bind fun q=>be q (fun h=>(fv h.2.2).bind fun p=>some (.inl (h.1,(h.2.1,(f,!p))))) (fun g=>(fv (g.2.2.1,g.2.2.2.1)).bind fun m=>some (.inr (g.1,(g.2.1,(f,(!m,g.2.2.2.2))))))
def w8(fu:Nat):Nat->qnm|0=>fun _ _ _ _ _ _ _=>none|n+1=>qpw fu (w8 fu n)
def qd7(a:List (Bs×Bs)):Option q0d:=w8 fu fu a (-1) a (a.length:Int) 0 [] ([]:Bs)
abbrev q7y:=Bs->wV->Int->Int->(Int×Int)->Option (Bs×Bool×(Int×Int))
def qyk(h:q7y):q7y:=fun f c b a d=>bif decide (a<b) then(ai c a).bind fun e=>(ek fu e.1 f).bind fun j=>bif j then(dx).bind fun g=>some (e.2,(true,g)) else h f c b (ae (a+1)) d else(dx).bind fun i=>some (([]:Bs),(false,i))
def qjp(fu:Nat):Nat->q7y|0=>fun _ _ _ _ _=>none|n+1=>qyk fu (qjp fu n)
def rz(a:Bs×Bs×wV)(c:Bs):Option (Bs×Bool×(Int×Int)):=(uo fu a).bind fun b=>(fv b).bind fun d=>bif d then some (([]:Bs),(false,b)) else qjp fu fu c a.2.2 (a.2.2.length:Int) 0 (0,0)
def qjt(a:UInt8):Option Bool:=bif decide (32<=a) then some (decide (a<=126)) else some false
def q8e(fu:Nat)(d:lx):lx:=fun c b a=>bif decide (a<b) then(ai c a).bind fun e=>(qjt e).bind fun f=>bif !f then some false else d c b (ae (a+1)) else some true
def qjc(fu:Nat):Nat->lx|0=>fun _ _ _=>none|n+1=>q8e fu (qjc fu n)
def qo1(a:Bs):Option Bool:=qjc fu fu a (a.length:Int) 0
def qzv(a:List Bs):Option (Int×Int×Int×(List Bs)):=bif(Int.tmod (a.length:Int) 2)==1 then none else bif decide (a.length<=a6) then some (0,(0,(0,a))) else none
def pt(a:UInt8):Option UInt8:=(([48,49,50,51,52,53,54,55,56,57,65,66,67,68,69,70]:Bs)[(a&&&15).toNat]?).bind fun b=>some b
abbrev ou:=Bs->Bs->Int->Int->(List Bs)->Option ((List Bs))
abbrev qva:=Bs->Int->Int->(List Bs)->Option ((List Bs))
def qj0(fu:Nat)(e:qva):ou:=fun g b d c a=>bif decide (0<=ae ((a.length:Int)-1)/\(ae ((a.length:Int)-1)).toNat<a.length) then(a[(ae ((a.length:Int)-1)).toNat]?).bind fun h=>bif decide ((ae ((h.length:Int)+(b.length:Int)))<=60) then bif decide (0<=ae ((a.length:Int)-1)/\(ae ((a.length:Int)-1)).toNat<a.length) then(a[(ae ((a.length:Int)-1)).toNat]?).bind fun f=>bif decide (f.length+b.length<=ap) then bif decide (0<=ae ((a.length:Int)-1)/\(ae ((a.length:Int)-1)).toNat<a.length) then(a[(ae ((a.length:Int)-1)).toNat]?).bind fun i=>e g d (ae (c+1)) (List.set a ((ae ((a.length:Int)-1)).toNat) (f++b)) else none else none else none else bif decide (List.length (a++([b]:List Bs))<=a6) then e g d (ae (c+1)) (a++([b]:List Bs)) else none else none
def qyx(e:qva):qva:=fun c d a b=>bif decide (a<d) then bif decide (0<=a/\a<=ae (a+1)/\ae (a+1)<=(c.length:Int)) then(ai c a).bind fun k=>(pu k).bind fun i=>bif !i then(ai c a).bind fun h=>(pt (v7 h (min (4:Int).toNat 8))).bind fun j=>(ai c a).bind fun g=>(pt g).bind fun f=>qj0 fu e c ([37,j,f]:Bs) d a b else qj0 fu e c (List.take ((ae (a+1)).toNat-a.toNat) (List.drop a.toNat c)) d a b else none else some b
def qd6(fu:Nat):Nat->qva|0=>fun _ _ _ _=>none|n+1=>qyx fu (qd6 fu n)
def qpq(a:Bs):Option ((List Bs)):=qd6 fu fu a (a.length:Int) 0 ([([117,116,102,56,39,39]:Bs)]:List Bs)
abbrev q7z:=Bs->Int->Int->(Bs×Bs)->(List Bs)->Option (Bs)
def qyq(fu:Nat)(h:q7z):q7z:=fun f d b a c=>bif decide (b<d) then bif decide (0<=b/\b.toNat<c.length) then(c[b.toNat]?).bind fun g=>bif decide (List.length ([59,32]:Bs)+a.1.length<=ap) then bif decide (List.length (([59,32]:Bs)++a.1)+List.length ([42]:Bs)<=ap) then(qau b).bind fun e=>bif decide (List.length ((([59,32]:Bs)++a.1)++[42])+e.length<=ap) then bif decide (List.length (((([59,32]:Bs)++a.1)++[42])++e)+List.length ([42,61]:Bs)<=ap) then bif decide (List.length ((((([59,32]:Bs)++a.1)++[42])++e)++[42,61])+g.length<=ap) then bif decide (f.length+List.length (((((([59,32]:Bs)++a.1)++[42])++e)++[42,61])++g)<=ap) then h (f++(((((([59,32]:Bs)++a.1)++[42])++e)++[42,61])++g)) d (ae (b+1)) a c else none else none else none else none else none else none else none else some f
def qju(fu:Nat):Nat->q7z|0=>fun _ _ _ _ _=>none|n+1=>qyq fu (qju fu n)
def qyr:(Bs×Bs)->Option (Bs):=fun a=>(qpq fu a.2).bind fun b=>qju fu fu [] (b.length:Int) 0 a b
def qd2:Bool->(Bs×Bs)->Option (Bs):=fun c a=>bif c then bif decide (List.length ([59,32]:Bs)+a.1.length<=ap) then bif decide (List.length (([59,32]:Bs)++a.1)+List.length ([61,34]:Bs)<=ap) then(qzv ([([92]:Bs),([92,92]:Bs),([34]:Bs),([92,34]:Bs)]:List Bs)).bind fun b=>(w9 a.2 b.1 b.2.1 b.2.2.1 b.2.2.2).bind fun d=>bif decide (List.length ((([59,32]:Bs)++a.1)++[61,34])+d.length<=ap) then bif decide (List.length (((([59,32]:Bs)++a.1)++[61,34])++d)+List.length ([34]:Bs)<=ap) then some ((((([59,32]:Bs)++a.1)++[61,34])++d)++[34]) else none else none else none else none else qyr fu a
def qpn(a:Bs×Bs):Option (Bs):=(qam fu a.2).bind fun c=>bif c then bif decide (List.length ([59,32]:Bs)+a.1.length<=ap) then bif decide (List.length (([59,32]:Bs)++a.1)+List.length ([61]:Bs)<=ap) then bif decide (List.length ((([59,32]:Bs)++a.1)++[61])+a.2.length<=ap) then some (((([59,32]:Bs)++a.1)++[61])++a.2) else none else none else none else bif decide ((a.2.length:Int)<=60) then(qo1 fu a.2).bind fun b=>qd2 fu b a else qd2 fu false a
abbrev q70:=Bs->wV->Int->Int->(Int×Int)->Option (Bs×(Int×Int))
def qyl(i:q70):q70:=fun d b c a e=>bif decide (a<c) then(ai b a).bind fun g=>(qpn fu g).bind fun f=>bif decide (d.length+f.length<=ap) then i (d++f) b c (ae (a+1)) e else none else bif decide (4000<(d.length:Int)) then(cn 1 (-4)).bind fun h=>some (([]:Bs),h) else(dx).bind fun j=>some (d,j)
def qjq(fu:Nat):Nat->q70|0=>fun _ _ _ _ _=>none|n+1=>qyl fu (qjq fu n)
def qpm(a:Bs×Bs×wV):Option (Bs×(Int×Int)):=(uo fu a).bind fun b=>(fv b).bind fun c=>bif c then some (([]:Bs),b) else bif decide (a.1.length+List.length ([47]:Bs)<=ap) then bif decide (List.length (a.1++[47])+a.2.1.length<=ap) then qjq fu fu ((a.1++[47])++a.2.1) a.2.2 (a.2.2.length:Int) 0 (0,0) else none else none
def qzh:(Int->wU->Bs->Bs->wV->Option Int):=fun g d a b c=>(rz fu (a,(b,c)) [98,111,117,110,100,97,114,121]).bind fun i=>(qpm fu (a,(b,c))).bind fun e=>bif i.2.1 then some 5 else bif decide (60<=(c.length:Int)) then some 5 else(fv e.2).bind fun h=>bif h then some 5 else(ai d.val.1 g).bind fun f=>bif !(e.1==f.2) then some 5 else bif decide (2000<(e.1.length:Int)) then some 5 else some 0
def pw:(Int->Bool->wU->Bs->Bs->wV->Option Int):=fun f e c a b d=>bif e then some 5 else qzh fu f (Tree.node c.val c.kids) a b d
def qp7(a:Tree (wV×Bs)):Option Int:=(qd7 fu a.val.1).bind fun e=>be e (fun c=>bif decide (0<(a.val.2.length:Int)) then pw fu c.2.2.1 true (Tree.node a.val a.kids) c.1 c.2.1 [] else bif !c.2.2.2 then pw fu c.2.2.1 true (Tree.node a.val a.kids) c.1 c.2.1 [] else(ek fu c.1 [109,117,108,116,105,112,97,114,116]).bind fun f=>pw fu c.2.2.1 (!f) (Tree.node a.val a.kids) c.1 c.2.1 []) (fun b=>bif decide (0<(a.val.2.length:Int)) then pw fu b.2.2.1 true (Tree.node a.val a.kids) b.1 b.2.1 b.2.2.2.2 else bif !b.2.2.2.1 then pw fu b.2.2.1 true (Tree.node a.val a.kids) b.1 b.2.1 b.2.2.2.2 else(ek fu b.1 [109,117,108,116,105,112,97,114,116]).bind fun d=>pw fu b.2.2.1 (!d) (Tree.node a.val a.kids) b.1 b.2.1 b.2.2.2.2)
def qxt(fu:Nat)(d:wh):Bs->Int->Int->UInt8->Option Int:=fun e b c a=>bif a==13 then some 11 else bif a==10 then some 11 else bif decide (998<(ae (b+1))) then some 1 else d e (ae (b+1)) (ae (c+1))
def qdu(c:wh):Bs->Int->Int->UInt8->Bool->Option Int:=fun d f b e a=>bif a then c d 0 (ae ((ae (b+1))+1)) else qxt fu c d f b e
def qxs(e:wh):wh:=fun b d a=>bif decide (a<(b.length:Int)) then(ai b a).bind fun c=>bif c==13 then bif decide ((ae (a+1))<(b.length:Int)) then(ai b (ae (a+1))).bind fun f=>qdu fu e b d a c (f==10) else qdu fu e b d a c false else qdu fu e b d a c false else some 0
def qdt(fu:Nat):Nat->wh|0=>fun _ _ _=>none|n+1=>qxs fu (qdt fu n)
def qo3(a:Bs):Option Int:=qdt fu fu a 0 0
def qj9(a:UInt8):Option Bool:=bif decide (32<=a) then some (decide (a<=126)) else some false
def q8f(fu:Nat)(d:lx):lx:=fun c b a=>bif decide (a<b) then(ai c a).bind fun e=>(qj9 e).bind fun f=>bif !f then some false else d c b (ae (a+1)) else some true
def qjd(fu:Nat):Nat->lx|0=>fun _ _ _=>none|n+1=>q8f fu (qjd fu n)
def qo2(a:Bs):Option Bool:=qjd fu fu a (a.length:Int) 0
def qqg(b:Bs)(a:Bs):Option Bool:=(qjo b a).bind fun c=>some c
def qy6:Bs->Bs->wV->Option (Bs×Bool):=fun b c d=>(rz fu (b,(c,d)) [98,111,117,110,100,97,114,121]).bind fun a=>bif !(a.1==([]:Bs)) then bif decide ((a.1.length:Int)<=60) then(qo2 fu a.1).bind fun f=>bif f then(qqg a.1 [32]).bind fun e=>bif a.2.1 then some (a.1,!e) else some (a.1,false) else bif a.2.1 then some (a.1,false) else some (a.1,false) else bif a.2.1 then some (a.1,false) else some (a.1,false) else bif a.2.1 then some (a.1,false) else some (a.1,false)
def qan:Bool->Bs->Bs->wV->Option (Bs×Bool):=fun c b a d=>bif c then some (([]:Bs),false) else qy6 fu b a d
def qpx(c:List (Bs×Bs)):Option (Bs×Bool):=(qd7 fu c).bind fun e=>be e (fun b=>bif !b.2.2.2 then qan fu true b.1 b.2.1 [] else(ek fu b.1 [109,117,108,116,105,112,97,114,116]).bind fun f=>qan fu (!f) b.1 b.2.1 []) (fun a=>bif !a.2.2.2.1 then qan fu true a.1 a.2.1 a.2.2.2.2 else(ek fu a.1 [109,117,108,116,105,112,97,114,116]).bind fun d=>qan fu (!d) a.1 a.2.1 a.2.2.2.2)
def qze(a:Bs):Option (Bs):=some a
def q81(fu:Nat)(c:wi):wi:=fun a b=>bif decide (0<(a.length:Int)) then(ai a (ae ((a.length:Int)-1))).bind fun d=>bif d==b then bif decide (0<=ae ((a.length:Int)-1)/\ae ((a.length:Int)-1)<=(a.length:Int)) then c (List.take (ae ((a.length:Int)-1)).toNat a) b else none else some a else some a
def qz3(fu:Nat):Nat->wi|0=>fun _ _=>none|n+1=>q81 fu (qz3 fu n)
def q80(b:Bs)(a:UInt8):Option (Bs):=qz3 fu fu b a
def qqq(fu:Nat)(d:wj):wj:=fun a c=>bif decide (0<(a.length:Int)) then(ai a (ae ((a.length:Int)-1))).bind fun e=>(qed e c).bind fun b=>bif !b.1 then some (a,b.2) else bif decide (0<=ae ((a.length:Int)-1)/\ae ((a.length:Int)-1)<=(a.length:Int)) then d (List.take (ae ((a.length:Int)-1)).toNat a) b.2 else none else some (a,c)
def qay(fu:Nat):Nat->wj|0=>fun _ _=>none|n+1=>qqq fu (qay fu n)
def qqp(b:Bs)(a:List Bool):Option (Bs×(List Bool)):=qay fu fu b a
def qqo:qg6:=fun d b=>(qkp fu b).bind fun a=>bif decide (a.1.length=List.length (List.replicate 256 false))&&decide (a.1.length=256) then bif a.2 then(qqp fu d a.1).bind fun c=>some c.1 else none else none
def qko:qg5:=fun c b a=>bif a then(ai b 0).bind fun d=>(q80 fu c d).bind fun e=>some e else qqo fu c b
def qqn:qg6:=fun b a=>bif(a.length:Int)==1 then(ai a 0).bind fun c=>qko fu b a (decide (c<128)) else qko fu b a false
def qkn:qg5:=fun b c a=>bif a then some b else qqn fu b c
def qax(b:Bs)(a:Bs):Option (Bs):=bif b==([]:Bs) then qkn fu b a true else qkn fu b a (a==([]:Bs))
def qp6(c:Bs)(a:Bs):Option Int:=(qax fu c [32,9]).bind fun b=>bif decide (List.length ([45,45]:Bs)+a.length<=ap) then bif b==(([45,45]:Bs)++a) then some 1 else bif decide (List.length ([45,45]:Bs)+a.length<=ap) then bif decide (List.length (([45,45]:Bs)++a)+List.length ([45,45]:Bs)<=ap) then bif b==((([45,45]:Bs)++a)++[45,45]) then some 2 else some 0 else none else none else none
abbrev zk4:=(Bs×Bs×Int×(List Bs)×(List Bs)) ⊕ (Bs×Bs×Int×(List Bs))
def qd9(b:Int)(f:Bs)(c:Bs)(e:Bs)(a:Int)(g:List Bs)(d:List Bs):Option zk4:=(qp6 fu f e).bind fun h=>bif h==0 then some (.inl (c,(e,(a,(g,d))))) else bif decide (0<=a) then bif decide (0<=a/\a<=(if ae (b-2)>a then ae (b-2) else a)/\(if ae (b-2)>a then ae (b-2) else a)<=(c.length:Int)) then bif decide (List.length (d++([List.take ((if ae (b-2)>a then ae (b-2) else a).toNat-a.toNat) (List.drop a.toNat c)]:List Bs))<=a6) then bif h==2 then some (.inr (c,(e,(a,d++([List.take ((if ae (b-2)>a then ae (b-2) else a).toNat-a.toNat) (List.drop a.toNat c)]:List Bs))))) else some (.inl (c,(e,(if(c.length:Int)<ae ((ae (b+(f.length:Int)))+2) then(c.length:Int) else ae ((ae (b+(f.length:Int)))+2),(g,d++([List.take ((if ae (b-2)>a then ae (b-2) else a).toNat-a.toNat) (List.drop a.toNat c)]:List Bs)))))) else none else none else bif h==2 then some (.inr (c,(e,(a,d)))) else some (.inl (c,(e,(if(c.length:Int)<ae ((ae (b+(f.length:Int)))+2) then(c.length:Int) else ae ((ae (b+(f.length:Int)))+2),(g,d)))))
abbrev q0e:=(Bs×Bs×Bs×Int×(List Bs)) ⊕ (Bs×Bs×Bs×Int×(List Bs)×(List Bs))
abbrev q73:=Int->Bs->Bs->Bs->Int->(List Bs)->(List Bs)->Option q0e
def qzg(k:q73):q73:=fun a b h i j c d=>bif decide (a<(b.length:Int)) then bif decide (0<=a/\a<=(b.length:Int)) then bif decide (0<List.length ([13,10]:Bs)) then(qag (List.drop a.toNat b) ([13,10]:Bs)).bind fun g=>bif decide (0<=g) then bif decide (0<=a/\a<=ae (a+g)/\ae (a+g)<=(b.length:Int)) then(qd9 fu a (List.take ((ae (a+g)).toNat-a.toNat) (List.drop a.toNat b)) h i j c d).bind fun o=>be o (fun e=>k (ae ((ae (a+g))+2)) b e.1 e.2.1 e.2.2.1 e.2.2.2.1 e.2.2.2.2) (fun l=>some (.inl (b,l))) else none else bif decide (0<=a/\a<=(b.length:Int)/\(b.length:Int)<=(b.length:Int)) then(qd9 fu a (List.take ((b.length:Int).toNat-a.toNat) (List.drop a.toNat b)) h i j c d).bind fun p=>be p (fun f=>k (b.length:Int) b f.1 f.2.1 f.2.2.1 f.2.2.2.1 f.2.2.2.2) (fun m=>some (.inl (b,m))) else none else none else none else some (.inr (b,(h,(i,(j,(c,d))))))
def qap(fu:Nat):Nat->q73|0=>fun _ _ _ _ _ _ _=>none|n+1=>qzg fu (qap fu n)
def qzf(b:Bs)(e:Bs)(c:Bs)(f:Int)(a:List Bs)(d:List Bs):Option q0e:=qap fu fu 0 b e c f a d
def qpz(b:Bs)(d:Bs):Option ((List Bs)):=(qze b).bind fun e=>(qzf fu e b d (-1) [] []).bind fun f=>be f (fun c=>some c.2.2.2.2) (fun a=>bif decide (0<=a.2.2.2.1) then bif decide (0<=a.2.2.2.1/\a.2.2.2.1<=(a.2.1.length:Int)) then bif decide (List.length (a.2.2.2.2.2++([List.drop a.2.2.2.1.toNat a.2.1]:List Bs))<=a6) then some (a.2.2.2.2.2++([List.drop a.2.2.2.1.toNat a.2.1]:List Bs)) else none else none else some a.2.2.2.2.2)
def qp5(b:List (Bs×Bs))(d:Bs)(c:Int):Option ((List Bs)):=(qpx fu b).bind fun a=>bif !a.2 then some [] else bif decide (8<=c) then some [] else(qpz fu d a.1).bind fun e=>some e
def qpy(a:wU×Int):Option Int:=(qpj fu a.1.val.1).bind fun b=>(fv b).bind fun f=>bif f then some b.1 else bif decide (0<(a.1.kids.length:Int)) then(qp7 fu (Tree.node a.1.val a.1.kids)).bind fun e=>some e else bif decide (12000<(a.1.val.2.length:Int)) then some 1 else(qo3 fu a.1.val.2).bind fun c=>bif c != 0 then some c else(qp5 fu a.1.val.1 a.1.val.2 a.2).bind fun d=>bif decide (0<(d.length:Int)) then some 5 else some 0
def qy5(c:Int)(f:List (Bs×Bs))(d:Bs)(g:List wU)(b:Int)(e:Int×Int):Option (((Int×Int)) ⊕ ((Int×Int))):=(qpy fu ((Tree.node (f,d) g),b)).bind fun a=>bif a != 0 then(cn a c).bind fun h=>some (.inl h) else some (.inr e)
abbrev qq2:=(Int×(Int×Int)) ⊕ (Int×(Int×Int))
abbrev qvc:=wU->Int->Int->(Int×Int)->Option qq2
abbrev q74:=Int->(List wU)->Int->Int->Int->(Int×Int)->Option qq2
def qy8(c:qvc)(fu:Nat)(k:q74):q74:=fun g b d a e h=>bif decide (a<d) then(ai b a).bind fun f=>(c (Tree.node f.val f.kids) (ae (g+1)) e h).bind fun l=>be l (fun j=>some (.inl j)) (fun i=>k g b d (ae (a+1)) i.1 i.2) else some (.inr (e,h))
def qkb(a:qvc)(fu:Nat):Nat->q74|0=>fun _ _ _ _ _ _=>none|n+1=>qy8 a fu (qkb a fu n)
def qp2(b:qvc)(fu:Nat)(a:Tree (wV×Bs))(d:Int)(c:Int)(h:Int×Int):Option qq2:=(qy5 fu c a.val.1 a.val.2 a.kids d h).bind fun f=>be f (fun g=>some (.inl (c,g))) (fun e=>qkb b fu fu d a.kids (a.kids.length:Int) 0 (ae (c+1)) e)
def qeb(fu:Nat):Nat->qvc|0=>fun _ _ _ _=>none|n+1=>qp2 (qeb fu n) fu
def q8s(d:Tree (wV×Bs))(c:Int)(a:Int)(b:Int×Int):Option qq2:=qeb fu fu d c a b
abbrev zk7:=(wU×(Int×Int)) ⊕ (wU×(Int×Int))
def qp4(a:Tree (wV×Bs))(c:Int×Int):Option zk7:=(q8s fu (Tree.node a.val a.kids) 0 0 c).bind fun d=>be d (fun e=>some (.inl ((Tree.node a.val a.kids),e.2))) (fun b=>some (.inr ((Tree.node a.val a.kids),b.2)))
def qj8(a:Tree (wV×Bs)):Option ((Int×Int)):=(qao (Tree.node a.val a.kids)).bind fun e=>(qp0 fu (Tree.node e.val e.kids) (0,0) false).bind fun j=>be j (fun f=>some f.2.1) (fun d=>bif d.2.2 then(cn 2 (-2)).bind fun g=>some g else(qao (Tree.node a.val a.kids)).bind fun c=>(qp4 fu (Tree.node c.val c.kids) d.2.1).bind fun i=>be i (fun h=>some h.2) (fun k=>(dx).bind fun b=>some b))
abbrev zk0:=wU
def qpv(a:Tree (wV×Bs)):Option zk0:=some (Tree.node a.val a.kids)
abbrev zlf:=(Bs×Bs×wV)
def qeg(c:Tree (wV×Bs)):Option zlf:=(qd7 fu c.val.1).bind fun d=>be d (fun b=>bif b.2.2.2 then some (b.1,(b.2.1,[])) else some (([116,101,120,116]:Bs),(([112,108,97,105,110]:Bs),[]))) (fun a=>bif a.2.2.2.1 then some (a.1,(a.2.1,a.2.2.2.2)) else some (([116,101,120,116]:Bs),(([112,108,97,105,110]:Bs),[])))
abbrev zle:=(Bs×Bs×wU×Bool) ⊕ (Bs×Bs×wU×Bool)
def qqx(k:Int)(g:List (Bs×Bs))(f:Bs)(e:List wU)(b:Bs)(c:Bs)(a:Tree (wV×Bs))(d:Bool):Option zle:=(qeg fu (Tree.node (g,f) e)).bind fun h=>bif(e.length:Int)==0 then(ek fu h.1 b).bind fun j=>bif j then(ek fu h.2.1 c).bind fun i=>bif i then some (.inl (b,(c,((Tree.node (g,f) e),true)))) else some (.inr (b,(c,((Tree.node a.val a.kids),d)))) else some (.inr (b,(c,((Tree.node a.val a.kids),d)))) else some (.inr (b,(c,((Tree.node a.val a.kids),d))))
abbrev zk2:=(Bs×Bs×wU×Bool) ⊕ (Bs×Bs×wU×Bool)
def qy3(d:Int)(i:List (Bs×Bs))(e:Bs)(k:List wU)(l:Int)(f:Bs)(g:Bs)(c:Tree (wV×Bs))(h:Bool):Option zk2:=(qqx fu d i e k f g (Tree.node c.val c.kids) h).bind fun j=>be j (fun b=>some (.inl (b.1,(b.2.1,((Tree.node b.2.2.1.val b.2.2.1.kids),b.2.2.2))))) (fun a=>some (.inr (a.1,(a.2.1,((Tree.node a.2.2.1.val a.2.2.1.kids),a.2.2.2)))))
abbrev qq3:=(Int×Bs×Bs×wU×Bool) ⊕ (Int×Bs×Bs×wU×Bool)
abbrev qvd:=wU->Int->Int->Bs->Bs->wU->Bool->Option qq3
abbrev q76:=Int->(List wU)->Int->Int->Int->Bs->Bs->wU->Bool->Option qq3
def qy9(a:qvd)(fu:Nat)(o:q76):q76:=fun k e f b i m l h g=>bif decide (b<f) then(ai e b).bind fun j=>(a (Tree.node j.val j.kids) (ae (k+1)) i m l (Tree.node h.val h.kids) g).bind fun p=>be p (fun c=>some (.inl (c.1,(c.2.1,(c.2.2.1,((Tree.node c.2.2.2.1.val c.2.2.2.1.kids),c.2.2.2.2)))))) (fun d=>o k e f (ae (b+1)) d.1 d.2.1 d.2.2.1 (Tree.node d.2.2.2.1.val d.2.2.2.1.kids) d.2.2.2.2) else some (.inr (i,(m,(l,((Tree.node h.val h.kids),g)))))
def qkc(a:qvd)(fu:Nat):Nat->q76|0=>fun _ _ _ _ _ _ _ _ _=>none|n+1=>qy9 a fu (qkc a fu n)
def qp3(a:qvd)(fu:Nat)(c:Tree (wV×Bs))(g:Int)(e:Int)(k:Bs)(h:Bs)(f:Tree (wV×Bs))(i:Bool):Option qq3:=(qy3 fu e c.val.1 c.val.2 c.kids g k h (Tree.node f.val f.kids) i).bind fun j=>be j (fun d=>some (.inl (e,(d.1,(d.2.1,((Tree.node d.2.2.1.val d.2.2.1.kids),d.2.2.2)))))) (fun b=>qkc a fu fu g c.kids (c.kids.length:Int) 0 (ae (e+1)) b.1 b.2.1 (Tree.node b.2.2.1.val b.2.2.1.kids) b.2.2.2)
def qec(fu:Nat):Nat->qvd|0=>fun _ _ _ _ _ _ _=>none|n+1=>qp3 (qec fu n) fu
def q8t(b:Tree (wV×Bs))(f:Int)(c:Int)(g:Bs)(a:Bs)(d:Tree (wV×Bs))(e:Bool):Option qq3:=qec fu fu b f c g a d e
abbrev zk8:=(wU×Bs×Bs×wU×Bool) ⊕ (wU×Bs×Bs×wU×Bool)
def qzd(a:Tree (wV×Bs))(g:Bs)(f:Bs)(d:Tree (wV×Bs))(e:Bool):Option zk8:=(q8t fu (Tree.node a.val a.kids) 0 0 g f (Tree.node d.val d.kids) e).bind fun h=>be h (fun c=>some (.inl ((Tree.node a.val a.kids),(c.2.1,(c.2.2.1,((Tree.node c.2.2.2.1.val c.2.2.2.1.kids),c.2.2.2.2)))))) (fun b=>some (.inr ((Tree.node a.val a.kids),(b.2.1,(b.2.2.1,((Tree.node b.2.2.2.1.val b.2.2.2.1.kids),b.2.2.2.2))))))
abbrev zk1:=(wU×Bs×Bs×wU×Bool) ⊕ (wU×Bs×Bs×wU×Bool)
def qy2(a:Tree (wV×Bs))(h:Bs)(g:Bs)(e:Tree (wV×Bs))(f:Bool):Option zk1:=(qao (Tree.node a.val a.kids)).bind fun d=>(qzd fu (Tree.node d.val d.kids) h g (Tree.node e.val e.kids) f).bind fun i=>be i (fun b=>some (.inl ((Tree.node a.val a.kids),(b.2.1,(b.2.2.1,((Tree.node b.2.2.2.1.val b.2.2.2.1.kids),b.2.2.2.2)))))) (fun c=>some (.inr ((Tree.node a.val a.kids),(c.2.1,(c.2.2.1,((Tree.node c.2.2.2.1.val c.2.2.2.1.kids),c.2.2.2.2))))))
abbrev zld:=wU×Bool
def qku(b:Tree (wV×Bs))(e:Bs)(d:Bs):Option zld:=(qpv (Tree.node b.val b.kids)).bind fun c=>(qy2 fu (Tree.node c.val c.kids) e d (Tree.node ([],[]) []) false).bind fun f=>be f (fun a=>some ((Tree.node a.2.2.2.1.val a.2.2.2.1.kids),a.2.2.2.2)) (fun g=>some ((Tree.node ([],[]) []),false))
def qqt(b:Bs)(a:UInt8):Option (Bs×UInt8):=some (b,a)
abbrev zlb:=(Bs×Bool×UInt8) ⊕ ((Bs×Bool) ⊕ ((Bs×Bool) ⊕ (Bs×Bool)))
def qqs(a:Bs):Option zlb:=(qqt [55,98,105,116] 127).bind fun b=>(qqt [56,98,105,116] 255).bind fun c=>(ek fu b.1 a).bind fun f=>bif f then some (.inl (b.1,(true,b.2))) else(ek fu c.1 a).bind fun g=>bif g then some (.inl (c.1,(true,c.2))) else(ek fu [98,97,115,101,54,52] a).bind fun d=>bif d then some (.inr (.inl (([98,97,115,101,54,52]:Bs),true))) else(ek fu [113,117,111,116,101,100,45,112,114,105,110,116,97,98,108,101] a).bind fun e=>bif e then some (.inr (.inr (.inl (([113,117,111,116,101,100,45,112,114,105,110,116,97,98,108,101]:Bs),true)))) else some (.inr (.inr (.inr (([]:Bs),false))))
abbrev zlc:=(Bs×(Int×Int)×UInt8) ⊕ ((Bs×(Int×Int)) ⊕ ((Bs×(Int×Int)) ⊕ (Bs×(Int×Int))))
def qz4(b:Bs)(u:Bs):Option zlc:=(qqs fu u).bind fun v=>be v (fun a=>bif !a.2.1 then(cn 18 (-3)).bind fun q=>some (.inl (a.1,(q,a.2.2))) else bif decide (12000<(b.length:Int)) then(cn 1 (-1)).bind fun r=>some (.inl (a.1,(r,a.2.2))) else(dx).bind fun i=>some (.inl (a.1,(i,a.2.2)))) (fun s=>be s (fun e=>bif !e.2 then(cn 18 (-3)).bind fun k=>some (.inr (.inl (e.1,k))) else bif decide (12000<(b.length:Int)) then(cn 1 (-1)).bind fun m=>some (.inr (.inl (e.1,m))) else(dx).bind fun o=>some (.inr (.inl (e.1,o)))) (fun t=>be t (fun d=>bif !d.2 then(cn 18 (-3)).bind fun p=>some (.inr (.inr (.inl (d.1,p)))) else bif decide (12000<(b.length:Int)) then(cn 1 (-1)).bind fun f=>some (.inr (.inr (.inl (d.1,f)))) else(dx).bind fun h=>some (.inr (.inr (.inl (d.1,h))))) (fun c=>bif !c.2 then(cn 18 (-3)).bind fun j=>some (.inr (.inr (.inr (c.1,j)))) else bif decide (12000<(b.length:Int)) then(cn 1 (-1)).bind fun l=>some (.inr (.inr (.inr (c.1,l)))) else(dx).bind fun g=>some (.inr (.inr (.inr (c.1,g)))))))
def qqr(a:Bs):Option ((Int×Int)×Bs):=bif decide (a.length<=a6) then(dx).bind fun b=>some (b,a) else none
def qdx(b:Bs)(a:UInt8):Option Int:=(ww b a).bind fun c=>some c
abbrev q57:=Int->Int->Bs->Int->Int->(Int×Int)->Bs->Option ((Int×Int)×Bs)
def qoz(fu:Nat)(i:q57):q57:=fun g d e c b f a=>bif decide (b<c) then(ai e b).bind fun j=>bif j==61 then(dx).bind fun l=>some (l,a) else bif decide (0<List.length ([65,66,67,68,69,70,71,72,73,74,75,76,77,78,79,80,81,82,83,84,85,86,87,88,89,90,97,98,99,100,101,102,103,104,105,106,107,108,109,110,111,112,113,114,115,116,117,118,119,120,121,122,48,49,50,51,52,53,54,55,56,57,43,47]:Bs)) then(qdx ([65,66,67,68,69,70,71,72,73,74,75,76,77,78,79,80,81,82,83,84,85,86,87,88,89,90,97,98,99,100,101,102,103,104,105,106,107,108,109,110,111,112,113,114,115,116,117,118,119,120,121,122,48,49,50,51,52,53,54,55,56,57,43,47]:Bs) j).bind fun h=>bif decide (h<0) then i g d e c (ae (b+1)) f a else bif decide (8<=(ae (d+6))) then bif decide (0<=ae ((ae (d+6))-8)) then bif decide (List.length (a++([dc (Int.fdiv (ae (((BitVec.ofInt 64 (ae (g*2 ^ min (6:Int).toNat 64))|||BitVec.ofInt 64 h).toNat:Int))) (2 ^ min (ae ((ae (d+6))-8)).toNat 64))]:Bs))<=a6) then bif decide (0<=ae ((ae (d+6))-8)) then i (ae (((BitVec.ofInt 64 (ae (((BitVec.ofInt 64 (ae (g*2 ^ min (6:Int).toNat 64))|||BitVec.ofInt 64 h).toNat:Int)))&&&BitVec.ofInt 64 (ae ((ae (1*2 ^ min (ae ((ae (d+6))-8)).toNat 64))-1))).toNat:Int))) (ae ((ae (d+6))-8)) e c (ae (b+1)) f (a++([dc (Int.fdiv (ae (((BitVec.ofInt 64 (ae (g*2 ^ min (6:Int).toNat 64))|||BitVec.ofInt 64 h).toNat:Int))) (2 ^ min (ae ((ae (d+6))-8)).toNat 64))]:Bs)) else none else none else none else i (ae (((BitVec.ofInt 64 (ae (g*2 ^ min (6:Int).toNat 64))|||BitVec.ofInt 64 h).toNat:Int))) (ae (d+6)) e c (ae (b+1)) f a else none else(dx).bind fun k=>some (k,a)
def qad(fu:Nat):Nat->q57|0=>fun _ _ _ _ _ _ _=>none|n+1=>qoz fu (qad fu n)
def qoy(a:Bs):Option ((Int×Int)×Bs):=bif decide (24000<(a.length:Int)) then(cn 1 (-1)).bind fun b=>some (b,[]) else qad fu fu 0 0 a (a.length:Int) 0 (0,0) []
def qo4(b:Bs)(a:Bs):Option Bool:=some (b==a)
def qdw(a:Bs)(b:Bs):Option Bool:=bif decide ((b.length:Int)<=(a.length:Int)) then bif decide (0<=ae ((a.length:Int)-(b.length:Int))/\ae ((a.length:Int)-(b.length:Int))<=(a.length:Int)) then(qo4 (List.drop (ae ((a.length:Int)-(b.length:Int))).toNat a) b).bind fun c=>some c else none else some false
def qah(a:Bs)(b:Bs):Option (Bs):=(qdw a b).bind fun c=>bif c then bif decide (0<=ae ((a.length:Int)-(b.length:Int))/\ae ((a.length:Int)-(b.length:Int))<=(a.length:Int)) then some (List.take (ae ((a.length:Int)-(b.length:Int))).toNat a) else none else some a
def q8i(fu:Nat)(d:wi):wi:=fun a b=>bif decide (0<(a.length:Int)) then(ai a (ae ((a.length:Int)-1))).bind fun c=>bif c==b then bif decide (0<=ae ((a.length:Int)-1)/\ae ((a.length:Int)-1)<=(a.length:Int)) then d (List.take (ae ((a.length:Int)-1)).toNat a) b else none else some a else some a
def qx6(fu:Nat):Nat->wi|0=>fun _ _=>none|n+1=>q8i fu (qx6 fu n)
def q8h(b:Bs)(a:UInt8):Option (Bs):=qx6 fu fu b a
def q8g(fu:Nat)(e:qhg):qhg:=fun d b a=>bif decide (b<(d.length:Int)) then(ai d b).bind fun c=>bif decide (128<=c) then bif decide (a.length=256) then bif decide (a.length=a.length)&&decide (a.length=256) then bif decide (a.length=256)&&(true&&true) then some (a,false) else none else none else none else(a[c.toNat]?).bind fun f=>e d (ae (b+1)) (List.set a c.toNat true) else bif decide (a.length=256) then bif decide (a.length=a.length)&&decide (a.length=256) then bif decide (a.length=256)&&(true&&true) then some (a,true) else none else none else none
def qx3(fu:Nat):Nat->qhg|0=>fun _ _ _=>none|n+1=>q8g fu (qx3 fu n)
def qx2(a:Bs):Option ((List Bool)×Bool):=qx3 fu fu a 0 (List.replicate 256 false)
def qo8(b:UInt8)(a:List Bool):Option (Bool×(List Bool)):=(a[b.toNat]?).bind fun c=>some (c,a)
def qx5(fu:Nat)(e:wj):wj:=fun a c=>bif decide (0<(a.length:Int)) then(ai a (ae ((a.length:Int)-1))).bind fun d=>(qo8 d c).bind fun b=>bif !b.1 then some (a,b.2) else bif decide (0<=ae ((a.length:Int)-1)/\ae ((a.length:Int)-1)<=(a.length:Int)) then e (List.take (ae ((a.length:Int)-1)).toNat a) b.2 else none else some (a,c)
def qjf(fu:Nat):Nat->wj|0=>fun _ _=>none|n+1=>qx5 fu (qjf fu n)
def qx4(b:Bs)(a:List Bool):Option (Bs×(List Bool)):=qjf fu fu b a
def qx1:qg6:=fun d b=>(qx2 fu b).bind fun a=>bif decide (a.1.length=List.length (List.replicate 256 false))&&decide (a.1.length=256) then bif a.2 then(qx4 fu d a.1).bind fun c=>some c.1 else none else none
def qo7:qg5:=fun c b a=>bif a then(ai b 0).bind fun d=>(q8h fu c d).bind fun e=>some e else qx1 fu c b
def qx0:qg6:=fun b a=>bif(a.length:Int)==1 then(ai a 0).bind fun c=>qo7 fu b a (decide (c<128)) else qo7 fu b a false
def qo6:qg5:=fun b c a=>bif a then some b else qx0 fu b c
def qo5(b:Bs)(a:Bs):Option (Bs):=bif(b.length:Int)==0 then qo6 fu b a true else qo6 fu b a (a==([]:Bs))
def qp9(fu:Nat)(d:eq):eq:=fun c a b=>bif decide (a<(c.length:Int)) then(ai c a).bind fun h=>bif h==61 then bif decide (0<=ae (a+1)/\ae (a+1)<=(if(c.length:Int)<ae (a+3) then(c.length:Int) else ae (a+3))/\(if(c.length:Int)<ae (a+3) then(c.length:Int) else ae (a+3))<=(c.length:Int)) then(um (List.take ((if(c.length:Int)<ae (a+3) then(c.length:Int) else ae (a+3)).toNat-(ae (a+1)).toNat) (List.drop (ae (a+1)).toNat c))).bind fun e=>bif e.2 then bif decide (List.length (b++([e.1]:Bs))<=a6) then d c (ae ((ae (a+2))+1)) (b++([e.1]:Bs)) else none else(ai c a).bind fun g=>bif decide (List.length (b++([g]:Bs))<=a6) then d c (ae (a+1)) (b++([g]:Bs)) else none else none else(ai c a).bind fun f=>bif decide (List.length (b++([f]:Bs))<=a6) then d c (ae (a+1)) (b++([f]:Bs)) else none else some b
def qar(fu:Nat):Nat->eq|0=>fun _ _ _=>none|n+1=>qp9 fu (qar fu n)
def qzj(a:Bs):Option (Bs):=qar fu fu a 0 []
abbrev qgn:=Bs->(Int×Int)->Bs->Option ((Int×Int)×Bs)
def qkf(h:qgn):Bs->Int->Bs->Bs->(Int×Int)->Bs->Option ((Int×Int)×Bs):=fun f b g e c a=>(qzj fu g).bind fun d=>bif decide (List.length (a++d)<=a6) then bif decide (List.length ((a++d)++e)<=a6) then bif decide (0<=b/\b<=(f.length:Int)) then h (List.drop b.toNat f) c ((a++d)++e) else none else none else none
def qke(g:qgn):Bs->Int->Bs->(Int×Int)->Bs->Option ((Int×Int)×Bs):=fun f b c d e=>bif decide (0<=(c.length:Int)/\(c.length:Int)<=b/\b<=(f.length:Int)) then(qo5 fu c [32,9]).bind fun a=>bif decide (0<List.length ([61]:Bs)) then(qdw a ([61]:Bs)).bind fun h=>bif h then bif decide (0<=ae ((a.length:Int)-1)/\ae ((a.length:Int)-1)<=(a.length:Int)) then qkf fu g f b (List.take (ae ((a.length:Int)-1)).toNat a) [] d e else none else qkf fu g f b a (List.take (b.toNat-(c.length:Int).toNat) (List.drop (c.length:Int).toNat f)) d e else none else none
def qaq(f:qgn):Bs->Int->(Int×Int)->Bs->Option ((Int×Int)×Bs):=fun d a b c=>bif decide (0<=a/\a<=(d.length:Int)) then bif decide (0<List.length ([10]:Bs)) then(qah (List.take a.toNat d) ([10]:Bs)).bind fun e=>bif decide ((e.length:Int)<a) then bif decide (0<List.length ([13]:Bs)) then(qah e ([13]:Bs)).bind fun g=>qke fu f d a g b c else none else qke fu f d a e b c else none else none
def qzi(d:qgn):qgn:=fun c b a=>bif decide (0<(c.length:Int)) then(qdx c 10).bind fun e=>bif(ae (e+1))==0 then qaq fu d c (c.length:Int) b a else qaq fu d c (ae (e+1)) b a else(dx).bind fun f=>some (f,a)
def qkd(fu:Nat):Nat->qgn|0=>fun _ _ _=>none|n+1=>qzi fu (qkd fu n)
def qp8(a:Bs):Option ((Int×Int)×Bs):=bif decide (48000<(a.length:Int)) then(cn 1 (-1)).bind fun b=>some (b,[]) else qkd fu fu a (0,0) []
def qkr(a:Bs)(p:Bs):Option ((Int×Int)×Bs):=(qz4 fu a p).bind fun q=>be q (fun i=>(fv i.2.1).bind fun o=>bif o then some (i.2.1,[]) else(qqr a).bind fun k=>some k) (fun l=>be l (fun j=>(fv j.2).bind fun b=>bif b then some (j.2,[]) else(qoy fu a).bind fun e=>some e) (fun m=>be m (fun g=>(fv g.2).bind fun c=>bif c then some (g.2,[]) else(qp8 fu a).bind fun d=>some d) (fun h=>(fv h.2).bind fun f=>bif f then some (h.2,[]) else none)))
abbrev q59:=wV->Int->Int->wU->Option (Bs)
def qz5(g:q59):q59:=fun c d b a=>bif decide (b<d) then(ai c b).bind fun e=>(ek fu e.1 [67,111,110,116,101,110,116,45,84,114,97,110,115,102,101,114,45,69,110,99,111,100,105,110,103]).bind fun i=>bif !i then g c d (ae (b+1)) (Tree.node a.val a.kids) else(qkr fu a.val.2 e.2).bind fun f=>bif f.1.1 != 18 then some f.2 else g c d (ae (b+1)) (Tree.node a.val a.kids) else(qkr fu a.val.2 [55,98,105,116]).bind fun h=>some h.2
def qks(fu:Nat):Nat->q59|0=>fun _ _ _ _=>none|n+1=>qz5 fu (qks fu n)
def qqv(a:Tree (wV×Bs)):Option (Bs):=qks fu fu a.val.1 (a.val.1.length:Int) 0 (Tree.node a.val a.kids)
def qpa(b:Bs)(a:Int):Option (Bs×Int):=some (b,a)
abbrev zkx:=(Bs×Bool×Int) ⊕ ((Bs×Bool) ⊕ ((Bs×Bool) ⊕ (Bs×Bool)))
def qx7(a:Bs):Option zkx:=(qpa [97,115,99,105,105] 128).bind fun b=>(qpa [108,97,116,105,110,49] 256).bind fun c=>(ek fu b.1 a).bind fun f=>bif f then some (.inl (b.1,(true,b.2))) else(ek fu c.1 a).bind fun g=>bif g then some (.inl (c.1,(true,c.2))) else(ek fu [117,116,102,56] a).bind fun d=>bif d then some (.inr (.inl (([117,116,102,56]:Bs),true))) else(ek fu [117,116,102,49,54,98,101] a).bind fun e=>bif e then some (.inr (.inr (.inl (([117,116,102,49,54,98,101]:Bs),true)))) else some (.inr (.inr (.inr (([]:Bs),false))))
abbrev q6a:=Bs->Int->Int->Int->(List Int)->Option (Int×(List Int))
def qx8(fu:Nat)(g:q6a):q6a:=fun d f b c a=>bif decide (b<f) then(ai d b).bind fun e=>bif decide (c<=(e.toNat:Int)) then bif decide (List.length (a++([65533]:List Int))<=a6) then g d f (ae (b+1)) c (a++([65533]:List Int)) else none else bif decide (List.length (a++([(e.toNat:Int)]:List Int))<=a6) then g d f (ae (b+1)) c (a++([(e.toNat:Int)]:List Int)) else none else some (c,a)
def qjh(fu:Nat):Nat->q6a|0=>fun _ _ _ _ _=>none|n+1=>qx8 fu (qjh fu n)
def qpb(a:Bs)(b:Int):Option (Int×(List Int)):=qjh fu fu a (a.length:Int) 0 b []
def qo9(a:Bs):Option ((List Int)):=bif decide (a.length<=4294967296) then some (fj a) else none
def qji(b:Int)(a:Bs):Option (Int×Bs):=(ai a b).bind fun c=>(ai a (ae (b+1))).bind fun d=>some (IntKind.i32.wrap (((BitVec.ofInt 32 (IntKind.i32.wrap ((c.toNat:Int)*2 ^ min (8:Int).toNat 32))|||BitVec.ofInt 32 (d.toNat:Int)).toNat:Int)),a)
abbrev qgo:=Int->Bs->(List Int)->Option ((List Int))
def qaj(fu:Nat)(e:qgo):Int->Int->Bs->(List Int)->Option ((List Int)):=fun d c b a=>bif decide (55296<=c) then bif decide (c<57344) then bif decide (List.length (a++([65533]:List Int))<=a6) then e (ae (d+2)) b (a++([65533]:List Int)) else none else bif decide (List.length (a++([c]:List Int))<=a6) then e (ae (d+2)) b (a++([c]:List Int)) else none else bif decide (List.length (a++([c]:List Int))<=a6) then e (ae (d+2)) b (a++([c]:List Int)) else none
def qdy(f:qgo):Int->Int->Int->Bool->Bs->(List Int)->Option ((List Int)):=fun d e g c a b=>bif c then qaj fu f (ae (d+2)) (IntKind.i32.wrap ((IntKind.i32.wrap ((IntKind.i32.wrap (65536+(IntKind.i32.wrap ((IntKind.i32.wrap (e-55296))*2 ^ min (10:Int).toNat 32))))+g))-56320)) a b else qaj fu f d e a b
def qai(f:qgo):Int->Int->Bool->Bs->(List Int)->Option ((List Int)):=fun d e g c a=>bif g then(qji (ae (d+2)) c).bind fun b=>bif decide (56320<=b.1) then qdy fu f d e b.1 (decide (b.1<57344)) b.2 a else qdy fu f d e b.1 false b.2 a else qaj fu f d e c a
def qx9(e:qgo):qgo:=fun c d a=>bif decide (c<(d.length:Int)) then bif(ae (c+1))==(d.length:Int) then bif decide (List.length (a++([65533]:List Int))<=a6) then some (a++([65533]:List Int)) else none else(qji c d).bind fun b=>bif decide (55296<=b.1) then bif decide (b.1<56320) then qai fu e c b.1 (decide ((ae (c+3))<(b.2.length:Int))) b.2 a else qai fu e c b.1 false b.2 a else qai fu e c b.1 false b.2 a else some a
def wy(fu:Nat):Nat->qgo|0=>fun _ _ _=>none|n+1=>qx9 fu (wy fu n)
def qpc(a:Bs):Option ((List Int)):=wy fu fu 0 a []
def qjg(l:Bs)(a:Bs):Option (Bs×(Int×Int)):=bif decide (12000<(a.length:Int)) then(cn 1 (-1)).bind fun u=>some (([]:Bs),u) else(qx7 fu l).bind fun q=>be q (fun k=>bif !k.2.1 then(cn 18 (-2)).bind fun p=>some (([]:Bs),p) else(qpb fu a k.2.2).bind fun d=>(dx).bind fun f=>some (cz d.2,f)) (fun m=>be m (fun r=>bif !r.2 then(cn 18 (-2)).bind fun h=>some (([]:Bs),h) else(qo9 a).bind fun i=>(dx).bind fun j=>some (cz i,j)) (fun t=>be t (fun s=>bif !s.2 then(cn 18 (-2)).bind fun b=>some (([]:Bs),b) else(qpc fu a).bind fun c=>(dx).bind fun e=>some (cz c,e)) (fun o=>bif !o.2 then(cn 18 (-2)).bind fun g=>some (([]:Bs),g) else none)))
def xe(a:Tree (wV×Bs)):Option (Bs):=(qeg fu (Tree.node a.val a.kids)).bind fun f=>(rz fu f [99,104,97,114,115,101,116]).bind fun h=>(qqv fu (Tree.node a.val a.kids)).bind fun b=>(qjg fu h.1 b).bind fun c=>bif c.2.1==18 then(qjg fu [117,116,102,56] b).bind fun d=>(xd d.1 [13,10] [10]).bind fun e=>some e else(xd c.1 [13,10] [10]).bind fun g=>some g
def qqz(b:Bs):Option (Bs):=(qax fu b [47,32]).bind fun c=>(wv fu c).bind fun a=>bif a==([98,114]:Bs) then some [10] else bif a==([47,112]:Bs) then some [10] else bif a==([47,100,105,118]:Bs) then some [10] else bif a==([47,108,105]:Bs) then some [10] else some ([]:Bs)
def qki(a:Bs)(c:Bs):Option (Int×Bs):=(wz c).bind fun b=>bif decide (List.length (b++a)<=a6) then some ((a.length:Int),b++a) else none
def xa(a:UInt8)(c:Bs):Option (Bs):=(wz c).bind fun b=>bif decide (List.length (b++([a]:Bs))<=a6) then some (b++([a]:Bs)) else none
def qyi(b:Bs)(a:Bs):Option Bool:=bif decide ((a.length:Int)<=(b.length:Int)) then bif decide (0<=(a.length:Int)/\(a.length:Int)<=(b.length:Int)) then some ((List.take (a.length:Int).toNat b)==a) else none else some false
def qyg(b:Bs)(a:Bs):Option (Bs×Bool):=(qyi b a).bind fun c=>bif !c then some (b,false) else bif decide (0<=(a.length:Int)/\(a.length:Int)<=(b.length:Int)) then some (List.drop (a.length:Int).toNat b,true) else none
def qqe(b:Bs)(a:Bs):Option (Bs×Bool):=(qyg b a).bind fun c=>some c
def qxv(fu:Nat)(d:lx):lx:=fun b c a=>bif decide (a<c) then(ai b a).bind fun f=>bif decide (f<48) then some false else(ai b a).bind fun e=>bif decide (57<e) then some false else d b c (ae (a+1)) else some (!(b==([]:Bs)))
def qje(fu:Nat):Nat->lx|0=>fun _ _ _=>none|n+1=>qxv fu (qje fu n)
def qxu(a:Bs):Option Bool:=qje fu fu a (a.length:Int) 0
abbrev zih:=Bs->Bool->Option (Bs×Bool)
def qa0(fu:Nat):zih:=fun c a=>bif a then some (([]:Bs),false) else(qat c).bind fun b=>some (cg (IntKind.i32.wrap (b)),decide (b<=1114111))
def qqw(a:Bs):Option (Bs×Bool):=bif a==([108,116]:Bs) then some (([60]:Bs),true) else bif a==([103,116]:Bs) then some (([62]:Bs),true) else bif a==([97,109,112]:Bs) then some (([38]:Bs),true) else bif a==([113,117,111,116]:Bs) then some (([34]:Bs),true) else bif a==([110,98,115,112]:Bs) then some (([32]:Bs),true) else(qqe a [35]).bind fun b=>bif !b.2 then qa0 fu b.1 true else(qxu fu b.1).bind fun c=>bif !c then qa0 fu b.1 true else qa0 fu b.1 (decide (6<(b.1.length:Int)))
def qz7(d:eq):eq:=fun b a c=>bif decide (a<(b.length:Int)) then(ai b a).bind fun p=>bif p==60 then bif decide (0<=a/\a<=(b.length:Int)) then(xc (List.drop a.toNat b) 62).bind fun e=>bif decide (0<e) then bif decide (0<=ae (a+1)/\ae (a+1)<=ae (a+e)/\ae (a+e)<=(b.length:Int)) then(qqz fu (List.take ((ae (a+e)).toNat-(ae (a+1)).toNat) (List.drop (ae (a+1)).toNat b))).bind fun r=>(qki r c).bind fun t=>d b (ae ((ae (a+e))+1)) t.2 else none else(ai b a).bind fun q=>(xa q c).bind fun u=>d b (ae (a+1)) u else none else bif p==38 then bif decide (0<=a/\a<=(b.length:Int)) then(xc (List.drop a.toNat b) 59).bind fun f=>bif decide (0<f) then bif decide (0<=ae (a+1)/\ae (a+1)<=ae (a+f)/\ae (a+f)<=(b.length:Int)) then(qqw fu (List.take ((ae (a+f)).toNat-(ae (a+1)).toNat) (List.drop (ae (a+1)).toNat b))).bind fun o=>bif o.2 then(qki o.1 c).bind fun s=>d b (ae ((ae (a+f))+1)) s.2 else(ai b a).bind fun k=>(xa k c).bind fun j=>d b (ae (a+1)) j else none else(ai b a).bind fun m=>(xa m c).bind fun l=>d b (ae (a+1)) l else none else(ai b a).bind fun h=>(xa h c).bind fun g=>d b (ae (a+1)) g else(qox c).bind fun i=>some i
def qef(fu:Nat):Nat->eq|0=>fun _ _ _=>none|n+1=>qz7 fu (qef fu n)
def qqy(a:Bs):Option (Bs):=qef fu fu a 0 []
def qkt(a:Tree (wV×Bs)):Option (Bs×(Int×Int)):=(qj8 fu (Tree.node a.val a.kids)).bind fun e=>(fv e).bind fun k=>bif k then some (([]:Bs),e) else(qku fu (Tree.node a.val a.kids) [116,101,120,116] [112,108,97,105,110]).bind fun d=>bif d.2 then(xe fu (Tree.node d.1.val d.1.kids)).bind fun j=>(dx).bind fun g=>some (j,g) else(qku fu (Tree.node a.val a.kids) [116,101,120,116] [104,116,109,108]).bind fun c=>bif c.2 then(xe fu (Tree.node c.1.val c.1.kids)).bind fun i=>(qqy fu i).bind fun h=>(dx).bind fun f=>some (h,f) else(dx).bind fun b=>some (([]:Bs),b)
abbrev qm8:=wV->Int->Int->wU->Option (Bs×Bool)
def qee(fu:Nat)(e:qm8):qm8:=fun c d b a=>e c d (ae (b+1)) (Tree.node a.val a.kids)
def q85(g:qm8):qm8:=fun c d b a=>bif decide (b<d) then(ai c b).bind fun i=>(ek fu i.1 [67,111,110,116,101,110,116,45,68,105,115,112,111,115,105,116,105,111,110]).bind fun q=>bif !q then qee fu g c d b (Tree.node a.val a.kids) else bif decide (List.length ([120,47]:Bs)+i.2.length<=ap) then(qdz fu (([120,47]:Bs)++i.2)).bind fun o=>be o (fun j=>(fv j.2.2).bind fun m=>bif m then qee fu g c d b (Tree.node a.val a.kids) else(rz fu (j.1,(j.2.1,[])) [102,105,108,101,110,97,109,101]).bind fun l=>bif l.2.1 then some (l.1,true) else qee fu g c d b (Tree.node a.val a.kids)) (fun f=>(fv (f.2.2.1,f.2.2.2.1)).bind fun p=>bif p then qee fu g c d b (Tree.node a.val a.kids) else(rz fu (f.1,(f.2.1,f.2.2.2.2)) [102,105,108,101,110,97,109,101]).bind fun k=>bif k.2.1 then some (k.1,true) else qee fu g c d b (Tree.node a.val a.kids)) else none else(qeg fu (Tree.node a.val a.kids)).bind fun h=>(rz fu h [110,97,109,101]).bind fun e=>some (e.1,e.2.1)
def qz6(fu:Nat):Nat->qm8|0=>fun _ _ _ _=>none|n+1=>q85 fu (qz6 fu n)
def q84(a:Tree (wV×Bs)):Option (Bs×Bool):=qz6 fu fu a.val.1 (a.val.1.length:Int) 0 (Tree.node a.val a.kids)
def q83(f:Int)(e:List (Bs×Bs))(d:Bs)(c:List wU)(a:List Bs):Option ((List Bs)):=(q84 fu (Tree.node (e,d) c)).bind fun b=>bif b.2 then bif(c.length:Int)==0 then bif decide (List.length (a++([b.1]:List Bs))<=a6) then some (a++([b.1]:List Bs)) else none else some a else some a
def q8p(a:Int)(d:List (Bs×Bs))(b:Bs)(f:List wU)(g:Int)(c:List Bs):Option ((List Bs)):=(q83 fu a d b f c).bind fun e=>some e
abbrev quq:=wU->Int->Int->(List Bs)->Option (Int×(List Bs))
abbrev q6d:=Int->(List wU)->Int->Int->Int->(List Bs)->Option (Int×(List Bs))
def q8u(a:quq)(fu:Nat)(j:q6d):q6d:=fun h c e b f d=>bif decide (b<e) then(ai c b).bind fun g=>(a (Tree.node g.val g.kids) (ae (h+1)) f d).bind fun i=>j h c e (ae (b+1)) i.1 i.2 else some (f,d)
def qzc(a:quq)(fu:Nat):Nat->q6d|0=>fun _ _ _ _ _ _=>none|n+1=>q8u a fu (qzc a fu n)
def qza(a:quq)(fu:Nat)(b:Tree (wV×Bs))(d:Int)(c:Int)(f:List Bs):Option (Int×(List Bs)):=(q8p fu c b.val.1 b.val.2 b.kids d f).bind fun e=>qzc a fu fu d b.kids (b.kids.length:Int) 0 (ae (c+1)) e
def qzb(fu:Nat):Nat->quq|0=>fun _ _ _ _=>none|n+1=>qza (qzb fu n) fu
def zkv(d:Tree (wV×Bs))(c:Int)(a:Int)(b:List Bs):Option (Int×(List Bs)):=qzb fu fu d c a b
abbrev zk9:=wU×(List Bs)
def q8v(a:Tree (wV×Bs))(b:List Bs):Option zk9:=(zkv fu (Tree.node a.val a.kids) 0 0 b).bind fun c=>some ((Tree.node a.val a.kids),c.2)
abbrev zk3:=wU×(List Bs)
def q8q(a:Tree (wV×Bs))(d:List Bs):Option zk3:=(qao (Tree.node a.val a.kids)).bind fun b=>(q8v fu (Tree.node b.val b.kids) d).bind fun c=>some ((Tree.node a.val a.kids),c.2)
def q82(a:Tree (wV×Bs)):Option ((Int×Int)×(List Bs)):=(qj8 fu (Tree.node a.val a.kids)).bind fun c=>(fv c).bind fun f=>bif f then some (c,[]) else(qpv (Tree.node a.val a.kids)).bind fun b=>(q8q fu (Tree.node b.val b.kids) []).bind fun e=>(dx).bind fun d=>some (d,e.2)
abbrev q6e:=(List Bs)->(List Bs)->Int->Option Bool
def q8b(fu:Nat)(e:q6e):q6e:=fun b c a=>bif decide (a<(b.length:Int)) then(ai b a).bind fun d=>(ai c a).bind fun f=>bif !(d==f) then some false else e b c (ae (a+1)) else some true
def qwg(fu:Nat):Nat->q6e|0=>fun _ _ _=>none|n+1=>q8b fu (qwg fu n)
def q8a(b:List Bs)(a:List Bs):Option Bool:=bif(b.length:Int) != (a.length:Int) then some false else qwg fu fu b a 0
def qxp:Option Bool:=bif decide (0<List.length ([97]:Bs)) then(qkt fu (Tree.node ([],([97]:Bs)) [])).bind fun a=>(q82 fu (Tree.node (([(([67,111,110,116,101,110,116,45,68,105,115,112,111,115,105,116,105,111,110]:Bs),([97,116,116,97,99,104,109,101,110,116,59,32,102,105,108,101,110,97,109,101,61,97,46,116,120,116]:Bs))]:List (Bs×Bs)),[]) [])).bind fun b=>bif a.2.1==0 then bif b.1.1==0 then bif a.1==([97]:Bs) then(q8a fu b.2 ([([97,46,116,120,116]:Bs)]:List Bs)).bind fun c=>some c else some false else some false else some false else none
abbrev qq0:=(List wU)×(List Int)
abbrev qur:=wU->Int->Option qq0
abbrev q6f:=Int->Int->wU->(List wU)->(List Int)->Option qq0
def qw7(b:qur)(fu:Nat)(i:q6f):q6f:=fun h f a d c=>bif decide (f<(a.kids.length:Int)) then(ai a.kids f).bind fun g=>(b (Tree.node g.val g.kids) (ae (h+1))).bind fun e=>bif decide (List.length (d++e.1)<=a6) then bif decide (List.length (c++e.2)<=a6) then i h (ae (f+1)) (Tree.node a.val a.kids) (d++e.1) (c++e.2) else none else none else some (d,c)
def qiz(a:qur)(fu:Nat):Nat->q6f|0=>fun _ _ _ _ _=>none|n+1=>qw7 a fu (qiz a fu n)
def qoo(a:qur)(fu:Nat)(b:Tree (wV×Bs))(c:Int):Option qq0:=qiz a fu fu c 0 (Tree.node b.val b.kids) ([(Tree.node b.val b.kids)]:List wU) ([c]:List Int)
def qdl(fu:Nat):Nat->qur|0=>fun _ _=>none|n+1=>qoo (qdl fu n) fu
def qon(b:Tree (wV×Bs))(a:Int):Option qq0:=qdl fu fu b a
def im(b:Int)(a:Int):Option ((Int×Int)):=some (b,a)
def ej(a:Int)(c:Int)(b:Int):Option Bool:=bif decide (c<=a) then some (decide (a<=b)) else some false
abbrev wd:=Bs->Int->Option Bool
def qvk(fu:Nat)(d:wd):wd:=fun a b=>bif decide (b<(a.length:Int)) then(ai a b).bind fun f=>(ej (f.toNat:Int) 33 126).bind fun g=>bif !g then some false else(ai a b).bind fun e=>bif e==58 then some false else d a (ae (b+1)) else(ej (a.length:Int) 1 60).bind fun c=>some c
def qhj(fu:Nat):Nat->wd|0=>fun _ _=>none|n+1=>qvk fu (qhj fu n)
def qns(a:Bs):Option Bool:=qhj fu fu a 0
abbrev q6i:=UInt8->Bs->Int->Option Bool
def qn9(fu:Nat)(d:q6i):q6i:=fun c b a=>bif decide (a<(b.length:Int)) then(ai b a).bind fun e=>bif e==c then some true else d c b (ae (a+1)) else some false
def qc7(fu:Nat):Nat->q6i|0=>fun _ _ _=>none|n+1=>qn9 fu (qc7 fu n)
def wo(b:UInt8)(a:Bs):Option Bool:=qc7 fu fu b a 0
def lz(a:UInt8):Option Bool:=bif a==32 then some true else some (a==9)
def qwl(fu:Nat)(b:ub):ub:=fun a=>bif decide (0<=(1:Int)/\1<=(a.length:Int)) then b (List.drop (1:Int).toNat a) else none
def qwk(fu:Nat)(b:ub):ub:=fun a=>bif decide (0<(a.length:Int)) then(ai a (ae ((a.length:Int)-1))).bind fun c=>(lz c).bind fun d=>bif d then bif decide (0<=ae ((a.length:Int)-1)/\ae ((a.length:Int)-1)<=(a.length:Int)) then b (List.take (ae ((a.length:Int)-1)).toNat a) else none else some a else some a
def qif(fu:Nat):Nat->ub|0=>fun _=>none|n+1=>qwk fu (qif fu n)
def qie(c:ub):zj2:=fun b a=>bif a then qwl fu c b else qif fu fu b
def qwj(b:ub):ub:=fun a=>bif decide (0<(a.length:Int)) then(ai a 0).bind fun c=>(lz c).bind fun d=>qie fu b a d else qie fu b a false
def qid(fu:Nat):Nat->ub|0=>fun _=>none|n+1=>qwj fu (qid fu n)
def qwi(a:Bs):Option (Bs):=qid fu fu a
def qvj(d:qci):qci:=fun a b=>bif decide (b<(a.length:Int)) then(ai a b).bind fun e=>(wo fu e [13,10,0]).bind fun f=>bif f then some 11 else d a (ae (b+1)) else(qwi fu a).bind fun c=>bif !(c==a) then some 11 else some 0
def qcs(fu:Nat):Nat->qci|0=>fun _ _=>none|n+1=>qvj fu (qcs fu n)
def qhi(b:Bs)(a:Bs):Option Int:=(qns fu b).bind fun c=>bif !c then some 10 else bif decide (4000<(a.length:Int)) then some 1 else qcs fu fu a 0
abbrev qgr:=Bs->Int->(List Int)->Option ((List Bs))
abbrev qgs:=Bs->Int->Int->Int->(List Int)->(List Bs)->Option ((List Bs))
abbrev qch:=Bs->Int->(List Int)->(List Bs)->Option ((List Bs))
def qn0(fu:Nat)(d:qgr):qgr:=fun b c a=>d b (ae (c+1)) a
def qnz(e:qgr):Bs->Int->Bool->(List Int)->Option ((List Bs)):=fun d b c a=>bif c then bif decide (List.length (a++([b]:List Int))<=a6) then qn0 fu e d b (a++([b]:List Int)) else none else qn0 fu e d b a
def qn1(fu:Nat)(h:qch)(f:qgs):qgs:=fun e g a d b c=>f e g a (ae (d+1)) b c
def qhm(j:qch)(h:qgs):Bs->Int->Int->Int->Int->Bool->(List Int)->(List Bs)->Option ((List Bs)):=fun g i d c e f a b=>bif f then qn1 fu j h g i e c a b else qn1 fu j h g i d c a b
def qvn(h:qch)(i:qgs):qgs:=fun f e a d b c=>bif decide (d<(b.length:Int)) then bif decide (0<=d/\d.toNat<b.length) then(b[d.toNat]?).bind fun g=>bif decide (e<g) then bif decide ((ae (g-e))<=78) then qhm fu h i f e a d g true b c else qhm fu h i f e a d g (decide (a<0)) b c else qhm fu h i f e a d g false b c else none else bif decide (a<0) then bif decide (0<=e/\e<=(f.length:Int)) then bif decide (List.length (c++([List.drop e.toNat f]:List Bs))<=a6) then some (c++([List.drop e.toNat f]:List Bs)) else none else none else bif decide (0<=e/\e<=a/\a<=(f.length:Int)) then bif decide (List.length (c++([List.take (a.toNat-e.toNat) (List.drop e.toNat f)]:List Bs))<=a6) then h f a b (c++([List.take (a.toNat-e.toNat) (List.drop e.toNat f)]:List Bs)) else none else none
def zj(fu:Nat)(a:qch):Nat->qgs|0=>fun _ _ _ _ _ _=>none|n+1=>qvn fu a (zj fu a n)
def qny(e:qch):qch:=fun c b d a=>bif decide (78<(ae ((c.length:Int)-b))) then zj fu e fu c b (-1) 0 d a else bif decide (0<=b/\b<=(c.length:Int)) then bif decide (List.length (a++([List.drop b.toNat c]:List Bs))<=a6) then some (a++([List.drop b.toNat c]:List Bs)) else none else none
def ue(fu:Nat):Nat->qch|0=>fun _ _ _ _=>none|n+1=>qny fu (ue fu n)
def qnx(d:qgr):qgr:=fun b c a=>bif decide (c<(b.length:Int)) then(ai b c).bind fun g=>(lz g).bind fun h=>bif h then(ai b (ae (c-1))).bind fun e=>(lz e).bind fun f=>qnz fu d b c (!f) a else qnz fu d b c false a else ue fu fu b 0 a []
def qct(fu:Nat):Nat->qgr|0=>fun _ _ _=>none|n+1=>qnx fu (qct fu n)
def qnw(a:Bs)(b:Bs):Option ((List Bs)):=bif decide (a.length+List.length ([58,32]:Bs)<=ap) then bif decide (List.length (a++[58,32])+b.length<=ap) then qct fu fu ((a++[58,32])++b) (ae ((a.length:Int)+3)) [] else none else none
abbrev q6j:=Int->(Int×Int)->(List Bs)->Option ((Int×Int))
def qvm(fu:Nat)(e:q6j):q6j:=fun b c a=>bif decide (b<(a.length:Int)) then bif decide (0<=b/\b.toNat<a.length) then(a[b.toNat]?).bind fun d=>bif decide (998<(d.length:Int)) then(im 1 b).bind fun f=>some f else e (ae (b+1)) c a else none else some (0,0)
def qhl(fu:Nat):Nat->q6j|0=>fun _ _ _=>none|n+1=>qvm fu (qhl fu n)
def qnv(a:Bs)(b:Bs):Option ((Int×Int)):=(qhi fu a b).bind fun d=>bif d != 0 then(qhi fu a b).bind fun f=>(im f (-1)).bind fun c=>some c else(qnw fu a b).bind fun e=>qhl fu fu 0 (0,0) e
abbrev q6k:=wV->Int->(Int×Int)->Option ((Int×Int))
def qvl(g:q6k):q6k:=fun b a c=>bif decide (a<(b.length:Int)) then(ai b a).bind fun e=>(ai b a).bind fun h=>(qnv fu e.1 h.2).bind fun d=>bif d.1 != 0 then(im d.1 a).bind fun f=>some f else g b (ae (a+1)) c else some (0,0)
def qhk(fu:Nat):Nat->q6k|0=>fun _ _ _=>none|n+1=>qvl fu (qhk fu n)
def qnt(a:List (Bs×Bs)):Option ((Int×Int)):=bif decide (60<(a.length:Int)) then(im 2 (-1)).bind fun b=>some b else qhk fu fu a 0 (0,0)
abbrev q6l:=Int->Bs->Option (Bs)
def qcz(fu:Nat)(c:q6l):q6l:=fun b a=>bif decide (b<(a.length:Int)) then bif decide (0<=b/\b.toNat<a.length) then(a[b.toNat]?).bind fun d=>(ej (d.toNat:Int) 65 90).bind fun f=>bif f then bif decide (0<=b/\b.toNat<a.length) then(a[b.toNat]?).bind fun e=>bif decide (0<=b/\b.toNat<a.length) then(a[b.toNat]?).bind fun g=>c (ae (b+1)) (List.set a b.toNat (e+32)) else none else none else c (ae (b+1)) a else none else some a
def uh(fu:Nat):Nat->q6l|0=>fun _ _=>none|n+1=>qcz fu (uh fu n)
def pp(a:Bs):Option (Bs):=bif decide (a.length<=maxLen) then uh fu fu 0 a else none
def ei(c:Bs)(b:Bs):Option Bool:=(pp fu c).bind fun d=>(pp fu b).bind fun a=>some (d==a)
abbrev q6p:=wV->Bs->Int->(List Bs)->Option ((List Bs))
def qwn(f:q6p):q6p:=fun c d b a=>bif decide (b<(c.length:Int)) then(ai c b).bind fun g=>(ei fu g.1 d).bind fun h=>bif h then(ai c b).bind fun e=>bif decide (List.length (a++([e.2]:List Bs))<=a6) then f c d (ae (b+1)) (a++([e.2]:List Bs)) else none else f c d (ae (b+1)) a else some a
def qdf(fu:Nat):Nat->q6p|0=>fun _ _ _ _=>none|n+1=>qwn fu (qdf fu n)
def qii(b:List (Bs×Bs))(a:Bs):Option ((List Bs)):=qdf fu fu b a 0 []
def qwt(fu:Nat)(c:qci):qci:=fun b a=>bif decide (a<(b.length:Int)) then(ai b a).bind fun d=>(lz d).bind fun e=>bif e then c b (ae (a+1)) else some a else some a
def qiq(fu:Nat):Nat->qci|0=>fun _ _=>none|n+1=>qwt fu (qiq fu n)
def ry(b:Bs)(a:Int):Option Int:=qiq fu fu b a
def qdd(a:UInt8):Option Bool:=(ej (a.toNat:Int) 33 126).bind fun b=>bif b then(wo fu a [40,41,60,62,64,44,59,58,92,34,47,91,93,63,61,42,37,39]).bind fun c=>some (!c) else some false
abbrev q6r:=Bs->Int->Bs->Option Int
def qws(d:q6r):q6r:=fun b a c=>bif decide (a<(b.length:Int)) then(ai b a).bind fun g=>(qdd fu g).bind fun h=>bif h then d b (ae (a+1)) c else(ai b a).bind fun f=>(wo fu f c).bind fun e=>bif e then d b (ae (a+1)) c else some a else some a
def qip(fu:Nat):Nat->q6r|0=>fun _ _ _=>none|n+1=>qws fu (qip fu n)
def qdh(c:Bs)(b:Int)(a:Bs):Option Int:=qip fu fu c b a
abbrev wg:=Bs->Bs->Int->Option Int
def qnu(fu:Nat)(d:wg):wg:=fun c b a=>bif decide ((ae (a+(b.length:Int)))<=(c.length:Int)) then bif decide (0<=a/\a<=ae (a+(b.length:Int))/\ae (a+(b.length:Int))<=(c.length:Int)) then bif(List.take ((ae (a+(b.length:Int))).toNat-a.toNat) (List.drop a.toNat c))==b then some a else d c b (ae (a+1)) else none else some (-1)
def zi(fu:Nat):Nat->wg|0=>fun _ _ _=>none|n+1=>qnu fu (zi fu n)
def zh(c:Bs)(b:Bs)(a:Int):Option Int:=zi fu fu c b a
abbrev qgu:=Bs->Int->Int->Int->Int->Option Int
def qwq(fu:Nat)(e:qgu):qgu:=fun b c g d a=>(ai b a).bind fun f=>e b c g (ae ((ae (10*d))+((f-48).toNat:Int))) (ae (a+1))
def qim(e:qgu):Bs->Int->Int->Int->Int->Bool->Option Int:=fun g c f d b a=>bif a then some (-1) else qwq fu e g c f d b
def qwp(f:qgu):qgu:=fun b c e d a=>bif decide (a<(b.length:Int)) then(ai b a).bind fun i=>(ej (i.toNat:Int) 48 57).bind fun h=>bif !h then qim fu f b c e d a true else qim fu f b c e d a (decide (9<=a)) else(ej (b.length:Int) c e).bind fun g=>bif !g then some (-1) else some d
def qil(fu:Nat):Nat->qgu|0=>fun _ _ _ _ _=>none|n+1=>qwp fu (qil fu n)
def qik(c:Bs)(b:Int)(a:Int):Option Int:=qil fu fu c b a 0 0
abbrev q6s:=Int->Option (Bs)
def qof(b:q6s)(fu:Nat)(a:Int):Option (Bs):=bif decide (a<10) then bif decide (0<=a/\a<=IntKind.u64.wrap (a+1)/\IntKind.u64.wrap (a+1)<=(List.length ([48,49,50,51,52,53,54,55,56,57]:Bs):Int)) then some (List.take ((IntKind.u64.wrap (a+1)).toNat-a.toNat) (List.drop a.toNat [48,49,50,51,52,53,54,55,56,57])) else none else(b (IntKind.u64.wrap (Int.tdiv a 10))).bind fun c=>bif decide (0<=Int.tmod a 10/\Int.tmod a 10<=IntKind.u64.wrap ((Int.tmod a 10)+1)/\IntKind.u64.wrap ((Int.tmod a 10)+1)<=(List.length ([48,49,50,51,52,53,54,55,56,57]:Bs):Int)) then bif decide (c.length+List.length (List.take ((IntKind.u64.wrap ((Int.tmod a 10)+1)).toNat-(Int.tmod a 10).toNat) (List.drop (Int.tmod a 10).toNat ([48,49,50,51,52,53,54,55,56,57]:Bs)))<=ap) then some (c++(List.take ((IntKind.u64.wrap ((Int.tmod a 10)+1)).toNat-(Int.tmod a 10).toNat) (List.drop (Int.tmod a 10).toNat [48,49,50,51,52,53,54,55,56,57]))) else none else none
def qij(fu:Nat):Nat->q6s|0=>fun _=>none|n+1=>qof (qij fu n) fu
def qwo(a:Int):Option (Bs):=qij fu fu a
def wn(a:Int):Option (Bs):=bif decide (a<0) then(qwo fu (IntKind.u64.wrap ((IntKind.u64.wrap (ae (0-(ae (a+1)))))+1))).bind fun b=>bif decide (List.length ([45]:Bs)+b.length<=ap) then some (([45]:Bs)++b) else none else(qwo fu (IntKind.u64.wrap (a))).bind fun c=>some c
abbrev q0b:=(Bs×Bs×Int×Bool)×Bool
def qdg:Bs->(Bs×Bs×Int×Bool)->(Bs×Bs×Int×Bool)->Option q0b:=fun c d a=>(qik fu c 1 9).bind fun b=>bif !(a.1==([]:Bs)) then bif decide (0<=b) then(wn fu b).bind fun e=>some ((a.1,(a.2.1,(b,a.2.2.2))),e==c) else some ((a.1,(a.2.1,(b,a.2.2.2))),false) else some ((a.1,(a.2.1,(b,a.2.2.2))),false)
def qin:Bs->Bool->(Bs×Bs×Int×Bool)->(Bs×Bs×Int×Bool)->Option q0b:=fun b d c a=>bif d then bif decide (0<=ae ((b.length:Int)-1)/\ae ((b.length:Int)-1)<=(b.length:Int)) then qdg fu (List.take (ae ((b.length:Int)-1)).toNat b) c (a.1,(a.2.1,(a.2.2.1,true))) else none else qdg fu b c a
def qog(a:Bs)(c:Bs):Option q0b:=(zh fu a [42] 0).bind fun b=>bif decide (b<0) then some ((a,(c,((-1),false))),!(a==([]:Bs))) else bif decide (0<=ae (b+1)/\ae (b+1)<=(a.length:Int)) then bif decide (0<=b/\b<=(a.length:Int)) then bif decide (0<(List.length (List.drop (ae (b+1)).toNat a):Int)) then(ai (List.drop (ae (b+1)).toNat a) (ae ((List.length (List.drop (ae (b+1)).toNat a):Int)-1))).bind fun d=>qin fu (List.drop (ae (b+1)).toNat a) (d==42) (([]:Bs),(([]:Bs),(0,false))) (List.take b.toNat a,(c,((-1),false))) else qin fu (List.drop (ae (b+1)).toNat a) false (([]:Bs),(([]:Bs),(0,false))) (List.take b.toNat a,(c,((-1),false))) else none else none
abbrev q6v:=Bs->Int->Int->Int->Int->Int->Option (Int×Int)
abbrev zi1:=Bs->Int->Int->Int->Int->Option (Int×Int)
def qod(fu:Nat)(j:q6v):q6v:=fun g d c b e a=>bif decide (a<c) then(ai g (ae (d+a))).bind fun f=>(ej (f.toNat:Int) 128 191).bind fun i=>bif !i then some ((-1),1) else j g d c (ae ((ae ((ae (64*b))+(f.toNat:Int)))-128)) e (ae (a+1)) else bif decide (b<e) then some ((-1),1) else bif decide (1114111<b) then some ((-1),1) else(ej b 55296 57343).bind fun h=>bif h then some ((-1),1) else some (b,c)
def uj(fu:Nat):Nat->q6v|0=>fun _ _ _ _ _ _=>none|n+1=>qod fu (uj fu n)
def q79:zi1:=fun e b c a d=>uj fu fu e b c a d 1
def qia:Bs->Int->Int->Int->Int->Bool->Option (Int×Int):=fun f c d b e a=>bif a then some ((-1),1) else q79 fu f c d b e
def ui:zi1:=fun c b a d e=>bif a==0 then qia fu c b a d e true else qia fu c b a d e (decide ((c.length:Int)<(ae (b+a))))
def qda(b:Bs)(c:Int):Option (Int×Int):=(ai b c).bind fun a=>bif decide ((a.toNat:Int)<128) then some ((a.toNat:Int),1) else(ej (a.toNat:Int) 192 223).bind fun f=>bif f then ui fu b c 2 (ae ((a.toNat:Int)-192)) 128 else(ej (a.toNat:Int) 224 239).bind fun d=>bif d then ui fu b c 3 (ae ((a.toNat:Int)-224)) 2048 else(ej (a.toNat:Int) 240 247).bind fun e=>bif e then ui fu b c 4 (ae ((a.toNat:Int)-240)) 65536 else ui fu b c 0 0 0
def qde:q6s:=fun a=>bif decide (a<128) then some ([dc a]:Bs) else bif decide (a<2048) then some ([dc (ae (192+(ae (Int.tdiv a 64)))),dc (ae (128+(Int.tmod a 64)))]:Bs) else bif decide (a<65536) then some ([dc (ae (224+(ae (Int.tdiv a 4096)))),dc (ae (128+(Int.tmod (ae (Int.tdiv a 64)) 64))),dc (ae (128+(Int.tmod a 64)))]:Bs) else some ([dc (ae (240+(ae (Int.tdiv a 262144)))),dc (ae (128+(Int.tmod (ae (Int.tdiv a 4096)) 64))),dc (ae (128+(Int.tmod (ae (Int.tdiv a 64)) 64))),dc (ae (128+(Int.tmod a 64)))]:Bs)
def qoe:Int->Bool->Option (Bs):=fun b a=>bif a then qde 65533 else qde b
def l7(a:Int):Option (Bs):=(ej a 0 1114111).bind fun b=>bif !b then qoe a true else(ej a 55296 57343).bind fun c=>qoe a c
abbrev q6y:=Bs->Bs->Bool->Int->Option (Bs)
def qwr(e:q6y):q6y:=fun c d g a=>bif decide (a<(c.length:Int)) then(qda fu c a).bind fun b=>bif decide (0<=b.1) then bif decide (0<=a/\a<=ae (a+b.2)/\ae (a+b.2)<=(c.length:Int)) then bif decide (d.length+List.length (List.take ((ae (a+b.2)).toNat-a.toNat) (List.drop a.toNat c))<=ap) then e c (d++(List.take ((ae (a+b.2)).toNat-a.toNat) (List.drop a.toNat c))) (decide (b.1<0)) (ae (a+b.2)) else none else none else bif !g then(l7 (-1)).bind fun f=>bif decide (d.length+f.length<=ap) then e c (d++f) (decide (b.1<0)) (ae (a+b.2)) else none else e c d (decide (b.1<0)) (ae (a+b.2)) else some d
def qio(fu:Nat):Nat->q6y|0=>fun _ _ _ _=>none|n+1=>qwr fu (qio fu n)
def qoh(a:Bs):Option (Bs):=qio fu fu a [] false 0
abbrev qgv:=UInt8->Int->Option Int
def qcu(c:qgv):qgv:=fun b a=>bif decide (a<16) then(ai [48,49,50,51,52,53,54,55,56,57,65,66,67,68,69,70] a).bind fun e=>bif e==b then some a else(pp fu [48,49,50,51,52,53,54,55,56,57,65,66,67,68,69,70]).bind fun f=>(ai f a).bind fun d=>bif d==b then some a else c b (ae (a+1)) else some (-1)
def uf(fu:Nat):Nat->qgv|0=>fun _ _=>none|n+1=>qcu fu (uf fu n)
def ni(a:UInt8):Option Int:=uf fu fu a 0
abbrev q6z:=Bs->Bs->Int->Bool->Option (Bs)
abbrev fb:=Bs->Bs->Int->Option (Bs)
def wq(f:fb):q6z:=fun b c a d=>bif d then(ai b (ae (a+1))).bind fun i=>(ni fu i).bind fun g=>(ai b (ae (a+2))).bind fun h=>(ni fu h).bind fun e=>bif decide (c.length+List.length ([dc (ae ((ae (16*g))+e))]:Bs)<=ap) then f b (c++([dc (ae ((ae (16*g))+e))]:Bs)) (ae ((ae (a+2))+1)) else none else bif decide (0<=a/\a<=ae (a+1)/\ae (a+1)<=(b.length:Int)) then bif decide (c.length+List.length (List.take ((ae (a+1)).toNat-a.toNat) (List.drop a.toNat b))<=ap) then f b (c++(List.take ((ae (a+1)).toNat-a.toNat) (List.drop a.toNat b))) (ae (a+1)) else none else none
def qwv(d:fb):fb:=fun b c a=>bif decide (a<(b.length:Int)) then(ai b a).bind fun i=>bif i==37 then bif decide ((ae (a+2))<(b.length:Int)) then(ai b (ae (a+1))).bind fun h=>(ni fu h).bind fun g=>bif decide (0<=g) then(ai b (ae (a+2))).bind fun f=>(ni fu f).bind fun e=>wq fu d b c a (decide (0<=e)) else wq fu d b c a false else wq fu d b c a false else wq fu d b c a false else some c
def qdj(fu:Nat):Nat->fb|0=>fun _ _ _=>none|n+1=>qwv fu (qdj fu n)
def qoj(a:Bs):Option (Bs):=qdj fu fu a [] 0
abbrev f9:=(Bs×Bs×wV)×Bool
abbrev t8:=Bs->Int->Bs->Bs->Bs->Bs->Bs->Bs->(List (Bs×Bs×Int×Bool))->Option f9
abbrev q60:=Bs->Int->Bs->Bs->Bool->Bs->Bs->Bs->Bs->(List (Bs×Bs×Int×Bool))->Option f9
abbrev qnf:=Int->Bool->Int->Bs->Bs->Bs->Bs->(List (Bs×Bs×Int×Bool))->wV->Option f9
abbrev qne:=Int->Bool->Int->Int->Bs->Bs->Bs->Bs->(List (Bs×Bs×Int×Bool))->wV->Option f9
abbrev qgw:=Int->Int->Bs->Int->Int->Int->Bs->Bs->Bs->Bs->(List (Bs×Bs×Int×Bool))->wV->Option f9
abbrev pi:=Int->Int->Bs->Int->Bs->Bs->Bs->Bs->(List (Bs×Bs×Int×Bool))->wV->Option f9
abbrev zi7:=Int->Int->Bs->Int->Bs->Bs->Bs->Bs->Bs->(List (Bs×Bs×Int×Bool))->wV->Option f9
abbrev ix:=Int->Bs->Bs->Bs->Bs->(List (Bs×Bs×Int×Bool))->wV->Option f9
abbrev oq:=Bs->Int->Bs->Bs->Bs->Bs->(List (Bs×Bs×Int×Bool))->Option f9
def qhy(fu:Nat)(k:oq)(j:t8):t8:=fun f a i h b c d e g=>bif decide (0<=a/\a<=ae (a+1)/\ae (a+1)<=(f.length:Int)) then bif decide (h.length+List.length (List.take ((ae (a+1)).toNat-a.toNat) (List.drop a.toNat f))<=ap) then j f (ae (a+1)) i (h++(List.take ((ae (a+1)).toNat-a.toNat) (List.drop a.toNat f))) b c d e g else none else none
def qc3(k:oq)(h:t8):q60:=fun l i g j f a b c d e=>bif f then qhy fu k h l (ae (i+1)) g j a b c d e else qhy fu k h l i g j a b c d e
def qv5(k:oq)(i:t8):t8:=fun g f h j a b c d e=>(ai g f).bind fun l=>bif l==92 then qc3 fu k i g f h j (decide ((ae (f+1))<(g.length:Int))) a b c d e else qc3 fu k i g f h j false a b c d e
def zu(l:oq):t8:=fun g i h j a b c d e=>(qog fu h j).bind fun f=>bif !f.2 then some ((([]:Bs),(([]:Bs),[])),false) else bif decide (List.length (e++([f.1]:List (Bs×Bs×Int×Bool)))<=a6) then(ry fu g i).bind fun k=>l g k a b c d (e++([f.1]:List (Bs×Bs×Int×Bool))) else none
def qc2(k:oq)(l:t8):q60:=fun h g i j f a b c d e=>bif f then qv5 fu k l h g i j a b c d e else bif g==(h.length:Int) then some ((([]:Bs),(([]:Bs),[])),false) else zu fu k h (ae (g+1)) i j a b c d e
def qn7(k:oq)(i:t8):t8:=fun g f h j a b c d e=>bif decide (f<(g.length:Int)) then(ai g f).bind fun l=>qc2 fu k i g f h j (l != 34) a b c d e else qc2 fu k i g f h j false a b c d e
def wm(fu:Nat)(a:oq):Nat->t8|0=>fun _ _ _ _ _ _ _ _ _=>none|n+1=>qn7 fu a (wm fu a n)
def qh3(k:oq):q60:=fun h e j l g a b c d f=>bif g then wm fu k fu h (ae (e+1)) j l a b c d f else(qdh fu h e [37,39,42]).bind fun i=>bif decide (0<=e/\e<=i/\i<=(h.length:Int)) then zu fu k h i j (List.take (i.toNat-e.toNat) (List.drop e.toNat h)) a b c d f else none
def qv7(i:oq):Bs->Int->Bs->Bs->Bs->Bs->Bs->(List (Bs×Bs×Int×Bool))->Option f9:=fun f j h a b c d e=>(ry fu f (ae (j+1))).bind fun g=>bif decide (g<(f.length:Int)) then(ai f g).bind fun k=>qh3 fu i f g h [] (k==34) a b c d e else qh3 fu i f g h [] false a b c d e
def qh1(i:oq):Bs->Int->Bs->Bool->Bs->Bs->Bs->Bs->(List (Bs×Bs×Int×Bool))->Option f9:=fun j h g e a b c d f=>bif e then some ((([]:Bs),(([]:Bs),[])),false) else qv7 fu i j h g a b c d f
def qhx(fu:Nat)(k:ix)(j:qnf):qnf:=fun f h i a b c d g e=>j f h (ae (i+1)) a b c d g e
def qhw(fu:Nat)(l:ix)(k:qne):qne:=fun g j i f a b c d h e=>k g j i (ae (f+1)) a b c d h e
def qc5(fu:Nat)(p:ix)(o:pi)(m:qgw):qgw:=fun g k h i l e a b c d j f=>m g k h i l (ae (e+1)) a b c d j f
def qhz(q:ix)(i:pi)(o:qgw):Int->Int->Bs->Int->Int->Int->Bool->Bs->Bs->Bs->Bs->(List (Bs×Bs×Int×Bool))->wV->Option f9:=fun g m j k p e h a b c d l f=>bif h then qc5 fu q i o g m j k e e a b c d l f else qc5 fu q i o g m j k p e a b c d l f
def qv6(fu:Nat)(l:ix)(g:pi):pi:=fun f k h i a b c d j e=>g f k h (ae (i+1)) a b c d j e
def qc6(m:ix)(i:pi):zi7:=fun h l e j f a b c d k g=>bif decide (e.length+f.length<=ap) then qv6 fu m i h l (e++f) j a b c d k g else none
def qh0(o:ix)(g:pi):zi7:=fun f k h i l a b c d j e=>(qoj fu l).bind fun m=>qc6 fu o g f k h i m a b c d j e
def rt(o:ix)(h:pi):Int->Int->Bs->Int->Bs->Bool->Bs->Bs->Bs->Bs->(List (Bs×Bs×Int×Bool))->wV->Option f9:=fun g m j k e i a b c d l f=>bif i then bif decide (0<=(6:Int)/\6<=(e.length:Int)) then qh0 fu o h g m j k (List.drop (6:Int).toNat e) a b c d l f else none else qh0 fu o h g m j k e a b c d l f
def zq(p:ix)(j:pi)(q:qgw):qgw:=fun f k m i h g b c d e a l=>bif decide (g<(a.length:Int)) then bif decide (0<=f/\f.toNat<a.length) then(a[f.toNat]?).bind fun v=>bif decide (0<=g/\g.toNat<a.length) then(a[g.toNat]?).bind fun t=>(ei fu v.1 t.1).bind fun s=>bif s then bif decide (0<=g/\g.toNat<a.length) then(a[g.toNat]?).bind fun u=>qhz fu p j q f k m i h g (u.2.2.1==i) b c d e a l else none else qhz fu p j q f k m i h g false b c d e a l else none else none else bif decide (h<0) then some ((([]:Bs),(([]:Bs),[])),false) else bif decide (0<=h/\h.toNat<a.length) then(a[h.toNat]?).bind fun o=>bif decide (0<=h/\h.toNat<a.length) then(a[h.toNat]?).bind fun r=>bif r.2.2.2 then bif i==0 then bif decide (6<=(o.2.1.length:Int)) then bif decide (0<=(6:Int)/\6<=(o.2.1.length:Int)) then(pp fu (List.take (6:Int).toNat o.2.1)).bind fun w=>rt fu p j f k m i o.2.1 (w==([117,116,102,56,39,39]:Bs)) b c d e a l else none else rt fu p j f k m i o.2.1 false b c d e a l else rt fu p j f k m i o.2.1 false b c d e a l else qc6 fu p j f k m i o.2.1 b c d e a l else none else none
def l5(fu:Nat)(b:ix)(a:pi):Nat->qgw|0=>fun _ _ _ _ _ _ _ _ _ _ _ _=>none|n+1=>zq fu b a (l5 fu b a n)
def zp(m:ix)(k:pi):pi:=fun b j h i a c d e f g=>bif decide (i<j) then l5 fu m k fu b j h i (-1) 0 a c d e f g else bif decide (0<=b/\b.toNat<f.length) then(f[b.toNat]?).bind fun l=>(qoh fu h).bind fun o=>bif decide (List.length (g++([(l.1,o)]:List (Bs×Bs)))<=a6) then m (ae (b+1)) a c d e f (g++([(l.1,o)]:List (Bs×Bs))) else none else none
def nj(fu:Nat)(a:ix):Nat->pi|0=>fun _ _ _ _ _ _ _ _ _ _=>none|n+1=>zp fu a (nj fu a n)
def qc1(k:ix)(m:qne):qne:=fun a j i g c d e f b h=>bif decide (g<(b.length:Int)) then bif decide (0<=a/\a.toNat<b.length) then(b[a.toNat]?).bind fun s=>bif decide (0<=g/\g.toNat<b.length) then(b[g.toNat]?).bind fun q=>(ei fu s.1 q.1).bind fun p=>bif p then qhw fu k m a j (ae (i+1)) g c d e f b h else qhw fu k m a j i g c d e f b h else none else none else bif j then k (ae (a+1)) c d e f b h else bif decide (0<=a/\a.toNat<b.length) then(b[a.toNat]?).bind fun r=>bif decide (r.2.2.1<0) then bif i != 1 then some ((([]:Bs),(([]:Bs),[])),false) else bif decide (0<=a/\a.toNat<b.length) then(b[a.toNat]?).bind fun o=>bif decide (0<=a/\a.toNat<b.length) then(b[a.toNat]?).bind fun l=>bif decide (List.length (h++([(o.1,l.2.1)]:List (Bs×Bs)))<=a6) then k (ae (a+1)) c d e f b (h++([(o.1,l.2.1)]:List (Bs×Bs))) else none else none else none else nj fu k fu a i [] 0 c d e f b h else none
def ru(fu:Nat)(a:ix):Nat->qne|0=>fun _ _ _ _ _ _ _ _ _ _=>none|n+1=>qc1 fu a (ru fu a n)
def qv3(j:ix)(k:qnf):qnf:=fun b i g a c e f d h=>bif decide (g<b) then bif i then qhx fu j k b true g a c e f d h else bif decide (0<=b/\b.toNat<d.length) then(d[b.toNat]?).bind fun l=>bif decide (0<=g/\g.toNat<d.length) then(d[g.toNat]?).bind fun o=>(ei fu l.1 o.1).bind fun m=>qhx fu j k b m g a c e f d h else none else none else ru fu j fu b i 0 0 a c e f d h
def qh2(fu:Nat)(a:ix):Nat->qnf|0=>fun _ _ _ _ _ _ _ _ _=>none|n+1=>qv3 fu a (qh2 fu a n)
def qv2(h:ix):ix:=fun f c d a b g e=>bif decide (f<(g.length:Int)) then qh2 fu h fu f false 0 c d a b g e else some ((a,(b,e)),true)
def ox(fu:Nat):Nat->ix|0=>fun _ _ _ _ _ _ _=>none|n+1=>qv2 fu (ox fu n)
def qv1(k:oq):oq:=fun e j a b c d f=>bif decide (j<(e.length:Int)) then(ai e j).bind fun m=>bif m != 59 then some ((([]:Bs),(([]:Bs),[])),false) else(ry fu e (ae (j+1))).bind fun g=>(qdh fu e g [42]).bind fun h=>bif decide (0<=g/\g<=h/\h<=(e.length:Int)) then(ry fu e h).bind fun i=>bif i==(e.length:Int) then qh1 fu k e i (List.take (h.toNat-g.toNat) (List.drop g.toNat e)) true a b c d f else(ai e i).bind fun l=>qh1 fu k e i (List.take (h.toNat-g.toNat) (List.drop g.toNat e)) (l != 61) a b c d f else none else ox fu fu 0 a b c d f []
def qc4(fu:Nat):Nat->oq|0=>fun _ _ _ _ _ _ _=>none|n+1=>qv1 fu (qc4 fu n)
def qv4:Bs->Int->Bs->Bs->Bs->Bs->Option f9:=fun e h a b c g=>(ry fu e (ae (h+1))).bind fun d=>(qdh fu e d []).bind fun f=>bif decide (0<=d/\d<=f/\f<=(e.length:Int)) then bif(List.take (f.toNat-d.toNat) (List.drop d.toNat e))==([]:Bs) then some ((([]:Bs),(([]:Bs),[])),false) else(ry fu e f).bind fun i=>qc4 fu fu e i a b c (List.take (f.toNat-d.toNat) (List.drop d.toNat e)) [] else none
def zt:Bs->Int->Bool->Bs->Bs->Bs->Bs->Option f9:=fun g f e a b c d=>bif e then some ((([]:Bs),(([]:Bs),[])),false) else qv4 fu g f a b c d
def qhv(a:Bs):Option f9:=(ry fu a 0).bind fun b=>(qdh fu a b []).bind fun c=>bif decide (0<=b/\b<=c/\c<=(a.length:Int)) then(ry fu a c).bind fun d=>bif(List.take (c.toNat-b.toNat) (List.drop b.toNat a))==([]:Bs) then zt fu a d true [] [] (List.take (c.toNat-b.toNat) (List.drop b.toNat a)) [] else bif d==(a.length:Int) then zt fu a d true [] [] (List.take (c.toNat-b.toNat) (List.drop b.toNat a)) [] else(ai a d).bind fun e=>zt fu a d (e != 47) [] [] (List.take (c.toNat-b.toNat) (List.drop b.toNat a)) [] else none
def qwh(d:wd):wd:=fun a b=>bif decide (b<(a.length:Int)) then(ai a b).bind fun e=>(qdd fu e).bind fun f=>bif !f then some false else d a (ae (b+1)) else(ej (a.length:Int) 1 60).bind fun c=>some c
def qic(fu:Nat):Nat->wd|0=>fun _ _=>none|n+1=>qwh fu (qic fu n)
def zy(a:Bs):Option Bool:=qic fu fu a 0
def qwm(d:wd):wd:=fun b a=>bif decide (a<(b.length:Int)) then(qda fu b a).bind fun c=>bif decide (c.1<0) then some false else d b (ae (a+c.2)) else some true
def qih(fu:Nat):Nat->wd|0=>fun _ _=>none|n+1=>qwm fu (qih fu n)
def qig(a:Bs):Option Bool:=qih fu fu a 0
abbrev q61:=Int->Int->(Bs×Bs×wV)->(Int×Int)->(Bs×Bs)->Option ((Int×Int))
abbrev qcj:=Int->(Bs×Bs×wV)->(Int×Int)->Option ((Int×Int))
def qvy(f:qcj)(k:q61):q61:=fun c e b d a=>bif decide (e<c) then(ai b.2.2 e).bind fun i=>(ei fu i.1 a.1).bind fun m=>bif m then(im 7 c).bind fun j=>some j else k c (ae (e+1)) b d a else bif decide (500<(a.2.length:Int)) then(im 1 c).bind fun l=>some l else(qig fu a.2).bind fun g=>bif !g then(im 5 c).bind fun h=>some h else f (ae (c+1)) b d
def qhu(fu:Nat)(a:qcj):Nat->q61|0=>fun _ _ _ _ _=>none|n+1=>qvy fu a (qhu fu a n)
def qv0(e:qcj):(Int->(Bs×Bs×wV)->(Int×Int)->(Bs×Bs)->Option ((Int×Int))):=fun d a c b=>qhu fu e fu d 0 a c b
def zo(g:qcj):(Int->Bool->(Bs×Bs×wV)->(Int×Int)->(Bs×Bs)->Option ((Int×Int))):=fun e d a c b=>bif d then(im 10 e).bind fun f=>some f else qv0 fu g e a c b
def qvx(e:qcj):qcj:=fun c a b=>bif decide (c<(a.2.2.length:Int)) then(ai a.2.2 c).bind fun d=>(zy fu d.1).bind fun f=>bif !f then zo fu e c true a b d else zo fu e c (decide (20<(d.1.length:Int))) a b d else some (0,0)
def zn(fu:Nat):Nat->qcj|0=>fun _ _ _=>none|n+1=>qvx fu (zn fu n)
def qvz:zj8:=fun a b=>bif decide (60<(a.2.2.length:Int)) then(im 2 (-3)).bind fun c=>some c else zn fu fu 0 a b
def qc0:zj7:=fun c a b=>bif c then(im 10 (-2)).bind fun d=>some d else qvz fu a b
def qn6(a:Bs×Bs×wV):Option ((Int×Int)):=(zy fu a.1).bind fun c=>bif !c then qc0 fu true a (0,0) else(zy fu a.2.1).bind fun b=>qc0 fu (!b) a (0,0)
abbrev q0c:=(Bs×Bs×wV)×Bool
def qxl:Bs->Bs->(List Bs)->Option q0c:=fun b c a=>bif decide (0<=(0:Int)/\(0:Int).toNat<a.length) then(a[(0:Int).toNat]?).bind fun e=>(qhv fu e).bind fun d=>bif !d.2 then some ((([]:Bs),(([]:Bs),[])),false) else(qn6 fu d.1).bind fun f=>bif f.1 != 0 then some ((([]:Bs),(([]:Bs),[])),false) else some (d.1,true) else none
def qot:Bool->Bs->Bs->(List Bs)->Option q0c:=fun c a b d=>bif c then some ((([]:Bs),(([]:Bs),[])),false) else qxl fu a b d
def qab(b:List (Bs×Bs)):Option q0c:=(qii fu b [99,111,110,116,101,110,116,45,116,121,112,101]).bind fun a=>bif(a.length:Int) != 1 then qot fu true [] [] a else bif decide (0<=(0:Int)/\(0:Int).toNat<a.length) then(a[(0:Int).toNat]?).bind fun c=>qot fu (decide (4000<(c.length:Int))) [] [] a else none
abbrev q64:=Bs->Int->(Bs×Bs×wV)->Option (Bs×Bool)
def qv9(f:q64):q64:=fun c b a=>bif decide (b<(a.2.2.length:Int)) then(ai a.2.2 b).bind fun d=>(ei fu d.1 c).bind fun g=>bif g then(ai a.2.2 b).bind fun e=>some (e.2,true) else f c (ae (b+1)) a else some (([]:Bs),false)
def qh5(fu:Nat):Nat->q64|0=>fun _ _ _=>none|n+1=>qv9 fu (qh5 fu n)
def qc8(b:Bs×Bs×wV)(a:Bs):Option (Bs×Bool):=qh5 fu fu a 0 b
def qco(a:Bs)(b:Int):Option Bool:=bif decide ((ae (b+1))<(a.length:Int)) then(ai a b).bind fun c=>bif c==13 then(ai a (ae (b+1))).bind fun d=>some (d==10) else some false else some false
abbrev quw:=Bs->Int->Int->(Int×Int)->Option ((Int×Int))
def qol(fu:Nat)(e:quw):Bs->Int->Int->Bool->(Int×Int)->Option ((Int×Int)):=fun h c d b a=>bif b then(im 11 (-5)).bind fun f=>some f else bif decide (998<=(ae (d-c))) then(im 1 (-6)).bind fun g=>some g else e h c (ae (d+1)) a
def qw1(d:quw):quw:=fun c e a b=>bif decide (a<(c.length:Int)) then(qco c a).bind fun g=>bif g then d c (ae ((ae (a+1))+1)) (ae ((ae (a+1))+1)) b else(ai c a).bind fun h=>bif h==13 then qol fu d c e a true b else(ai c a).bind fun f=>qol fu d c e a (f==10) b else some (0,0)
def qit(fu:Nat):Nat->quw|0=>fun _ _ _ _=>none|n+1=>qw1 fu (qit fu n)
def qw0(a:Bs):Option ((Int×Int)):=qit fu fu a 0 0 (0,0)
abbrev q65:=Bs->Bool->Int->Option (Bs×Bool)
def qwy(fu:Nat)(f:q65):q65:=fun a c b=>bif decide (b<(a.length:Int)) then(ai a b).bind fun g=>(ej (g.toNat:Int) 32 126).bind fun h=>bif !h then some (([]:Bs),false) else f a c (ae (b+1)) else bif c then(ej (a.length:Int) 1 60).bind fun e=>bif e then(ai a (ae ((a.length:Int)-1))).bind fun d=>some (a,d != 32) else some (a,false) else some (a,false)
def qis(fu:Nat):Nat->q65|0=>fun _ _ _=>none|n+1=>qwy fu (qis fu n)
def qwz:((Bs×Bs×wV)->Option (Bs×Bool)):=fun a=>(qc8 fu a [98,111,117,110,100,97,114,121]).bind fun b=>qis fu fu b.1 b.2 0
def qir:(Bool->(Bs×Bs×wV)->Option (Bs×Bool)):=fun b a=>bif b then some (([]:Bs),false) else qwz fu a
def qok(c:List (Bs×Bs)):Option (Bs×Bool):=(qab fu c).bind fun a=>bif !a.2 then qir fu true a.1 else(ei fu a.1.1 [109,117,108,116,105,112,97,114,116]).bind fun b=>qir fu (!b) a.1
def qxb(fu:Nat)(c:wg):wg:=fun d b a=>c d b (ae (a-1))
def qdn(e:wg):zjw:=fun c b a d=>bif d then qxb fu e c b a else bif decide (0<=a/\a<=(c.length:Int)) then bif decide (List.length ([45,45]:Bs)+b.length<=ap) then bif(List.take a.toNat c)==(([45,45]:Bs)++b) then some 1 else bif decide (0<=a/\a<=(c.length:Int)) then bif decide (List.length ([45,45]:Bs)+b.length<=ap) then bif decide (List.length (([45,45]:Bs)++b)+List.length ([45,45]:Bs)<=ap) then bif(List.take a.toNat c)==((([45,45]:Bs)++b)++[45,45]) then some 2 else some 0 else none else none else none else none else none
def qxa(d:wg):wg:=fun b c a=>bif decide (0<a) then(ai b (ae (a-1))).bind fun e=>(lz e).bind fun f=>qdn fu d b c a f else qdn fu d b c a false
def qdm(fu:Nat):Nat->wg|0=>fun _ _ _=>none|n+1=>qxa fu (qdm fu n)
def qw9(a:Bs)(b:Bs):Option Int:=qdm fu fu a b (a.length:Int)
abbrev qck:=Bs->Bs->Int->Int->Int->(List Bs)->Option ((List Bs))
abbrev zjf:=Bs->Bs->Int->Int->Int->Int->(List Bs)->Option ((List Bs))
def qw5(fu:Nat)(h:ou)(f:qck):qck:=fun g d b e c a=>f g d b e (ae (c+1)) a
def qdk(fu:Nat)(f:ou):qck:=fun g d c e b a=>bif b==2 then some a else f g d c e a
def zz(e:ou):ou:=fun f d c a b=>qdk fu e f d c c a b
def z6(h:ou):zjf:=fun d f b g e a c=>bif decide (0<=b/\b<=a/\a<=(d.length:Int)) then bif decide (List.length (c++([List.take (a.toNat-b.toNat) (List.drop b.toNat d)]:List Bs))<=a6) then zz fu h d f g e (c++([List.take (a.toNat-b.toNat) (List.drop b.toNat d)]:List Bs)) else none else none
def qix(h:ou):zjf:=fun d e b c i g a=>bif decide (0<=c/\c<=i/\i<=(d.length:Int)) then(qw9 fu (List.take (i.toNat-c.toNat) (List.drop c.toNat d)) e).bind fun f=>bif decide (0<f) then bif decide (0<=b) then bif decide ((ae (c-2))<b) then z6 fu h d e b g f b a else z6 fu h d e b g f (ae (c-2)) a else zz fu h d e g f a else qdk fu h d e b g f a else none
def qiw(h:ou)(i:qck):Bs->Bs->Int->Int->Int->Bool->(List Bs)->Option ((List Bs)):=fun c e d f b g a=>bif g then qw5 fu h i c e d f b a else bif b==(c.length:Int) then qix fu h c e d f b b a else qix fu h c e d f b (ae (b+2)) a
def qw4(g:ou)(h:qck):qck:=fun c e d f b a=>bif decide (b<(c.length:Int)) then(qco c b).bind fun i=>qiw fu g h c e d f b (!i) a else qiw fu g h c e d f b false a
def qiv(fu:Nat)(a:ou):Nat->qck|0=>fun _ _ _ _ _ _=>none|n+1=>qw4 fu a (qiv fu a n)
def qw3(f:ou):ou:=fun c e b d a=>bif decide (d<(c.length:Int)) then qiv fu f fu c e b d d a else bif decide (0<=b) then bif decide (0<=b/\b<=(c.length:Int)) then bif decide (List.length (a++([List.drop b.toNat c]:List Bs))<=a6) then some (a++([List.drop b.toNat c]:List Bs)) else none else none else some a
def wt(fu:Nat):Nat->ou|0=>fun _ _ _ _ _=>none|n+1=>qw3 fu (wt fu n)
def qw2(b:Bs)(a:Bs):Option ((List Bs)):=wt fu fu b a (-1) 0 []
def zx(fu:Nat)(e:fb):q6z:=fun b c a d=>bif d then bif decide (c.length+List.length ([92]:Bs)<=ap) then bif decide (0<=a/\a<=ae (a+1)/\ae (a+1)<=(b.length:Int)) then bif decide (List.length (c++[92])+List.length (List.take ((ae (a+1)).toNat-a.toNat) (List.drop a.toNat b))<=ap) then e b ((c++[92])++(List.take ((ae (a+1)).toNat-a.toNat) (List.drop a.toNat b))) (ae (a+1)) else none else none else none else bif decide (0<=a/\a<=ae (a+1)/\ae (a+1)<=(b.length:Int)) then bif decide (c.length+List.length (List.take ((ae (a+1)).toNat-a.toNat) (List.drop a.toNat b))<=ap) then e b (c++(List.take ((ae (a+1)).toNat-a.toNat) (List.drop a.toNat b))) (ae (a+1)) else none else none
def qwc(d:fb):fb:=fun b c a=>bif decide (a<(b.length:Int)) then(ai b a).bind fun f=>bif f==34 then zx fu d b c a true else(ai b a).bind fun e=>zx fu d b c a (e==92) else bif decide (c.length+List.length ([34]:Bs)<=ap) then some (c++[34]) else none
def zw(fu:Nat):Nat->fb|0=>fun _ _ _=>none|n+1=>qwc fu (zw fu n)
def qoc(a:Bs):Option (Bs):=zw fu fu a [34] 0
def rx(a:UInt8):Option (Bs):=bif decide (0<=((a/16).toNat:Int)/\((a/16).toNat:Int)<=(((a/16)+1).toNat:Int)/\(((a/16)+1).toNat:Int)<=(List.length ([48,49,50,51,52,53,54,55,56,57,65,66,67,68,69,70]:Bs):Int)) then bif decide (0<=((a%16).toNat:Int)/\((a%16).toNat:Int)<=(((a%16)+1).toNat:Int)/\(((a%16)+1).toNat:Int)<=(List.length ([48,49,50,51,52,53,54,55,56,57,65,66,67,68,69,70]:Bs):Int)) then bif decide (List.length (List.take ((((a/16)+1).toNat:Int).toNat-((a/16).toNat:Int).toNat) (List.drop ((a/16).toNat:Int).toNat ([48,49,50,51,52,53,54,55,56,57,65,66,67,68,69,70]:Bs)))+List.length (List.take ((((a%16)+1).toNat:Int).toNat-((a%16).toNat:Int).toNat) (List.drop ((a%16).toNat:Int).toNat ([48,49,50,51,52,53,54,55,56,57,65,66,67,68,69,70]:Bs)))<=ap) then some ((List.take ((((a/16)+1).toNat:Int).toNat-((a/16).toNat:Int).toNat) (List.drop ((a/16).toNat:Int).toNat [48,49,50,51,52,53,54,55,56,57,65,66,67,68,69,70]))++(List.take ((((a%16)+1).toNat:Int).toNat-((a%16).toNat:Int).toNat) (List.drop ((a%16).toNat:Int).toNat [48,49,50,51,52,53,54,55,56,57,65,66,67,68,69,70]))) else none else none else none
abbrev qng:=Bool->Int->(Bs×Bs)->Option (Bs)
abbrev qcl:=Bs->Bs->Int->Int->(Bs×Bs)->Option (Bs)
abbrev zjg:=Bs->Bs->Int->Int->Bs->(Bs×Bs)->Option (Bs)
def qh7(fu:Nat)(d:qng):qng:=fun b c a=>d b (ae (c+1)) a
def qob(fu:Nat)(f:qcl):qcl:=fun b c e d a=>f b c e (ae (d+1)) a
def qh9(g:qcl):zjg:=fun d b f e c a=>bif decide (b.length+c.length<=ap) then qob fu g d (b++c) f e a else none
def qh8(h:qcl):zjg:=fun b c e g f a=>bif decide (60<(ae ((c.length:Int)+(f.length:Int)))) then bif decide (b.length+List.length ([59,32]:Bs)<=ap) then bif decide (List.length (b++[59,32])+a.1.length<=ap) then bif decide (List.length ((b++[59,32])++a.1)+List.length ([42]:Bs)<=ap) then(wn fu e).bind fun d=>bif decide (List.length (((b++[59,32])++a.1)++[42])+d.length<=ap) then bif decide (List.length ((((b++[59,32])++a.1)++[42])++d)+List.length ([42,61]:Bs)<=ap) then bif decide (List.length (((((b++[59,32])++a.1)++[42])++d)++[42,61])+c.length<=ap) then qh9 fu h ((((((b++[59,32])++a.1)++[42])++d)++[42,61])++c) [] (ae (e+1)) g f a else none else none else none else none else none else none else qh9 fu h b c e g f a
def qwb(g:qcl):qcl:=fun c d f b a=>bif decide (b<(a.2.length:Int)) then(ai a.2 b).bind fun k=>(rx k).bind fun h=>bif decide (List.length ([37]:Bs)+h.length<=ap) then(ai a.2 b).bind fun i=>(qdd fu i).bind fun j=>bif j then bif decide (0<=b/\b<=ae (b+1)/\ae (b+1)<=(a.2.length:Int)) then qh8 fu g c d f b (List.take ((ae (b+1)).toNat-b.toNat) (List.drop b.toNat a.2)) a else none else qh8 fu g c d f b (([37]:Bs)++h) a else none else bif decide (c.length+List.length ([59,32]:Bs)<=ap) then bif decide (List.length (c++[59,32])+a.1.length<=ap) then bif decide (List.length ((c++[59,32])++a.1)+List.length ([42]:Bs)<=ap) then(wn fu f).bind fun e=>bif decide (List.length (((c++[59,32])++a.1)++[42])+e.length<=ap) then bif decide (List.length ((((c++[59,32])++a.1)++[42])++e)+List.length ([42,61]:Bs)<=ap) then bif decide (List.length (((((c++[59,32])++a.1)++[42])++e)++[42,61])+d.length<=ap) then some ((((((c++[59,32])++a.1)++[42])++e)++[42,61])++d) else none else none else none else none else none else none
def qc9(fu:Nat):Nat->qcl|0=>fun _ _ _ _ _=>none|n+1=>qwb fu (qc9 fu n)
def qwa(e:qng):qng:=fun c b a=>bif decide (b<(a.2.length:Int)) then bif c then(ai a.2 b).bind fun f=>(ej (f.toNat:Int) 32 126).bind fun g=>qh7 fu e g b a else qh7 fu e false b a else bif c then bif decide (List.length ([59,32]:Bs)+a.1.length<=ap) then bif decide (List.length (([59,32]:Bs)++a.1)+List.length ([61]:Bs)<=ap) then(qoc fu a.2).bind fun d=>bif decide (List.length ((([59,32]:Bs)++a.1)++[61])+d.length<=ap) then some (((([59,32]:Bs)++a.1)++[61])++d) else none else none else none else qc9 fu fu [] [117,116,102,56,39,39] 0 0 a
def qh6(fu:Nat):Nat->qng|0=>fun _ _ _=>none|n+1=>qwa fu (qh6 fu n)
def qoa(a:Bs×Bs):Option (Bs):=(zy fu a.2).bind fun b=>bif b then bif decide (List.length ([59,32]:Bs)+a.1.length<=ap) then bif decide (List.length (([59,32]:Bs)++a.1)+List.length ([61]:Bs)<=ap) then bif decide (List.length ((([59,32]:Bs)++a.1)++[61])+a.2.length<=ap) then some (((([59,32]:Bs)++a.1)++[61])++a.2) else none else none else none else qh6 fu fu (decide ((a.2.length:Int)<=60)) 0 a
abbrev q66:=Bs->Int->(Bs×Bs×wV)->Option (Bs)
def qv8(f:q66):q66:=fun b c a=>bif decide (c<(a.2.2.length:Int)) then(ai a.2.2 c).bind fun e=>(qoa fu e).bind fun d=>bif decide (b.length+d.length<=ap) then f (b++d) (ae (c+1)) a else none else some b
def qh4(fu:Nat):Nat->q66|0=>fun _ _ _=>none|n+1=>qv8 fu (qh4 fu n)
def qn8(a:Bs×Bs×wV):Option (Bs):=bif decide (a.1.length+List.length ([47]:Bs)<=ap) then bif decide (List.length (a.1++[47])+a.2.1.length<=ap) then qh4 fu fu ((a.1++[47])++a.2.1) 0 a else none else none
def q8c(fu:Nat):(Option Int):=some 0
def qi1:Bool->Option Int:=fun a=>bif a then some 5 else q8c fu
def qxc:(wU->(Bs×Bs×wV)->Option Int):=fun a b=>(qn8 fu b).bind fun c=>bif decide (2000<(c.length:Int)) then qi1 fu true else(qii fu a.val.1 [99,111,110,116,101,110,116,45,116,121,112,101]).bind fun d=>bif decide (0<=(0:Int)/\(0:Int).toNat<d.length) then(d[(0:Int).toNat]?).bind fun e=>qi1 fu (!(e==c)) else none
def pq:(Bool->wU->(Bs×Bs×wV)->Option Int):=fun b a c=>bif b then some 5 else qxc fu (Tree.node a.val a.kids) c
def qop(a:Tree (wV×Bs))(g:Int):Option Int:=(qnt fu a.val.1).bind fun e=>bif e.1 != 0 then some e.1 else bif decide (0<(a.kids.length:Int)) then(qab fu a.val.1).bind fun b=>(qc8 fu b.1 [98,111,117,110,100,97,114,121]).bind fun f=>bif !b.2 then pq fu true (Tree.node a.val a.kids) b.1 else bif f.2 then pq fu true (Tree.node a.val a.kids) b.1 else(ei fu b.1.1 [109,117,108,116,105,112,97,114,116]).bind fun i=>bif !i then pq fu true (Tree.node a.val a.kids) b.1 else bif decide (0<(a.val.2.length:Int)) then pq fu true (Tree.node a.val a.kids) b.1 else pq fu (decide (60<=(b.1.2.2.length:Int))) (Tree.node a.val a.kids) b.1 else bif decide (12000<(a.val.2.length:Int)) then some 1 else(qw0 fu a.val.2).bind fun c=>bif c.1 != 0 then some c.1 else(qok fu a.val.1).bind fun d=>bif d.2 then bif decide (g<8) then(qw2 fu a.val.2 d.1).bind fun h=>bif decide (0<(h.length:Int)) then some 5 else some 0 else some 0 else some 0
abbrev qgy:=(List wU)->(List Int)->Int->(Int×Int)->Option ((Int×Int))
def qxe(h:qgy):qgy:=fun c d a b=>bif decide (a<(c.length:Int)) then(ai c a).bind fun e=>(ai d a).bind fun i=>(qop fu (Tree.node e.val e.kids) i).bind fun f=>bif f != 0 then(im f a).bind fun g=>some g else h c d (ae (a+1)) b else some (0,0)
def qi3(fu:Nat):Nat->qgy|0=>fun _ _ _ _=>none|n+1=>qxe fu (qi3 fu n)
def qxd(f:qgy):qgy:=fun c d b a=>bif decide (b<(c.length:Int)) then(ai d b).bind fun e=>bif decide (8<e) then(im 2 (-2)).bind fun g=>some g else f c d (ae (b+1)) a else qi3 fu fu c d 0 a
def qi2(fu:Nat):Nat->qgy|0=>fun _ _ _ _=>none|n+1=>qxd fu (qi2 fu n)
def qoq(b:Tree (wV×Bs)):Option ((Int×Int)):=(qon fu (Tree.node b.val b.kids) 0).bind fun a=>bif decide (40<(a.1.length:Int)) then(im 2 (-1)).bind fun c=>some c else qi2 fu fu a.1 a.2 0 (0,0)
def qw8:(Bs->wU->(Bs×Bs×wV)->Option Bool):=fun c b a=>bif(b.kids.length:Int)==0 then(ei fu a.1 [116,101,120,116]).bind fun d=>bif d then(ei fu a.2.1 c).bind fun e=>some e else some false else some false
def qi0(a:Tree (wV×Bs))(b:Bs):Option Bool:=(qab fu a.val.1).bind fun c=>bif !c.2 then qw8 fu b (Tree.node a.val a.kids) (([116,101,120,116]:Bs),(([112,108,97,105,110]:Bs),[])) else qw8 fu b (Tree.node a.val a.kids) c.1
abbrev q68:=Bs->Int->(List Bs)->Option Int
def qwf(e:q68):q68:=fun c b a=>bif decide (b<(a.length:Int)) then bif decide (0<=b/\b.toNat<a.length) then(a[b.toNat]?).bind fun d=>(ei fu d c).bind fun f=>bif f then some b else e c (ae (b+1)) a else none else some (-1)
def qdc(fu:Nat):Nat->q68|0=>fun _ _ _=>none|n+1=>qwf fu (qdc fu n)
def qib(a:Bs):Option Int:=qdc fu fu a 0 ([([97,115,99,105,105]:Bs),([108,97,116,105,110,49]:Bs),([117,116,102,56]:Bs),([117,116,102,49,54,98,101]:Bs)]:List Bs)
def qiu(a:Bs):Option Int:=bif decide (0<=(0:Int)/\(0:Int).toNat<List.length ([([55,98,105,116]:Bs),([56,98,105,116]:Bs),([98,97,115,101,54,52]:Bs),([113,117,111,116,101,100,45,112,114,105,110,116,97,98,108,101]:Bs)]:List Bs)) then(([([55,98,105,116]:Bs),([56,98,105,116]:Bs),([98,97,115,101,54,52]:Bs),([113,117,111,116,101,100,45,112,114,105,110,116,97,98,108,101]:Bs)]:List Bs)[(0:Int).toNat]?).bind fun d=>(ei fu d a).bind fun i=>bif i then some 0 else bif decide (0<=(1:Int)/\(1:Int).toNat<List.length ([([55,98,105,116]:Bs),([56,98,105,116]:Bs),([98,97,115,101,54,52]:Bs),([113,117,111,116,101,100,45,112,114,105,110,116,97,98,108,101]:Bs)]:List Bs)) then(([([55,98,105,116]:Bs),([56,98,105,116]:Bs),([98,97,115,101,54,52]:Bs),([113,117,111,116,101,100,45,112,114,105,110,116,97,98,108,101]:Bs)]:List Bs)[(1:Int).toNat]?).bind fun e=>(ei fu e a).bind fun g=>bif g then some 1 else bif decide (0<=(2:Int)/\(2:Int).toNat<List.length ([([55,98,105,116]:Bs),([56,98,105,116]:Bs),([98,97,115,101,54,52]:Bs),([113,117,111,116,101,100,45,112,114,105,110,116,97,98,108,101]:Bs)]:List Bs)) then(([([55,98,105,116]:Bs),([56,98,105,116]:Bs),([98,97,115,101,54,52]:Bs),([113,117,111,116,101,100,45,112,114,105,110,116,97,98,108,101]:Bs)]:List Bs)[(2:Int).toNat]?).bind fun h=>(ei fu h a).bind fun b=>bif b then some 2 else bif decide (0<=(3:Int)/\(3:Int).toNat<List.length ([([55,98,105,116]:Bs),([56,98,105,116]:Bs),([98,97,115,101,54,52]:Bs),([113,117,111,116,101,100,45,112,114,105,110,116,97,98,108,101]:Bs)]:List Bs)) then(([([55,98,105,116]:Bs),([56,98,105,116]:Bs),([98,97,115,101,54,52]:Bs),([113,117,111,116,101,100,45,112,114,105,110,116,97,98,108,101]:Bs)]:List Bs)[(3:Int).toNat]?).bind fun c=>(ei fu c a).bind fun f=>bif f then some 3 else some (-1) else none else none else none else none
def qwx(fu:Nat)(c:qgv):qgv:=fun b a=>bif decide (a<64) then(ai [65,66,67,68,69,70,71,72,73,74,75,76,77,78,79,80,81,82,83,84,85,86,87,88,89,90,97,98,99,100,101,102,103,104,105,106,107,108,109,110,111,112,113,114,115,116,117,118,119,120,121,122,48,49,50,51,52,53,54,55,56,57,43,47] a).bind fun d=>bif d==b then some a else c b (ae (a+1)) else some (-1)
def ws(fu:Nat):Nat->qgv|0=>fun _ _=>none|n+1=>qwx fu (ws fu n)
def qww(a:UInt8):Option Int:=ws fu fu a 0
abbrev q69:=(List Int)->Int->Int->Option Int
def qoi(fu:Nat)(e:q69):q69:=fun b c a=>bif decide (a<(b.length:Int)) then(ai b a).bind fun d=>e b (ae ((ae (2*c))+d)) (ae (a+1)) else some c
def qdi(fu:Nat):Nat->q69|0=>fun _ _ _=>none|n+1=>qoi fu (qdi fu n)
def qwu(a:List Int):Option Int:=qdi fu fu a 0 0
abbrev qgz:=Bs->Int->Int->Int->(List Int)->Option (Bs)
abbrev ot:=Bs->Int->(List Int)->Option (Bs)
abbrev q7a:=(List Int)->Int->Bs->Option (Bs)
def qvr(fu:Nat)(g:ot)(e:qgz):qgz:=fun f d c b a=>bif decide (0<=IntKind.u64.wrap (b)) then bif decide (List.length (a++([Int.tmod (Int.fdiv c (2 ^ min (IntKind.u64.wrap (b)).toNat 64)) 2]:List Int))<=a6) then e f d c (ae (b-1)) (a++([Int.tmod (Int.fdiv c (2 ^ min (IntKind.u64.wrap (b)).toNat 64)) 2]:List Int)) else none else none
def qn3(d:ot)(h:qgz):Bs->Int->Int->Int->Bool->(List Int)->Option (Bs):=fun e c f g b a=>bif b then qvr fu d h e c f g a else d e (ae (c+1)) a
def qhn(f:ot)(e:qgz):qgz:=fun g d b c a=>bif decide (0<=c) then qn3 fu f e g d b c (decide (0<=b)) a else qn3 fu f e g d b c false a
def po(fu:Nat)(a:ot):Nat->qgz|0=>fun _ _ _ _ _=>none|n+1=>qhn fu a (po fu a n)
def qvq(e:ot):ot:=fun c b a=>(ai c b).bind fun d=>(qww fu d).bind fun f=>po fu e fu c b f 5 a
def qvp(e:q7a):q7a:=fun c a b=>bif decide ((ae (a+8))<=(c.length:Int)) then bif decide (0<=a/\a<=ae (a+8)/\ae (a+8)<=(c.length:Int)) then(qwu fu (List.take ((ae (a+8)).toNat-a.toNat) (List.drop a.toNat c))).bind fun d=>bif decide (List.length (b++([dc d]:Bs))<=a6) then e c (ae (a+8)) (b++([dc d]:Bs)) else none else none else some b
def qcw(fu:Nat):Nat->q7a|0=>fun _ _ _=>none|n+1=>qvp fu (qcw fu n)
def qho(d:ot):Bs->Int->Bool->(List Int)->Option (Bs):=fun e c b a=>bif b then qvq fu d e c a else qcw fu fu a 0 []
def qn2(d:ot):ot:=fun c b a=>bif decide (b<(c.length:Int)) then(ai c b).bind fun e=>qho fu d c b (e != 61) a else qho fu d c b false a
def qcv(fu:Nat):Nat->ot|0=>fun _ _ _=>none|n+1=>qn2 fu (qcv fu n)
def qvo(a:Bs):Option (Bs):=qcv fu fu a 0 []
abbrev qg1:=Bs->Int->Int->Bs->Option (Bs)
abbrev qg2:=Bs->Int->Int->Int->Int->Bs->Option (Bs)
abbrev qg0:=Bs->Int->Int->Int->Bool->Int->Bs->Option (Bs)
abbrev q7b:=Bs->Int->Int->Int->Int->Bool->Bs->Option (Bs)
def qvv(fu:Nat)(f:eq)(d:qg1):qg1:=fun e c b a=>d e c (ae (b+1)) a
def qvw(fu:Nat)(h:eq)(d:qg2):qg2:=fun g e b c f a=>d g e b c (ae (f-1)) a
def qhq(fu:Nat)(i:eq)(b:qg0):qg0:=fun h c d f e g a=>b h c d f e (ae (g+1)) a
def ug(j:eq)(b:qg0):Bs->Int->Int->Int->Bool->Int->Bool->Bs->Option (Bs):=fun e f g i h c d a=>bif d then(ai e (ae (c+1))).bind fun o=>(ni fu o).bind fun k=>(ai e (ae (c+2))).bind fun p=>(ni fu p).bind fun l=>bif decide (List.length (a++([dc (ae ((ae (16*k))+l))]:Bs))<=a6) then qhq fu j b e f g i h (ae (c+2)) (a++([dc (ae ((ae (16*k))+l))]:Bs)) else none else(ai e c).bind fun m=>bif decide (List.length (a++([m]:Bs))<=a6) then qhq fu j b e f g i h c (a++([m]:Bs)) else none
def qn5(g:eq)(e:qg0):qg0:=fun b c d h i f a=>bif decide (f<h) then(ai b f).bind fun l=>bif l==61 then bif decide ((ae (f+2))<h) then(ai b (ae (f+1))).bind fun o=>(ni fu o).bind fun m=>bif decide (0<=m) then(ai b (ae (f+2))).bind fun j=>(ni fu j).bind fun k=>ug fu g e b c d h i f (decide (0<=k)) a else ug fu g e b c d h i f false a else ug fu g e b c d h i f false a else ug fu g e b c d h i f false a else bif decide (c<(b.length:Int)) then bif !i then bif decide (0<=d/\d<=ae (c+1)/\ae (c+1)<=(b.length:Int)) then bif decide (List.length (a++(List.take ((ae (c+1)).toNat-d.toNat) (List.drop d.toNat b)))<=a6) then g b (ae (c+1)) (a++(List.take ((ae (c+1)).toNat-d.toNat) (List.drop d.toNat b))) else none else none else g b (ae (c+1)) a else g b (ae (c+1)) a
def ow(fu:Nat)(a:eq):Nat->qg0|0=>fun _ _ _ _ _ _ _=>none|n+1=>qn5 fu a (ow fu a n)
def qhp(g:eq):q7b:=fun h e b c f d a=>ow fu g fu h b c f d e a
def qht(g:eq):q7b:=fun h e c d f b a=>bif b then qhp fu g h e c d (ae (f-1)) b a else qhp fu g h e c d f b a
def qcy(h:eq)(i:qg2):q7b:=fun d c e f b g a=>bif g then qvw fu h i d c e f b a else bif decide (c<b) then(ai d (ae (b-1))).bind fun j=>qht fu h d c e f b (j==61) a else qht fu h d c e f b false a
def qvu(h:eq)(g:qg2):qg2:=fun d c e f b a=>bif decide (c<b) then(ai d (ae (b-1))).bind fun i=>(lz i).bind fun j=>qcy fu h g d c e f b j a else qcy fu h g d c e f b false a
def qhs(fu:Nat)(a:eq):Nat->qg2|0=>fun _ _ _ _ _ _=>none|n+1=>qvu fu a (qhs fu a n)
def qhr(e:eq):Bs->Int->Int->Int->Bs->Option (Bs):=fun f d c b a=>qhs fu e fu f d c b b a
def zm(f:eq):Bs->Int->Int->Int->Bool->Bs->Option (Bs):=fun g e c d b a=>bif b then qhr fu f g e c (ae (d-1)) a else qhr fu f g e c d a
def zl(e:eq)(h:qg1):Bs->Int->Int->Bool->Bs->Option (Bs):=fun c d a f b=>bif f then qvv fu e h c d a b else bif decide (a<(c.length:Int)) then bif decide (d<a) then(ai c (ae (a-1))).bind fun g=>zm fu e c d a a (g==13) b else zm fu e c d a a false b else zm fu e c d a a false b
def qvt(e:eq)(f:qg1):qg1:=fun c d b a=>bif decide (b<(c.length:Int)) then(ai c b).bind fun g=>zl fu e f c d b (g != 10) a else zl fu e f c d b false a
def zk(fu:Nat)(a:eq):Nat->qg1|0=>fun _ _ _ _=>none|n+1=>qvt fu a (zk fu a n)
def qn4(d:eq):eq:=fun c b a=>bif decide (b<(c.length:Int)) then zk fu d fu c b b a else some a
def qcx(fu:Nat):Nat->eq|0=>fun _ _ _=>none|n+1=>qn4 fu (qcx fu n)
def qvs(a:Bs):Option (Bs):=qcx fu fu a 0 []
def qou(a:Bs)(b:Int):Option (Bs):=bif b==2 then(qvo fu a).bind fun c=>some c else bif b==3 then(qvs fu a).bind fun d=>some d else some a
abbrev q7c:=Int->wU->(List Bs)->Option (Bs)
def qw6(g:q7c):q7c:=fun c b a=>bif decide (c<(a.length:Int)) then bif decide (0<=c/\c.toNat<a.length) then(a[c.toNat]?).bind fun e=>(qiu fu e).bind fun i=>bif decide (0<=i) then bif decide (0<=c/\c.toNat<a.length) then(a[c.toNat]?).bind fun f=>(qiu fu f).bind fun h=>(qou fu b.val.2 h).bind fun d=>some d else none else g (ae (c+1)) (Tree.node b.val b.kids) a else none else some b.val.2
def qiy(fu:Nat):Nat->q7c|0=>fun _ _ _=>none|n+1=>qw6 fu (qiy fu n)
def qom(a:Tree (wV×Bs)):Option (Bs):=(qii fu a.val.1 [99,111,110,116,101,110,116,45,116,114,97,110,115,102,101,114,45,101,110,99,111,100,105,110,103]).bind fun b=>qiy fu fu 0 (Tree.node a.val a.kids) b
abbrev q7d:=Bs->Int->(List Int)->Option ((List Int))
def qwe(e:q7d):q7d:=fun d b a=>bif decide (b<(d.length:Int)) then(qda fu d b).bind fun c=>bif decide (List.length (a++([c.1]:List Int))<=a6) then e d (ae (b+c.2)) (a++([c.1]:List Int)) else none else some a
def qdb(fu:Nat):Nat->q7d|0=>fun _ _ _=>none|n+1=>qwe fu (qdb fu n)
def qwd(a:Bs):Option ((List Int)):=qdb fu fu a 0 []
abbrev q7e:=Int->Bs->Bs->Int->Option (Bs)
def qvg(fu:Nat)(f:q7e):q7e:=fun d c a b=>bif decide (b<(c.length:Int)) then(ai c b).bind fun e=>bif d==0 then bif decide (127<(e.toNat:Int)) then(l7 65533).bind fun h=>bif decide (a.length+h.length<=ap) then f d c (a++h) (ae (b+1)) else none else(l7 (e.toNat:Int)).bind fun g=>bif decide (a.length+g.length<=ap) then f d c (a++g) (ae (b+1)) else none else(l7 (e.toNat:Int)).bind fun i=>bif decide (a.length+i.length<=ap) then f d c (a++i) (ae (b+1)) else none else some a
def qcp(fu:Nat):Nat->q7e|0=>fun _ _ _ _=>none|n+1=>qvg fu (qcp fu n)
def qvh(fu:Nat)(f:ot):ot:=fun c b a=>bif decide (b<(a.length:Int)) then bif decide (0<=b/\b.toNat<a.length) then(a[b.toNat]?).bind fun e=>(l7 e).bind fun d=>bif decide (c.length+d.length<=ap) then f (c++d) (ae (b+1)) a else none else none else some c
def qcq(fu:Nat):Nat->ot|0=>fun _ _ _=>none|n+1=>qvh fu (qcq fu n)
def qcr(fu:Nat)(e:fb):Bs->Bs->Int->Int->Bool->Option (Bs):=fun d c a b f=>bif f then(ai d (ae (a+2))).bind fun i=>(ai d (ae (a+3))).bind fun g=>(ej (ae ((ae (256*(i.toNat:Int)))+(g.toNat:Int))) 56320 57343).bind fun l=>bif l then(l7 (ae ((ae ((ae (65536+(ae (1024*(ae (b-55296))))))+(ae ((ae (256*(i.toNat:Int)))+(g.toNat:Int)))))-56320))).bind fun h=>bif decide (c.length+h.length<=ap) then e d (c++h) (ae ((ae (a+2))+2)) else none else(l7 b).bind fun j=>bif decide (c.length+j.length<=ap) then e d (c++j) (ae (a+2)) else none else(l7 b).bind fun k=>bif decide (c.length+k.length<=ap) then e d (c++k) (ae (a+2)) else none
def qvi(g:fb):fb:=fun b c a=>bif decide (a<(b.length:Int)) then bif(ae (a+1))==(b.length:Int) then(l7 (-1)).bind fun f=>bif decide (c.length+f.length<=ap) then some (c++f) else none else(ai b a).bind fun e=>(ai b (ae (a+1))).bind fun d=>(ej (ae ((ae (256*(e.toNat:Int)))+(d.toNat:Int))) 55296 56319).bind fun h=>bif h then qcr fu g b c a (ae ((ae (256*(e.toNat:Int)))+(d.toNat:Int))) (decide ((ae (a+3))<(b.length:Int))) else qcr fu g b c a (ae ((ae (256*(e.toNat:Int)))+(d.toNat:Int))) false else some c
def zg(fu:Nat):Nat->fb|0=>fun _ _ _=>none|n+1=>qvi fu (zg fu n)
def qnr:Int->Bs->Bs->Int->Bool->Option (Bs):=fun f c b a d=>bif d then qcp fu fu f c b 0 else bif a==2 then(qwd fu c).bind fun e=>qcq fu fu b 0 e else bif a==3 then zg fu fu c b 0 else some b
def qnq(a:Int)(b:Bs):Option (Bs):=bif a==0 then qnr fu a b [] a true else qnr fu a b [] a (a==1)
def qxk(fu:Nat)(d:fb):fb:=fun b c a=>bif decide (a<(b.length:Int)) then(ai b a).bind fun f=>bif f==13 then bif decide ((ae (a+1))<(b.length:Int)) then(ai b (ae (a+1))).bind fun e=>bif e==10 then d b c (ae (a+1)) else bif decide (0<=a/\a<=ae (a+1)/\ae (a+1)<=(b.length:Int)) then bif decide (c.length+List.length (List.take ((ae (a+1)).toNat-a.toNat) (List.drop a.toNat b))<=ap) then d b (c++(List.take ((ae (a+1)).toNat-a.toNat) (List.drop a.toNat b))) (ae (a+1)) else none else none else bif decide (0<=a/\a<=ae (a+1)/\ae (a+1)<=(b.length:Int)) then bif decide (c.length+List.length (List.take ((ae (a+1)).toNat-a.toNat) (List.drop a.toNat b))<=ap) then d b (c++(List.take ((ae (a+1)).toNat-a.toNat) (List.drop a.toNat b))) (ae (a+1)) else none else none else bif decide (0<=a/\a<=ae (a+1)/\ae (a+1)<=(b.length:Int)) then bif decide (c.length+List.length (List.take ((ae (a+1)).toNat-a.toNat) (List.drop a.toNat b))<=ap) then d b (c++(List.take ((ae (a+1)).toNat-a.toNat) (List.drop a.toNat b))) (ae (a+1)) else none else none else some c
def qdr(fu:Nat):Nat->fb|0=>fun _ _ _=>none|n+1=>qxk fu (qdr fu n)
def qi7:(Int->wU->Option (Bs)):=fun b a=>(qom fu (Tree.node a.val a.kids)).bind fun c=>(qnq fu b c).bind fun d=>qdr fu fu d [] 0
def qdq:(Int->Bool->wU->Option (Bs)):=fun c b a=>bif b then qi7 fu 2 (Tree.node a.val a.kids) else qi7 fu c (Tree.node a.val a.kids)
def qi6(a:Tree (wV×Bs)):Option (Bs):=(qab fu a.val.1).bind fun d=>(qc8 fu d.1 [99,104,97,114,115,101,116]).bind fun c=>(qib fu c.1).bind fun b=>bif !c.2 then qdq fu b true (Tree.node a.val a.kids) else qdq fu b (decide (b<0)) (Tree.node a.val a.kids)
abbrev q7g:=Bs->Int->Int->Option (Bs×Bool)
abbrev q7f:=Bs->Int->(List Bs)->(List Bs)->Option (Bs×Bool)
def qxn(fu:Nat)(e:q7g):q7g:=fun b c a=>bif decide (a<(b.length:Int)) then(ai b a).bind fun g=>(ej (g.toNat:Int) 48 57).bind fun h=>bif !h then some (([]:Bs),false) else(ai b a).bind fun f=>e b (ae ((ae (10*c))+((f-48).toNat:Int))) (ae (a+1)) else(l7 c).bind fun d=>some (d,true)
def qi9(fu:Nat):Nat->q7g|0=>fun _ _ _=>none|n+1=>qxn fu (qi9 fu n)
def qxo:Bs->Option (Bs×Bool):=fun a=>qi9 fu fu a 0 1
def qi8:zih:=fun b a=>bif a then some (([]:Bs),false) else qxo fu b
def qow(h:q7f):q7f:=fun d b a c=>bif decide (b<(a.length:Int)) then bif decide (0<=b/\b.toNat<a.length) then(a[b.toNat]?).bind fun f=>bif f==d then bif decide (0<=b/\b.toNat<c.length) then(c[b.toNat]?).bind fun i=>some (i,true) else none else h d (ae (b+1)) a c else none else(ej (d.length:Int) 2 7).bind fun g=>bif !g then qi8 fu d true else(ai d 0).bind fun e=>qi8 fu d (e != 35)
def qac(fu:Nat):Nat->q7f|0=>fun _ _ _ _=>none|n+1=>qow fu (qac fu n)
def qov(a:Bs):Option (Bs×Bool):=qac fu fu a 0 ([([108,116]:Bs),([103,116]:Bs),([97,109,112]:Bs),([113,117,111,116]:Bs),([110,98,115,112]:Bs)]:List Bs) ([([60]:Bs),([62]:Bs),([38]:Bs),([34]:Bs),([32]:Bs)]:List Bs)
abbrev qg3:=Bs->Bs->Int->Bs->Option (Bs)
def qxj(fu:Nat)(f:fb)(d:qg3):qg3:=fun e c b a=>bif decide (0<=ae ((a.length:Int)-1)/\ae ((a.length:Int)-1)<=(a.length:Int)) then d e c b (List.take (ae ((a.length:Int)-1)).toNat a) else none
def qos(fu:Nat)(c:fb):fb:=fun d b a=>c d b (ae (a+1))
def qaa(d:fb):q6z:=fun e a c b=>bif b then bif decide (a.length+List.length ([10]:Bs)<=ap) then qos fu d e (a++[10]) c else none else qos fu d e a c
def wu(c:fb)(h:qg3):Bs->Bs->Int->Bs->Bool->Option (Bs):=fun d b a g f=>bif f then qxj fu c h d b a g else(pp fu g).bind fun e=>bif e==([98,114]:Bs) then qaa fu c d b a true else bif e==([47,112]:Bs) then qaa fu c d b a true else bif e==([47,100,105,118]:Bs) then qaa fu c d b a true else qaa fu c d b a (e==([47,108,105]:Bs))
def qxi(d:fb)(e:qg3):qg3:=fun f c b a=>bif decide (0<(a.length:Int)) then(ai a (ae ((a.length:Int)-1))).bind fun h=>bif h==47 then wu fu d e f c b a true else(ai a (ae ((a.length:Int)-1))).bind fun g=>wu fu d e f c b a (g==32) else wu fu d e f c b a false
def qdo(fu:Nat)(a:fb):Nat->qg3|0=>fun _ _ _ _=>none|n+1=>qxi fu a (qdo fu a n)
def qdp(e:fb):fb:=fun b c a=>(ai b a).bind fun g=>bif g==38 then(zh fu b [59] a).bind fun d=>bif decide (0<d) then bif decide (0<=ae (a+1)/\ae (a+1)<=d/\d<=(b.length:Int)) then(qov fu (List.take (d.toNat-(ae (a+1)).toNat) (List.drop (ae (a+1)).toNat b))).bind fun f=>bif f.2 then bif decide (c.length+f.1.length<=ap) then e b (c++f.1) (ae (d+1)) else none else bif decide (0<=a/\a<=ae (a+1)/\ae (a+1)<=(b.length:Int)) then bif decide (c.length+List.length (List.take ((ae (a+1)).toNat-a.toNat) (List.drop a.toNat b))<=ap) then e b (c++(List.take ((ae (a+1)).toNat-a.toNat) (List.drop a.toNat b))) (ae (a+1)) else none else none else none else bif decide (0<=a/\a<=ae (a+1)/\ae (a+1)<=(b.length:Int)) then bif decide (c.length+List.length (List.take ((ae (a+1)).toNat-a.toNat) (List.drop a.toNat b))<=ap) then e b (c++(List.take ((ae (a+1)).toNat-a.toNat) (List.drop a.toNat b))) (ae (a+1)) else none else none else bif decide (0<=a/\a<=ae (a+1)/\ae (a+1)<=(b.length:Int)) then bif decide (c.length+List.length (List.take ((ae (a+1)).toNat-a.toNat) (List.drop a.toNat b))<=ap) then e b (c++(List.take ((ae (a+1)).toNat-a.toNat) (List.drop a.toNat b))) (ae (a+1)) else none else none
def qxh(e:fb):fb:=fun b d a=>bif decide (a<(b.length:Int)) then(ai b a).bind fun f=>bif f==60 then(zh fu b [62] a).bind fun c=>bif decide (0<c) then bif decide (0<=ae (a+1)/\ae (a+1)<=c/\c<=(b.length:Int)) then qdo fu e fu b d c (List.take (c.toNat-(ae (a+1)).toNat) (List.drop (ae (a+1)).toNat b)) else none else qdp fu e b d a else qdp fu e b d a else some d
def z8(fu:Nat):Nat->fb|0=>fun _ _ _=>none|n+1=>qxh fu (z8 fu n)
def z7(a:Bs):Option (Bs):=z8 fu fu a [] 0
abbrev qg4:=(List wU)->Int->Option (Bs)
def qxg(f:qg4):qg4:=fun b a=>bif decide (a<(b.length:Int)) then(ai b a).bind fun c=>(qi0 fu (Tree.node c.val c.kids) [104,116,109,108]).bind fun h=>bif h then(ai b a).bind fun d=>(qi6 fu (Tree.node d.val d.kids)).bind fun g=>(z7 fu g).bind fun e=>some e else f b (ae (a+1)) else some ([]:Bs)
def qi5(fu:Nat):Nat->qg4|0=>fun _ _=>none|n+1=>qxg fu (qi5 fu n)
def qxf(e:qg4):qg4:=fun a b=>bif decide (b<(a.length:Int)) then(ai a b).bind fun c=>(qi0 fu (Tree.node c.val c.kids) [112,108,97,105,110]).bind fun g=>bif g then(ai a b).bind fun d=>(qi6 fu (Tree.node d.val d.kids)).bind fun f=>some f else e a (ae (b+1)) else qi5 fu fu a 0
def qi4(fu:Nat):Nat->qg4|0=>fun _ _=>none|n+1=>qxf fu (qi4 fu n)
def qor(a:Tree (wV×Bs)):Option (Bs):=(qon fu (Tree.node a.val a.kids) 0).bind fun b=>qi4 fu fu b.1 0
def qxm(a:Tree (wV×Bs)):Option (Bs×(Int×Int)):=(qoq fu (Tree.node a.val a.kids)).bind fun b=>bif b.1 != 0 then some (([]:Bs),b) else(qor fu (Tree.node a.val a.kids)).bind fun c=>some (c,b)
def qds(a:Tree (wV×Bs)):Option Bool:=(qxp fu).bind fun d=>bif !d then some false else(qkt fu (Tree.node a.val a.kids)).bind fun c=>(qxm fu (Tree.node a.val a.kids)).bind fun b=>bif((c.2.1==b.2.1)&&((c.2.2==b.2.2)&&true)) then some (c.1==b.1) else some false
end
end Go.Sym

