/- What the claim rests on, part 3: gathered texts. -/
import Derived.Lib.ItoaNum
import Derived.Lib.Index
import Derived.Lib.AtoiAll
import Derived.Shelf.SlSortCmp.Insertion
import Derived.Lib.Replace
import Derived.Lib.Repeat
import Derived.Lib.MapLaws
import Derived.Lib.ValidLaws
import Derived.Lib.BytesEntry
import Derived.Laws.Externs
import Derived.Lib.Bytealg
import Derived.WalkKit
import Derived.ProofKit
import Derived.OpenShut
import Derived.ShutString
import Derived.ChangeOld
import Derived.Carry
import Derived.Handed
import Derived.Deep.DeepHandedRow
import Derived.LaidMore
import Derived.Lay
import Derived.LaidHandle
import Derived.MakeChecks
import Derived.LaidLaws
import Derived.Test.YtgpcmiimfgghdaaGreatDoorSyK2
set_option linter.defProp false
set_option linter.unusedSimpArgs false
set_option linter.unusedVariables false
namespace Go.Sym
open Go.RowKit
variable[LC]
def qbd(P:Program)(ro:Option Nat)(f:FuncId)(x:Machine)(cs:List Frame)(Q:Value->World->Prop):Prop:=
 match ro with|none=>∃v w' fr,Q v w'/\Steps P x (lone fr cs w')/\fr.fn=f/\fr.leaving P w' (.returned v)|some _=>∀c cs',cs=c::cs'->∃v w',Q v w'/\Steps P x (lone (c.finish v) cs' w')
def qbd.head{P:Program}{ro:Option Nat}{f:FuncId}{x y:Machine}{cs:List Frame}{Q:Value->World->Prop}(h:Steps P x y)(k:qbd P ro f y cs Q):qbd P ro f x cs Q:=by
 cases ro with
 |none=>obtain⟨v,w',fr,h1,h2,h3⟩:=k;exact⟨v,w',fr,h1,h.trans h2,h3⟩
 |some l=>exact fun c cs' e=>by obtain⟨v,w',h1,h2⟩:=k c cs' e;exact⟨v,w',h1,h.trans h2⟩
section
variable{P:Program}{vjc:World}{vi7:Gh}{vi9:List (Nat×ah)}{G:Gh}{s:St}{a:Act}{w:World}
def qdq(tmps:Array Value)(x:ResultVar):Sem Value:=match x with|.tmp t=>pure (tmps.getD t undef)|.cell a t=>do loadVar t (← asAddr (tmps.getD a undef))
def z1z(fn:Func)(tmps:Array Value):results fn tmps=(do let vs ← fn.results.mapM (qdq tmps);pure (if h:vs.size=1 then vs[0] else .tuple vs)):=rfl
def zsn(hr:ak vjc vi7 vi9 G s a w){x:ResultVar}{v:AV}(hq:q89 P s x=true)(h:q47 P s x=some v):∃u,(qdq a.tmps x).run P w = .ok u w/\aj v G u:=by
 cases x with
 |tmp t=>
  obtain⟨u,h1,h2⟩:=hr.frame t v h;exact⟨u,by simp[qdq,Array.getD_eq_getD_getElem?,h1],h2⟩
 |cell t T=>
  simp only[q47]at h;split at h
  ·rename_i b off hb;split at h
   ·rename_i cs T' hc;obtain⟨u,h1,B,hB,rfl⟩:=hr.frame _ _ hb;obtain⟨B',vs,k1,k2,k3,_⟩:=hr.fin.mem.holds _ _ hc;rw[k1]at hB;injection hB with hB;subst hB
    obtain⟨z,hz,hrz⟩:=qds (P:=P) (w:=w) h (o:=0) k3 (fun j u hu=>by rw[wO];exact cell_of_heap k2 hu)
    rw[wO]at hz;exact⟨z,by simp[qdq,Array.getD_eq_getD_getElem?,h1,asAddr,hz],hrz⟩
   ·cases h
  ·rename_i cs hb;obtain⟨u,h1,b,o,rfl,hc⟩:=hr.frame _ _ hb;obtain⟨vs,k1,k2⟩:=hc.values;obtain⟨z,hz,hrz⟩:=qds (P:=P) (w:=w) h (o:=o) k1 (fun j u hu=>hr.fin.mem.agree _ _ _ (k2 j u hu))
   exact⟨z,by simpa [qdq,Array.getD_eq_getD_getElem?,h1,asAddr] using hz,hrz⟩
  ·rename_i k sz hb;split at h
   ·rename_i τ l E n hl hagg hn;simp only[q89,hb,hl,hn,decide_eq_true_eq]at hq;cases hbb:τ.is1&&Nat.beq sz 1<;>rw[hbb]at h<;>simp only[qT,qF,reduceCtorEq,qI]at h
    subst h;simp only[qA]at hbb;have hsz:τ.sz=1:=qhe hbb.1;obtain⟨u,h1,B,n0,c0,ho,rfl⟩:=hr.frame _ _ hb;obtain⟨ad,c',q1,q2⟩:=hr.fin.mem.holds _ _ hl;rw[ho]at q1;simp only[qI,qP]at q1;obtain⟨rfl,rfl,rfl⟩:=q1;rcases q2 with⟨q2,_⟩|⟨g,vs,fz,k1,k2,k3,k4,k5,k6,k7,k8,k9⟩
    ·cases q2
    ·simp only[qI,Addr.mk.injEq,and_true]at k1;subst k1;have hfl:(l.flatMap τ.enc).length=n:=by rw[pa,hsz,hq,Nat.mul_one]
     have hload:ow P T (l.flatMap τ.enc) 0=some (.agg (l.flatMap τ.enc)):=by
      unfold ow;rw[hagg,hn];have:Nat.ble (0+n) (l.flatMap τ.enc).length=true:=by rw[hfl,wO];simp
      simp only[this,qT,List.drop_zero];rw[List.take_of_length_le (by rw[hfl];exact wF _)]
     obtain⟨u,hu,us,rfl,hru⟩:=qds (P:=P) (w:=w) hload (B:=B) (o:=0) k7 (fun j u hu=>by
      rw[List.getElem?_take]at hu;split at hu
      ·rw[wO];exact cell_of_heap k2 hu
      ·cases hu)
     simp at hu;refine⟨.agg us,by simp[qdq,Array.getD_eq_getD_getElem?,h1,asAddr,hu],?_⟩
     have:=q85 (G:=G) hbb.1 hru;simpa using this
   ·cases h
  ·cases h
def ze2(hr:ak vjc vi7 vi9 G s a w):∀{xs:List ResultVar}{vs:List AV},qpe P s xs=true->qgj P s xs=some vs ->
  ∃us:List Value,(xs.mapM (qdq a.tmps)).run P w = .ok us w/\am vs G us
 |[],vs,_,h=>by simp only[qgj,qI]at h;subst h;exact⟨[],oC,trivial⟩|x::xs,vs,hq,h=>by
  simp only[qpe,qA]at hq;simp only[qgj]at h;split at h
  ·rename_i v hv;split at h
   ·rename_i us hus;simp only[qI]at h;subst h;obtain⟨u,hu,hru⟩:=zsn hr hq.1 hv;obtain⟨us',hu',hru'⟩:=ze2 hr hq.2 hus;refine⟨u::us',?_,hru,hru'⟩;rw[List.mapM_cons];simp[Sem.run_bind,hu,Result.andThen_ok,hu',Sem.run_pure]
   ·cases h
  ·cases h
def zso(hr:ak vjc vi7 vi9 G s a w){fn:Func}{v:AV}(hq:qpe P s fn.results.toList=true)(h:q48 P fn s=some v):∃u,(results fn a.tmps).run P w = .ok u w/\aj v G u:=by
 unfold q48 at h;have key:∀vs,qgj P s fn.results.toList=some vs->∃us:List Value,(results fn a.tmps).run P w = .ok (if h:us.toArray.size=1 then us.toArray[0] else .tuple us.toArray) w/\am vs G us:=fun vs hv=>by
  obtain⟨us,h1,h2⟩:=ze2 hr hq hv;refine⟨us,?_,h2⟩;rw[z1z,Array.mapM_eq_mapM_toList];simp only[Sem.run_bind,Sem.run_map,h1,Result.andThen_ok,Sem.run_pure]
 split at h
 ·rename_i vs hv;obtain⟨us,h1,h2⟩:=key _ hv;split at h
  ·simp at h;subst h
   match us,h2 with|[u],h2=>exact⟨u,by rw[h1];rfl,h2.1⟩|[],h2=>exact h2.elim|_::_::_,h2=>exact h2.2.elim
  ·rename_i hne;simp at h;subst h;refine⟨.tuple us.toArray,?_,us.toArray,rfl,by simpa using h2⟩
   rw[h1,dif_neg];intro he;have hl:=h2.length;simp at he;rw[he]at hl
   match vs,hl,hne with|[x],_,hne=>exact hne x rfl
 ·cases h
def ak.frzC{p:Pt}{b off:Nat}{s:St}{G:Gh}(hr:ak vjc vi7 vi9 G s a w):∃G',ak vjc vi7 vi9 G' (frzC p b off s) a w:=by
 unfold Sym.frzC;split
 ·exact hr.frzL
 ·exact⟨G,hr⟩
def ak.coR{bs:List (Nat×bc)}:∀{xs:List ResultVar}{ps:List Pt}{s:St}{G:Gh},ak vjc vi7 vi9 G s a w->∃G',ak vjc vi7 vi9 G' (coR bs xs ps s) a w
 |[],_,s,G,hr=>⟨G,hr⟩|x::xs,ps,s,G,hr=>by
  unfold Sym.coR;split
  ·exact⟨G,hr⟩
  ·split
   ·obtain⟨G',hr'⟩:=hr.coF (bs:=bs) (l:=[(_,_)]);exact ak.coR hr'
   ·split
    ·obtain⟨G',hr'⟩:=hr.coB1 (bs:=bs);obtain⟨G2,hr2⟩:=hr'.frzC;exact ak.coR hr2
    ·exact ak.coR hr
def qvm(hr:ak vjc vi7 vi9 G s a w){ids:NM}(hid:∀n bx,ag vi9 n=some bx->a7 ids n=some n){v:AV}{p:Pt}{hp:List (Nat×bc)}{y:p.den×g7 hp}(h:qvl v ids p hp s=some y) :
  ∃G',Fin vjc vi7 vi9 G' (cq hp y.2) w/\∀u,aj v G u->aj (p.put y.1) G' u:=by
 unfold qvl at h;split at h
 ·rename_i d nm h1;split at h
  ·rename_i d' nm' h2;cases hq:ei nm'&&xc nm' hp<;>rw[hq]at h<;>simp only[qT,qF,reduceCtorEq]at h
   have h:=qJ h;subst h;simp at hq;obtain⟨g1,g2⟩:=Pt.get_seen h1;obtain⟨b1,b2⟩:=qcy h2;obtain⟨b3,_⟩:=b2 nm' hq.1 (cy.refl _);exact⟨G.view nm',hr.fin.fit hq.1 (fun n bx hb=>b1 _ _ (g1 _ _ (hid n bx hb))) b3,fun u hu=>(g2 nm' hq.1 b1).rep hu⟩
  ·cases h
 ·cases h
def qno(P:Program)(fn:Func)(rv:Option AV)(a:Act)(w:World)(Q:Value->Prop):Prop:=
 match rv with|none=>∃u,(results fn a.tmps).run P w = .ok u w/\Q u|some x=>∀b,x = .val (.bool b)->Q (.bool b)
def zvs(hr:ak vjc vi7 vi9 G s a w){ids:NM}(hid:∀n bx,ag vi9 n=some bx->a7 ids n=some n){fn:Func}{rv:Option AV}{p:Pt}{hp:List (Nat×bc)}{y:p.den×g7 hp}(hq:q6p P fn ids rv p hp s=true)(h:q6o P fn ids rv p hp s=some y) :
  qno P fn rv a w fun u=>∃G',Fin vjc vi7 vi9 G' (cq hp y.2) w/\aj (p.put y.1) G' u:=by
 unfold q6o at h;split at h
 ·rename_i x;obtain⟨G1,hr1⟩:=hr.coB (bs:=hp) (nm:=ids) (l:=hp);obtain⟨G',h1,h2⟩:=qvm hr1 hid h;exact fun b e=>⟨G',h1,h2 _ (by subst e;rfl)⟩
 ·split at h
  ·rename_i v hv;obtain⟨G1,hr1⟩:=hr.coB (bs:=hp) (nm:=ids) (l:=hp);obtain⟨G2,hr2⟩:=hr1.coR (bs:=hp) (xs:=fn.results.toList) (ps:=qwy p);obtain⟨G',h1,h2⟩:=qvm hr2 hid h;obtain⟨u,hu,hru⟩:=zso hr2 hq hv;exact⟨u,hu,G',h1,h2 _ hru⟩
  ·cases h
def qno.mono{fn:Func}{rv:Option AV}{Q Q':Value->Prop}(h:qno P fn rv a w Q)(k:∀v,Q v->Q' v):qno P fn rv a w Q':=by
 cases rv with
 |none=>obtain⟨u,h1,h2⟩:=h;exact⟨u,h1,k _ h2⟩
 |some x=>exact fun b e=>k _ (h b e)
def qvn(hr:ak vjc vi7 vi9 G s a w){ids:NM}(hid:∀n bx,ag vi9 n=some bx->a7 ids n=some n){fn:Func}{rv:Option AV}:∀{α:Type}{enc:RS α}{x:α},enc.fin P fn ids rv s=some x ->
  qno P fn rv a w fun u=>∃G',Fin vjc vi7 vi9 G' (enc.res x).2 w/\aj (enc.res x).1 G' u
 |_,.one p hp tq fro ok,x,h=>by
  simp[RS.fin]at h;cases hq:q6p P fn ids rv p hp s<;>rw[hq]at h<;>simp at h
  split at h
  ·rename_i y hy;have h:=qJ h;subst h;have:=zvs (P:=P) hr hid hq hy;simp[RS.res,ok];exact this
  ·cases h
 |_,.two l r,x,h=>by
  simp[RS.fin]at h;split at h
  ·rename_i y hy;have h:=qJ h;subst h;have:=qvn (enc:=l) hr hid hy;exact this
  ·split at h
   ·rename_i y hy;have h:=qJ h;subst h;have:=qvn (enc:=r) hr hid hy;exact this
   ·cases h
def zf4:∀{ns:List Nat}{s s':St}{G:Gh}{a:Act}{w:World},s.df=ns->qn7 ns s=some s'->ak vjc vi7 vi9 G s a w->∀(fr:Frame)(cs:List Frame),fr.mode = .returning->fr.defers=a.defers ->
  ∃w',ak vjc vi7 vi9 G s' { a with defers:=[] } w'/\Steps P (lone fr cs w) (lone { fr with defers:=[] } cs w')
 |[],s,s',G,a,w,hd,h,hr,fr,cs,hm,hfd=>by
  simp[qn7,qI]at h;subst h;obtain⟨bs,h1,h2⟩:=hr.defers;rw[hd]at h2;have:bs=[]:=by cases bs with|nil=>rfl|cons _ _=>simp at h2
  subst this;refine⟨w,⟨⟨[],rfl,rfl⟩,hr.size,hr.frame,hr.fresh,hr.fin⟩,?_⟩;have e:({ fr with defers:=[] }:Frame)=fr:=by rw[← show fr.defers=[] by rw[hfd,h1];rfl]
  rw[e];exact .refl _ _
 |n::ns,s,s',G,a,w,hd,h,hr,fr,cs,hm,hfd=>by
  simp[qn7]at h;split at h
  ·rename_i hl;obtain⟨bs,h1,h2⟩:=hr.defers;rw[hd]at h2
   cases bs with
   |nil=>simp at h2|cons b bs=>
    simp at h2;obtain⟨B,k1,k2,k3⟩:=hr.fin.mem.holds n _ hl;rw[k1]at h2;obtain⟨e,h2⟩:=h2;injection e with e;subst e
    have hr1:=hr.setBox (bx' := .dead) (o := .deferred none) hl (show G.at n .dfr=some b from k1) (fun c hc=>by cases hc) trivial k3
    have hr2:ak vjc vi7 vi9 G { s with hp:=(n,.dead)::s.hp,df:=ns } { a with defers:=bs.map (fun b=>{ target := .collected b,args:=#[] }) } (w.putObj b (.deferred none)):=
     ⟨⟨bs,rfl,h2⟩,hr1.size,hr1.frame,hr1.fresh,hr1.fin⟩
    have hs:=step_collected (P:=P) (cs:=cs) (fr:=fr) (by rw[hm];simp) (by rw[hfd,h1];rfl) rfl (run_takeDeferred k2)
    obtain⟨w',i1,i2⟩:=zf4 (a:={ a with defers:=bs.map (fun b=>{ target := .collected b,args:=#[] }) }) rfl h hr2 { fr with defers:=[]++bs.map (fun b=>{ target := .collected b,args:=#[] }) } cs hm rfl
    exact⟨w',i1,(Steps.one hs).trans i2⟩
  ·cases h
end
structure Cx.Ok(cx:Cx)(body:Code):Prop where
 ents:∀e∈cx.tb.ents,e.Sound cx.P
 mixed:cx.P.follows .mixedOrders=true
 func:cx.P.funcs[cx.f]? = some cx.fn
 tags:∀p t,pf p cx.tags=some t->∀g ps x y,sub body p = .rangeFunc g ps x y->LC.lc t=some (x,y)
def ul(cx:Cx)(vi7:Gh)(vi9:List (Nat×ah))(b:Frame):Prop:=match cx.rd with|none=>b.roundOf=none|some m=>∃B bx,vi7.box m=some B/\ag vi9 m=some bx/\b.roundOf=some B
section
variable{vjc:World}{vi7:Gh}{vi9:List (Nat×ah)}{G:Gh}{s:St}{a:Act}{w:World}
def z29{P:Program}(fn:FuncId)(tmps:Array Value)(ps:Array Tmp)(asn bo:Code){l:Nat}{r:Loop}(h:w.heap[l]? = some (.loop r)) :
  (Instr.enterLoop fn tmps ps asn bo (some l)).run P w = .ok (w.heap.size,[]) (w.alloc (.loop { state := .ready,pending:=none,fn,tmps,params:=ps,assign:=asn,body:=bo,defers:=r.defers })):=by
 unfold Instr.enterLoop;simp only[Sem.run_bind,run_getLoop h,run_newObj_alloc,Result.andThen,Sem.run_pure]
def zio(hr:ak vjc vi7 vi9 G s a w){k D DB:Nat}{f:FuncId}{ps:Array Tmp}{tag:Nat}{asn bo:Code}(htag:LC.lc tag=some (asn,bo))(hk:ag s.hp k=none)(hkx:s.nx<=k)(hD:G.box D=some DB)(hne:D≠k) :
  ak vjc vi7 vi9 (G.addBox k w.heap.size) { s with hp:=(k,.loop .ready none f s.n s.fr ps.toList tag D)::s.hp } a (w.alloc (.loop { state := .ready,pending:=none,fn:=f,tmps:=a.tmps,params:=ps,assign:=asn,body:=bo,defers:=DB })):=by
 have hle:G.le (G.addBox k w.heap.size):=Gh.addBox_le (hr.fresh k hkx hk).1;refine hr.newBox hk hkx (fun b hb => ?_) ⟨w.heap.size,a.tmps,DB,Gh.addBox_self,by rw[Gh.addBox_ne hne];exact hD,⟨asn,bo,htag,?_⟩,hr.size,fun i x hx => ?_,fun o => ?_⟩
 ·have hb:(G.addBox k w.heap.size).box k=some b:=hb;rw[Gh.addBox_self]at hb;injection hb with hb;exact hb.symm
 ·rw[tf];simp
 ·obtain⟨v,h1,h2⟩:=hr.frame i x hx;exact⟨v,h1,h2.le hle⟩
 ·cases hq:(G.addBox k w.heap.size).imm w.heap.size o with
  |none=>rfl|some v=>
   have:=World.block_lt_of_cell? _ _ (hr.fin.mem.agree _ _ _ hq);simp at this
def ak.nx(hr:ak vjc vi7 vi9 G s a w){k:Nat}(h:s.nx<=k):ak vjc vi7 vi9 G { s with nx:=k } a w:=⟨hr.defers,hr.size,hr.frame,fun m hm hl=>hr.fresh m (Nat.le_trans h hm) hl,hr.fin⟩
def zvm(hr:ak vjc vi7 vi9 G s a w){cx:Cx}{ps:Array Tmp}{tag:Nat}{asn bo:Code}(htag:LC.lc tag=some (asn,bo)){s1:St}(h:s.enterRF cx.f ps.toList tag cx.rd=some s1){b:Frame}(hb:b.fn=cx.f)(hrd:ul cx vi7 vi9 b) :
  ∃G1 l mark w1,(Instr.enterLoop b.fn a.tmps ps asn bo b.roundOf).run cx.P w = .ok (l,mark) w1/\G1.box s.nx=some l/\G.le G1/\ak vjc vi7 vi9 G1 s1 { a with defers:=mark++a.defers } w1/\s1.nx=s.nx+32:=by
 unfold St.enterRF at h;cases hn:a8 s.nx s.hp<;>rw[hn]at h<;>simp only[qT,qF,reduceCtorEq]at h
 have hk0:=np hn s.nx (wF _) oA
 have hk1:=np hn (s.nx+1) oA oA
 unfold ul at hrd;split at h
 ·rename_i hc;rw[hc]at hrd;simp only at hrd;simp only[qI]at h;subst h;have hr1:=hr.newBox (k:=s.nx+1) (bx := .dfr) (o := .deferred (some [])) hk1 oA (fun b hb=>by
   have hb:(G.addBox (s.nx+1) w.heap.size).box (s.nx+1)=some b:=hb;rw[Gh.addBox_self]at hb;injection hb with hb;exact hb.symm)
   ⟨w.heap.size,Gh.addBox_self,tf _ _,fun o=>by
    cases hq:(G.addBox (s.nx+1) w.heap.size).imm w.heap.size o with
    |none=>rfl|some v=>
     have:=World.block_lt_of_cell? _ _ (hr.fin.mem.agree _ _ _ hq);simp at this⟩
  have hk0':ag ((s.nx+1,ah.dfr)::s.hp) s.nx=none:=by
   simp only[ag];have:Nat.beq (s.nx+1) s.nx=false:=by
    cases hq:Nat.beq (s.nx+1) s.nx
    ·rfl
    ·have:=qN hq;omega
   rw[this];exact hk0
  have hr2:=zio hr1 (k:=s.nx) (D:=s.nx+1) (f:=cx.f) (ps:=ps) htag hk0' (wF _) Gh.addBox_self oA
  have hle1:G.le (G.addBox (s.nx+1) w.heap.size):=Gh.addBox_le (hr.fresh (s.nx+1) oA hk1).1
  have hle2:(G.addBox (s.nx+1) w.heap.size).le ((G.addBox (s.nx+1) w.heap.size).addBox s.nx (w.alloc (.deferred (some []))).heap.size):=Gh.addBox_le (hr1.fresh s.nx (wF _) hk0').1;refine⟨_,w.heap.size+1,[{ target := .collected w.heap.size,args:=#[] }],_,by rw[hrd,hb];exact run_enterLoop_outer _ _ _ _ _,?_,hle1.trans hle2,?_,rfl⟩
  ·rw[Gh.addBox_self,World.size_alloc]
  ·have hr3:=hr2.nx (k:=s.nx+32) (by show s.nx<=_;omega)
   refine⟨?_,hr3.size,hr3.frame,hr3.fresh,hr3.fin⟩;obtain⟨bs,h1,h2⟩:=hr3.defers;refine⟨w.heap.size::bs,by rw[h1];rfl,?_⟩
   simp only[List.map_cons,List.cons.injEq];refine⟨?_,h2⟩;rw[Gh.addBox_ne oA,Gh.addBox_self]
 ·rename_i m hc;rw[hc]at hrd;simp only at hrd;obtain⟨B,bx0,e1,e2,e3⟩:=hrd;split at h
  ·rename_i D hm;simp only[qI]at h;subst h;obtain⟨B',tmps,DB,k1,k2,⟨asn',bo',_,k3⟩,_⟩:=hr.fin.mem.holds _ _ hm;have:=hr.fin.keep m bx0 B e2 e1;rw[this]at k1;injection k1 with k1;subst k1
   have hne:D≠s.nx:=fun e=>by subst e;rw[(hr.fresh _ (wF _) hk0).1]at k2;cases k2
   have hr2:=zio hr (k:=s.nx) (D:=D) (f:=cx.f) (ps:=ps) htag hk0 (wF _) k2 hne;have hle2:G.le (G.addBox s.nx w.heap.size):=Gh.addBox_le (hr.fresh s.nx (wF _) hk0).1;refine⟨_,w.heap.size,[],_,by rw[e3,hb];exact z29 _ _ _ _ _ k3,Gh.addBox_self,hle2,?_,rfl⟩
   exact hr2.nx (k:=s.nx+32) (by show s.nx<=_;omega)
  ·cases h
end
def q7c:Option dx->List Item|none=>[]|some j=>[.code j.code]
section
variable{vjc:World}{vi7:Gh}{vi9:List (Nat×ah)}{G:Gh}{s:St}{a:Act}{w:World}{cx:Cx}{body:Code}{R:Type}
def zk4(ok:cx.Ok body)(hr:ak vjc vi7 vi9 G s a w){p:List Nat}{g:Operand}{ps:Array Tmp}{asn bo:Code}(hsub:sub body p = .rangeFunc g ps asn bo){q:Rq×St×List AV}(hq:qw4 cx p g ps.toList s=some q)
  {K:Option dx->St->Option R} {x:R} (h:qw5 s.nx q K=some x) {b:Frame} (cs:List Frame) (hb:b.fn=cx.f) (_hkind:b.kind = .normal) (hrd:ul cx vi7 vi9 b) (k:List Item) :
  ∃j s' G' a' w',K j s'=some x/\ak vjc vi7 vi9 G' s' a' w'/\Steps cx.P (lone (b.atR a (.code (.rangeFunc g ps asn bo)::k)) cs w) (lone (b.atR a' (q7c j++k)) cs w'):=by
 unfold qw4 at hq;split at hq
 ·rename_i tag h0 cap ht hg;split at hq
  ·rename_i s1 hs1;split at hq
   ·rename_i q1 hq1;have hq:=qJ hq;subst hq;obtain⟨G1,l,mark,w1,he,hl,hle,hr1,hnx⟩:=zvm hr (ok.tags p tag ht g ps asn bo hsub) hs1 hb hrd;unfold qw5 at h;obtain⟨d,hd,h⟩:=Rq.K_some h;simp only at h hd;obtain⟨e,hemem,hc⟩:=qc8 hq1;unfold qn6 at hc;cases hkk:ve h0 e.key<;>rw[hkk]at hc<;>simp only[qT,qF,reduceCtorEq]at hc
    obtain⟨N,x1,x1',y,k1,k2,k3,k4,k5,k6⟩:=qwk hc hd;subst k2;have hs:=ok.ents e hemem x1 x1' y k1;rw[q7e hkk]at hs;obtain⟨hpl,hct⟩:=hs;unfold zk3 at h;simp only at h;cases hbb:ei N&&uz N&&a8 s1.nx s1.hp<;>rw[hbb]at h<;>simp only[qT,qF,reduceCtorEq]at h
    simp only[qA]at hbb;obtain⟨⟨hb1,_⟩,hb2⟩:=hbb
    cases hv:jp (ay N) s1.hp N with
    |none=>rw[hv]at h;simp only[reduceCtorEq]at h|some hpv=>
    cases hvs:bg false [] (AV.rens (ay N) (.yld s.nx::cap)) (Pts.put e.args x1) with
    |none=>rw[hv,hvs]at h;simp only[reduceCtorEq]at h|some ps1=>
    rw[hv,hvs]at h;simp only at h
    cases hvw:l7 hpv (cq e.hp x1') with
    |none=>rw[hvw]at h;simp only[reduceCtorEq]at h|some ps2=>
    rw[hvw]at h;simp only at h;have p1:=k5 _ hvs;have p2:=k6 _ _ hv hvw;obtain⟨fs,cps,hge,hfs,hcs⟩:=bh hr hg;have hfs0:fs=#[]:=Array.eq_empty_of_size_eq_zero (by simpa using hfs.length.symm)
    subst hfs0;have hge':({ a with defers:=mark++a.defers }:Act).eval g = .func (.func h0) #[] cps:=hge
    have hres:(resolve a.eval (rangeCall g l) 0).run cx.P w1 = .ok { target := .fn (.func h0) cps,args:=#[.func (.yield l) #[] #[]] } w1:=by
     have hy:a.eval (.const (.func (.yield l) #[] #[])) = .func (.yield l) #[] #[]:=rfl;simp[resolve,hge,Deferred.ofValue,hy]
    have hinv:(invoke (.fn (.func h0) cps) #[.func (.yield l) #[] #[]]).run cx.P w1 = .ok (.enter h0 (#[.func (.yield l) #[] #[]]++cps)) w1:=by
     simp[invoke,hpl _ w1]
    have henter:=stepR_rangeFunc (P:=cx.P) (b:=b) (a:=a) (k:=k) (cs:=cs) he hres hinv;have hreps:am (.yld s.nx::cap) G1 (.func (.yield l) #[] #[]::cps.toList):=⟨⟨l,hl,rfl⟩,hcs.le hle⟩;have hm:cv (G1.view N) (cq e.hp x1') w1:=(hr1.fin.mem.view hv (qg4 hb1)).vw hvw p2;have hreps2:=mo (Gh.le.refl _) (fun e=>by cases e) hvs p1 (am.ren (G:=G1) (G':=G1.view N) (fun _ _ _ h=>h) (vx N) (yl N) hreps)
    have hcalls:=hct w1 (G1.view N) _ hm hreps2;have e1:(Value.func (.yield l) #[] #[]::cps.toList).toArray=#[.func (.yield l) #[] #[]]++cps:=oC
    rw[e1]at hcalls;obtain⟨en,w2,fr,hpost,hcomes,hfrfn,hleave⟩:=hcalls (b.atR { a with defers:=mark++a.defers } (.inRangeFunc l::k)::cs)
    obtain⟨G2,v,rfl,_,hle2,hr2⟩:=ziz hr1 hb1 hb2 (wF _) hv hvw p2 hpost;have hsteps:Steps cx.P (lone (b.atR a (.code (.rangeFunc g ps asn bo)::k)) cs w) (lone (b.atR { a with defers:=mark++a.defers } (.endRangeFunc l::k)) cs w2):=by
     refine(Steps.one henter).trans (Steps.trans hcomes (.one ?_));rw[← finish_atR_inRangeFunc l v];exact step_leave_returned hleave
    split at h
    ·rename_i st pe f' n' fr' ps' tag' D' hlk;cases hnb:zja st<;>rw[hnb]at h<;>simp only[qT,qF,reduceCtorEq]at h
     obtain⟨B,tmps,DB,i1,i2,⟨asn',bo',_,i3⟩,i4,i5,i6⟩:=hr2.fin.mem.holds _ _ hlk;have:=hle2.box _ _ hl;rw[this]at i1;injection i1 with i1;subst i1
     have hend:=run_endLoop (P:=cx.P) i3 (by intro e;simp only at e;subst e;cases hnb)
     have hst:=stepR_endRangeFunc (b:=b) (a:={ a with defers:=mark++a.defers }) (k:=k) (cs:=cs) hend
     have e2:(Option.map Item.code (Option.map dx.code pe)).toList=q7c pe:=by cases pe<;>rfl
     rw[e2]at hst;exact⟨pe,_,G2,{ a with defers:=mark++a.defers },_,h,(hr2.nx (k:=s1.nx+32) (Nat.le_add_right _ _)).setBox (bx' := .dead) hlk (show G2.at s.nx (.loop st pe f' n' fr' ps' tag' D')=some l from this) (fun c hc=>by cases hc) trivial i6,hsteps.trans (.one hst)⟩
    ·cases h
   ·cases hq
  ·cases hq
 ·cases hq
def z14(ok:cx.Ok body)(hr:ak vjc vi7 vi9 G s a w){p:List Nat}{g:Operand}{ps:Array Tmp}{asn bo:Code}(hsub:sub body p = .rangeFunc g ps asn bo)
  {K:Option dx->St->Option R} {x:R} (h:rfR cx p g ps.toList s K=some x) {b:Frame} (cs:List Frame) (hb:b.fn=cx.f) (hkind:b.kind = .normal) (hrd:ul cx vi7 vi9 b) (k:List Item) :
  ∃j s' G' a' w',K j s'=some x/\ak vjc vi7 vi9 G' s' a' w'/\Steps cx.P (lone (b.atR a (.code (.rangeFunc g ps asn bo)::k)) cs w) (lone (b.atR a' (q7c j++k)) cs w'):=by
 unfold rfR at h;split at h
 ·rename_i q hq;exact zk4 ok hr hsub hq h cs hb hkind hrd k
 ·split at h
  ·rename_i s' hs';have:∃G',ak vjc vi7 vi9 G' s' a w:=by
    unfold zk5 at hs';split at hs'
    ·split at hs'
     ·split at hs'
      ·have hs':=qJ hs';subst hs';obtain⟨G1,hr1⟩:=hr.frzL;exact hr1.coB
      ·cases hs'
     ·cases hs'
    ·cases hs'
   obtain⟨G',hr'⟩:=this;split at h
   ·rename_i q hq;exact zk4 ok hr' hsub hq h cs hb hkind hrd k
   ·cases h
  ·cases h
def lj(cx:Cx)(vi9:List (Nat×ah)){R:Type}(enc:RS R)(k:List Item)(s:St)(r:R):Prop:=
 ∀(vjc:World)(vi7 G:Gh)(a:Act)(w:World),ak vjc vi7 vi9 G s a w->∀(b:Frame)(cs:List Frame),b.fn=cx.f->b.kind = .normal->ul cx vi7 vi9 b ->
  qbd cx.P b.roundOf cx.f (lone (b.atR a k) cs w) cs fun v w'=>∃G',Fin vjc vi7 vi9 G' (enc.res r).2 w'/\aj (enc.res r).1 G' v
def qyq(cx:Cx)(j:Option dx)(k:List Item):Prop:=match j with|none=>k=[]|some .ret=>∃k',k = .code .ret::k'|some (.exit id)=>cx.rd≠none/\∃k',k = .code (.exit id)::k'/\exitTo id k'=none
def qva(ok:cx.Ok body)(hid:∀n bx,ag vi9 n=some bx->a7 cx.ids n=some n){enc:RS R}{j:Option dx}{r:R}{k:List Item}(hk:qyq cx j k)(h:qf cx enc j s=some r):lj cx vi9 enc k s r:=by
 intro vjc vi7 G a w hr b cs hb hkind hrd;unfold qf at h;unfold ul at hrd;split at h
 ·rename_i hrdn;rw[hrdn]at hrd;simp only at hrd;split at h
  ·rename_i s' hs';have h1:Steps cx.P (lone (b.atR a k) cs w) (lone { b.atR a k with mode := .returning } cs w):=by
    cases j with
    |none=>simp only[qyq]at hk;subst hk;exact .one (stepR_end hrd)|some j=>cases j with
     |ret=>obtain⟨k',rfl⟩:=hk;exact .one (stepR_ret hrd)
     |exit id=>exact absurd hrdn hk.1
   obtain⟨w',i1,i2⟩:=zf4 (P:=cx.P) rfl hs' hr { b.atR a k with mode := .returning } cs rfl rfl
   obtain⟨u,u1,u2⟩:=qvn (P:=cx.P) i1 hid h;rw[hrd];exact⟨u,w',_,u2,h1.trans i2,hb,rfl,rfl,hkind,cx.fn,by rw[← ok.func,← hb];rfl,u1⟩
  ·cases h
 ·rename_i m hrdm;rw[hrdm]at hrd;simp only at hrd;obtain⟨B,bx0,e1,e2,e3⟩:=hrd;cases hd:s.noDf<;>rw[hd]at h<;>simp only[qT,qF,reduceCtorEq]at h
  split at h
  ·rename_i st pe f n fr ps tag D hl;obtain⟨B',tmps,DB,i1,i2,⟨asn,bo,i3,i4⟩,i5,i6,i7⟩:=hr.fin.mem.holds _ _ hl;have:=hr.fin.keep m bx0 B e2 e1;rw[this]at i1;injection i1 with i1;subst i1
   have hend:=run_endRound (P:=cx.P) (j.map dx.code) i4;have hiso:(j.map dx.code).isNone=xp j:=by cases j<;>rfl
   rw[hiso]at hend;have hst:(if xp j=true then LoopState.ready else LoopState.done)=(bif xp j then LoopState.ready else LoopState.done):=by cases xp j<;>rfl
   rw[hst]at hend;have hr2:=hr.setBox (bx' := .loop (bif xp j then .ready else .done) j f n fr ps tag D) (o := .loop { state:=bif xp j then .ready else .done,pending:=j.map dx.code,fn:=f,tmps:=tmps,params:=ps.toArray,assign:=asn,body:=bo,defers:=DB }) hl (show G.box m=some B from this)
    (fun c hc=>by have hc:G.box m=some c:=hc;rw[this]at hc;injection hc with hc;exact hc.symm)
    ⟨B,tmps,DB,this,i2,⟨asn,bo,i3,by rw[World.putObj_heap_same (Array.getElem?_eq_some_iff.1 i4).1]⟩,i5,i6,i7⟩ i7
   have hfin:=qvn (P:=cx.P) hr2 hid h;rw[e3];intro c cs' hcs;subst hcs;refine⟨.bool (xp j),_,hfin _ rfl,.one ?_⟩
   cases j with
   |none=>simp only[qyq]at hk;subst hk;exact stepR_round_end e3 hkind hend|some j=>cases j with
    |ret=>obtain⟨k',rfl⟩:=hk;exact stepR_round_ret e3 hkind hend
    |exit id=>obtain⟨_,k',rfl,hx⟩:=hk;exact stepR_round_exit e3 hkind hx hend
  ·cases h
end
section
variable{vi9:List (Nat×ah)}{s:St}{cx:Cx}{body:Code}{R:Type}{enc:RS R}
def lj.via{k k':List Item}{s':St}{r:R}(h:lj cx vi9 enc k' s' r)(hs:∀vjc vi7 G a w,ak vjc vi7 vi9 G s a w->∀(b:Frame)(cs:List Frame),b.fn=cx.f->b.kind = .normal->ul cx vi7 vi9 b ->
  ∃G' a' w',ak vjc vi7 vi9 G' s' a' w'/\Steps cx.P (lone (b.atR a k) cs w) (lone (b.atR a' k') cs w')):lj cx vi9 enc k s r:=by
 intro vjc vi7 G a w hr b cs hb hk hrd;obtain⟨G',a',w',h1,h2⟩:=hs vjc vi7 G a w hr b cs hb hk hrd;exact(h vjc vi7 G' a' w' h1 b cs hb hk hrd).head h2
def lj.one{k k':List Item}{r:R}(h:lj cx vi9 enc k' s r)(hs:∀(a:Act)(w:World)(b:Frame)(cs:List Frame),step cx.P (lone (b.atR a k) cs w) = .next (lone (b.atR a k') cs w)):lj cx vi9 enc k s r:=
 h.via fun _ _ G a w hr b cs _ _ _=>⟨G,a,w,hr,.one (hs a w b cs)⟩
def uk(cx:Cx)(vi9:List (Nat×ah)){R:Type}(enc:RS R)(body:Code)(l:gh R):Prop:=∀d r,l.F d=some r->lj cx vi9 enc (eu (mf body l.key)) (l.ls.st d) r
def q8q{ids:NM}{s:St}{k:List eh}:∀{ls:List (gh R)}{l:gh R},qdn ids s k ls=some l->l∈ls/\qg7 l.key k=true
 |[],_,h=>by cases h
 |x::xs,l,h=>by
  simp only[qdn]at h;cases hb:qg7 x.key k<;>rw[hb]at h<;>simp only[qT,qF]at h
  ·obtain⟨h1,h2⟩:=q8q h;exact⟨qE _ h1,h2⟩
  ·split at h
   ·simp only[qI]at h;subst h;exact⟨qH,hb⟩
   ·rename_i l' hl;split at h
    ·simp only[qI]at h;subst h;exact⟨qH,hb⟩
    ·simp only[qI]at h;subst h;obtain⟨h1,h2⟩:=q8q hl;exact⟨qE _ h1,h2⟩
def zjj{i:eh}{k:List eh}(h:∀x∈i::k,x.Ok body):i.Ok body/\∀x∈k,x.Ok body:=⟨h _ qH,fun x hx=>h x (qE _ hx)⟩
def nd{i:eh}{k:List eh}(h:i.Ok body)(k':∀x∈k,x.Ok body):∀x∈i::k,x.Ok body:=fun x hx=>by
 rcases List.mem_cons.1 hx with rfl|hx
 ·exact h
 ·exact k' x hx
def zt9{kd:Nat}{p:List Nat}{c:Code}(h:(eh.mk kd p (.code c)).Ok body):sub body p=c:=zxe h
def uv{p:List Nat}{c:Code}(i:Nat){x:Code}(h:sub body p=c)(hc:xg i c=x):(eh.mk 0 (i::p) (.code x)).Ok body:=by
 show Item.code x = .code (xg i (sub body p));rw[h,hc]
def ztj{p:List Nat}{id:Nat}{x:Code}(h:sub body p = .block id x):(eh.mk 1 p (.inBlock id)).Ok body:=by
 show Item.inBlock id=(match sub body p with | .block id _ => .inBlock id|c => .code c)
 rw[h]
def zin{p:List Nat}{x:Code}(h:sub body p = .loop x):(eh.mk 2 p (.inLoop x)).Ok body:=by
 show Item.inLoop x=(match sub body p with | .loop x => .inLoop x|c => .code c)
 rw[h]
def z33{P:Program}{b:Frame}{a:Act}{k:List Item}{cs:List Frame}{w:World}{x:Code}:step P (lone (b.atR a (.inScope x::k)) cs w) = .next (lone (b.atR a k) cs w):=
 step_lone_go (by simp[stepG,stepG.exec,Frame.atR])
def z34{P:Program}{b:Frame}{a:Act}{k:List Item}{cs:List Frame}{w:World}{c:Code} :
  step P (lone (b.atR a (.code (.scope c)::k)) cs w) = .next (lone (b.atR a (.code c :: .inScope c::k)) cs w):=
 step_lone_go (by simp[stepG,stepG.exec,Frame.atR])
def z3o{p:List Nat}{x:Code}(h:sub body p = .scope x):(eh.mk 3 p (.inScope x)).Ok body:=by
 show Item.inScope x=(match sub body p with | .scope x => .inScope x|c => .code c)
 rw[h]
def q6j{id:Nat}:∀{k:List eh},ta id k=none->(∀i∈k,i.Ok body)->exitTo id (eu k)=none
 |[],_,_=>rfl|⟨kd,p,it⟩::k,h,hk=>by
  simp only[ta]at h;have hk':=(zjj hk).2;split at h
  ·rename_i id';split at h
   ·cases h
   ·rename_i he;simp only[eu,exitTo];rw[qW he];exact q6j h hk'
  ·rename_i hne;have:=q6j h hk';simp only[eu];cases it<;>first
    |(exfalso;exact hne _ rfl)
    |(simp only[exitTo];exact this)
abbrev IH(cx:Cx)(vi9:List (Nat×ah)){R:Type}(enc:RS R)(body:Code)(labs:List (gh R))(n:Nat):Prop:=
 ∀(chk:Bool)(k:List eh)(s:St)(r:R),(∀i∈k,i.Ok body)->run cx enc labs n chk k s=some r->lj cx vi9 enc (eu k) s r
def qdr(cx:Cx){R:Type}(enc:RS R)(labs:List (gh R))(n:Nat)(p:List Nat)(k':List eh)(s:St)(c:Code):Option R:=match c with
 |.skip=>run cx enc labs n true k' s|.label _=>run cx enc labs n true k' s|.seq x y=>run cx enc labs n true (⟨0,0::p,.code x⟩::⟨0,1::p,.code y⟩::k') s|.cond c x y=>match s.ev c with|some (.bool b)=>bif b then run cx enc labs n true (⟨0,0::p,.code x⟩::k') (s.know c true) else run cx enc labs n true (⟨0,1::p,.code y⟩::k') (s.know c false)|some (.val (.bool b))=>bif b then run cx enc labs n true (⟨0,0::p,.code x⟩::k') s else run cx enc labs n true (⟨0,1::p,.code y⟩::k') s|_=>none
 |.block id x=>run cx enc labs n true (⟨0,0::p,.code x⟩::⟨1,p,.inBlock id⟩::k') s|.loop x=>run cx enc labs n true (⟨0,0::p,.code x⟩::⟨2,p,.inLoop x⟩::k') s|.scope x=>run cx enc labs n true (⟨0,0::p,.code x⟩::⟨3,p,.inScope x⟩::k') s|.exit id=>match ta id k' with
  |some k''=>run cx enc labs n true k'' s|none=>match cx.rd with|some _=>qf cx enc (some (.exit id)) s|none=>none
 |.region _ ops d=>bif d then q6d cx.P cx.tb ops s (fun s'=>run cx enc labs n true k' s'.bump) else qdl cx.P cx.tb ops ops.toList s (fun s'=>run cx enc labs n true k' s'.bump)
 |.ret=>qf cx enc (some .ret) s|.rangeFunc g ps _ _=>rfR cx p g ps.toList s fun j s'=>match j with
  |none=>run cx enc labs n true k' s'|some .ret=>qf cx enc (some .ret) s'|some (.exit id)=>match ta id k' with
   |some k''=>run cx enc labs n true k'' s'|none=>match cx.rd with|some _=>qf cx enc (some (.exit id)) s'|none=>none
 |_=>none
def z28{labs:List (gh R)}{n:Nat}(ih:IH cx vi9 enc body labs n){p:List Nat}{k':List eh}{c:Operand}{x y:Code}{r:R}(hsub:sub body p = .cond c x y)(hk':∀i∈k',i.Ok body)(h:qdr cx enc labs n p k' s (.cond c x y)=some r):lj cx vi9 enc (.code (.cond c x y)::eu k') s r:=by
 unfold qdr at h;simp only at h;split at h
 ·rename_i t ht;cases t<;>simp only[qT,qF]at h
  ·refine(ih true _ _ r (nd (uv 1 hsub rfl) hk') h).via fun vjc vi7 G a w hr b cs _ _ _ => ?_
   have he:a.eval c = .bool false:=bh hr ht;exact⟨G,a,w,hr.know he,.one (stepR_cond he)⟩
  ·refine(ih true _ _ r (nd (uv 0 hsub rfl) hk') h).via fun vjc vi7 G a w hr b cs _ _ _ => ?_
   have he:a.eval c = .bool true:=bh hr ht;exact⟨G,a,w,hr.know he,.one (stepR_cond he)⟩
 ·rename_i t ht;cases t<;>simp only[qT,qF]at h
  ·refine(ih true _ _ r (nd (uv 1 hsub rfl) hk') h).via fun vjc vi7 G a w hr b cs _ _ _ => ?_
   have he:a.eval c = .bool false:=bh hr ht;exact⟨G,a,w,hr,.one (stepR_cond he)⟩
  ·refine(ih true _ _ r (nd (uv 0 hsub rfl) hk') h).via fun vjc vi7 G a w hr b cs _ _ _ => ?_
   have he:a.eval c = .bool true:=bh hr ht;exact⟨G,a,w,hr,.one (stepR_cond he)⟩
 ·cases h
def z3e(ok:cx.Ok body){labs:List (gh R)}{n:Nat}(ih:IH cx vi9 enc body labs n){p:List Nat}{k':List eh}{id:Nat}{ops:Array Oper}{d:Bool}{r:R}(hk':∀i∈k',i.Ok body)(h:qdr cx enc labs n p k' s (.region id ops d)=some r):lj cx vi9 enc (.code (.region id ops d)::eu k') s r:=by
 unfold qdr at h;simp only at h;cases d<;>simp only[qT,qF]at h
 ·intro vjc vi7 G a w hr b cs hb hkd hrd;have hops:=zjp (P:=cx.P) (ops:=ops) ok.ents (N:=fun a' w'=>qbd cx.P b.roundOf cx.f (lone (b.atR a' (eu k')) cs w') cs fun v w'=>∃G',Fin vjc vi7 vi9 G' (enc.res r).2 w'/\aj (enc.res r).1 G' v)
   (fun s' h' G' a' w' hr'=>ih true k' s'.bump r hk' h' vjc vi7 G' a' w' hr'.bump b cs hb hkd hrd) ops.toList 0 s G a w (fun j hj=>oC) h hr
  have e:List.range' 0 ops.toList.length=List.range ops.size:=by simp[List.range_eq_range']
  rw[e]at hops;obtain⟨a',w',h1,h2⟩:=zus (id:=id) hops b (eu k') cs hkd;exact h1.head h2
 ·intro vjc vi7 G a w hr b cs hb hkd hrd;obtain⟨a',w',h1,h2⟩:=zu9 (P:=cx.P) ok.ents ok.mixed h (N:=fun a' w'=>qbd cx.P b.roundOf cx.f (lone (b.atR a' (eu k')) cs w') cs fun v w'=>∃G',Fin vjc vi7 vi9 G' (enc.res r).2 w'/\aj (enc.res r).1 G' v)
   (fun s' h' G' a' w' hr'=>ih true k' s'.bump r hk' h' vjc vi7 G' a' w' hr'.bump b cs hb hkd hrd) hr id b (eu k') cs hkd
  exact h1.head h2
def zlr(ok:cx.Ok body)(hid:∀n bx,ag vi9 n=some bx->a7 cx.ids n=some n){labs:List (gh R)}{n:Nat}(ih:IH cx vi9 enc body labs n){k':List eh}{id:Nat}{r:R}(hk':∀i∈k',i.Ok body)
  (h:(match ta id k' with
   |some k''=>run cx enc labs n true k'' s|none=>match cx.rd with
    |some _=>qf cx enc (some (.exit id)) s| none=>none)=some r):lj cx vi9 enc (.code (.exit id)::eu k') s r:=by
 split at h
 ·rename_i k'' hx;obtain⟨h1,h2⟩:=q6k hx;exact(ih true k'' s r (fun i hi=>hk' i (h2 i hi)) h).one fun a w b cs=>stepR_exit h1
 ·rename_i hx;split at h
  ·rename_i m hm;exact qva ok hid (j:=some (.exit id)) ⟨by rw[hm];simp,_,rfl,q6j hx hk'⟩ h
  ·cases h
def z3d(ok:cx.Ok body)(hid:∀n bx,ag vi9 n=some bx->a7 cx.ids n=some n){labs:List (gh R)}{n:Nat}(ih:IH cx vi9 enc body labs n){p:List Nat}{k':List eh}{g:Operand}{ps:Array Tmp}{asn bo:Code}{r:R}(hsub:sub body p = .rangeFunc g ps asn bo)(hk':∀i∈k',i.Ok body)
  (h:qdr cx enc labs n p k' s (.rangeFunc g ps asn bo)=some r):lj cx vi9 enc (.code (.rangeFunc g ps asn bo)::eu k') s r:=by
 unfold qdr at h;simp only at h;intro vjc vi7 G a w hr b cs hb hkd hrd;obtain⟨j,s',G',a',w',h1,h2,h3⟩:=z14 ok hr hsub h cs hb hkd hrd (eu k');refine qbd.head h3 ?_
 cases j with
 |none=>exact ih true k' s' r hk' h1 vjc vi7 G' a' w' h2 b cs hb hkd hrd|some j=>cases j with|ret=>exact qva ok hid (j:=some .ret) (k := .code .ret::eu k') ⟨_,rfl⟩ h1 vjc vi7 G' a' w' h2 b cs hb hkd hrd|exit id=>exact zlr ok hid ih hk' h1 vjc vi7 G' a' w' h2 b cs hb hkd hrd
def z27(ok:cx.Ok body)(hid:∀n bx,ag vi9 n=some bx->a7 cx.ids n=some n){labs:List (gh R)}{n:Nat}(ih:IH cx vi9 enc body labs n){kd:Nat}{p:List Nat}{k':List eh}{c:Code}{r:R}(hi:(eh.mk kd p (.code c)).Ok body)(hk':∀i∈k',i.Ok body)
  (h:qdr cx enc labs n p k' s c=some r):lj cx vi9 enc (.code c::eu k') s r:=by
 have hsub:=zt9 hi
 cases c with
 |skip=>exact(ih true k' s r hk' h).one fun a w b cs=>stepR_skip
 |label l=>exact(ih true k' s r hk' h).one fun a w b cs=>stepR_label
 |seq x y=>exact(ih true _ s r (nd (uv 0 hsub rfl) (nd (uv 1 hsub rfl) hk')) h).one fun a w b cs=>stepR_seq
 |cond c x y=>exact z28 ih hsub hk' h|block id x=>exact(ih true _ s r (nd (uv 0 hsub rfl) (nd (ztj hsub) hk')) h).one fun a w b cs=>stepR_block
 |loop x=>exact(ih true _ s r (nd (uv 0 hsub rfl) (nd (zin hsub) hk')) h).one fun a w b cs=>stepR_loop
 |scope x=>exact(ih true _ s r (nd (uv 0 hsub rfl) (nd (z3o hsub) hk')) h).one fun a w b cs=>z34
 |exit id=>exact zlr ok hid ih hk' h|region id ops d=>exact z3e ok ih hk' h|ret=>exact qva ok hid (j:=some .ret) ⟨_,rfl⟩ h|rangeFunc g ps asn bo=>exact z3d ok hid ih hsub hk' h|_=>cases h
def z26{labs:List (gh R)}{n:Nat}(ih:IH cx vi9 enc body labs n){k':List eh}{r:R}(hk':∀i∈k',i.Ok body)
  (h:(match cx.rd with
   |some m=>match ag s.hp m with|some (.loop .ready pe f n' fr ps tag D)=>run cx enc labs n true k' { s with hp:=(m,.loop .busy pe f n' fr ps tag D)::s.hp }|_=>none
   | none=>none)=some r):lj cx vi9 enc (.beginRound::eu k') s r:=by
 split at h
 ·rename_i m hm;split at h
  ·rename_i pe f n' fr ps tag D hl;refine(ih true k' _ r hk' h).via fun vjc vi7 G a w hr b cs _ _ hrd => ?_
   unfold ul at hrd;rw[hm]at hrd;simp only at hrd;obtain⟨B,bx0,e1,e2,e3⟩:=hrd;obtain⟨B',tmps,DB,i1,i2,⟨asn,bo,i3,i4⟩,i5,i6,i7⟩:=hr.fin.mem.holds _ _ hl;have:=hr.fin.keep m bx0 B e2 e1;rw[this]at i1;injection i1 with i1;subst i1
   have hbr:=run_beginRound (P:=cx.P) i4 rfl;exact⟨G,a,_,hr.setBox (bx' := .loop .busy pe f n' fr ps tag D) hl (show G.box m=some B from this)
    (fun c hc=>by have hc:G.box m=some c:=hc;rw[this]at hc;injection hc with hc;exact hc.symm)
    ⟨B,tmps,DB,this,i2,⟨asn,bo,i3,by rw[World.putObj_heap_same (Array.getElem?_eq_some_iff.1 i4).1]⟩,i5,i6,i7⟩ i7,.one (stepR_beginRound e3 hbr)⟩
  ·cases h
 ·cases h
def q9i(ok:cx.Ok body)(hid:∀n bx,ag vi9 n=some bx->a7 cx.ids n=some n){labs:List (gh R)}(hlab:∀l∈labs,uk cx vi9 enc body l) :
  ∀(n:Nat)(chk:Bool)(k:List eh)(s:St)(r:R),(∀i∈k,i.Ok body)->run cx enc labs n chk k s=some r->lj cx vi9 enc (eu k) s r:=by
 intro n
 induction n with
 |zero=>intro chk k s r _ h;cases h
 |succ n ih=>
  intro chk k s r hk h;unfold run at h
  cases hl:(bif chk then qdn cx.ids s k labs else none) with
  |some lab=>
   rw[hl]at h;have hl:qdn cx.ids s k labs=some lab:=by cases chk<;>simp only[qT,qF,reduceCtorEq]at hl;exact hl
   obtain⟨hm,hkey⟩:=q8q hl;simp only at h;split at h
   ·rename_i d hd;have hg:=hlab lab hm d r h;rw[zgz hkey hk]at hg;refine hg.via fun vjc vi7 G a w hr b cs _ _ _ => ?_
    obtain⟨G1,hr1⟩:=hr.co lab.ls cx.ids;obtain⟨G2,hr2⟩:=hr1.fit hid hd;exact⟨G2,a,w,hr2,.refl _ _⟩
   ·cases h
  |none=>
   rw[hl]at h;simp only at h;clear hl
   cases k with
   |nil=>exact qva ok hid (by rfl) h|cons i k'=>
    obtain⟨kd,p,it⟩:=i;obtain⟨hi,hk'⟩:=zjj hk;clear hk
    cases it with
    |code c=>exact z27 ok hid ih hi hk' h|inBlock id=>exact(ih true k' s r hk' h).one fun a w b cs=>stepR_inBlock
    |inScope id=>exact(ih true k' s r hk' h).one fun a w b cs=>z33
    |inLoop x=>
     have hsub:sub body p = .loop x:=zxf hi;exact(ih true _ s r (nd (uv 0 hsub rfl) (nd (zin hsub) hk')) h).one fun a w b cs=>stepR_inLoop
    |beginRound=>exact z26 ih hk' h|_=>cases h
end
def St.reCell(s:St)(b off:Nat):St:=
 match ag s.hp b with
 |some (.cells cs T)=>match cs[off]? with
  |some (.own k)=>match ag s.hp k with|some (.row τ l E)=>bif a8 s.nx s.hp then{ s with hp:=(b,.cells (cs.set off (.own s.nx)) T)::(s.nx,.row τ l E)::(k,.dead)::s.hp,nx:=s.nx+32 } else s|_=>s
  |_=>s
 |_=>s
def qv8:Pt->Bool|.own _=>true|_=>false
def reB1(b:Nat):List Pt->Nat->St->St|[],_,s=>s|p::ps,off,s=>reB1 b ps (off+1) (bif qv8 p then s.reCell b off else s)
def reB:List (Nat×bc)->St->St
 |[],s=>s|(n,p)::r,s=>match p with|.cells ps _=>reB r (reB1 n ps 0 s)|_=>reB r s
def St.reSlot(s:St)(i:Nat):St:=
 match ag s.fr i with
 |some (.own k)=>match ag s.hp k with|some (.row τ l E)=>bif a8 s.nx s.hp&&Nat.blt i s.n then{ s with fr:=(i,.own s.nx)::s.fr,hp:=(s.nx,.row τ l E)::(k,.dead)::s.hp,nx:=s.nx+32 } else s|_=>s
 |_=>s
def reA:List Pt->Nat->St->St|[],_,s=>s|p::ps,i,s=>reA ps (i+1) (bif qv8 p then s.reSlot i else s)
section
variable{vjc:World}{vi7:Gh}{vi9:List (Nat×ah)}{G:Gh}{s:St}{a:Act}{w:World}
def Fin.rename{hp:List (Nat×ah)}(hf:Fin vjc vi7 vi9 G hp w){k k':Nat}{τ:Ty}{l:List τ.den}{E:TypeId}{v:Option Addr×Nat×Nat}(hk:ag hp k=some (.row τ l E))(hk':ag hp k'=none)(hfr:G.own k'=none)(ho:G.own k=some v) :
  Fin vjc vi7 vi9 (G.addOwn k' v) ((k',.row τ l E)::(k,.dead)::hp) w:=by
 have hle:G.le (G.addOwn k' v):=Gh.addOwn_le hfr;have hlk:∀m b,ag ((k',ah.row τ l E)::(k,.dead)::hp) m=some b->(m=k'/\b = .row τ l E)\/b = .dead\/(m≠k/\ag hp m=some b):=fun m b h=>by
  simp[ag]at h;cases hb:Nat.beq k' m
  ·rw[hb]at h;cases hb2:Nat.beq k m
   ·rw[hb2]at h;exact .inr (.inr ⟨fun e=>by subst e;simp at hb2,h⟩)
   ·rw[hb2]at h;simp at h;exact .inr (.inl h.symm)
  ·rw[hb]at h;simp at h;exact .inl ⟨(qN hb).symm,h.symm⟩
 have hat:(G.addOwn k' v).at k' (.row τ l E)=G.at k (.row τ l E):=by simp[Gh.at,Gh.addOwn_self,ho]
 refine⟨⟨hf.mem.agree,hf.mem.one,?_,?_,hf.mem.tab⟩,hf.bel,hf.imm_le,hf.imm_new,?_,fun n bx B h1 h2=>hle.box _ _ (hf.keep n bx B h1 h2),fun n bx B h1 h2=>hle.own _ _ (hf.keepOwn n bx B h1 h2)⟩
 ·intro m b h;rcases hlk m b h with⟨rfl,rfl⟩|rfl|⟨_,h⟩
  ·obtain⟨ad,c,i1,i2⟩:=hf.mem.holds k _ hk;rw[ho]at i1;injection i1 with i1;subst i1
   exact⟨ad,c,Gh.addOwn_self,i2⟩
  ·trivial
  ·exact(hf.mem.holds m b h).mono hle (fun _ _=>rfl) (fun _ _ _ h => .inl h)
 ·intro m m' b b' c h1 h2 h3 h4;rcases hlk m b h1 with⟨rfl,rfl⟩|rfl|⟨n1,g1⟩<;>rcases hlk m' b' h2 with⟨e2,rfl⟩|rfl|⟨n2,g2⟩
  ·exact e2.symm
  ·cases h4
  ·rw[hat]at h3;rw[(hf.mem.holds m' b' g2).at_le hle]at h4;exact absurd (hf.mem.apart m' k b' _ c g2 hk h4 h3) n2
  ·cases h3
  ·cases h3
  ·cases h3
  ·subst e2;rw[hat]at h4;rw[(hf.mem.holds m b g1).at_le hle]at h3;exact absurd (hf.mem.apart m k b _ c g1 hk h3 h4) n1
  ·cases h4
  ·rw[(hf.mem.holds m b g1).at_le hle]at h3;rw[(hf.mem.holds m' b' g2).at_le hle]at h4;exact hf.mem.apart m m' b b' c g1 g2 h3 h4
 ·intro m b c h1 h2;rcases hlk m b h1 with⟨rfl,rfl⟩|rfl|⟨n1,h1⟩
  ·rw[hat]at h2;exact hf.base k _ c hk h2
  ·cases h2
  ·rw[(hf.mem.holds m b h1).at_le hle]at h2;exact hf.base m b c h1 h2
def ak.reCell(hr:ak vjc vi7 vi9 G s a w)(b off:Nat):∃G',ak vjc vi7 vi9 G' (s.reCell b off) a w:=by
 unfold St.reCell;split
 ·rename_i cs T hb0;split
  ·rename_i k hx0;split
   ·rename_i τ l E hk0;cases hn:a8 s.nx s.hp
    ·exact⟨G,hr⟩
    ·simp;have hk:=np hn s.nx (wF _) oA
     obtain⟨ad,c,i1,_⟩:=hr.fin.mem.holds k _ hk0;have hfresh:=hr.fresh s.nx (wF _) hk;have hle:G.le (G.addOwn s.nx (ad,l.length,c)):=Gh.addOwn_le hfresh.2;have hf:=hr.fin.rename hk0 hk hfresh.2 i1;have hne:s.nx≠b:=fun e=>by rw[e,hb0]at hk;cases hk
     have hne2:k≠b:=fun e=>by rw[e,hb0]at hk0;cases hk0
     have hb1:ag ((s.nx,ah.row τ l E)::(k,.dead)::s.hp) b=some (.cells cs T):=by
      simp[ag];cases hq:Nat.beq s.nx b
      ·cases hq2:Nat.beq k b
       ·exact hb0
       ·exact absurd (qN hq2) hne2
      ·exact absurd (qN hq) hne
     obtain⟨B,vs,k1,k2,k3,k4,k5⟩:=hf.mem.holds _ _ hb1;have hv:vs.toList[off]? = some (.slice ad l.length c):=by
      obtain⟨v,h1,h2⟩:=lh k3 hx0;obtain⟨a',n',c',q1,q2⟩:=h2;rw[hle.own _ _ i1]at q1;simp at q1;obtain⟨rfl,rfl,rfl⟩:=q1;subst q2;exact h1
     have hset:vs.toList.set off (.slice ad l.length c)=vs.toList:=by
      obtain⟨hlt,he⟩:=List.getElem?_eq_some_iff.1 hv;rw[← he,List.set_getElem_self]
     refine⟨G.addOwn s.nx (ad,l.length,c),⟨by obtain⟨bs,q1,q2⟩:=hr.defers;exact⟨bs,q1,uy hle.box q2⟩,hr.size,fun j x hx=>by obtain⟨v,h1,h2⟩:=hr.frame j x hx;exact⟨v,h1,h2.le hle⟩,fun m hm hl => ?_,?_⟩⟩
     ·simp only at hm;have hmn:s.nx≠m:=oA
      simp[ag]at hl;cases hq:Nat.beq b m<;>rw[hq]at hl<;>simp at hl
      cases hq1:Nat.beq s.nx m<;>rw[hq1]at hl<;>simp at hl
      cases hq2:Nat.beq k m<;>rw[hq2]at hl<;>simp at hl
      obtain⟨h1,h2⟩:=hr.fresh m oA hl
      refine⟨h1,?_⟩;show(bif Nat.beq m s.nx then some _ else G.own m)=none
      cases hbm:Nat.beq m s.nx
      ·exact h2
      ·exact absurd (qN hbm).symm hmn
     ·refine hf.update (bx := .cells cs T) (bx' := .cells (cs.set off (.own s.nx)) T) hb1 (B:=B) k1 k1 ⟨rfl,rfl,rfl,wF _,fun _ _ _=>rfl⟩ ⟨B,vs,k1,k2,?_,k4,k5⟩ k5
      have:=qpd off k3 (x := .own s.nx) (v := .slice ad l.length c) ⟨ad,l.length,c,Gh.addOwn_self,rfl⟩
      rwa [hset]at this
   ·exact⟨G,hr⟩
  ·exact⟨G,hr⟩
 ·exact⟨G,hr⟩
def ak.reSlot(hr:ak vjc vi7 vi9 G s a w)(i:Nat):∃G',ak vjc vi7 vi9 G' (s.reSlot i) a w:=by
 unfold St.reSlot;split
 ·rename_i k hx0;split
  ·rename_i τ l E hk0;cases hn:a8 s.nx s.hp&&Nat.blt i s.n
   ·exact⟨G,hr⟩
   ·simp;simp at hn;have hk:=np hn.1 s.nx (wF _) oA
    obtain⟨ad,c,i1,_⟩:=hr.fin.mem.holds k _ hk0;have hfresh:=hr.fresh s.nx (wF _) hk;have hle:G.le (G.addOwn s.nx (ad,l.length,c)):=Gh.addOwn_le hfresh.2;refine⟨G.addOwn s.nx (ad,l.length,c),⟨by obtain⟨bs,q1,q2⟩:=hr.defers;exact⟨bs,q1,uy hle.box q2⟩,hr.size,fun j x hx => ?_,fun m hm hl => ?_,hr.fin.rename hk0 hk hfresh.2 i1⟩⟩
    ·simp[ag]at hx;cases hq:Nat.beq i j
     ·rw[hq]at hx;obtain⟨v,h1,h2⟩:=hr.frame j x hx;exact⟨v,h1,h2.le hle⟩
     ·rw[hq]at hx;simp at hx;subst hx;have:=qN hq;subst this;obtain⟨v,h1,a',n',c',q1,q2⟩:=hr.frame i _ hx0;rw[i1]at q1;simp at q1;obtain⟨rfl,rfl,rfl⟩:=q1;exact⟨v,h1,ad,l.length,c,Gh.addOwn_self,q2⟩
    ·simp only at hm;have hmn:s.nx≠m:=oA
     simp[ag]at hl;cases hq1:Nat.beq s.nx m<;>rw[hq1]at hl<;>simp at hl
     cases hq2:Nat.beq k m<;>rw[hq2]at hl<;>simp at hl
     obtain⟨h1,h2⟩:=hr.fresh m oA hl
     refine⟨h1,?_⟩;show(bif Nat.beq m s.nx then some _ else G.own m)=none
     cases hbm:Nat.beq m s.nx
     ·exact h2
     ·exact absurd (qN hbm).symm hmn
  ·exact⟨G,hr⟩
 ·exact⟨G,hr⟩
def ak.reA:∀{ps:List Pt}{i:Nat}{s:St}{G:Gh},ak vjc vi7 vi9 G s a w->∃G',ak vjc vi7 vi9 G' (reA ps i s) a w
 |[],_,s,G,hr=>⟨G,hr⟩|p::ps,i,s,G,hr=>by
  unfold Sym.reA;cases qv8 p
  ·exact ak.reA hr
  ·obtain⟨G',hr'⟩:=hr.reSlot i;exact ak.reA hr'
def ak.reB1{b:Nat}:∀{ps:List Pt}{off:Nat}{s:St}{G:Gh},ak vjc vi7 vi9 G s a w->∃G',ak vjc vi7 vi9 G' (reB1 b ps off s) a w
 |[],_,s,G,hr=>⟨G,hr⟩|p::ps,off,s,G,hr=>by
  unfold Sym.reB1;cases qv8 p
  ·exact ak.reB1 hr
  ·obtain⟨G',hr'⟩:=hr.reCell b off;exact ak.reB1 hr'
def ak.reB:∀{l:List (Nat×bc)}{s:St}{G:Gh},ak vjc vi7 vi9 G s a w->∃G',ak vjc vi7 vi9 G' (reB l s) a w
 |[],s,G,hr=>⟨G,hr⟩|(n,p)::r,s,G,hr=>by
  unfold Sym.reB;split
  ·obtain⟨G',hr'⟩:=hr.reB1;exact ak.reB hr'
  ·exact ak.reB hr
end
def fc:List (Nat×bc)->NM|[]=>[]|(n,_)::r=>(n,n)::fc r
def lw(N:NM)(n:Nat):Bool:=match ay N n with|some m=>Nat.beq m n|none=>false
def qag{N:NM}{n:Nat}(h:lw N n=true):ay N n=some n:=by
 unfold lw at h;split at h
 ·rename_i m hm;have:=qN h;subst this;exact hm
 ·cases h
mutual
def q8y(N:NM):Pt->Bool|.agg ps=>tu N ps|.tup ps=>tu N ps|.ptr b _=>lw N b|.own k=>lw N k|.el k _=>lw N k|.iel _ k _=>lw N k|.yld k=>lw N k|.pn k=>lw N k|.fn _ ps=>tu N ps|_=>true
def tu(N:NM):List Pt->Bool|[]=>true|p::ps=>q8y N p&&tu N ps
end
def zs4{ρ:Nat->Option Nat}:∀{τ:Ty}{d:τ.den},(τ.av d).ren ρ=τ.av d|.int _,_=>rfl|.byte,_=>rfl|.bool,_=>rfl|.str,_=>rfl|.unit,_=>rfl|.list _,_=>rfl|.prod a b,d=>by show AV.agg (AV.rens ρ ((Ty.prod a b).enc d))=_;rw[Ty.enc_ren];rfl|.tree a,d=>by show AV.agg (AV.rens ρ ((Ty.tree a).enc d))=_;rw[Ty.enc_ren];rfl
mutual
def zj5{N:NM}:∀{p:Pt}{d:p.den},q8y N p=true->(p.put d).ren (ay N)=p.put d|.h τ,d,_=>zs4|.c _,_,_=>rfl|.agg ps,d,h=>congrArg AV.agg (qdp (ps:=ps) (d:=d) h)|.tup ps,d,h=>congrArg AV.tup (qdp (ps:=ps) (d:=d) h)|.ptr b off,_,h=>by show AV.ren (ay N) (.ptr b off)=_;simp[AV.ren,qag (show lw N b=true from h)];rfl|.own k,_,h=>by show AV.ren (ay N) (.own k)=_;simp[AV.ren,qag (show lw N k=true from h)];rfl|.arr _,_,_=>rfl|.el k sz,_,h=>by show AV.ren (ay N) (.oel k sz 0 0)=_;simp[AV.ren,qag (show lw N k=true from h)];rfl|.iel t k sz,_,h=>by show AV.ren (ay N) (.iface t (.oel k sz 0 0))=_;simp[AV.ren,qag (show lw N k=true from h)];rfl|.yld k,_,h=>by show AV.ren (ay N) (.yld k)=_;simp[AV.ren,qag (show lw N k=true from h)];rfl|.pn k,_,h=>by show AV.ren (ay N) (.pn k)=_;simp[AV.ren,qag (show lw N k=true from h)];rfl|.fn f ps,d,h=>congrArg (AV.fn (.func f) []) (qdp (ps:=ps) (d:=d) h)|.u,_,_=>rfl
def qdp{N:NM}:∀{ps:List Pt}{d:Pts.den ps},tu N ps=true->AV.rens (ay N) (Pts.put ps d)=Pts.put ps d
 |[],_,_=>rfl|p::ps,d,h=>by
  simp[tu,qA]at h;have h1:=zj5 (p:=p) (d:=d.1) h.1;have h2:=qdp (ps:=ps) (d:=d.2) h.2;show AV.ren (ay N) (p.put d.1)::AV.rens (ay N) (Pts.put ps d.2)=p.put d.1::Pts.put ps d.2;rw[h1,h2]
end
def fIn(N:NM):List (Nat×Pt)->Bool|[]=>true|(_,p)::r=>q8y N p&&fIn N r
def zhs{N:NM}:∀{l:List (Nat×Pt)}{d:tc l},fIn N l=true->qq (ay N) (mc l d)=mc l d
 |[],_,_=>rfl|(i,p)::r,d,h=>by
  simp[fIn,qA]at h;have h1:=zj5 (p:=p) (d:=d.1) h.1;have h2:=zhs (l:=r) (d:=d.2) h.2;show(i,AV.ren (ay N) (p.put d.1))::qq (ay N) (mc r d.2)=(i,p.put d.1)::mc r d.2;rw[h1,h2]
def q5o(N:NM):bc->Bool|.cells ps _=>tu N ps|.loop _ _ _ _ fr _ _ D=>lw N D&&fIn N fr|_=>true
def bIn(N:NM):List (Nat×bc)->Bool|[]=>true|(n,p)::r=>lw N n&&q5o N p&&bIn N r
def ztn{N:NM}:∀{p:bc}{d:p.den},q5o N p=true->d7 (ay N) (p.put d)=p.put d
 |.cells ps T,d,h=>congrArg (fun l=>ah.cells l T) (qdp (ps:=ps) (d:=d) h)
 |.row _ _,_,_=>rfl|.loop st pe f n fr ps tag D,d,h=>by
  simp[q5o,qA]at h;have h2:=zhs (l:=fr) (d:=d) h.2;have h3:d7 (ay N) (.loop st pe f n (mc fr d) ps tag D) = .loop st pe f n (qq (ay N) (mc fr d)) ps tag D:=by simp[d7,qag h.1]
  exact h3.trans (congrArg (fun l=>ah.loop st pe f n l ps tag D) h2)
 |.dfr,_,_=>rfl|.it,_,_=>rfl|.dead,_,_=>rfl|.dat τ T,d,_=>congrArg (fun l=>ah.cells l T) (Ty.enc_ren (ay N) τ d)
def q5c{N:NM}:∀{l:List (Nat×bc)}{d:g7 l},bIn N l=true->∀n b,ag (cq l d) n=some b->ay N n=some n/\d7 (ay N) b=b
 |[],_,_,_,_,h=>by cases h
 |(m,p)::r,d,h,n,b,hl=>by
  simp[bIn,qA]at h;have hl:(bif Nat.beq m n then some (p.put d.1) else ag (cq r d.2) n)=some b:=hl
  cases hb:Nat.beq m n
  ·rw[hb]at hl;exact q5c (d:=d.2) h.2 n b hl
  ·rw[hb]at hl;have:=qN hb;subst this;simp at hl;subst hl;exact⟨qag h.1.1,ztn h.1.2⟩
def cv.only{G:Gh}{hp:List (Nat×ah)}{w:World}{N:NM}(hm:cv G hp w)(h:∀n b,ag hp n=some b->ay N n=some n/\d7 (ay N) b=b):cv (G.view N) hp w:=by
 have hb:∀n b,ag hp n=some b->(G.view N).box n=G.box n/\(G.view N).own n=G.own n:=fun n b hl=>by
  have:=vm (h n b hl).1;exact⟨by simp[Gh.view,this],by simp[Gh.view,this]⟩
 have hat:∀n b c,ag hp n=some b->(G.view N).at n b=some c->G.at n b=some c:=fun n b c hl hc=>by
  have:=(h n b hl).2;exact ur (G:=G) (G':=G.view N) (ρ:=ay N) (hb n b hl).1 (hb n b hl).2 (by rw[this];exact hc)
 refine⟨hm.agree,hm.one,fun n b hl => ?_,fun n m b b' c h1 h2 h3 h4=>hm.apart n m b b' c h1 h2 (hat _ _ _ h1 h3) (hat _ _ _ h2 h4),hm.tab⟩
 have:=dp.ren (G:=G) (G':=G.view N) (ρ:=ay N) (n:=n) (m:=n) (fun _ _ _ h=>h) (fun _ _ _ h=>h) (vx N) (yl N) (fun B hB=>by rw[(hb n b hl).1];exact hB) (fun B hB=>by rw[(hb n b hl).2];exact hB) (hm.holds n b hl)
 rw[(h n b hl).2]at this;exact this
def Fin.only{G G':Gh}{hp hp':List (Nat×ah)}{w w':World}{N:NM}(h:∀n b,ag hp n=some b->ay N n=some n/\d7 (ay N) b=b)(hf:Fin w (G.view N) hp G' hp' w'):Fin w G hp G' hp' w':=by
 have hb:∀n b,ag hp n=some b->(G.view N).box n=G.box n/\(G.view N).own n=G.own n:=fun n b hl=>by
  have:=vm (h n b hl).1;exact⟨by simp[Gh.view,this],by simp[Gh.view,this]⟩
 have hblk:∀c,sr (G.view N) hp c->sr G hp c:=fun c⟨n,b,h1,h2⟩=>⟨n,b,h1,ur (G:=G) (G':=G.view N) (ρ:=ay N) (hb n b h1).1 (hb n b h1).2 (by rw[(h n b h1).2];exact h2)⟩
 refine⟨hf.mem,⟨hf.bel.os,hf.bel.tape,hf.bel.output,hf.bel.size,fun k hk hS=>hf.bel.block k hk fun hx=>hS (hblk k hx)⟩,hf.imm_le,fun b o v hv => ?_,fun n b c h1 h2 => ?_,fun n b B h1 h2=>hf.keep n b B h1 (by rw[(hb n b h1).1];exact h2),fun n b B h1 h2=>hf.keepOwn n b B h1 (by rw[(hb n b h1).2];exact h2)⟩
 ·rcases hf.imm_new b o v hv with h|h|h
  ·exact .inl h
  ·exact .inr (.inl h)
  ·exact .inr (.inr (hblk _ h))
 ·rcases hf.base n b c h1 h2 with h|h
  ·exact .inl h
  ·exact .inr (hblk _ h)
def qou:List AV->Nat->List (Nat×AV)|[],_=>[]|x::xs,i=>(i,x)::qou xs (i+1)
def zh8:∀{xs:List AV}{G:Gh}{vs:List Value}(i:Nat),am xs G vs->∀j x,ag (qou xs i) j=some x->i<=j/\∃v,vs[j-i]? = some v/\aj x G v
 |[],_,[],_,_,j,x,h=>by cases h
 |x::xs,G,v::vs,i,hr,j,y,h=>by
  simp[qou,ag]at h;cases hb:Nat.beq i j
  ·rw[hb]at h;obtain⟨h1,u,h2,h3⟩:=zh8 (i+1) hr.2 j y h;refine⟨oA,u,?_,h3⟩
   rw[show j-i=(j-(i+1))+1 by omega];simpa using h2
  ·rw[hb]at h;have:=qN hb;subst this;simp at h;subst h;exact⟨wF _,v,oC,hr.1⟩
 |[],_,_::_,_,h,_,_,_=>h.elim|_::_,_,[],_,h,_,_,_=>h.elim
def qgp{G:Gh}{w:World}{hp:List (Nat×ah)}(hm:cv G hp w):Fin w G hp G hp w:=
 ⟨hm,⟨rfl,rfl,rfl,wF _,fun _ _ _=>rfl⟩,fun _ _ _ h=>h,fun _ _ _ h => .inl h,fun n bx _b h1 h2 => .inr ⟨n,bx,h1,h2⟩,fun _ _ _ _ h=>h,fun _ _ _ _ h=>h⟩
def NX:Nat:=64
def qxc(cx:Cx)(body:Code){R:Type}(enc:RS R)(labs:List (gh R))(asn:List Pt)(pts:List (Nat×bc))(xs:List AV)(hp:List (Nat×ah)):Option R:=
 run cx enc labs 1000000 true [⟨0,[],.code body⟩] (reB pts (reA (bif cx.tb.sub then asn else[]) 0 { n:=cx.fn.ntmps,fr:=qou xs 0,hp:=hp,nx:=NX,df:=[] }))
def qol(cx:Cx)(args:List Pt)(hp:List (Nat×bc)):Bool:=tu (fc hp) args&&bIn (fc hp) hp&&Nat.ble args.length cx.fn.ntmps
def qv4:∀{l:List (Nat×bc)}{d:g7 l}{n:Nat}{b:ah},ag (cq l d) n=some b->a7 (fc l) n=some n
 |[],_,_,_,h=>by cases h
 |(m,p)::r,d,n,b,h=>by
  have h:(bif Nat.beq m n then some (p.put d.1) else ag (cq r d.2) n)=some b:=h
  simp[fc,a7];cases hb:Nat.beq m n
  ·rw[hb]at h;exact qv4 (d:=d.2) h
  ·have:=qN hb;subst this;rfl
def q75{m:Nat}:∀{l:List (Nat×bc)}{d:g7 l},ag (cq l d) m=none->a7 (fc l) m=none
 |[],_,_=>rfl|(n,p)::r,d,h=>by
  have h:(bif Nat.beq n m then some (p.put d.1) else ag (cq r d.2) m)=none:=h
  simp[fc,a7];cases hb:Nat.beq n m
  ·rw[hb]at h;exact q75 (d:=d.2) h
  ·rw[hb]at h;cases h
def zj6:∀{ps:List Pt}{d:Pts.den ps},(Pts.put ps d).length=ps.length|[],_=>rfl|p::ps,d=>by show(p.put d.1::Pts.put ps d.2).length=_;simp[zj6]
def ee.sound_fn{e:ee}{cx:Cx}{body:Code}{labs:List (gh e.R)}(ok:cx.Ok body)(hkey:e.key = .fn cx.f)(hbody:cx.fn.body=some body)(hrd:cx.rd=none)(hids:cx.ids=fc e.hp)(hpl:r7 cx.P cx.f)
  (hfine:qol cx e.args e.hp=true) (hlab:∀d',∀l∈labs,uk cx (cq e.hp d') e.out body l) (hF:∀d d',qxc cx body e.out labs e.args e.hp (Pts.put e.args d) (cq e.hp d')=e.F d d'):e.Sound cx.P:=by
 intro d d' r hr;rw[hkey];refine⟨hpl,fun w G vs hm hreps => ?_⟩
 simp only[qol,qA]at hfine;obtain⟨⟨f1,f2⟩,f3⟩:=hfine;have f3:=Nat.le_of_ble_eq_true f3;have hin:=q5c (d:=d') f2;have hm':=hm.only hin;have hreps':am (Pts.put e.args d) (G.view (fc e.hp)) vs:=by
  have:=am.ren (ρ:=ay (fc e.hp)) (G:=G) (G':=G.view (fc e.hp)) (fun _ _ _ h=>h) (vx _) (yl _) hreps
  rwa [qdp f1]at this
 have hlv:=hreps.length;rw[zj6]at hlv;have hrun:=hF d d';rw[hr]at hrun;have hg:=q9i (enc:=e.out) ok (vi9:=cq e.hp d') (fun n bx h=>by rw[hids];exact qv4 h) (hlab d') _ _ _ _ _ (fun i hi=>by
  rcases List.mem_cons.1 hi with rfl|hi
  ·rfl
  ·cases hi) hrun
 have hr0:ak w (G.view (fc e.hp)) (cq e.hp d') (G.view (fc e.hp)) { n:=cx.fn.ntmps,fr:=qou (Pts.put e.args d) 0,hp:=cq e.hp d',nx:=NX,df:=[] } { tmps:=vs.toArray++Array.replicate (cx.fn.ntmps-vs.toArray.size) undef,defers:=[] } w:=by
  refine⟨⟨[],rfl,rfl⟩,oB,fun i x hx => ?_,fun m _ hl => ?_,qgp hm'⟩
  ·obtain⟨_,v,h2,h3⟩:=zh8 0 hreps' i x hx;refine⟨v,?_,h3⟩;have hlt:i<vs.length:=by have:=(List.getElem?_eq_some_iff.1 h2).1;simpa using this
   rw[Array.getElem?_append_left (by simpa using hlt)]
   simpa using h2
  ·have:a7 (fc e.hp) m=none:=q75 hl;simp[Gh.view,this]
 obtain⟨G0,hr0'⟩:=hr0.reA (ps:=bif cx.tb.sub then e.args else[]) (i:=0)
 obtain⟨G1,hr1⟩:=hr0'.reB (l:=e.hp);intro cs
 let b:Frame:={ (default:Frame) with fn:=cx.f,kind := .normal }
 have henter:Frame.enter cx.P cx.f vs.toArray .normal=b.atR { tmps:=vs.toArray++Array.replicate (cx.fn.ntmps-vs.toArray.size) undef,defers:=[] } [.code body]:=by
  simp[Frame.enter,Frame.atR,ok.func,hbody,b];rfl
 have:=hg w _ _ _ w hr1 b cs rfl rfl (by unfold ul;rw[hrd];rfl)
 obtain⟨v,w',fr,⟨G',h1,h2⟩,h3,h4,h5⟩:=this;exact⟨.returned v,w',fr,⟨v,G',rfl,h1.only hin,h2⟩,by rw[henter];exact h3,h4,h5⟩
def qwz:List Tmp->List AV->List (Nat×AV)->List (Nat×AV)|p::ps,x::xs,fr=>qwz ps xs ((p,x)::fr)|_,_,fr=>fr
def qnz(n:Nat):List Nat->Bool|[]=>true|p::ps=>Nat.blt p n&&qnz n ps
def zkf{G:Gh}{n:Nat}:∀{ps:List Tmp}{xs:List AV}{vs:List Value}{fr:List (Nat×AV)}{tmps:Array Value},qnz n ps=true->tmps.size=n->ps.length=xs.length->am xs G vs->(∀i x,ag fr i=some x->∃v,tmps[i]? = some v/\aj x G v) ->
  ((ps.zip vs).foldl (fun(tmps:Array Value)(q:Tmp×Value)=>tmps.setIfInBounds q.1 q.2) tmps).size=n/\∀i x,ag (qwz ps xs fr) i=some x->∃v,((ps.zip vs).foldl (fun(tmps:Array Value)(q:Tmp×Value)=>tmps.setIfInBounds q.1 q.2) tmps)[i]? = some v/\aj x G v
 |[],[],[],fr,tmps,_,hn,_,_,hfr=>⟨hn,hfr⟩|p::ps,x::xs,v::vs,fr,tmps,hlt,hn,hl,hr,hfr=>by
  simp[qnz,qA]at hlt;have hp:p<n:=by have:=hlt.1;simpa using this
  simp;refine zkf hlt.2 (by simp[hn]) (by simpa using hl) hr.2 (fun i y hy => ?_)
  simp[ag]at hy;cases he:Nat.beq p i
  ·rw[he]at hy;simp at hy;have hne:p≠i:=fun e=>by subst e;simp at he
   obtain⟨u,h1,h2⟩:=hfr i y hy;exact⟨u,by simp[hne,h1],h2⟩
  ·rw[he]at hy;simp at hy;subst hy;have:=qN he;subst this;exact⟨v,by simp[hn,hp],hr.1⟩
 |[],_::_,_,_,_,_,_,h,_,_=>by simp at h|_::_,[],_,_,_,_,_,h,_,_=>by simp at h|[],[],_::_,_,_,_,_,_,h,_=>h.elim|_::_,_::_,[],_,_,_,_,_,h,_=>h.elim
def qaw(cx:Cx)(body:Code)(p:List Nat)(m:Nat){R:Type}(enc:RS R)(labs:List (gh R))(pts:List (Nat×bc))(xs:List AV)(hp:List (Nat×ah)):Option R:=
 match ag hp m with
 |some (.loop .ready none f n fr ps tag _)=>bif Nat.beq f cx.f&&qnz n ps&&eqLen ps xs&&tagIs tag p cx.tags then
   run cx enc labs 1000000 true (mf body [(0,0::p),(4,[]),(0,1::p)]) (reB pts { n:=n,fr:=qwz ps xs fr,hp:=hp,nx:=NX,df:=[] })
  else none
 |_=>none
where
 eqLen:List Tmp->List AV->Bool
  |[],[]=>true|_::ps,_::xs=>eqLen ps xs|_,_=>false
 tagIs (tag:Nat) (p:List Nat) (tags:List (List Nat×Nat)):Bool:=match pf p tags with|some t=>Nat.beq t tag|none=>false
def zg0:∀{ps:List Tmp}{xs:List AV},qaw.eqLen ps xs=true->ps.length=xs.length
 |[],[],_=>rfl|_::ps,_::xs,h=>by simp[zg0 (ps:=ps) (xs:=xs) h]|[],_::_,h=>by cases h
 |_::_,[],h=>by cases h
def q67:Code->Bool|.rangeFunc _ _ _ _=>true|_=>false
def ee.sound_yld{e:ee}{cx:Cx}{body:Code}{p:List Nat}{m:Nat}{labs:List (gh e.R)}(ok:cx.Ok body)(hkey:e.key = .yld m)(hrd:cx.rd=some m)(hids:cx.ids=fc e.hp)(hrf:q67 (sub body p)=true)
  (hfine:(tu (fc e.hp) e.args&&bIn (fc e.hp) e.hp)=true) (hlab:∀d',∀l∈labs,uk cx (cq e.hp d') e.out body l) (hF:∀d d',qaw cx body p m e.out labs e.hp (Pts.put e.args d) (cq e.hp d')=e.F d d'):e.Sound cx.P:=by
 intro d d' r hr;rw[hkey];intro w G vs B hm hreps hB;simp at hfine;obtain⟨f1,f2⟩:=hfine;have hin:=q5c (d:=d') f2;have hm':=hm.only hin;have hreps':am (Pts.put e.args d) (G.view (fc e.hp)) vs:=by
  have:=am.ren (ρ:=ay (fc e.hp)) (G:=G) (G':=G.view (fc e.hp)) (fun _ _ _ h=>h) (vx _) (yl _) hreps
  rwa [qdp f1]at this
 have hrun:=hF d d';rw[hr]at hrun;unfold qaw at hrun;split at hrun
 ·rename_i f n fr ps tag D hl;cases hb:Nat.beq f cx.f&&qnz n ps&&qaw.eqLen ps (Pts.put e.args d)&&qaw.tagIs tag p cx.tags<;>rw[hb]at hrun<;>simp at hrun
  simp only[qA]at hb;obtain⟨⟨⟨b1,b2⟩,b3⟩,b4⟩:=hb;have b1:=qN b1;subst b1;have b3:=zg0 b3;unfold qaw.tagIs at b4;split at b4
  rotate_left
  ·cases b4
  rename_i t ht;have b4:=qN b4;subst b4;obtain⟨B',tmps,DB,i1,i2,⟨asn,bo,i3,i4⟩,i5,i6,i7⟩:=hm'.holds m _ hl;have hBv:(G.view (fc e.hp)).box m=some B:=by
   have:=vm (hin m _ hl).1;simp[Gh.view,this,hB]
  rw[hBv]at i1;injection i1 with i1;subst i1
  obtain⟨g,ps0,x,y,hs⟩:∃g ps x y,sub body p = .rangeFunc g ps x y:=by
   cases hc:sub body p<;>rw[hc]at hrf<;>first|exact⟨_,_,_,_,rfl⟩|cases hrf
  have hcode:=ok.tags p t ht g ps0 x y hs;rw[i3]at hcode;simp at hcode;obtain⟨rfl,rfl⟩:=hcode;have hg:=q9i (enc:=e.out) ok (vi9:=cq e.hp d') (fun n bx h=>by rw[hids];exact qv4 h) (hlab d') _ _ _ _ _ q69 hrun
  have hlv:=hreps.length;obtain⟨j1,j2⟩:=zkf (n:=n) b2 i5 b3 hreps' i6;have hr0:ak w (G.view (fc e.hp)) (cq e.hp d') (G.view (fc e.hp)) { n:=n,fr:=qwz ps (Pts.put e.args d) fr,hp:=cq e.hp d',nx:=NX,df:=[] } { tmps:=(ps.zip vs).foldl (fun(tmps:Array Value)(q:Tmp×Value)=>tmps.setIfInBounds q.1 q.2) tmps,defers:=[] } w:=
   ⟨⟨[],rfl,rfl⟩,j1,j2,fun k _ hk=>by simp[Gh.view,q75 hk],qgp hm'⟩
  obtain⟨G1,hr1⟩:=hr0.reB (l:=e.hp);refine⟨_,i4,fun c cs=>⟨oB,?_⟩⟩
  let b:Frame:={ (default:Frame) with fn:=cx.f,kind := .normal,roundOf:=some B }
  have:=hg w _ _ _ w hr1 b (c::cs) rfl rfl (by unfold ul;rw[hrd];exact⟨B,_,hBv,hl,rfl⟩)
  obtain⟨v,w',⟨G',h1,h2⟩,h3⟩:=this c cs rfl;refine⟨v,w',⟨v,G',rfl,h1.only hin,h2⟩,?_⟩;have e1:Frame.round B cx.f ((ps.toArray.zip vs.toArray).foldl (fun tmps(t,a)=>tmps.setIfInBounds t a) tmps) asn bo .normal=b.atR { tmps:=(ps.zip vs).foldl (fun(tmps:Array Value)(q:Tmp×Value)=>tmps.setIfInBounds q.1 q.2) tmps,defers:=[] } (eu (mf body [(0,0::p),(4,[]),(0,1::p)])):=by
   simp[Frame.round,Frame.atR,b,eu,mf,qai,sub,hs,xg,List.zip_toArray]
  simp only at e1 ⊢;rw[e1];exact h3
 ·cases hrun
def uk.of_run{cx:Cx}{body:Code}{vi9:List (Nat×ah)}{R:Type}{enc:RS R}{labs:List (gh R)}(ok:cx.Ok body)(hid:∀n bx,ag vi9 n=some bx->a7 cx.ids n=some n)(hlab:∀l∈labs,uk cx vi9 enc body l){l:gh R}
  (h:∀d,run cx enc labs 1000000 false (mf body l.key) (l.ls.st d)=l.F d):uk cx vi9 enc body l:=fun d r hr=>by
 have:=h d;rw[hr]at this;exact q9i ok hid hlab _ _ _ _ _ q69 this
end Go.Sym
namespace Go.Sym
open Go.RowKit
def z8(f:Func):Code:=match f.body with|some c=>c|none => .skip
def ae(n:Int):Int:=IntKind.i64.wrap n
section
variable[LC]{cx:Cx}{vi9:List (Nat×ah)}{R:Type}{enc:RS R}{body:Code}{P:Program}
def pp:∀p t,pf p []=some t->∀g ps x y,sub body p = .rangeFunc g ps x y->LC.lc t=some (x,y):=fun _ _ h=>by cases h
def qw{p:List Nat}{t:Nat}{tags:List (List Nat×Nat)}(h:LC.lc t=some (xg 0 (sub body p),xg 1 (sub body p)))(k:∀p t,pf p tags=some t->∀g ps x y,sub body p = .rangeFunc g ps x y->LC.lc t=some (x,y)) :
  ∀q u,pf q ((p,t)::tags)=some u->∀g ps x y,sub body q = .rangeFunc g ps x y->LC.lc u=some (x,y):=fun q u hq g ps x y hs=>by
 simp only[pf]at hq;cases hb:sw p q
 ·rw[hb]at hq;exact k q u hq g ps x y hs
 ·rw[hb]at hq;simp only[qT,qI]at hq;subst hq;have:=qvd hb;subst this;rw[h,hs];rfl
end
abbrev Bs:Type:=List UInt8
def zjx:Nat->Nat->List Nat|0,_=>[]|f+1,n=>bif Nat.ble n 1 then[] else Nat.mod n 2::zjx f (Nat.div n 2)
mutual
def Pt.ts:Pt->List Type->List Type|.h τ,a=>τ.den::a|.agg ps,a=>Pts.ts ps a|.tup ps,a=>Pts.ts ps a|.fn _ ps,a=>Pts.ts ps a|.arr τ,a=>List τ.den::a|_,a=>a
def Pts.ts:List Pt->List Type->List Type|[],a=>a|p::ps,a=>p.ts (Pts.ts ps a)
end
def HL:List Type->Type|[]=>Unit|t::l=>t×HL l
abbrev pd:HL []:=()
mutual
def Pt.pk:(p:Pt)->{a:List Type}->p.den->HL a->HL (p.ts a)|.h _,_,d,x=>(d,x)|.agg ps,_,d,x=>Pts.pk ps d x|.tup ps,_,d,x=>Pts.pk ps d x|.fn _ ps,_,d,x=>Pts.pk ps d x|.arr _,_,d,x=>(d,x)|.c _,_,_,x=>x|.ptr _ _,_,_,x=>x|.own _,_,_,x=>x|.el _ _,_,_,x=>x|.iel _ _ _,_,_,x=>x|.yld _,_,_,x=>x|.pn _,_,_,x=>x|.u,_,_,x=>x
def Pts.pk:(ps:List Pt)->{a:List Type}->Pts.den ps->HL a->HL (Pts.ts ps a)|[],_,_,x=>x|p::ps,_,d,x=>p.pk d.1 (Pts.pk ps d.2 x)
end
mutual
def Pt.un:(p:Pt)->{a:List Type}->HL (p.ts a)->p.den×HL a|.h _,_,x=>x|.agg ps,_,x=>Pts.un ps x|.tup ps,_,x=>Pts.un ps x|.fn _ ps,_,x=>Pts.un ps x|.arr _,_,x=>x|.c _,_,x=>((),x)|.ptr _ _,_,x=>((),x)|.own _,_,x=>((),x)|.el _ _,_,x=>((),x)|.iel _ _ _,_,x=>((),x)|.yld _,_,x=>((),x)|.pn _,_,x=>((),x)|.u,_,x=>((),x)
def Pts.un:(ps:List Pt)->{a:List Type}->HL (Pts.ts ps a)->Pts.den ps×HL a|[],_,x=>((),x)|p::ps,_,x=>(((p.un x).1,(Pts.un ps (p.un x).2).1),(Pts.un ps (p.un x).2).2)
end
mutual
def Pt.un_pk:∀(p:Pt){a:List Type}(d:p.den)(x:HL a),p.un (p.pk d x)=(d,x)|.h _,_,_,_=>rfl|.agg ps,_,d,x=>Pts.un_pk ps d x|.tup ps,_,d,x=>Pts.un_pk ps d x|.fn _ ps,_,d,x=>Pts.un_pk ps d x|.arr _,_,_,_=>rfl|.c _,_,_,_=>rfl|.ptr _ _,_,_,_=>rfl|.own _,_,_,_=>rfl|.el _ _,_,_,_=>rfl|.iel _ _ _,_,_,_=>rfl|.yld _,_,_,_=>rfl|.pn _,_,_,_=>rfl|.u,_,_,_=>rfl
def Pts.un_pk:∀(ps:List Pt){a:List Type}(d:Pts.den ps)(x:HL a),Pts.un ps (Pts.pk ps d x)=(d,x)
 |[],_,_,_=>rfl|p::ps,_,d,x=>by
  show(((p.un (p.pk d.1 (Pts.pk ps d.2 x))).1,(Pts.un ps (p.un (p.pk d.1 (Pts.pk ps d.2 x))).2).1),(Pts.un ps (p.un (p.pk d.1 (Pts.pk ps d.2 x))).2).2)=(d,x);rw[Pt.un_pk p,Pts.un_pk ps];rfl
end
def fts:List (Nat×Pt)->List Type->List Type|[],a=>a|(_,p)::r,a=>p.ts (fts r a)
def lv:(l:List (Nat×Pt))->{a:List Type}->tc l->HL a->HL (fts l a)|[],_,_,x=>x|(_,p)::r,_,d,x=>p.pk d.1 (lv r d.2 x)
def qhb:(l:List (Nat×Pt))->{a:List Type}->HL (fts l a)->tc l×HL a|[],_,x=>((),x)|(_,p)::r,_,x=>(((p.un x).1,(qhb r (p.un x).2).1),(qhb r (p.un x).2).2)
def zhu:∀(l:List (Nat×Pt)){a:List Type}(d:tc l)(x:HL a),qhb l (lv l d x)=(d,x)
 |[],_,_,_=>rfl|(_,p)::r,_,d,x=>by
  show(((p.un (p.pk d.1 (lv r d.2 x))).1,(qhb r (p.un (p.pk d.1 (lv r d.2 x))).2).1),(qhb r (p.un (p.pk d.1 (lv r d.2 x))).2).2)=(d,x);rw[Pt.un_pk p,zhu r];rfl
def bc.ts:bc->List Type->List Type|.cells ps _,a=>Pts.ts ps a|.row τ _,a=>List τ.den::a|.loop _ _ _ _ fr _ _ _,a=>fts fr a|.dfr,a=>a|.it,a=>List UInt8::Nat::a|.dead,a=>a|.dat τ _,a=>τ.den::a
def bc.pk:(p:bc)->{a:List Type}->p.den->HL a->HL (p.ts a)|.cells ps _,_,d,x=>Pts.pk ps d x|.row _ _,_,d,x=>(d,x)|.loop _ _ _ _ fr _ _ _,_,d,x=>lv fr d x|.dfr,_,_,x=>x|.it,_,d,x=>(d.1,(d.2,x))|.dead,_,_,x=>x|.dat _ _,_,d,x=>(d,x)
def bc.un:(p:bc)->{a:List Type}->HL (p.ts a)->p.den×HL a|.cells ps _,_,x=>Pts.un ps x|.row _ _,_,x=>x|.loop _ _ _ _ fr _ _ _,_,x=>qhb fr x|.dfr,_,x=>((),x)|.it,_,x=>((x.1,x.2.1),x.2.2)|.dead,_,x=>((),x)|.dat _ _,_,x=>x
def bc.un_pk:∀(p:bc){a:List Type}(d:p.den)(x:HL a),p.un (p.pk d x)=(d,x)|.cells ps _,_,d,x=>Pts.un_pk ps d x|.row _ _,_,_,_=>rfl|.loop _ _ _ _ fr _ _ _,_,d,x=>zhu fr d x|.dfr,_,_,_=>rfl|.it,_,_,_=>rfl|.dead,_,_,_=>rfl|.dat _ _,_,_,_=>rfl
def bts:List (Nat×bc)->List Type->List Type|[],a=>a|(_,p)::r,a=>p.ts (bts r a)
def f7:(l:List (Nat×bc))->{a:List Type}->g7 l->HL a->HL (bts l a)|[],_,_,x=>x|(_,p)::r,_,d,x=>p.pk d.1 (f7 r d.2 x)
def bun:(l:List (Nat×bc))->{a:List Type}->HL (bts l a)->g7 l×HL a|[],_,x=>((),x)|(_,p)::r,_,x=>(((p.un x).1,(bun r (p.un x).2).1),(bun r (p.un x).2).2)
def zfq:∀(l:List (Nat×bc)){a:List Type}(d:g7 l)(x:HL a),bun l (f7 l d x)=(d,x)
 |[],_,_,_=>rfl|(_,p)::r,_,d,x=>by
  show(((p.un (p.pk d.1 (f7 r d.2 x))).1,(bun r (p.un (p.pk d.1 (f7 r d.2 x))).2).1),(bun r (p.un (p.pk d.1 (f7 r d.2 x))).2).2)=(d,x);rw[bc.un_pk p,zfq r];rfl
abbrev Cur:List Type->Type->Type|[],R=>R|t::l,R=>t->Cur l R
def app{R:Type}:{l:List Type}->Cur l R->HL l->R|[],f,_=>f|_::_,f,x=>app (f x.1) x.2
abbrev Nc:List Type->Type|[]=>Unit|[t]=>t|t::u::l=>t×Nc (u::l)
def Nc.fro:(l:List Type)->HL l->Nc l|[],_=>()|[_],x=>x.1|_::u::l,x=>(x.1,Nc.fro (u::l) x.2)
def Nc.to:(l:List Type)->Nc l->HL l|[],_=>()|[_],x=>(x,())|_::u::l,x=>(x.1,Nc.to (u::l) x.2)
def Nc.to_fro:∀(l:List Type)(x:HL l),Nc.to l (Nc.fro l x)=x
 |[],_=>rfl|[_],_=>rfl|_::u::l,x=>by
  show(x.1,Nc.to (u::l) (Nc.fro (u::l) x.2))=x;rw[Nc.to_fro];rfl
def RS.mk(p:Pt)(hp:List (Nat×bc)):RS (Nc (p.ts (bts hp []))):=
 .one p hp (fun x=>((p.un (Nc.to _ x)).1,(bun hp (p.un (Nc.to _ x)).2).1)) (fun y=>Nc.fro _ (p.pk y.1 (f7 hp y.2 pd))) fun y=>by
  obtain⟨d,d'⟩:=y;show((p.un (Nc.to _ (Nc.fro _ (p.pk d (f7 hp d' pd))))).1,(bun hp (p.un (Nc.to _ (Nc.fro _ (p.pk d (f7 hp d' pd))))).2).1)=(d,d');rw[Nc.to_fro,Pt.un_pk,zfq]
structure IF:Type 1 where
 key:zw
 args:List Pt
 hp:List (Nat×bc)
 R:Type
 out:RS R
abbrev IF.T(i:IF):Type:=Cur (Pts.ts i.args (bts i.hp [])) (Option i.R)
def IF.e(i:IF)(r:i.T):ee:=⟨i.key,i.args,i.hp,i.R,fun d d'=>app r (Pts.pk i.args d (f7 i.hp d' pd)),i.out⟩
abbrev KL:Type:=wz×LS
abbrev KL.T(l:KL)(R:Type):Type:=Cur (fts l.2.fr (bts l.2.hp [])) (Option R)
def KL.lab{R:Type}(l:KL)(r:l.T R):gh R:=⟨l.1,l.2,fun d=>app r (lv l.2.fr d.1 (f7 l.2.hp d.2 pd))⟩
def kl:Nat->List KL->KL|_,[]=>([],⟨0,[],[],0,[]⟩)|0,l::_=>l|n+1,_::r=>kl n r
def q82:zw->Option Nat|.yld m=>some m|_=>none
section
variable[LC]{P:Program}{i:IF}
structure EP(P:Program):Type 1 where
 e:ee
 h:e.Sound P
structure EI(P:Program)(i:IF) where
 f:i.T
 h:(i.e f).Sound P
def EI.p(s:EI P i):EP P:=⟨i.e s.f,s.h⟩
def EP.es{P:Program}:List (EP P)->List ee|[]=>[]|x::l=>x.e::EP.es l
def EP.es_ok{P:Program}:∀{l:List (EP P)},∀e∈EP.es l,e.Sound P
 |[],_,h=>by cases h
 |x::_,e,h=>by
  rcases List.mem_cons.1 h with rfl|h
  ·exact x.h
  ·exact EP.es_ok e h
structure Fx(P:Program)(i:IF):Type 1 where
 etys:List (Nat×Ty)
 hm:P.follows .mixedOrders=true
 fn:Func
 f:FuncId
 hf:P.funcs[f]? = some fn
 calls:List (EP P)
 sub:Bool
 tags:List (List Nat×Nat)
 ht:∀p t,pf p tags=some t->∀g ps x y,Sym.sub (z8 fn) p = .rangeFunc g ps x y->LC.lc t=some (x,y)
 ls:List KL
def Fx.body(x:Fx P i):Code:=z8 x.fn
def Fx.cx(x:Fx P i):Cx:={ P,tb:=⟨EP.es x.calls,x.etys,x.sub⟩,fn:=x.fn,f:=x.f,ids:=fc i.hp,rd:=q82 i.key,tags:=x.tags }
def Fx.ok(x:Fx P i):x.cx.Ok x.body:=⟨EP.es_ok,x.hm,x.hf,x.ht⟩
structure PL(x:Fx P i)(k:Nat) where
 f:(kl k x.ls).T i.R
 h:∀d',uk x.cx (cq i.hp d') i.out x.body ((kl k x.ls).lab f)
abbrev Fx.L(x:Fx P i)(k:Nat):=PL x k
structure SL(x:Fx P i) where
 q:gh i.R
 h:∀d',uk x.cx (cq i.hp d') i.out x.body q
def PL.s{x:Fx P i}{k:Nat}(p:PL x k):SL x:=⟨(kl k x.ls).lab p.f,p.h⟩
def SL.qs{x:Fx P i}:List (SL x)->List (gh i.R)|[]=>[]|s::l=>s.q::SL.qs l
def SL.qs_ok{x:Fx P i}{d':g7 i.hp}:∀{l:List (SL x)},∀q∈SL.qs l,uk x.cx (cq i.hp d') i.out x.body q
 |[],_,h=>by cases h
 |s::_,q,h=>by
  rcases List.mem_cons.1 h with rfl|h
  ·exact s.h d'
  ·exact SL.qs_ok q h
def Fx.jn{x:Fx P i}{k:Nat}(f:(kl k x.ls).T i.R)(l:List (SL x))
  (h:∀d,run x.cx i.out (SL.qs l) 1000000 false (mf x.body (kl k x.ls).1) ((kl k x.ls).2.st d)=app f (lv (kl k x.ls).2.fr d.1 (f7 (kl k x.ls).2.hp d.2 ()))):PL x k:=
 ⟨f,fun _=>uk.of_run x.ok (fun _ _ h=>qv4 h) (SL.qs_ok) h⟩
def Fx.lp{x:Fx P i}{k:Nat}(g:Nat->(kl k x.ls).T i.R)(b:(kl k x.ls).T i.R->(kl k x.ls).T i.R)(h0:∀d:(kl k x.ls).2.den,app (g 0) (lv (kl k x.ls).2.fr d.1 (f7 (kl k x.ls).2.hp d.2 ()))=none)(hg:∀n,g (n+1)=b (g n))(l:PL x k->List (SL x))
  (h:∀r d,run x.cx i.out (SL.qs (l r)) 1000000 false (mf x.body (kl k x.ls).1) ((kl k x.ls).2.st d)=app (b r.f) (lv (kl k x.ls).2.fr d.1 (f7 (kl k x.ls).2.hp d.2 ()))) (n:Nat):PL x k:=
 ⟨g n,by
  induction n with
  |zero=>intro d' d r hr;have:=h0 d;rw[show((kl k x.ls).lab (g 0)).F d=none from this]at hr;cases hr
  | succ n ih=>rw[hg];exact(Fx.jn (b (g n)) (l ⟨g n,ih⟩) (h ⟨g n,ih⟩)).h⟩
def Fx.fin(x:Fx P i)(f:i.T)(l:List (SL x))(hp:r7 P x.f)(hk:i.key = .fn x.f)(hb:x.fn.body=some x.body)(hfine:qol x.cx i.args i.hp=true)
  (h:∀d d',qxc x.cx x.body i.out (SL.qs l) i.args i.hp (Pts.put i.args d) (cq i.hp d')=app f (Pts.pk i.args d (f7 i.hp d' pd))):EI P i:=
 ⟨f,ee.sound_fn (e:=i.e f) (cx:=x.cx) (labs:=SL.qs l) x.ok hk hb (show q82 i.key=none by rw[hk];rfl) rfl hp hfine (fun _=>SL.qs_ok) h⟩
def Fx.fiy(x:Fx P i)(f:i.T)(l:List (SL x))(m:Nat)(hk:i.key = .yld m)(p:List Nat)(hb:q67 (Sym.sub x.body p)=true)(hfine:(tu (fc i.hp) i.args&&bIn (fc i.hp) i.hp)=true)
  (h:∀d d',qaw x.cx x.body p m i.out (SL.qs l) i.hp (Pts.put i.args d) (cq i.hp d')=app f (Pts.pk i.args d (f7 i.hp d' pd))):EI P i:=
 ⟨f,ee.sound_yld (e:=i.e f) (cx:=x.cx) (labs:=SL.qs l) (p:=p) (m:=m) x.ok hk (show q82 i.key=some m by rw[hk];rfl) rfl hb hfine (fun _=>SL.qs_ok) h⟩
def EI.rc(g:Nat->i.T)(b:i.T->i.T)(h0:∀d d',app (g 0) (Pts.pk i.args d (f7 i.hp d' pd))=none)(hg:∀n,g (n+1)=b (g n))(s:EI P i->EI P i)(hs:∀r,(s r).f=b r.f)(n:Nat):EI P i:=
 ⟨g n,by
  induction n with
  |zero=>intro d d' r hr;have:=h0 d d';rw[show(i.e (g 0)).F d d'=none from this]at hr;cases hr
  | succ n ih=>rw[hg,← hs ⟨g n,ih⟩];exact(s ⟨g n,ih⟩).h⟩
def qak:List Nat->Code->List Nat->wz->wz
 |[],_,p,k=>(0,p)::k|i::r,c,p,k=>match c with
  |.seq a b=>match i with|0=>qak r a (0::p) ((0,1::p)::k)|_=>qak r b (1::p) k
  |.block _ a=>qak r a (0::p) ((1,p)::k)|.loop a=>qak r a (0::p) ((2,p)::k)|.scope a=>qak r a (0::p) ((3,p)::k)|.rangeFunc _ _ _ b=>qak r b (i::p) []|c=>qak r (xg i c) (i::p) k
def zxm(b:Code)(n:Nat):wz:=qak (zjx 200 n).reverse b [] []
def u7(P:Program)(f:FuncId):Func:=match P.funcs[f]? with|some fn=>fn|none=>default
structure LB where
 n:Nat
 fr:List (Nat×Pt)
 hp:List (Nat×bc)
 df:List Nat
abbrev lb(n:Nat)(fr:List (Nat×Pt))(hp:List (Nat×bc):=[])(df:List Nat:=[]):LB:=⟨n,fr,hp,df⟩
def zii(fn:Func):List LB->List KL|[]=>[]|l::r=>(zxm (z8 fn) l.n,⟨fn.ntmps,l.fr,l.hp,64,l.df⟩)::zii fn r
def qvs:zw->FuncId|.fn f=>f|.ext f=>f|.yld _=>0
def z0h {f : FuncId} {fn : Func} (hf : P.funcs[f]? = some fn) (hn : (fn.name == "runtime.NumGoroutine") = false) (hb : fn.body.isNone = false) : r7 P f := fun args w => by
 have h1 : ¬ fn.name = "runtime.NumGoroutine" := by simpa using hn
 cases hq:fn.body with
 |none=>rw[hq]at hb;cases hb
 |some c=>simp[callFunc,hf,h1,hq]
def Fx.at(etys:List (Nat×Ty))(hm:P.follows .mixedOrders=true)(f:FuncId)(calls:List (EP P))(ls:List LB)(sub:Bool)(tags:List (List Nat×Nat))
  (ht:∀p t,pf p tags=some t->∀g ps x y,Sym.sub (z8 (u7 P f)) p = .rangeFunc g ps x y->LC.lc t=some (x,y)) (hf:P.funcs[f]? = some (u7 P f)):Fx P i:=
 ⟨etys,hm,u7 P f,f,hf,calls,sub,tags,ht,zii (u7 P f) ls⟩
def Fx.fi(x:Fx P i)(f:i.T)(l:List (SL x):=[])(hp:r7 P x.f:=by exact z0h (Fx.hf _) oD oD)(hk:i.key = .fn x.f:=by exact rfl)(hb:x.fn.body=some x.body:=by exact rfl)(hfine:qol x.cx i.args i.hp=true:=by kernel_rfl)
  (h:∀d d',qxc x.cx x.body i.out (SL.qs l) i.args i.hp (Pts.put i.args d) (cq i.hp d')=app f (Pts.pk i.args d (f7 i.hp d' pd)):=by intro d d';kernel_rfl):EI P i:=x.fin f l hp hk hb hfine h
def Fx.fo(x:Fx P i)(f:i.T)(l:List (SL x))(m:Nat)(p:List Nat)(hk:i.key = .yld m:=by exact rfl)(hb:q67 (Sym.sub x.body p)=true:=by kernel_rfl)(hfine:(tu (fc i.hp) i.args&&bIn (fc i.hp) i.hp)=true:=by kernel_rfl)
  (h:∀d d',qaw x.cx x.body p m i.out (SL.qs l) i.hp (Pts.put i.args d) (cq i.hp d')=app f (Pts.pk i.args d (f7 i.hp d' pd)):=by intro d d';kernel_rfl):EI P i:=x.fiy f l m hk p hb hfine h
def Fx.jm{x:Fx P i}{k:Nat}(f:(kl k x.ls).T i.R)(l:List (SL x):=[])(h:∀d,run x.cx i.out (SL.qs l) 1000000 false (mf x.body (kl k x.ls).1) ((kl k x.ls).2.st d)=app f (lv (kl k x.ls).2.fr d.1 (f7 (kl k x.ls).2.hp d.2 ())):=by intro d;kernel_rfl):PL x k:=Fx.jn f l h
def Fx.lq{x:Fx P i}{k:Nat}(g:Nat->(kl k x.ls).T i.R)(b:(kl k x.ls).T i.R->(kl k x.ls).T i.R)(l:PL x k->List (SL x))(h0:∀d:(kl k x.ls).2.den,app (g 0) (lv (kl k x.ls).2.fr d.1 (f7 (kl k x.ls).2.hp d.2 ()))=none:=by intro _;exact rfl)(hg:∀n,g (n+1)=b (g n):=by intro _;exact rfl)
  (h:∀r d,run x.cx i.out (SL.qs (l r)) 1000000 false (mf x.body (kl k x.ls).1) ((kl k x.ls).2.st d)=app (b r.f) (lv (kl k x.ls).2.fr d.1 (f7 (kl k x.ls).2.hp d.2 ())):=by intro _ d;kernel_rfl) (n:Nat):PL x k:=Fx.lp g b h0 hg l h n
end
end Go.Sym
namespace Go.Sym
def om(n:Int):Option Bs:=bif decide (-9223372036854775808<=n/\n<=9223372036854775807) then some (Lib.itoa n) else none
def uj(s sep:Bs):Option Int:=bif decide (2<=List.length sep/\List.length s<4294967281/\List.length sep<=maxLen) then some (Lib.index s sep) else none
def gv{α:Type}(l:List α):Option (List α):=bif decide (List.length l<=az) then some l else none
def jb(s:Bs)(most:Int):Int×Bool:=match Lib.atoiAll s with|.ok v=>if Lib.itoa v=s/\0<=v/\v<=most then(v,true) else(0,false)|_=>(0,false)
def qb3(s:Bs)(most:Int):Option (Int×Bool):=bif decide (List.length s<=281474976710656) then some (jb s most) else none
abbrev Pc:Type:=Bs×Int×Bool×Bs
abbrev Pq:Type:={ x:Pc // -1125899906842624<=x.2.1/\x.2.1<=1125899906842624 }
instance:Inhabited Pq:=⟨⟨([],0,false,[]),oF⟩⟩
def kv(x y:Pq):Int:=ae (x.1.2.1-y.1.2.1)
def jl(l:List Pq):List Pq:=(Go.Sort.pdq (Go.Proofs.ltOf kv) l.toArray 0 l.length (Lib.bitLen l.length) true true).toList
def t8:List Pc->Option (List Pq)|[]=>some []|x::l=>if h : -1125899906842624<=x.2.1/\x.2.1<=1125899906842624 then(match t8 l with|some r=>some (⟨x,h⟩::r)|none=>none) else none
def qcl(l:List Pc):Option (List Pc):=bif decide (List.length l<=az) then(match t8 l with|some q=>some ((jl q).map (·.1))|none=>none) else none
def qf7(s:Bs)(n:Int):Option Bs:=bif decide (0<=n/\n<=9223372036854775807/\List.length s*n.toNat<=140737488355328) then some (Lib.repeatL s n.toNat) else none
def vu(rep:Bs):Nat->Bool->Bs->Bs
 |0,_,_=>[]|_+1,_,[]=>[]|n+1,inv,c::l=>if(Lib.decodeL (c::l)).1=65533/\(Lib.decodeL (c::l)).2=1 then(if inv then[] else rep)++vu rep n true l
  else(c::l).take (Lib.decodeL (c::l)).2++vu rep n false ((c::l).drop (Lib.decodeL (c::l)).2)
def qcn(s rep:Bs):Option Bs:=bif decide (List.length s<=1000000/\List.length rep<=1000) then some (vu rep s.length false s) else none
def qco(s:Bs):Option Bool:=bif decide (List.length s<=9223372036854775807) then some (Lib.validD s) else none
def sx(a b:UInt8)(na nb:Bs)(c:UInt8):Bs:=if c=a then na else if c=b then nb else[c]
def fe(a b:UInt8)(na nb:Bs)(s:Bs):Bs:=s.flatMap (sx a b na nb)
def kw(a b:UInt8)(l:Bs):Nat:=l.count a+l.count b
def qve(a b:UInt8)(na nb s t:Bs):fe a b na nb (s++t)=fe a b na nb s++fe a b na nb t:=List.flatMap_append
def q5x(a b:UInt8)(s t:Bs):kw a b (s++t)=kw a b s+kw a b t:=by unfold kw;rw[List.count_append,List.count_append];omega
def q5y{a b:UInt8}(hab:a≠b)(c:UInt8):kw a b [c]=if c=a then 1 else if c=b then 1 else 0:=by
 unfold kw;simp only[List.count_cons,List.count_nil,beq_iff_eq];by_cases h:c=a
 ·subst h;simp[hab]
 ·by_cases h2:c=b
  ·subst h2;simp[h]
  ·simp[h,h2]
def qvf{a b:UInt8}(hab:a≠b)(a1 a2 b1 b2:UInt8):∀l:Bs,(fe a b [a1,a2] [b1,b2] l).length=l.length+kw a b l
 |[]=>rfl|c::l=>by
  have h:=qvf hab a1 a2 b1 b2 l;rw[show c::l=[c]++l from rfl,qve,qM,qM,q5x,h,q5y hab]
  have:(fe a b [a1,a2] [b1,b2] [c]).length=1+(if c=a then 1 else if c=b then 1 else 0):=by
   show(sx a b [a1,a2] [b1,b2] c++[]).length=_;unfold sx;split
   ·rfl
   ·split<;>rfl
  rw[this];simp only[qL,qZ];omega
def zg1{a b:UInt8}(hab:a≠b)(na nb:Bs):∀l:Bs,kw a b l=0->fe a b na nb l=l
 |[],_=>rfl|c::l,h=>by
  rw[show c::l=[c]++l from rfl,q5x,q5y hab]at h
  rw[show c::l=[c]++l from rfl,qve,zg1 hab na nb l oA]
  congr 1;show sx a b na nb c++[]=[c];unfold sx;by_cases h1:c=a
  ·rw[qX h1]at h;omega
  ·by_cases h2:c=b
   ·rw[qW h1,qX h2]at h;omega
   ·rw[qW h1,qW h2];rfl
def zmp{α:Type}(l:List α)(i:Nat)(h:i<l.length):l.take (i+1)=l.take i++[l[i]]:=by
 rw[List.take_add_one,List.getElem?_eq_getElem h];rfl
def zu(s:Bs)(p0 p1 _p2:Int)(on:List Bs):Option Bs:=
 match on with|[[a],[a1,a2],[b],[b1,b2]]=>bif decide (p0=0/\p1=0/\a≠b/\List.length s<=1000000) then some (fe a b [a1,a2] [b1,b2] s) else none|_=>none
def z1y{s r:Bs}{p0 p1 p2:Int}{on:List Bs}(h:zu s p0 p1 p2 on=some r) :
  ∃a a1 a2 b b1 b2,on=[[a],[a1,a2],[b],[b1,b2]]/\p0=0/\p1=0/\a≠b/\List.length s<=1000000/\r=fe a b [a1,a2] [b1,b2] s:=by
 unfold zu at h;split at h
 ·rename_i a a1 a2 b b1 b2;cases hd:decide (p0=0/\p1=0/\a≠b/\List.length s<=1000000)<;>rw[hd]at h<;>simp only[qT,qF,reduceCtorEq]at h
  obtain⟨h1,h2,h3,h4⟩:=of_decide_eq_true hd;exact⟨a,a1,a2,b,b1,b2,rfl,h1,h2,h3,h4,(qJ h).symm⟩
 ·cases h
open Go.RowKit
variable[LC]
def zi(b:List UInt8)(c:UInt8):Option Int:=some (Lib.indexByte b c)
def q1e(f:FuncId)(r:List UInt8->UInt8->Option Int):ee:={ key := .ext f,args:=[.h (.list .byte),.h .byte],hp:=[],R:=Int,F:=fun d _=>r d.1 d.2.1,out := .one (α:=Int) (.h (.int .i64)) [] (fun r=>(r,())) (fun y=>y.1) (fun _=>rfl) }
def q1d(f:FuncId)(r:List UInt8->UInt8->Option Int):ee:={ key := .ext f,args:=[.h .str,.h .byte],hp:=[],R:=Int,F:=fun d _=>r d.1 d.2.1,out := .one (α:=Int) (.h (.int .i64)) [] (fun r=>(r,())) (fun y=>y.1) (fun _=>rfl) }
def zfv(c:UInt8):((c.toNat:Int)).toNat.toUInt8=c:=oC
def zw2 {P : Program} {f : FuncId} {fn : Func} (hf : P.funcs[f]? = some fn) (hname : (fn.name == "runtime.NumGoroutine") = false) (hb : fn.body.isNone = true) (hn : Extern.findNext fn = none) (he : Extern.find fn = some Extern.BytealgIndexByte.indexByte) (b : List UInt8) (c : UInt8) :
  qqm P f [.str b,.byte c] (.int .i64 (Lib.indexByte b c)):=fun w G vs _ hr=>by
 match vs,hr with
 |[v1,v2],⟨h1,h2,_⟩=>
  have h1:v1 = .string ⟨b.toArray⟩:=h1;have h2:v2 = .int .u8 c.toNat:=h2;subst h1 h2;refine⟨.int .i64 (Lib.indexByte b c),?_,rfl⟩;rw[run_callFunc_extern hf hname hb hn he,show([Value.string ⟨b.toArray⟩,.int .u8 c.toNat]:List Value).toArray=#[.string ⟨b.toArray⟩,.int .u8 c.toNat] from rfl,Lib.run_indexByteString,zfv]
  rfl
def zw3 {P : Program} {f : FuncId} {fn : Func} (hf : P.funcs[f]? = some fn) (hname : (fn.name == "runtime.NumGoroutine") = false) (hb : fn.body.isNone = true) (hn : Extern.findNext fn = none) (he : Extern.find fn = some Extern.BytealgIndexByte.indexByte) (b : List UInt8) (c : UInt8) :
  qqm P f [.sl .byte b,.byte c] (.int .i64 (Lib.indexByte b c)):=fun w G vs hm hr=>by
 match vs,hr with
 |[v1,v2],⟨h1,h2,_⟩=>
  have h2:v2 = .int .u8 c.toNat:=h2;subst h2;obtain⟨a,cp,rfl,hc,hl⟩:ll 1 (Ty.byte.At G.imm) b v1:=h1;refine⟨.int .i64 (Lib.indexByte b c),?_,rfl⟩;rw[run_callFunc_extern hf hname hb hn he];have key:∀k:Int,(Extern.BytealgIndexByte.indexByte #[.slice a b.length cp,.int .u8 c.toNat]).run P w = .ok (.int .i64 k) w->((Extern.BytealgIndexByte.indexByte ([Value.slice a b.length cp,.int .u8 c.toNat]:List Value).toArray).run P w).andThen (fun v w'=>Result.ok (Next.value v) w') = .ok (.value (.int .i64 k)) w:=by
   intro k hk;have e:([Value.slice a b.length cp,.int .u8 c.toNat]:List Value).toArray=#[.slice a b.length cp,.int .u8 c.toNat]:=rfl;rw[e,hk];rfl
  refine key _ ?_;have bb:Lib.bytesOf (b.map fun x=>(x.toNat:Int))=b:=by
   unfold Lib.bytesOf;rw[List.map_map];have:((fun n:Int=>UInt8.ofNat n.toNat) ∘ fun x:UInt8=>(x.toNat:Int))=id:=by funext x;simp
   rw[this,List.map_id]
  rcases hl with rfl|⟨g,o,rfl,hcells⟩
  ·have hs:=Lib.run_indexByteString (P:=P) .empty (c.toNat:Int) w
   cases a with|none=>exact hs|some ad=>exact hs
  ·have:=Lib.run_indexByteSlice (P:=P) (w:=w) g o b.length cp (b.map fun x=>(x.toNat:Int)) oC (fun i hi=>by
    have hk:G.imm g (o+i*1)=some (.int .u8 b[i].toNat):=hcells i _ (List.getElem?_eq_getElem hi);have:=hm.agree _ _ _ hk;rw[Nat.mul_one]at this;rw[this];simp[List.getD_eq_getElem?_getD,hi]) (c.toNat:Int)
   rw[bb,zfv]at this;exact this
def zqx {P : Program} {f : FuncId} {fn : Func} (hf : P.funcs[f]? = some fn) (hname : (fn.name == "runtime.NumGoroutine") = false) (hb : fn.body.isNone = true) (hn : Extern.findNext fn = none) (he : Extern.find fn = some Extern.BytealgIndexByte.indexByte) :
  (q1d f zi).Sound P:=fun d d' r h=>by
 have h:some (Lib.indexByte (show List UInt8 from d.1) (show UInt8 from d.2.1))=some r:=h
 have h:=qJ h;subst h;exact zw2 hf hname hb hn he _ _
def zqz {P : Program} {f : FuncId} {fn : Func} (hf : P.funcs[f]? = some fn) (hname : (fn.name == "runtime.NumGoroutine") = false) (hb : fn.body.isNone = true) (hn : Extern.findNext fn = none) (he : Extern.find fn = some Extern.BytealgIndexByte.indexByte) :
  (q1e f zi).Sound P:=fun d d' r h=>by
 have h:some (Lib.indexByte (show List UInt8 from d.1) (show UInt8 from d.2.1))=some r:=h
 have h:=qJ h;subst h;exact zw3 hf hname hb hn he _ _
end Go.Sym
namespace Go.Sym
open Go.ChangeShapes Go.WideShapes Go.ChangeAt Go.RowKit
variable[LC]
def Gw(w:World):Gh:=⟨fun b o=>match w.cell? ⟨b,o,none⟩ with|some v=>if v.oneCell'=true then some v else none|none=>none,fun _=>none,fun _=>none⟩
def q4d{w:World}{b o:Nat}{v:Value}(h:w.cell? ⟨b,o,none⟩=some v)(h1:v.oneCell'=true):(Gw w).imm b o=some v:=by
 simp[Gw];rw[h];simp[h1]
def zq5(w:World)(ht:LC.tab (Gw w).imm w):cv (Gw w) [] w:=by
 have key:∀b o v,(Gw w).imm b o=some v->w.cell? ⟨b,o,none⟩=some v/\v.oneCell'=true:=by
  intro b o v h;simp[Gw]at h;split at h
  ·rename_i u hu;split at h
   ·rename_i h1;cases h;exact⟨hu,h1⟩
   ·cases h
  ·cases h
 exact⟨fun b o v h=>(key b o v h).1,fun b o v h=>(key b o v h).2,fun n bx h=>(by cases h),fun n m bx bx' b h=>(by cases h),ht⟩
inductive q4m{α:Type}(p:α->Prop):Tree α->Prop
 |mk (a:α) (l:List (Tree α)):p a->l.length<=maxLen->(∀x∈l,q4m p x)->q4m p (.node a l)
def Ty.bd:(τ:Ty)->τ.den->Prop|.int k,n=>(Lit.int k n).wf=true|.str,s=>List.length s<=maxLen|.prod a b,x=>a.bd x.1/\b.bd x.2|.list a,l=>List.length l<=maxLen/\∀x∈(show List a.den from l),a.bd x|.tree a,t=>q4m a.bd t|_,_=>True
def qha(P:Program)(rec:Ty->TypeId->Bool):Ty->List Field->Nat->Bool|τ,[f],o=>f.offset==o&&(P.cellsOf f.type==τ.sz&&rec τ f.type)|.prod a b,f::fs,o=>f.offset==o&&(P.cellsOf f.type==a.sz&&(rec a f.type&&qha P rec b fs (o+a.sz)))|_,_,_=>false
def qxf(P:Program)(t g:TypeId):Bool:=match P.underlying g with|some (.slice e)=>e==t|_=>false
def qdy(P:Program)(rec:Ty->TypeId->Bool)(t:TypeId):Ty->List Field->Nat->Bool|τ,[f,g],o=>f.offset==o&&(P.cellsOf f.type==τ.sz&&(rec τ f.type&&(g.offset==o+τ.sz&&(P.cellsOf g.type==1&&qxf P t g.type))))|.prod a b,f::fs,o=>f.offset==o&&(P.cellsOf f.type==a.sz&&(rec a f.type&&qdy P rec t b fs (o+a.sz)))|_,_,_=>false
def dn(P:Program):Nat->Ty->TypeId->Bool
 |0,_,_=>false|_+1,.int k,t=>match P.underlying t with|some (.int k')=>decide (k'=k)|_=>false
 |_+1,.byte,t=>match P.underlying t with|some (.int k')=>decide (k' = .u8)|_=>false
 |_+1,.bool,t=>match P.underlying t with|some .bool=>true|_=>false
 |_+1,.str,t=>match P.underlying t with|some .string=>true|_=>false
 |n+1,.list a,t=>match P.underlying t with|some (.slice e)=>P.cellsOf e==a.sz&&(decide (0<a.sz)&&dn P n a e)|_=>false
 |n+1,.prod a b,t=>match P.underlying t with|some (.struct fs)=>P.cellsOf t==(Ty.prod a b).sz&&qha P (dn P n) (.prod a b) fs.toList 0|_=>false
 |n+1,.tree a,t=>match P.underlying t with|some (.struct fs)=>P.cellsOf t==(Ty.tree a).sz&&qdy P (dn P n) t a fs.toList 0|_=>false
 |_+1,_,_=>false
def zm4{P:Program}{n:Nat}{k:IntKind}{t:TypeId}(h:dn P (n+1) (.int k) t=true):P.underlying t=some (.int k):=by
 unfold dn at h;split at h
 ·rename_i k' e;rw[e,of_decide_eq_true h]
 ·cases h
def zm3{P:Program}{n:Nat}{t:TypeId}(h:dn P (n+1) .byte t=true):P.underlying t=some (.int .u8):=by
 unfold dn at h;split at h
 ·rename_i k' e;rw[e,of_decide_eq_true h]
 ·cases h
def zm2{P:Program}{n:Nat}{t:TypeId}(h:dn P (n+1) .bool t=true):P.underlying t=some .bool:=by
 unfold dn at h;split at h
 ·rename_i e;exact e
 ·cases h
def zm5{P:Program}{n:Nat}{t:TypeId}(h:dn P (n+1) .str t=true):P.underlying t=some .string:=by
 unfold dn at h;split at h
 ·rename_i e;exact e
 ·cases h
def am.app{G:Gh}:∀{xs ys:List AV}{us vs:List Value},am xs G us->am ys G vs->am (xs++ys) G (us++vs)|[],_,[],_,_,h=>h|[],_,_::_,_,h,_=>by simp[am]at h|_::_,_,[],_,h,_=>by simp[am]at h|_::_,_,_::_,_,h,k=>⟨h.1,am.app h.2 k⟩
def qu9{G:Gh}:∀(τ:Ty)(x:τ.den)(cs:List Value),am (τ.enc x) G cs->∀v∈cs,v.oneCell'=true
 |.int k,n,[v],h,u,hu=>by
  rw[List.mem_singleton]at hu;subst hu;have h1:u = .int k n:=h.1;rw[h1];rfl
 |.byte,c,[v],h,u,hu=>by
  rw[List.mem_singleton]at hu;subst hu;have h1:u = .int .u8 (UInt8.toNat c):=h.1;rw[h1];rfl
 |.bool,c,[v],h,u,hu=>by
  rw[List.mem_singleton]at hu;subst hu;have h1:u = .bool c:=h.1;rw[h1];rfl
 |.str,s,[v],h,u,hu=>by
  rw[List.mem_singleton]at hu;subst hu;have h1:u = .string ⟨List.toArray s⟩:=h.1;rw[h1];rfl
 |.list a,l,[v],h,u,hu=>by
  rw[List.mem_singleton]at hu;subst hu;obtain⟨ad,c,rfl,_⟩:ll a.sz (a.At G.imm) l u:=h.1;rfl
 |.unit,_,[],_,u,hu=>by cases hu
 |.unit,_,_::_,h,_,_=>by simp[Ty.enc,am]at h|.prod a b,x,cs,h,u,hu=>by
  have key:∀(xs ys:List AV)(cs:List Value),am (xs++ys) G cs->∃us vs,cs=us++vs/\am xs G us/\am ys G vs:=by
   intro xs
   induction xs with
   |nil=>intro ys cs h;exact⟨[],cs,rfl,trivial,h⟩|cons x xs ih=>
    intro ys cs h
    cases cs with
    |nil=>simp[am]at h|cons c cs=>
     obtain⟨us,vs,e,h1,h2⟩:=ih ys cs h.2;exact⟨c::us,vs,by rw[e];rfl,⟨h.1,h1⟩,h2⟩
  obtain⟨us,vs,rfl,h1,h2⟩:=key _ _ _ h;rcases List.mem_append.1 hu with q|q
  ·exact qu9 a x.1 us h1 u q
  ·exact qu9 b x.2 vs h2 u q
 |.tree a,x,cs,h,u,hu=>by
  have key:∀(xs ys:List AV)(cs:List Value),am (xs++ys) G cs->∃us vs,cs=us++vs/\am xs G us/\am ys G vs:=by
   intro xs
   induction xs with
   |nil=>intro ys cs h;exact⟨[],cs,rfl,trivial,h⟩|cons x xs ih=>
    intro ys cs h
    cases cs with
    |nil=>simp[am]at h|cons c cs=>
     obtain⟨us,vs,e,h1,h2⟩:=ih ys cs h.2;exact⟨c::us,vs,by rw[e];rfl,⟨h.1,h1⟩,h2⟩
  obtain⟨us,vs,rfl,h1,h2⟩:=key _ _ _ h;rcases List.mem_append.1 hu with q|q
  ·exact qu9 a _ us h1 u q
  ·cases vs with
   |nil=>cases q
   |cons v vs=>
    cases vs with
    |cons v' vs=>simp[am]at h2|nil=>
     rw[List.mem_singleton]at q;subst q;obtain⟨ad,c,rfl,_⟩:ll (Ty.tree a).sz ((Ty.tree a).At G.imm) (Tree.kids x) u:=h2.1;rfl
 |.int _,_,[],h,_,_=>by simp[Ty.enc,am]at h|.int _,_,_::_::_,h,_,_=>by simp[Ty.enc,am]at h|.byte,_,[],h,_,_=>by simp[Ty.enc,am]at h|.byte,_,_::_::_,h,_,_=>by simp[Ty.enc,am]at h|.bool,_,[],h,_,_=>by simp[Ty.enc,am]at h|.bool,_,_::_::_,h,_,_=>by simp[Ty.enc,am]at h|.str,_,[],h,_,_=>by simp[Ty.enc,am]at h|.str,_,_::_::_,h,_,_=>by simp[Ty.enc,am]at h|.list _,_,[],h,_,_=>by simp[Ty.enc,am]at h|.list _,_,_::_::_,h,_,_=>by simp[Ty.enc,am]at h
def am.cells{w:World}{b:Nat}:∀(xs:List AV)(cs:List Value)(o:Nat),am xs (Gw w) cs->(∀v∈cs,v.oneCell'=true)->(∀(j:Nat)(v:Value),cs[j]? = some v->w.cell? ⟨b,o+j,none⟩=some v)->ck xs (Gw w) b o
 |[],[],_,_,_,_=>trivial|[],_::_,_,h,_,_=>by simp[am]at h|_::_,[],_,h,_,_=>by simp[am]at h|x::xs,c::cs,o,h,h1,h2=>by
  refine⟨⟨c,q4d (h2 0 c rfl) (h1 c qH),h.1⟩,am.cells xs cs (o+1) h.2 (fun v hv=>h1 v (qE _ hv)) (fun j v hj => ?_)⟩
  have:=h2 (j+1) v hj;rw[show o+1+j=o+(j+1) by omega];exact this
structure ud(H:Type) where
 b:DataW H->Nat
 ba:List (DataW H)->Nat
 str:∀s,b (.lit (.string s))=s.length+1
 lit:∀l,1<=b (.lit l)
 nilb:b .nil=1
 sl:∀e r,b (.slice e r)=ba e+ba r+1
 agg:∀l,b (.agg l)=ba l+1
 nil:ba []=0
 cons:∀d r,ba (d::r)=b d+ba r
def ud.app{H:Type}(B:ud H):∀(l r:List (DataW H)),B.ba (l++r)=B.ba l+B.ba r|[],r=>by rw[List.nil_append,B.nil,wO]|d::l,r=>by rw[wK,B.cons,B.cons,B.app l r,Nat.add_assoc]
mutual
def qh1{α:Type}(f:α->Nat):Tree α->Nat|.node a l=>f a+qps f l+2
def qps{α:Type}(f:α->Nat):List (Tree α)->Nat|[]=>0|t::l=>qh1 f t+qps f l
end
def zmx{α:Type}(f:α->Nat):∀l:List (Tree α),qps f l=(l.map (qh1 f)).sum|[]=>by simp[qps]|t::l=>by rw[qps,zmx f l,List.map_cons,List.sum_cons]
def zmw{α:Type}(f:α->Nat)(a:α)(l:List (Tree α)):qh1 f (.node a l)=f a+(l.map (qh1 f)).sum+2:=by
 rw[← zmx];simp[qh1]
def Ty.bk:(τ:Ty)->τ.den->Nat|.str,s=>List.length s+1|.prod a b,x=>a.bk x.1+b.bk x.2|.list a,l=>((show List a.den from l).map a.bk).sum+1|.unit,_=>0|.tree a,t=>qh1 a.bk t|_,_=>1
section
variable{H:Type}{enc:TypeId×Value->H}{P:Program}{w:World}{base:Nat}{spare:Nat->Bool}{held:Bool}
def zhl(B:ud H)(n m:Nat)(cs:List Value)
  (ih:∀(τ:Ty)(t:TypeId)(cs:List Value)(y:DataW H×List MemPlace),dn P n τ t=true->DataW.trod enc P w base spare held m t cs=some y->∃x:τ.den,τ.bd x/\am (τ.enc x) (Gw w) cs/\τ.bk x<=B.b y.1) :
  ∀(fs:List Field)(τ:Ty)(o:Nat)(xs:List (DataW H×List MemPlace)),qha P (dn P n) τ fs o=true->xs.length=fs.length->(∀(i:Nat)(f:Field),fs[i]? = some f->DataW.trod enc P w base spare held m f.type ((cs.drop f.offset).take (P.cellsOf f.type))=xs[i]?) ->
   ∃x:τ.den,τ.bd x/\am (τ.enc x) (Gw w) ((cs.drop o).take τ.sz)/\τ.bk x<=B.ba (xs.map (·.1))
 |[],τ,o,xs,h,_,_=>by cases τ<;>simp[qha]at h
 |[f],τ,o,xs,h,hl,hf=>by
  have h':(f.offset==o&&(P.cellsOf f.type==τ.sz&&dn P n τ f.type))=true:=by cases τ<;>exact h
  simp at h'
  match xs,hl with
  |[y],_=>
   have hy:DataW.trod enc P w base spare held m f.type ((cs.drop f.offset).take (P.cellsOf f.type))=some y:=hf 0 f rfl;rw[h'.1,h'.2.1]at hy;obtain⟨x,x1,x2,x3⟩:=ih τ f.type _ y h'.2.2 hy;exact⟨x,x1,x2,oW⟩
 |f::g::fs,τ,o,xs,h,hl,hf=>by
  cases τ with
  |prod a b=>
   have h':(f.offset==o&&(P.cellsOf f.type==a.sz&&(dn P n a f.type&&qha P (dn P n) b (g::fs) (o+a.sz))))=true:=h;simp at h'
   match xs,hl with
   |y::ys,hl=>
    have hy:DataW.trod enc P w base spare held m f.type ((cs.drop f.offset).take (P.cellsOf f.type))=some y:=hf 0 f rfl;rw[h'.1,h'.2.1]at hy;obtain⟨x1,b1,r1,k1⟩:=ih a f.type _ y h'.2.2.1 hy;obtain⟨x2,b2,r2,k2⟩:=zhl B n m cs ih (g::fs) b (o+a.sz) ys h'.2.2.2 (by simpa using hl) (fun i f' hf'=>hf (i+1) f' hf')
    refine⟨(x1,x2),⟨b1,b2⟩,?_,?_⟩
    ·show am (a.enc x1++b.enc x2) (Gw w) ((cs.drop o).take (a.sz+b.sz));rw[List.take_add,List.drop_drop];exact am.app r1 r2
    ·show a.bk x1+b.bk x2<=_;rw[List.map_cons,B.cons];omega
  |_=>simp[qha]at h
def zmz(B:ud H)(n m:Nat)(cs:List Value){vi8:Ty}(t:TypeId)
  (ih:∀(τ:Ty)(t:TypeId)(cs:List Value)(y:DataW H×List MemPlace),dn P n τ t=true->DataW.trod enc P w base spare held m t cs=some y->∃x:τ.den,τ.bd x/\am (τ.enc x) (Gw w) cs/\τ.bk x<=B.b y.1)
  (ihk:∀(g:TypeId)(cs:List Value)(y:DataW H×List MemPlace),qxf P t g=true->DataW.trod enc P w base spare held m g cs=some y->∃l:List (Ty.tree vi8).den,(Ty.list (.tree vi8)).bd l/\am [.sl (.tree vi8) l] (Gw w) cs/\(l.map (Ty.tree vi8).bk).sum+1<=B.b y.1) :
  ∀(fs:List Field)(τ:Ty)(o:Nat)(xs:List (DataW H×List MemPlace)),qdy P (dn P n) t τ fs o=true->xs.length=fs.length->(∀(i:Nat)(f:Field),fs[i]? = some f->DataW.trod enc P w base spare held m f.type ((cs.drop f.offset).take (P.cellsOf f.type))=xs[i]?) ->
   ∃(x:τ.den)(l:List (Ty.tree vi8).den),τ.bd x/\(Ty.list (.tree vi8)).bd l/\am (τ.enc x++[.sl (.tree vi8) l]) (Gw w) ((cs.drop o).take (τ.sz+1))/\τ.bk x+((l.map (Ty.tree vi8).bk).sum+1)<=B.ba (xs.map (·.1))
 |[],τ,o,xs,h,_,_=>by cases τ<;>simp[qdy]at h
 |[f],τ,o,xs,h,_,_=>by cases τ<;>simp[qdy]at h
 |[f,g],τ,o,xs,h,hl,hf=>by
  have h':(f.offset==o&&(P.cellsOf f.type==τ.sz&&(dn P n τ f.type&&(g.offset==o+τ.sz&&(P.cellsOf g.type==1&&qxf P t g.type)))))=true:=by cases τ<;>exact h
  simp at h'
  match xs,hl with
  |[y,z],_=>
   have hy:DataW.trod enc P w base spare held m f.type ((cs.drop f.offset).take (P.cellsOf f.type))=some y:=hf 0 f rfl;have hz:DataW.trod enc P w base spare held m g.type ((cs.drop g.offset).take (P.cellsOf g.type))=some z:=hf 1 g rfl;rw[h'.1,h'.2.1]at hy;rw[h'.2.2.2.1,h'.2.2.2.2.1]at hz;obtain⟨x,x1,x2,x3⟩:=ih τ f.type _ y h'.2.2.1 hy;obtain⟨l,l1,l2,l3⟩:=ihk g.type _ z h'.2.2.2.2.2 hz;refine⟨x,l,x1,l1,?_,oW⟩
   rw[List.take_add,List.drop_drop];exact am.app x2 l2
 |f::g::k::fs,τ,o,xs,h,hl,hf=>by
  cases τ with
  |prod a b=>
   have h':(f.offset==o&&(P.cellsOf f.type==a.sz&&(dn P n a f.type&&qdy P (dn P n) t b (g::k::fs) (o+a.sz))))=true:=h;simp at h'
   match xs,hl with
   |y::ys,hl=>
    have hy:DataW.trod enc P w base spare held m f.type ((cs.drop f.offset).take (P.cellsOf f.type))=some y:=hf 0 f rfl;rw[h'.1,h'.2.1]at hy;obtain⟨x1,b1,r1,k1⟩:=ih a f.type _ y h'.2.2.1 hy;obtain⟨x2,l,b2,bl,r2,k2⟩:=zmz B n m cs t ih ihk (g::k::fs) b (o+a.sz) ys h'.2.2.2 (by simpa using hl) (fun i f' hf'=>hf (i+1) f' hf')
    refine⟨(x1,x2),l,⟨b1,b2⟩,bl,?_,?_⟩
    ·show am ((a.enc x1++b.enc x2)++[.sl (.tree vi8) l]) (Gw w) ((cs.drop o).take ((a.sz+b.sz)+1));rw[qS,Nat.add_assoc,List.take_add,List.drop_drop];exact am.app r1 r2
    ·show(a.bk x1+b.bk x2)+_<=_;rw[List.map_cons,B.cons];omega
  |_=>simp[qdy]at h
def zzk(B:ud H):∀(m n:Nat)(τ:Ty)(t:TypeId)(cs:List Value)(y:DataW H×List MemPlace),dn P n τ t=true->DataW.trod enc P w base spare held m t cs=some y->∃x:τ.den,τ.bd x/\am (τ.enc x) (Gw w) cs/\τ.bk x<=B.b y.1:=by
 intro m
 induction m with
 |zero=>intro n τ t cs y _ h;simp[DataW.trod]at h|succ m ih=>
  intro n τ t cs y ht h
  cases n with
  |zero=>simp[dn]at ht|succ n=>
   cases τ with
   |int k=>
    obtain⟨n,rfl,rfl,hw⟩:=DataW.trod_int (zm4 ht) h;exact⟨n,hw,⟨rfl,trivial⟩,B.lit _⟩
   |byte=>
    obtain⟨n,rfl,rfl,hw⟩:=DataW.trod_int (zm3 ht) h;have hb:0<=n/\n<=255:=by simp[Lit.wf,qA,decide_eq_true_eq]at hw;exact hw
    refine⟨UInt8.ofNat n.toNat,trivial,⟨?_,trivial⟩,B.lit _⟩;show Value.int .u8 n = .int .u8 ((UInt8.ofNat n.toNat).toNat:Int);rw[UInt8.toNat_ofNat',Nat.mod_eq_of_lt oA]
    congr 1;omega
   |bool=>
    obtain⟨b,rfl,rfl⟩:=DataW.trod_bool (zm2 ht) h;exact⟨b,trivial,⟨rfl,trivial⟩,B.lit _⟩
   |str=>
    obtain⟨s,rfl,rfl,hs⟩:=DataW.trod_string (zm5 ht) h;refine⟨s.data.toList,?_,⟨?_,trivial⟩,Nat.le_of_eq (B.str _).symm⟩
    ·show s.data.toList.length<=maxLen;rw[Array.length_toList];exact hs
    ·show Value.string s = .string ⟨s.data.toList.toArray⟩;simp
   |unit=>simp[dn]at ht|tree a=>
    have ht0:=ht;unfold dn at ht;split at ht
    ·rename_i fs hu;simp at ht;obtain⟨xs,n',e1,rfl,ac,hxl,hg⟩:=DataW.trod_struct hu h;cases e1
     obtain⟨x,l,hb,hbl,hr,hk⟩:=zmz B n m cs t (fun τ t cs y=>ih n τ t cs y) (fun g cs y hg hy=>by
      have hg':dn P (n+2) (.list (.tree a)) g=true:=by
       unfold qxf at hg;unfold dn;split at hg
       ·rename_i e he;have:e=t:=by simpa using hg
        subst this;simp;exact⟨ht.1,by simp[Ty.sz],ht0⟩
       ·cases hg
      exact ih (n+2) (.list (.tree a)) g cs y hg' hy) fs.toList a 0 xs ht.2 (by rw[hxl,Array.length_toList]) (fun i f hf=>hg i f (by rw[← Array.getElem?_toList];exact hf))
     refine⟨.node x l,.mk x l hb hbl.1 hbl.2,?_,?_⟩
     ·rw[List.drop_zero,List.take_of_length_le (by rw[ac,ht.1];exact wF _)]at hr
      exact hr
     ·rw[B.agg];have e:(Ty.tree a).bk (.node x l)=a.bk x+(l.map (Ty.tree a).bk).sum+2:=zmw a.bk x l;omega
    ·cases ht
   |prod a b=>
    unfold dn at ht;split at ht
    ·rename_i fs hu;simp at ht;obtain⟨xs,n',e1,rfl,ac,hxl,hg⟩:=DataW.trod_struct hu h;cases e1
     obtain⟨x,hb,hr,hk⟩:=zhl B n m cs (fun τ t cs y=>ih n τ t cs y) fs.toList (.prod a b) 0 xs ht.2 (by rw[hxl,Array.length_toList]) (fun i f hf=>hg i f (by rw[← Array.getElem?_toList];exact hf))
     refine⟨x,hb,?_,by rw[B.agg];omega⟩
     rw[List.drop_zero,List.take_of_length_le (by rw[ac,ht.1];exact wF _)]at hr
     exact hr
    ·cases ht
   |list a=>
    unfold dn at ht;split at ht
    ·rename_i e hu;simp at ht;obtain⟨hsz,hpos,hte⟩:=ht;rcases DataW.trod_slice hu h with⟨rfl,rfl⟩|⟨ad,len,cap,elems,rest,n',e1,rfl,rfl,_,hlc,hcm,hel,hget,_⟩
     ·exact⟨[],⟨Nat.zero_le _,fun x hx=>by cases hx⟩,⟨⟨none,0,rfl,wF _,.inl rfl⟩,trivial⟩,Nat.le_of_eq (show 0+1=_ by rw[B.nilb])⟩
     ·cases e1
      have each:∀i,i<len->∃(x:a.den)(h:i<elems.length),a.bd x/\ad.spot=none/\a.At (Gw w).imm x ad.block (ad.off+i*a.sz)/\a.bk x<=B.b elems[i].1:=by
       intro i hi;have h1:=hget i hi;rw[List.getElem?_eq_getElem oA]at h1
       obtain⟨cs,hc,hc2⟩:=Option.bind_eq_some_iff.1 h1;obtain⟨x,hb,hr,hk⟩:=ih n a e cs _ hte hc2;unfold World.cells? at hc;split at hc
       ·have hl:=mapM_some_length hc;rw[List.length_range,hsz]at hl;have hcell:∀(j:Nat)(v:Value),cs[j]? = some v->w.cell? ((ad.add (i*P.cellsOf e)).add j)=some v:=by
         intro j v hj;have hj':j<cs.length:=by
          by_cases q:j<cs.length
          ·exact q
          ·rw[List.getElem?_eq_none oA]at hj;cases hj
         have:=mapM_some_get hc j j (by rw[List.getElem?_range oA])
         rw[this,hj]
        have hspot:ad.spot=none:=by
         have g0:=hget 0 oA
         rw[List.getElem?_eq_getElem oA]at g0
         obtain⟨cs0,hc0,_⟩:=Option.bind_eq_some_iff.1 g0;unfold World.cells? at hc0;split at hc0
         ·have pd:=mapM_some_length hc0;rw[List.length_range,hsz]at pd;have:=mapM_some_get hc0 0 0 (by rw[List.getElem?_range oA])
          rw[List.getElem?_eq_getElem oA]at this
          simp[Nat.zero_mul,Addr.add,if_true]at this;unfold World.cell? at this
          cases hs:ad.spot with
          |none=>rfl|some q=>
           rw[hs]at this;split at this
           ·simp at this
           ·cases this
         ·cases hc0
        refine⟨x,oA,hb,hspot,?_,hk⟩
        refine y4.1 (am.cells _ cs _ hr (qu9 a x cs hr) (fun j v hj => ?_))
        have:=hcell j v hj;rw[hsz]at this;have ea:(ad.add (i*a.sz)).add j=⟨ad.block,ad.off+i*a.sz+j,none⟩:=by
         obtain⟨b,o,s⟩:=ad;simp at hspot;subst hspot;unfold Addr.add;by_cases q1:i*a.sz=0
         ·by_cases q2:j=0
          ·simp[q1,q2]
          ·simp[q1,q2]
         ·by_cases q2:j=0
          ·simp[q1,q2]
          ·simp[q1,q2]
        rw[ea]at this;exact this
       ·cases hc
      have lst:∀k,k<=len->∃l:List a.den,l.length=k/\(∀x∈l,a.bd x)/\(∀(j:Nat)(x:a.den),l[j]? = some x->a.At (Gw w).imm x ad.block (ad.off+j*a.sz))/\(l.map a.bk).sum<=B.ba ((elems.take k).map (·.1)):=by
       intro k
       induction k with
       |zero=>intro _;exact⟨[],rfl,fun x hx=>(by cases hx),fun j x hj=>(by simp at hj),oC⟩
       |succ k ihk=>
        intro hk;obtain⟨l,l1,l2,l3,l4⟩:=ihk oA
        obtain⟨x,hx,x1,_,x2,x3⟩:=each k oA
        refine⟨l++[x],by simp[l1],fun y hy => ?_,fun j y hj => ?_,?_⟩
        ·rcases List.mem_append.1 hy with q|q
         ·exact l2 y q
         ·rw[List.mem_singleton]at q;subst q;exact x1
        ·by_cases q:j<l.length
         ·rw[List.getElem?_append_left q]at hj;exact l3 j y hj
         ·rw[List.getElem?_append_right oA]at hj
          have:j=k:=by
           by_cases q2:j-l.length=0
           ·omega
           ·rw[List.getElem?_eq_none oB]at hj;cases hj
          subst this;rw[l1,Nat.sub_self]at hj;cases hj
          exact x2
        ·rw[List.take_succ_eq_append_getElem hx,List.map_append,List.map_append,B.app,List.sum_append];simp only[List.map_cons,List.map_nil,B.cons,B.nil,List.sum_cons,List.sum_nil];omega
      obtain⟨l,l1,l2,l3,l4⟩:=lst len (wF _);refine⟨l,⟨by show l.length<=maxLen;omega,l2⟩,⟨⟨some ad,cap,by rw[← l1],oA,?_⟩,trivial⟩,?_⟩
      rotate_left
      ·rw[List.take_of_length_le oA]at l4
       rw[B.sl];show(l.map a.bk).sum+1<=_;omega
      by_cases q:l=[]
      ·exact .inl q
      ·obtain⟨_,_,_,hs,_⟩:=each 0 (by have:=List.length_pos_iff.2 q;omega)
       refine .inr ⟨ad.block,ad.off,?_,l3⟩;cases ad;simp at hs;subst hs;rfl
    ·cases ht
def zzj(B:ud H){r:Reach}{bb n:Nat}{τ:Ty}{t:TypeId}{v:Value}{d:DataW H}{ps:List MemPlace}(ht:dn P n τ t=true)(hv:Value.okWide P w r bb t v)(h:DataW.Trod enc P w base spare held t v d ps) :
  ∃x:τ.den,τ.bd x/\aj (τ.av x) (Gw w) v/\τ.bk x<=B.b d:=by
 obtain⟨m,hm⟩:=h;obtain⟨x,hb,hr,hk⟩:=zzk B m n τ t _ _ ht hm;refine⟨x,hb,?_,hk⟩
 cases n with
 |zero=>simp[dn]at ht|succ n=>
  cases τ with
  |int k=>obtain⟨_,rfl⟩:=okWide_int (zm4 ht) hv;exact hr.1
  |byte=>obtain⟨_,rfl⟩:=okWide_int (zm3 ht) hv;exact hr.1
  |bool=>obtain⟨_,rfl⟩:=okWide_bool (zm2 ht) hv;exact hr.1
  |str=>obtain⟨_,rfl⟩:=okWide_string (zm5 ht) hv;exact hr.1
  |unit=>simp[dn]at ht|tree a=>
   unfold dn at ht;split at ht
   ·rename_i fs hu;obtain⟨cs,rfl,_⟩:=okWide_struct hu hv;exact⟨cs,rfl,hr⟩
   ·cases ht
  |prod a b=>
   unfold dn at ht;split at ht
   ·rename_i fs hu;obtain⟨cs,rfl,_⟩:=okWide_struct hu hv;exact⟨cs,rfl,hr⟩
   ·cases ht
  |list a=>
   unfold dn at ht;split at ht
   ·rename_i e hu;obtain⟨_,_,_,rfl⟩:=okWide_slice hu hv;exact hr.1
   ·cases ht
end
end Go.Sym
namespace Go.Sym
open Go.ChangeShapes Go.WideShapes Go.ChangeAt Go.RowKit
variable[LC]
def qa3(P:Program)(n:Nat):List Ty->List TypeId->Bool|[],[]=>true|τ::τs,t::ts=>dn P n τ t&&qa3 P n τs ts|_,_=>false
def bds:(τs:List Ty)->Pts.den (τs.map .h)->Prop|[],_=>True|τ::τs,x=>τ.bd x.1/\bds τs x.2
mutual
def cnt{H:Type}:DataW H->Nat|.lit (.string s)=>s.length+1|.slice e r=>quw e+quw r+1|.agg l=>quw l+1|_=>1
def quw{H:Type}:List (DataW H)->Nat|[]=>0|d::l=>cnt d+quw l
end
section
variable{H:Type}{enc:TypeId×Value->H}{P:Program}{w:World}{base:Nat}{spare:Nat->Bool}{held:Bool}
def bks:(τs:List Ty)->Pts.den (τs.map .h)->Nat|[],_=>0|τ::τs,x=>τ.bk x.1+bks τs x.2
def zjo(B:ud H){r:Reach}{bb n:Nat}:∀(τs:List Ty)(ts:List TypeId)(vs:List Value)(ds:List (DataW H))(ps:List MemPlace),qa3 P n τs ts=true ->
  (∀(j:Nat) t v,ts[j]? = some t->vs[j]? = some v->Value.okWide P w r bb t v)->DataW.TrodAll enc P w base spare held ts vs ds ps ->
  ∃x:Pts.den (τs.map .h),bds τs x/\am (Pts.put (τs.map .h) x) (Gw w) vs/\bks τs x<=B.ba ds
 |[],[],vs,ds,ps,_,_,h=>by
  obtain⟨rfl,rfl,_⟩:=trodAll_nil h;exact⟨(),trivial,trivial,Nat.zero_le _⟩
 |τ::τs,t::ts,vs,ds,ps,h1,h2,h=>by
  obtain⟨v,vs',d,ds',p,q,rfl,rfl,rfl,hd,hr⟩:=trodAll_cons h;simp only[qa3,qA]at h1;obtain⟨x,xb,xr,xk⟩:=zzj B h1.1 (h2 0 t v rfl rfl) hd;obtain⟨y,yb,yr,yk⟩:=zjo B τs ts vs' ds' q h1.2 (fun j t v ht hv=>h2 (j+1) t v ht hv) hr
  exact⟨(x,y),⟨xb,yb⟩,⟨xr,yr⟩,by rw[B.cons];show τ.bk x+bks τs y<=_;omega⟩
 |[],_::_,_,_,_,h,_,_=>by simp[qa3]at h|_::_,[],_,_,_,h,_,_=>by simp[qa3]at h
def zmb{W W':World}(laid:laidOutB P=true)(hb:Below W.heap.size W W'):∀(ts:List TypeId)(vs:List Value)(ds:List (DataW H))(ps:List MemPlace),
  ts.all (fun t=>P.readableRec t&&decide (t<P.types.size))=true->DataW.TrodAll enc P W 0 (fun _=>true) true ts vs ds ps->DataW.TrodAll enc P W' 0 (fun b=>decide (b<W.heap.size)) true ts vs ds ps
 |[],vs,ds,ps,_,h=>by
  obtain⟨rfl,rfl,rfl⟩:=trodAll_nil h;exact trodAll_mk0
 |t::ts,vs,ds,ps,h1,h=>by
  obtain⟨v,vs',d,ds',p,q,rfl,rfl,rfl,hd,hr⟩:=trodAll_cons h;simp only[List.all_cons,qA,decide_eq_true_eq]at h1;have lt:∀x∈p,x.block<W.heap.size:=by obtain⟨m,hm⟩:=hd;exact DataW.trod_lt m _ _ _ hm
  exact trodAll_cons_mk (Below.trod laid h1.1.1 h1.1.2 hd hb lt) (zmb laid hb ts vs' ds' q h1.2 hr)
end
def z5w{P:Program}{f:FuncId}{xs:List AV}(h:de P f xs [] (.bool true) [])(vs:List Value)(w:World)(ht:LC.tab (Gw w).imm w)(hr:am xs (Gw w) vs) :
  Calls P f vs.toArray w fun e w'=>e = .returned (.bool true)/\Below w.heap.size w w':=by
 refine(h w (Gw w) vs (zq5 w ht) hr).mono ?_;rintro e w' ⟨v,G,rfl,hfin,hrep⟩
 have hv:v = .bool true:=hrep;subst hv;refine⟨rfl,hfin.bel.os,hfin.bel.tape,hfin.bel.output,hfin.bel.size,fun k hk=>hfin.bel.block k hk ?_⟩
 rintro⟨n,bx,hl,_⟩
 cases hl
end Go.Sym
namespace Go.Sym
open Go.ChangeShapes Go.WideShapes Go.ChangeAt Go.RowKit
variable[LC]
def zik{H:Type}{enc:TypeId×Value->H}{C:Checked}{os:Os}{f:FuncId}{fn:Func}{s:ChangeSpec}{so:OpenSpec}{F:Stop.Interp}{conds:List PathCond}{t:TypeId}{n:Nat}(τs:List Ty)(l:List (String×DataW Unit))(B:ud H)(M:Nat)
  (small:(H:Type)->List (DataW H)->Bool) (hso:so={ OpenSpec.ofChange s with cond:=some small }) (hsm:∀ds:List (DataW H),small H ds=true->B.ba ds<=M)
  (own:ownKnob C.prog.godebug=none) (laid:laidOutB C.prog=true) (started:os.Started) (noInit:C.prog.inits.idxOf? f=none) (hfn:C.prog.funcs[f]? = some fn)
  (witness:∃(w:World)(tape:Tape)(i:Input),w.os=os/\(w.forCall tape i).Shaped C.prog/\i.vars=[]/\Input.okWide C.prog (w.forCall tape i) .any w.heap.size f i /\
   so.preRow enc C.prog fn conds false l (w.forCall tape i).memory i.args/\({}:Assume).holds C.prog (lone (Frame.enter C.prog f i.args .normal) [] (w.forCall tape i)))
  (hvars:s.vars=[]) (hspec:∀ds:List (DataW H),ds.length=fn.params.size->s.fn H ds={ results:=[.lit (.bool true)],args:=ds })
  (htys:qa3 C.prog n τs fn.params.toList=true) (hread:fn.params.toList.all (fun t=>C.prog.readableRec t&&decide (t<C.prog.types.size))=true)
  (hres:fn.resultTypes=#[t]) (hbool:C.prog.underlying t=some .bool)
  (htab:∀W:World,laidMetH C.prog l W->W.ShapedOpen C.prog->LC.tab (Gw W).imm W)
  (hcall:∀x:Pts.den (τs.map .h),bds τs x->bks τs x<=M->de C.prog f (Pts.put (τs.map .h) x) [] (.bool true) []) :
  ReturnsInHanded {} C os f .any (so.preRow enc C.prog fn conds false l) ((so.at F).post enc C.prog fn false true false false):=by
 subst hso;refine returnsInHanded_of_row own started noInit hfn witness ?_;intro W base args ds gs before hval hW _ hcond _ hlaid hsh _;have hW':=hW;obtain⟨p,q,hA,hV,rfl,_,_⟩:=hW;rw[show({ OpenSpec.ofChange s with cond:=some small }:OpenSpec).vars=[] from hvars]at hV
 obtain⟨rfl,rfl⟩:=trodVars_none hV;have hk:=hsm _ (hcond small rfl);rw[List.append_nil]at hk;have hl:ds.length=fn.params.size:=by
  have key:∀(ts:List TypeId)(vs:List Value)(ds:List (DataW H))(ps:List MemPlace),DataW.TrodAll enc C.prog W 0 (fun _=>true) true ts vs ds ps->ds.length=ts.length:=by
   intro ts
   induction ts with
   |nil=>intro vs ds ps h;obtain⟨_,rfl,_⟩:=trodAll_nil h;rfl
   |cons t ts ih=>
    intro vs ds ps h;obtain⟨v,vs',d,ds',p,q,_,rfl,_,_,hr⟩:=trodAll_cons h;rw[qL,qL,ih _ _ _ hr]
  rw[key _ _ _ _ hA,Array.length_toList]
 obtain⟨x,xb,xr,xk⟩:=zjo B τs fn.params.toList args.toList ds p htys (fun j t v ht hv=>hval j t v (by rw[← Array.getElem?_toList];exact ht) (by rw[← Array.getElem?_toList];exact hv)) hA
 have hc:=z5w (hcall x xb (Nat.le_trans xk hk)) args.toList W (htab W hlaid hsh) xr;rw[Array.toArray_toList]at hc;refine hc.mono fun e W'⟨he,bel⟩ => ?_
 subst he;refine⟨_,rfl,ds,[],p++[],[],p,[],hW',?_⟩;show DataW.TrodAll _ _ _ _ _ _ _ _ _ _/\_;rw[List.append_nil,show((OpenSpec.at { OpenSpec.ofChange s with cond:=some small } F).fn H ds)=s.fn H ds from rfl,hspec ds hl,hres]
 exact⟨trodAll_mk1 (shut_bool hbool _),zmb laid bel _ _ _ _ hread hA,(by rw[show((OpenSpec.at { OpenSpec.ofChange s with cond:=some small } F).vars)=[] from hvars];rfl),bel.frame _,fun h=>by cases h⟩
def ieq(a b:Int):Bool:=decide (a=b)
def qgy:(τ:Ty)->τ.den->DataW Unit->Bool|.int k,x,.lit (.int k' n)=>decide (k'=k)&&ieq n x|.byte,x,.lit (.int k' n)=>decide (k' = .u8)&&ieq n x.toNat|.prod .byte .byte,x,.agg [.lit (.int _ a),.lit (.int _ b)]=>ieq a x.1.toNat&&ieq b x.2.toNat|_,_,_=>false
def qgz(τ:Ty):List τ.den->List (DataW Unit)->Bool|[],[]=>true|x::l,d::ds=>qgy τ x d&&qgz τ l ds|_,_=>false
def qv9(P:Program)(t:TypeId):Bool:=match P.underlying t with|some (.int .u8)=>Nat.beq (P.cellsOf t) 1|_=>false
def qu6(P:Program)(t:TypeId):Ty->Bool
 |.int k=>match P.underlying t with|some (.int k')=>decide (k'=k)|_=>false
 |.byte=>match P.underlying t with|some (.int .u8)=>true|_=>false
 |.prod .byte .byte=>match P.underlying t with
  |some (.struct fs)=>match fs.toList with|[f,g]=>Nat.beq f.offset 0&&Nat.beq g.offset 1&&qv9 P f.type&&qv9 P g.type&&Nat.beq (P.cellsOf t) 2|_=>false
  |_=>false
 |_=>false
section
variable{P:Program}{w:World}{base:Nat}{sp:Nat->Bool}
def zvi{m:Nat}{τ:Ty}{t:TypeId}{cs:List Value}{y:DataW Unit×List MemPlace}{x:τ.den}(ht:qu6 P t τ=true)(h:DataW.trod (fun _=>()) P w base sp false m t cs=some y)(hx:qgy τ x y.1=true):am (τ.enc x) (Gw w) cs/\∀v∈cs,v.oneCell'=true:=by
 unfold qu6 at ht;split at ht
 ·rename_i k;split at ht
  ·rename_i k' hu;have hk:k'=k:=of_decide_eq_true ht;subst hk;obtain⟨n,rfl,rfl,_⟩:=DataW.trod_int hu h;simp only[qgy,ieq,qA,decide_eq_true_eq]at hx;obtain⟨_,rfl⟩:=hx;exact⟨⟨rfl,trivial⟩,fun v hv=>by rw[List.mem_singleton]at hv;subst hv;rfl⟩
  ·cases ht
 ·split at ht
  ·rename_i hu;obtain⟨n,rfl,rfl,_⟩:=DataW.trod_int hu h;simp only[qgy,ieq,qA,decide_eq_true_eq]at hx;obtain⟨_,rfl⟩:=hx;exact⟨⟨rfl,trivial⟩,fun v hv=>by rw[List.mem_singleton]at hv;subst hv;rfl⟩
  ·cases ht
 ·split at ht
  ·rename_i fs hu;split at ht
   ·rename_i f g hfs;simp only[qA]at ht;obtain⟨⟨⟨⟨o1,o2⟩,u1⟩,u2⟩,c2⟩:=ht;have o1:=qN o1;have o2:=qN o2;have c2:=qN c2;have key:∀t,qv9 P t=true->P.underlying t=some (.int .u8)/\P.cellsOf t=1:=fun t h=>by
     unfold qv9 at h;split at h
     ·rename_i hu;exact⟨hu,qN h⟩
     ·cases h
    obtain⟨k1,s1⟩:=key _ u1;obtain⟨k2,s2⟩:=key _ u2;obtain⟨xs,n,rfl,rfl,hl,hxl,hg⟩:=DataW.trod_struct hu h;have g0:=hg 0 f (by rw[← Array.getElem?_toList,hfs];rfl)
    have g1:=hg 1 g (by rw[← Array.getElem?_toList,hfs];rfl)
    have hsz:fs.size=2:=by rw[← Array.length_toList,hfs];rfl
    rw[hsz]at hxl;rw[c2]at hl
    match cs,hl with
    |[a,b],_=>
     match xs,hxl with
     |[p,q],_=>
      rw[o1,s1]at g0;rw[o2,s2]at g1;obtain⟨n1,e1,rfl,_⟩:=DataW.trod_int k1 g0;obtain⟨n2,e2,rfl,_⟩:=DataW.trod_int k2 g1;simp only[List.drop_zero,List.take_succ_cons,List.take_zero,List.cons.injEq,and_true]at e1;simp only[List.drop_succ_cons,List.drop_zero,List.take_succ_cons,List.take_zero,List.cons.injEq,and_true]at e2;subst e1 e2;simp only[List.map_cons,List.map_nil,qgy,ieq,qA,decide_eq_true_eq]at hx;obtain⟨rfl,rfl⟩:=hx;exact⟨⟨rfl,rfl,trivial⟩,fun v hv=>by
       rcases List.mem_cons.1 hv with rfl|hv
       ·rfl
       ·rw[List.mem_singleton]at hv;subst hv;rfl⟩
   ·cases ht
  ·cases ht
 ·cases ht
def zgi{τ:Ty}:∀{l:List τ.den}{ds:List (DataW Unit)},qgz τ l ds=true->l.length=ds.length/\∀(j:Nat)(x:τ.den),l[j]? = some x->∃d,ds[j]? = some d/\qgy τ x d=true
 |[],[],_=>⟨rfl,fun j x h=>by simp at h⟩
 |[],_::_,h=>by simp[qgz]at h|_::_,[],h=>by simp[qgz]at h|y::l,d::ds,h=>by
  simp only[qgz,qA]at h;obtain⟨i1,i2⟩:=zgi h.2;refine⟨by simp[i1],fun j x hx => ?_⟩
  match j with|0=>simp only[List.getElem?_cons_zero,qI]at hx;subst hx;exact⟨d,rfl,h.1⟩|j+1=>exact i2 j x hx
def qw8(P:Program)(g:Nat)(τ:Ty)(l:List τ.den)(n:Nat)(d:DataW Unit):Bool:=match(P.globals[g]?).map (·.type) with
 |some t=>match P.underlying t,d with|some (.array _m E),.agg ds=>qu6 P E τ&&(Nat.beq (P.cellsOf E) τ.sz&&(Nat.beq (P.cellsOf t) n&&qgz τ l ds))|_,_=>false
 |none=>false
def z2h{g:Nat}{τ:Ty}{l:List τ.den}{n:Nat}{d:DataW Unit}(h:qw8 P g τ l n d=true){t:TypeId}{cs:Array Value}{fuel:Nat}{p:List MemPlace}(ht:(P.globals[g]?).map (·.type)=some t)
  (hc:∃u fr,w.heap[g]? = some (.cells cs u fr)) (hd:DataW.trod (fun _=>()) P w base sp false fuel t cs.toList=some (d,p)) :
  cs.size=n/\∀(j:Nat)(x:τ.den),l[j]? = some x->τ.At (Gw w).imm x g (j*τ.sz):=by
 unfold qw8 at h;rw[ht]at h;simp only at h;split at h
 ·rename_i m E ds hu;simp only[qA]at h;obtain⟨h1,h2,h3,h4⟩:=h;have h2:=qN h2;have h3:=qN h3;obtain⟨xs,m',rfl,e,hl,hxl,hg⟩:=DataW.trod_array hu hd;simp only[qP,DataW.agg.injEq]at e;obtain⟨rfl,rfl⟩:=e;obtain⟨dl,dg⟩:=zgi h4;refine⟨by rw[← Array.length_toList,hl,h3],fun j x hx => ?_⟩
  obtain⟨d,hd1,hd2⟩:=dg j x hx;rw[List.getElem?_map]at hd1;obtain⟨y,hy,rfl⟩:=Option.map_eq_some_iff.1 hd1;have hj:j<m:=by rw[← hxl];exact(List.getElem?_eq_some_iff.1 hy).1
  have:=hg j hj;rw[hy]at this;obtain⟨r1,r2⟩:=zvi h1 this hd2;refine y4.1 (am.cells _ _ _ r1 r2 fun i v hv => ?_)
  rw[h2,List.getElem?_take]at hv;split at hv
  ·rw[List.getElem?_drop]at hv;obtain⟨u,fr,hh⟩:=hc;simp only[World.cell?,hh];rw[← Array.getElem?_toList];exact hv
  ·cases hv
 ·cases h
def q7f{laid:List (String×DataW Unit)}{n:String}{d:DataW Unit}:∀{l:List (String×DataW Unit)}{ps:List MemPlace},DataW.LaidVars P w l ps->(n,d)∈l ->
  ∃g t cs fuel p,P.globalNamed n=some g/\(P.globals[g]?).map (·.type)=some t/\(∃u fr,w.heap[g]? = some (.cells cs u fr))/\DataW.trod (fun _=>()) P w 0 (fun _=>true) false fuel t cs.toList=some (d,p)
 |[],_,_,h=>by cases h
 |(n',d')::r,ps,hl,h=>by
  obtain⟨g,t,cs,fuel,p,q,h1,h2,h3,h4,h5,_⟩:=hl;rcases List.mem_cons.1 h with e|h
  ·simp only[qP]at e;obtain⟨rfl,rfl⟩:=e;refine⟨g,t,cs,fuel,p,h1,h2,?_,h4⟩;unfold World.var? at h3;rw[h1,qB]at h3;split at h3
   ·rename_i c u fr hh;have:=qJ h3;subst this;exact⟨u,fr,hh⟩
   ·cases h3
  ·exact q7f (laid:=laid) h5 h
end
def q9z(P:Program)(laid:List (String×DataW Unit))(e:Nat×Nat):Bool:=match LC.glob e.1 with
 |some ⟨τ,l⟩=>Nat.blt 0 l.length&&laid.any fun x=>match P.globalNamed x.1 with|some g=>Nat.beq g e.1&&qw8 P e.1 τ l e.2 x.2|none=>false
 |none=>false
def zw0(P:Program)(laid:List (String×DataW Unit))(g:Nat):Bool:=laid.any fun x=>match P.globalNamed x.1 with
 | some g'=>Nat.beq g' g&&(match(P.globals[g]?).map (·.type) with
  |some t=>match P.underlying t,x.2 with|some (.interface _),.iface _ _=>true|_,_=>false
  | none=>false)
 |none=>false
def zh1{P:Program}{laid:List (String×DataW Unit)}{W:World}(h:laidMetH P laid W)(hh:(laid.all fun x=>x.2.handleName?.isNone)=true)
  (hg:∀g τ l,LC.glob g=some ⟨τ,l⟩->∃n,(g,n)∈LC.sizes) (hs:LC.sizes.all (q9z P laid)=true) (hi:LC.ifs.all (zw0 P laid)=true) (hn:∀g∈LC.ints,∃k,W.cell? ⟨g,0,none⟩=some (.int .i64 k)):LC.tab (Gw W).imm W:=by
 rw[MakeChecks.laidMetH_plain _ _ _ hh]at h;obtain⟨ps,hl,_⟩:=h;have key:∀e∈LC.sizes,∃τ l,LC.glob e.1=some ⟨τ,l⟩/\0<l.length/\∃(cs:Array Value)(u:TypeId)(fr:Nat×Nat),W.heap[e.1]? = some (.cells cs u fr)/\cs.size=e.2/\∀(j:Nat)(x:τ.den),l[j]? = some x->τ.At (Gw W).imm x e.1 (j*τ.sz):=fun e he=>by
  have h1:=List.all_eq_true.1 hs e he;unfold q9z at h1;split at h1
  ·rename_i τ l hgl;rw[qA]at h1;obtain⟨x,hx,h2⟩:=List.any_eq_true.1 h1.2;split at h2
   ·rename_i g hgn;rw[qA]at h2;have:=qN h2.1;subst this;obtain⟨g',t,cs,fuel,p,k1,k2,⟨u,fr,k3⟩,k4⟩:=q7f (laid:=laid) hl (n:=x.1) (d:=x.2) hx;rw[hgn]at k1;have:=qJ k1;subst this;obtain⟨r1,r2⟩:=z2h h2.2 k2 ⟨u,fr,k3⟩ k4;exact⟨τ,l,hgl,Nat.le_of_ble_eq_true h1.1,cs,u,fr,k3,r1,r2⟩
   ·cases h2
  ·cases h1
 refine⟨fun g τ l hgl j x hx => ?_,fun g hgi => ?_,fun g hgi => ?_,fun e he => ?_⟩
 ·obtain⟨n,hn⟩:=hg g τ l hgl;obtain⟨τ',l',h1,_,cs,u,fr,_,_,h5⟩:=key _ hn;rw[hgl]at h1;cases h1
  exact h5 j x hx
 ·obtain⟨k,hk⟩:=hn g hgi;exact⟨k,q4d hk rfl⟩
 ·have h1:=List.all_eq_true.1 hi g hgi;obtain⟨x,hx,h2⟩:=List.any_eq_true.1 h1;split at h2
  ·rename_i g' hgn;rw[qA]at h2;have:=qN h2.1;subst this;obtain⟨g2,t,cs,fuel,p,k1,k2,⟨u,fr,k3⟩,k4⟩:=q7f (laid:=laid) hl (n:=x.1) (d:=x.2) hx;rw[hgn]at k1;have:=qJ k1;subst this;have h3:=h2.2;rw[k2]at h3;simp only at h3;split at h3
   ·rename_i ms nm d hu hd;rw[hd]at k4;obtain⟨_,u',v,hcs,_,_⟩:=iface_of_trod hu k4;refine⟨u',v,q4d ?_ rfl⟩;simp only[World.cell?,k3];rw[← Array.getElem?_toList,hcs];rfl
   ·cases h3
  ·cases h2
 ·obtain⟨τ,l,h1,h2,cs,u,fr,h3,h4,h5⟩:=key e he;refine⟨?_,cs,u,fr,h3,h4⟩;have h6:=h5 0 l[0] (by simp[h2])
  have:∃o v,(Gw W).imm e.1 o=some v:=by
   have hx:=List.all_eq_true.1 hs e he;unfold q9z at hx;rw[h1]at hx;simp only[qA]at hx;obtain⟨x,_,hx⟩:=List.any_eq_true.1 hx.2;split at hx
   ·rw[qA]at hx;have hx:=hx.2;unfold qw8 at hx;split at hx
    ·split at hx
     ·simp only[qA]at hx;have hx:=hx.1;unfold qu6 at hx;split at hx
      ·exact⟨_,_,h6⟩
      ·exact⟨_,_,h6⟩
      ·exact⟨_,_,h6.1⟩
      ·cases hx
     ·cases hx
    ·cases hx
   ·cases hx
  exact this
section
variable{H:Type}{enc:TypeId×Value->H}
def zng{C:Checked}{os:Os}{f:FuncId}{fn:Func}{s:OpenSpec}{conds:List PathCond}{apart:Bool}{laid:List (String×DataW Unit)}(modest:Bool)(w0:World)(args:Array Value)(hos:w0.os=os)
  (hsh:(w0.forCall (fun _ _=>0) ⟨#[],args,[]⟩).Shaped C.prog) (hok:Input.okWideB C.prog (w0.forCall (fun _ _=>0) ⟨#[],args,[]⟩) f ⟨#[],args,[]⟩=true)
  (hrow:s.preRow enc C.prog fn conds apart laid (w0.forCall (fun _ _=>0) ⟨#[],args,[]⟩).memory args) :
  ∃(w:World)(tape:Tape)(i:Input),w.os=os/\(w.forCall tape i).Shaped C.prog/\i.vars=[]/\Input.okWide C.prog (w.forCall tape i) .any w.heap.size f i /\
   s.preRow enc C.prog fn conds apart laid (w.forCall tape i).memory i.args/\({ modest:=modest }:Assume).holds C.prog (lone (Frame.enter C.prog f i.args .normal) [] (w.forCall tape i)):=
 ⟨w0,fun _ _=>0,⟨#[],args,[]⟩,hos,hsh,(Input.okWide_of_okWideB (base:=0) hok).1,(Input.okWide_of_okWideB hok).2,hrow,by
  simp only[Assume.holds];exact⟨oC,oC,fun _=>Modest.zero,oC,oC⟩⟩
end
end Go.Sym
namespace Go.Sym
set_option linter.unusedVariables false
abbrev wU : Type := Tree (List (Bs × Bs) × Bs)
abbrev wV : Type := List (Bs × Bs)
section
variable(fu:Nat)
def z4h:List Int:=[1,10,100,1000,10000,100000,1000000,10000000,100000000,1000000000,10000000000,100000000000,1000000000000,10000000000000,100000000000000,1000000000000000,10000000000000000,100000000000000000,1000000000000000000,10000000000000000000]
def q9x:List UInt8:=[240,240,240,240,240,240,240,240,240,240,240,240,240,240,240,240,240,240,240,240,240,240,240,240,240,240,240,240,240,240,240,240,240,240,240,240,240,240,240,240,240,240,240,240,240,240,240,240,240,240,240,240,240,240,240,240,240,240,240,240,240,240,240,240,240,240,240,240,240,240,240,240,240,240,240,240,240,240,240,240,240,240,240,240,240,240,240,240,240,240,240,240,240,240,240,240,240,240,240,240,240,240,240,240,240,240,240,240,240,240,240,240,240,240,240,240,240,240,240,240,240,240,240,240,240,240,240,240,241,241,241,241,241,241,241,241,241,241,241,241,241,241,241,241,241,241,241,241,241,241,241,241,241,241,241,241,241,241,241,241,241,241,241,241,241,241,241,241,241,241,241,241,241,241,241,241,241,241,241,241,241,241,241,241,241,241,241,241,241,241,241,241,241,241,2,2,2,2,2,2,2,2,2,2,2,2,2,2,2,2,2,2,2,2,2,2,2,2,2,2,2,2,2,2,19,3,3,3,3,3,3,3,3,3,3,3,3,35,3,3,52,4,4,4,68,241,241,241,241,241,241,241,241,241,241,241]
def q9y:List (UInt8×UInt8):=[(128,191),(160,191),(128,159),(144,191),(128,143),(0,0),(0,0),(0,0),(0,0),(0,0),(0,0),(0,0),(0,0),(0,0),(0,0),(0,0)]
def cd(b:Int)(a:Int):Option ((Int×Int)):=some (b,a)
def qr8(a:UInt8):Option Bool:=bif decide (33<=a) then bif decide (a<=126) then some (a != 58) else some false else some false
abbrev rl:=Bs->Int->Int->Option Bool
def q08(fu:Nat)(e:rl):rl:=fun b c a=>bif decide (a<c) then(ai b a).bind fun d=>(qr8 d).bind fun f=>bif !f then some false else e b c (ae (a+1)) else some true
def qlh(fu:Nat):Nat->rl|0=>fun _ _ _=>none|n+1=>q08 fu (qlh fu n)
def q07(a:Bs):Option Bool:=qlh fu fu a (a.length:Int) 0
def qr7(a:Bs):Option Bool:=bif !(a==([]:Bs)) then bif decide ((a.length:Int)<=60) then(q07 fu a).bind fun b=>some b else some false else some false
def q32(a:Int):Option Bool:=some (decide (8<a))
abbrev qi7:=Bs->Int->(List Bool)->Option ((List Bool)×Bool)
def zdy(fu:Nat)(e:qi7):qi7:=fun d b a=>bif decide (b<(d.length:Int)) then(ai d b).bind fun c=>bif decide (128<=c) then bif decide (a.length=256) then bif decide (a.length=a.length)&&decide (a.length=256) then bif decide (a.length=256)&&(true&&true) then some (a,false) else none else none else none else(a[c.toNat]?).bind fun f=>e d (ae (b+1)) (List.set a c.toNat true) else bif decide (a.length=256) then bif decide (a.length=a.length)&&decide (a.length=256) then bif decide (a.length=256)&&(true&&true) then some (a,true) else none else none else none
def q31(fu:Nat):Nat->qi7|0=>fun _ _ _=>none|n+1=>zdy fu (q31 fu n)
def qf9(a:Bs):Option ((List Bool)×Bool):=q31 fu fu a 0 (List.replicate 256 false)
def ql3(c:Bs)(a:UInt8):Option Int:=(zi c a).bind fun b=>some b
def qm3(c:Bs)(a:UInt8):Option Int:=(ql3 c a).bind fun b=>some b
def qtu(a:Int):Option Bool:=bif decide (0<=a) then bif decide (a<55296) then some true else bif decide (57343<a) then bif decide (a<=1114111) then some true else some false else some false else bif decide (57343<a) then bif decide (a<=1114111) then some true else some false else some false
abbrev zcw:=Bs->Nat->Option Int
abbrev zcx:=Bs->Bs->Int->Int->Int->Option Int
abbrev qeb:=Bs->Bs->Int->Int->Option Int
def q3j(fu:Nat)(c:zcw):zcw:=fun b a=>bif Nat.blt a (b.length) then bif(((f9 b a).1:Nat):Int)==65533 then some ((a:Nat):Int) else c b (a+(f9 b a).2) else some (-1)
def qm5(fu:Nat):Nat->zcw|0=>fun _ _=>none|n+1=>q3j fu (qm5 fu n)
def zdq(fu:Nat)(i:qeb)(g:zcx):zcx:=fun e d b c a=>bif decide (a<(d.length:Int)) then(ai e (ae (c-a))).bind fun h=>(ai d (ae (b-a))).bind fun f=>bif h != f then none else g e d b c (ae (a+1)) else some (ae (c-b))
def q3m(fu:Nat)(a:qeb):Nat->zcx|0=>fun _ _ _ _ _=>none|n+1=>zdq fu a (q3m fu a n)
def q3l(b:qeb):qeb:=fun d e a c=>q3m fu b fu d e a c 1
def q3k(e:qeb):qeb:=fun b d c a=>bif decide (a<(b.length:Int)) then(ai b a).bind fun i=>(ai d c).bind fun g=>bif i != g then bif decide (0<=ae (a+1)/\ae (a+1)<=(b.length:Int)) then(ai d c).bind fun h=>(qm3 (List.drop (ae (a+1)).toNat b) h).bind fun f=>bif decide (f<0) then some (-1) else q3l fu e b d c (ae (a+(ae (f+1)))) else none else q3l fu e b d c a else some (-1)
def qth(fu:Nat):Nat->qeb|0=>fun _ _ _ _=>none|n+1=>q3k fu (qth fu n)
def qm4:Bs->Int->Bool->Option Int:=fun c a b=>bif b then(qm3 c (d9 a)).bind fun d=>some d else bif a==65533 then qm5 fu fu c 0 else(qtu a).bind fun e=>bif !e then some (-1) else qth fu fu c (qr a) (ae ((List.length (qr a):Int)-1)) (ae ((List.length (qr a):Int)-1))
def qcm(b:Bs)(a:Int):Option Int:=bif decide (0<=a) then qm4 fu b a (decide (a<128)) else qm4 fu b a false
def qf8(c:UInt8)(a:List Bool):Option (Bool×(List Bool)):=(a[c.toNat]?).bind fun b=>some (b,a)
abbrev qd0:=Bs->Int->Option Int
abbrev zau:=Bs->Int->(List Bool)->Option Int
abbrev zav:=Bs->Bs->Nat->Option Int
def q3i:qd0:=fun b a=>(qcm fu b a).bind fun c=>some c
def q3g(fu:Nat)(f:zau):zau:=fun b a c=>bif decide (a<(b.length:Int)) then(ai b a).bind fun e=>(qf8 e c).bind fun d=>bif d.1 then some a else f b (ae (a+1)) d.2 else some (-1)
def qm1(fu:Nat):Nat->zau|0=>fun _ _ _=>none|n+1=>q3g fu (qm1 fu n)
def q3h(d:zav):zav:=fun c b a=>bif Nat.blt a (b.length) then(qcm fu c (((f9 b a).1:Nat):Int)).bind fun e=>bif decide (0<=e) then some ((a:Nat):Int) else d c b (a+(f9 b a).2) else some (-1)
def qm2(fu:Nat):Nat->zav|0=>fun _ _ _=>none|n+1=>q3h fu (qm2 fu n)
def qtg:Bs->Bs->Option Int:=fun a b=>qm2 fu fu b a 0
def qtf(a:Bs)(b:Bs):Option Int:=bif b==([]:Bs) then some (-1) else bif(b.length:Int)==1 then(ai b 0).bind fun d=>bif decide (128<=(d.toNat:Int)) then q3i fu a 65533 else q3i fu a (d.toNat:Int) else(q32 (a.length:Int)).bind fun e=>bif e then(qf9 fu b).bind fun c=>bif decide (c.1.length=List.length (List.replicate 256 false))&&decide (c.1.length=256) then bif c.2 then qm1 fu fu a 0 c.1 else qtg fu a b else none else qtg fu a b
def qtc(c:Bs)(a:Bs):Option Bool:=(qtf fu c a).bind fun b=>some (decide (0<=b))
def q1z(b:Bs):Option Bool:=(qtc fu b [13,10,0]).bind fun a=>some a
def ru(a:UInt8):Option Bool:=bif a==32 then some true else some (a==9)
def qsb(a:Bs):Option Bool:=(q1z fu a).bind fun c=>bif !c then bif a==([]:Bs) then some true else(ai a 0).bind fun b=>(ru b).bind fun f=>bif !f then(ai a (ae ((a.length:Int)-1))).bind fun e=>(ru e).bind fun d=>some (!d) else some false else some false
abbrev qy:=Bs->Int->Int->Option Int
def qsa(fu:Nat)(c:qy):Bs->Int->Int->Bool->Option Int:=fun b d a e=>bif e then c b d (ae (a+1)) else bif decide (0<d) then bif decide (78<a) then some d else c b a (ae (a+1)) else c b a (ae (a+1))
def q10(d:qy):qy:=fun b c a=>bif decide (a<(b.length:Int)) then(ai b a).bind fun g=>(ru g).bind fun h=>bif !h then qsa fu d b c a true else(ai b (ae (a-1))).bind fun e=>(ru e).bind fun f=>qsa fu d b c a f else some c
def qly(fu:Nat):Nat->qy|0=>fun _ _ _=>none|n+1=>q10 fu (qly fu n)
def qr9(b:Bs)(a:Int):Option Int:=qly fu fu b 0 (if 1>a then 1 else a)
def dh:Option ((Int×Int)):=some (0,0)
abbrev zbr:=Int->Int->(Int×Int)->(List Bs)->Option ((Int×Int)×(List Bs))
abbrev zbq:=Bs->Int->(Int×Int)->(List Bs)->Option ((Int×Int)×(List Bs))
def q1y(fu:Nat)(e:zbr):zbr:=fun c a d b=>bif decide (a<c) then bif decide (0<=a/\a.toNat<b.length) then(b[a.toNat]?).bind fun f=>bif decide (998<(f.length:Int)) then(cd 1 a).bind fun h=>some (h,[]) else e c (ae (a+1)) d b else none else(dh).bind fun g=>some (g,b)
def qlx(fu:Nat):Nat->zbr|0=>fun _ _ _ _=>none|n+1=>q1y fu (qlx fu n)
def qlw:Bs->(Int×Int)->(List Bs)->Option ((Int×Int)×(List Bs)):=fun b c a=>bif decide (List.length (a++([b]:List Bs))<=az) then qlx fu fu (List.length (a++([b]:List Bs)):Int) 0 c (a++([b]:List Bs)) else none
def q1x(e:zbq):zbq:=fun a f d b=>bif decide (78<(a.length:Int)) then(qr9 fu a f).bind fun c=>bif c==0 then qlw fu a d b else bif decide (0<=c/\c<=(a.length:Int)) then bif decide (List.length (b++([List.take c.toNat a]:List Bs))<=az) then bif decide (0<=c/\c<=(a.length:Int)) then e (List.drop c.toNat a) 0 d (b++([List.take c.toNat a]:List Bs)) else none else none else none else qlw fu a d b
def qlv(fu:Nat):Nat->zbq|0=>fun _ _ _ _=>none|n+1=>q1x fu (qlv fu n)
def qfk(a:Bs)(b:Bs):Option ((Int×Int)×(List Bs)):=(qr7 fu a).bind fun d=>bif !d then(cd 10 (-1)).bind fun g=>some (g,[]) else bif decide (4000<(b.length:Int)) then(cd 1 (-1)).bind fun f=>some (f,[]) else(qsb fu b).bind fun c=>bif !c then(cd 11 (-1)).bind fun e=>some (e,[]) else bif decide (a.length+List.length ([58,32]:Bs)<=ap) then bif decide (List.length (a++[58,32])+b.length<=ap) then qlv fu fu ((a++[58,32])++b) (ae ((a.length:Int)+2)) (0,0) [] else none else none
def ef(a:Int×Int):Option Bool:=some (a.1 != 0)
abbrev zb3:=wV->Int->Int->(Int×Int)->Option ((Int×Int))
def q13(i:zb3):zb3:=fun c b a d=>bif decide (a<b) then(ai c a).bind fun e=>(qfk fu e.1 e.2).bind fun f=>(ef f.1).bind fun j=>bif j then(cd f.1.1 a).bind fun g=>some g else i c b (ae (a+1)) d else(dh).bind fun h=>some h
def ql1(fu:Nat):Nat->zb3|0=>fun _ _ _ _=>none|n+1=>q13 fu (ql1 fu n)
def qfm(a:List (Bs×Bs)):Option ((Int×Int)):=bif decide (60<(a.length:Int)) then(cd 2 (-1)).bind fun b=>some b else ql1 fu fu a (a.length:Int) 0 (0,0)
abbrev zb7:=Int->Int->Bs->Option (Bs)
def qfi(fu:Nat)(e:zb7):zb7:=fun c a b=>bif decide (a<c) then bif decide (0<=a/\a.toNat<b.length) then(b[a.toNat]?).bind fun d=>bif decide (65<=d) then bif decide (d<=90) then bif decide (0<=a/\a.toNat<b.length) then(b[a.toNat]?).bind fun f=>e c (ae (a+1)) (List.set b a.toNat ((d+97)-65)) else none else e c (ae (a+1)) b else e c (ae (a+1)) b else none else some b
def ws(fu:Nat):Nat->zb7|0=>fun _ _ _=>none|n+1=>qfi fu (ws fu n)
def zh(a:Bs):Option (Bs):=bif decide (a.length<=maxLen) then ws fu fu (a.length:Int) 0 a else none
def fw(b:Bs)(a:Bs):Option Bool:=bif(b.length:Int)==(a.length:Int) then(zh fu b).bind fun c=>(zh fu a).bind fun d=>some (c==d) else some false
def qb8(a:Bs)(b:Bs):Option Bool:=bif decide ((b.length:Int)<=(a.length:Int)) then bif decide (0<=ae ((a.length:Int)-(b.length:Int))/\ae ((a.length:Int)-(b.length:Int))<=(a.length:Int)) then some ((List.drop (ae ((a.length:Int)-(b.length:Int))).toNat a)==b) else none else some false
def q15(a:Bs)(b:Bs):Option (Bs):=(qb8 a b).bind fun c=>bif c then bif decide (0<=ae ((a.length:Int)-(b.length:Int))/\ae ((a.length:Int)-(b.length:Int))<=(a.length:Int)) then some (List.take (ae ((a.length:Int)-(b.length:Int))).toNat a) else none else some a
def qto(c:Bs)(a:Bs):Option (Bs):=(q15 c a).bind fun b=>some b
abbrev yw:=Bs->Int->Int->Bs->Option (Bs)
def qr6(fu:Nat)(e:yw):yw:=fun d c b a=>bif decide (b<c) then(ai d b).bind fun f=>(ru f).bind fun i=>bif i then bif decide (0<(a.length:Int)) then bif decide (0<=ae ((a.length:Int)-1)/\(ae ((a.length:Int)-1)).toNat<a.length) then(a[(ae ((a.length:Int)-1)).toNat]?).bind fun h=>bif h==32 then e d c (ae (b+1)) a else bif decide (List.length (a++([32]:Bs))<=az) then e d c (ae (b+1)) (a++([32]:Bs)) else none else none else bif decide (List.length (a++([32]:Bs))<=az) then e d c (ae (b+1)) (a++([32]:Bs)) else none else bif decide (List.length (a++([f]:Bs))<=az) then e d c (ae (b+1)) (a++([f]:Bs)) else none else(qto a [32]).bind fun g=>some g
def qb5(fu:Nat):Nat->yw|0=>fun _ _ _ _=>none|n+1=>qr6 fu (qb5 fu n)
def qlu(a:Bs):Option (Bs):=qb5 fu fu a (a.length:Int) 0 []
def qlt(c:Bs×Bs):Option (Bs):=(zh fu c.1).bind fun a=>bif decide (a.length+List.length ([58]:Bs)<=ap) then(qlu fu c.2).bind fun b=>bif decide (List.length (a++[58])+b.length<=ap) then bif decide (List.length ((a++[58])++b)+List.length ([13,10]:Bs)<=ap) then some (((a++[58])++b)++[13,10]) else none else none else none
abbrev qyf:=wV->Bs->Int->(List Bs)->Int->Int->(Int×Int)->(List Bool)->Bs->Option ((Int×Int)×Bs)
abbrev qi1:=wV->(List Bs)->Int->Int->(Int×Int)->(List Bool)->Bs->Option ((Int×Int)×Bs)
def q1u(m:qi1)(o:qyf):wV->Bs->Int->(List Bs)->Int->Int->Bool->(Int×Int)->(List Bool)->Bs->Option ((Int×Int)×Bs):=fun i j a e d g h f b c=>bif h then bif decide (0<=a/\a.toNat<b.length) then(b[a.toNat]?).bind fun p=>(ai i a).bind fun l=>(qlt fu l).bind fun k=>bif decide (List.length (c++k)<=az) then m i e d (ae (g+1)) f (List.set b a.toNat true) (c++k) else none else none else o i j (ae (a-1)) e d g f b c
def zdd(j:qi1)(k:qyf):qyf:=fun i g a e c h f b d=>bif decide (0<=a) then bif decide (0<=a/\a.toNat<b.length) then(b[a.toNat]?).bind fun m=>bif !m then(ai i a).bind fun l=>(fw fu l.1 g).bind fun o=>q1u fu j k i g a e c h o f b d else q1u fu j k i g a e c h false f b d else none else j i e c (ae (h+1)) f b d
def q1t(fu:Nat)(a:qi1):Nat->qyf|0=>fun _ _ _ _ _ _ _ _ _=>none|n+1=>zdd fu a (q1t fu a n)
def zdc(i:qi1):qi1:=fun g d b a e f c=>bif decide (a<b) then(ai d a).bind fun h=>q1t fu i fu g h (ae ((g.length:Int)-1)) d b a e f c else(dh).bind fun j=>some (j,c)
def q1s(fu:Nat):Nat->qi1|0=>fun _ _ _ _ _ _ _=>none|n+1=>zdc fu (q1s fu n)
def zdb(a:List (Bs×Bs))(b:List Bs):Option ((Int×Int)×Bs):=(qfm fu a).bind fun c=>(ef c).bind fun e=>bif e then some (c,[]) else bif decide (300<(b.length:Int)) then(cd 2 (-2)).bind fun d=>some (d,[]) else bif decide (0<=(a.length:Int)/\(a.length:Int)=(a.length:Int)/\(a.length:Int)<=4294967296) then q1s fu fu a b (b.length:Int) 0 (0,0) (List.replicate (a.length:Int).toNat false) [] else none
def q1k(c:Bs)(a:Bs)(b:Int):Option (Bs×Bs×Int):=some (a,(c,b))
def q1f(c:Bs)(a:Bs):Option (Bs×Bs×Int):=(q1k c a 0).bind fun b=>some b
def qls(e:Bs)(d:Int)(c:Bs):Option (Int×Bs):=(qlu fu e).bind fun a=>bif a==([]:Bs) then some (ae (d+1),c) else(qf7 [13,10] d).bind fun b=>bif decide (b.length+a.length<=ap) then bif decide (List.length (b++a)+List.length ([13,10]:Bs)<=ap) then bif decide (List.length (c++((b++a)++[13,10]))<=az) then some (0,c++((b++a)++[13,10])) else none else none else none
abbrev zd1:=Bs×Bs×Int×Int×Bs
abbrev qi2:=Bs->Bs->Int->Int->Bs->Option zd1
def zc7(fu:Nat)(f:qi2):qi2:=fun e b c d a=>bif decide (0<(b.length:Int)) then none else some (e,(b,(c,(d,a))))
def q1n(fu:Nat):Nat->qi2|0=>fun _ _ _ _ _=>none|n+1=>zc7 fu (q1n fu n)
def q1m(h:qi2):qi2:=fun d a c f e=>(uj a d).bind fun b=>bif decide (b<0) then bif decide (0<=(0:Int)/\0<=(a.length:Int)/\(a.length:Int)<=(a.length:Int)/\(a.length:Int)<=(a.length:Int)) then(qls fu (List.take ((a.length:Int).toNat-(0:Int).toNat) (List.drop (0:Int).toNat a)) f e).bind fun i=>some (d,(a,(c,i))) else none else bif decide (0<=ae (b+c)/\ae (b+c)<=(a.length:Int)) then bif decide (0<=(0:Int)/\0<=(List.length (List.take (ae (b+c)).toNat a):Int)/\(List.length (List.take (ae (b+c)).toNat a):Int)<=(List.length (List.take (ae (b+c)).toNat a):Int)/\(List.length (List.take (ae (b+c)).toNat a):Int)<=(List.length (List.take (ae (b+c)).toNat a):Int)) then(qls fu (List.take ((List.length (List.take (ae (b+c)).toNat a):Int).toNat-(0:Int).toNat) (List.drop (0:Int).toNat (List.take (ae (b+c)).toNat a))) f e).bind fun g=>bif decide (0<=ae (b+(d.length:Int))/\ae (b+(d.length:Int))<=(a.length:Int)) then h d (List.drop (ae (b+(d.length:Int))).toNat a) c g.1 g.2 else none else none else none
def qlm(fu:Nat):Nat->qi2|0=>fun _ _ _ _ _=>none|n+1=>q1m fu (qlm fu n)
def q1l(a:Bs)(e:Bs)(c:Int)(b:Int)(d:Bs):Option zd1:=bif(a.length:Int)==0 then q1n fu fu a e c b d else qlm fu fu a e c b d
def qlr(b:Bs):Option (Bs):=bif decide (0<List.length ([13,10]:Bs)) then(q1f b ([13,10]:Bs)).bind fun a=>(q1l fu a.1 a.2.1 a.2.2 0 []).bind fun c=>some c.2.2.2.2 else none
def zda(a:Bs):Option ((Int×Int)×Bs):=bif decide (12000<(a.length:Int)) then(cd 1 (-1)).bind fun b=>some (b,[]) else(qlr fu a).bind fun d=>(dh).bind fun c=>some (c,d)
abbrev zca:=wV->Int->Int->Int->Int->(wV×Bs)->(List Bs)->Bs->Option (Bs)
abbrev qqb:=wV->Int->Int->(wV×Bs)->Bs->Option (Bs)
def q2q(fu:Nat)(j:qqb)(k:zca):zca:=fun g d f h a e c b=>bif decide (a<h) then bif decide (0<=a/\a.toNat<c.length) then(c[a.toNat]?).bind fun i=>bif decide (List.length (b++i)<=az) then bif decide (List.length ((b++i)++([13,10]:Bs))<=az) then k g d f h (ae (a+1)) e c ((b++i)++([13,10]:Bs)) else none else none else none else j g d (ae (f+1)) e b
def qfx(fu:Nat)(a:qqb):Nat->zca|0=>fun _ _ _ _ _ _ _ _=>none|n+1=>q2q fu a (qfx fu a n)
def q2p(h:qqb):qqb:=fun e d c b a=>bif decide (c<d) then(ai e c).bind fun f=>(qfk fu f.1 f.2).bind fun g=>qfx fu h fu e d c (g.2.length:Int) 0 b g.2 a else bif decide (List.length (a++([13,10]:Bs))<=az) then bif decide (List.length ((a++([13,10]:Bs))++b.2)<=az) then some ((a++([13,10]:Bs))++b.2) else none else none
def qcc(fu:Nat):Nat->qqb|0=>fun _ _ _ _ _=>none|n+1=>q2p fu (qcc fu n)
def q2o(a:wV×Bs):Option (Bs):=qcc fu fu a.1 (a.1.length:Int) 0 a []
def q1a(fu:Nat)(e:qy):Bs->Int->Int->UInt8->Option Int:=fun d b c a=>bif a==13 then some 11 else bif a==10 then some 11 else bif decide (998<(ae (b+1))) then some 1 else e d (ae (b+1)) (ae (c+1))
def qfh(d:qy):Bs->Int->Int->UInt8->Bool->Option Int:=fun c f b e a=>bif a then d c 0 (ae ((ae (b+1))+1)) else q1a fu d c f b e
def q09(d:qy):qy:=fun b e a=>bif decide (a<(b.length:Int)) then(ai b a).bind fun c=>bif c==13 then bif decide ((ae (a+1))<(b.length:Int)) then(ai b (ae (a+1))).bind fun f=>qfh fu d b e a c (f==10) else qfh fu d b e a c false else qfh fu d b e a c false else some 0
def qb2(fu:Nat):Nat->qy|0=>fun _ _ _=>none|n+1=>q09 fu (qb2 fu n)
def qfg(a:Bs):Option Int:=qb2 fu fu a 0 0
def qsq(b:Bs):Option ((Int×Int)):=(qfg fu b).bind fun a=>bif a==11 then(cd 11 (-5)).bind fun e=>some e else bif a==1 then(cd 1 (-6)).bind fun d=>some d else(dh).bind fun c=>some c
def qsp(a:wV×Bs):Option ((Int×Int)):=(qfm fu a.1).bind fun b=>(ef b).bind fun f=>bif f then some b else(q2o fu a).bind fun e=>bif decide (12000<(e.length:Int)) then(cd 1 (-4)).bind fun c=>some c else(qsq fu a.2).bind fun d=>some d
abbrev yx:=Bs->UInt8->Option (Bs)
def zdz(fu:Nat)(d:yx):yx:=fun a b=>bif decide (0<(a.length:Int)) then(ai a 0).bind fun c=>bif c==b then bif decide (0<=(1:Int)/\1<=(a.length:Int)) then d (List.drop (1:Int).toNat a) b else none else some a else some a
def q35(fu:Nat):Nat->yx|0=>fun _ _=>none|n+1=>zdz fu (q35 fu n)
def q34(b:Bs)(a:UInt8):Option (Bs):=q35 fu fu b a
abbrev yy:=Bs->(List Bool)->Option (Bs×(List Bool))
def q33(fu:Nat)(e:yy):yy:=fun a c=>bif decide (0<(a.length:Int)) then(ai a 0).bind fun d=>(qf8 d c).bind fun b=>bif !b.1 then some (a,b.2) else bif decide (0<=(1:Int)/\1<=(a.length:Int)) then e (List.drop (1:Int).toNat a) b.2 else none else some (a,c)
def qne(fu:Nat):Nat->yy|0=>fun _ _=>none|n+1=>q33 fu (qne fu n)
def qnd(b:Bs)(a:List Bool):Option (Bs×(List Bool)):=qne fu fu b a
abbrev qbc:=Bs->Bs->Option (Bs)
abbrev qbb:=Bs->Bs->Bool->Option (Bs)
def q3u:qbc:=fun b d=>(qf9 fu d).bind fun a=>bif decide (a.1.length=List.length (List.replicate 256 false))&&decide (a.1.length=256) then bif a.2 then(qnd fu b a.1).bind fun c=>some c.1 else none else none
def qtl:qbb:=fun c b a=>bif a then(ai b 0).bind fun d=>(q34 fu c d).bind fun e=>some e else q3u fu c b
def q3t:qbc:=fun b a=>bif(a.length:Int)==1 then(ai a 0).bind fun c=>qtl fu b a (decide (c<128)) else qtl fu b a false
def qtk:qbb:=fun b c a=>bif a then some b else q3t fu b c
def qtj(b:Bs)(a:Bs):Option (Bs):=bif b==([]:Bs) then qtk fu b a true else qtk fu b a (a==([]:Bs))
def zp(b:Bs):Option (Bs):=(qtj fu b [32,9]).bind fun a=>some a
def ry(a:UInt8):Option Bool:=bif decide (33<=a) then bif decide (a<=126) then(qm3 [40,41,60,62,64,44,59,58,92,34,47,91,93,63,61,42,37,39] a).bind fun b=>some (decide (b<0)) else some false else some false
abbrev kq:=Int->Bs->Option (Bs×Bs)
abbrev zcb:=Int->Bool->Bs->Option (Bs×Bs)
def zdf(fu:Nat)(b:kq):kq:=fun c a=>b (ae (c+1)) a
def q2k(d:kq):zcb:=fun a c b=>bif c then zdf fu d a b else bif decide (0<=a/\a<=(b.length:Int)) then bif decide (0<=a/\a<=(b.length:Int)) then some (List.take a.toNat b,List.drop a.toNat b) else none else none
def zde(c:kq):kq:=fun b a=>bif decide (b<(a.length:Int)) then(ai a b).bind fun d=>(ry d).bind fun e=>q2k fu c b e a else q2k fu c b false a
def qmk(fu:Nat):Nat->kq|0=>fun _ _=>none|n+1=>zde fu (qmk fu n)
def qmj(b:Bs):Option (Bs×Bs):=(zp fu b).bind fun a=>qmk fu fu 0 a
def qca(c:UInt8)(d:Bs):Option (Bool×Bs):=(zp fu d).bind fun a=>bif a==([]:Bs) then some (false,a) else(ai a 0).bind fun b=>bif b != c then some (false,a) else bif decide (0<=(1:Int)/\1<=(a.length:Int)) then some (true,List.drop (1:Int).toNat a) else none
def qmi(a:UInt8):Option Bool:=(ry a).bind fun b=>bif b then some true else some (a==42)
def zdh(fu:Nat)(b:kq):kq:=fun c a=>b (ae (c+1)) a
def q2l(d:kq):zcb:=fun a c b=>bif c then zdh fu d a b else bif decide (0<=a/\a<=(b.length:Int)) then bif decide (0<=a/\a<=(b.length:Int)) then some (List.take a.toNat b,List.drop a.toNat b) else none else none
def zdg(c:kq):kq:=fun b a=>bif decide (b<(a.length:Int)) then(ai a b).bind fun d=>(qmi d).bind fun e=>q2l fu c b e a else q2l fu c b false a
def qml(fu:Nat):Nat->kq|0=>fun _ _=>none|n+1=>zdg fu (qml fu n)
def qsm(b:Bs):Option (Bs×Bs):=(zp fu b).bind fun a=>qml fu fu 0 a
def qmn(a:UInt8):Option Bool:=(ry a).bind fun b=>bif b then some true else bif a==37 then some true else bif a==39 then some true else some (a==42)
def zdj(fu:Nat)(b:kq):kq:=fun c a=>b (ae (c+1)) a
def q2m(d:kq):zcb:=fun a c b=>bif c then zdj fu d a b else bif decide (0<=a/\a<=(b.length:Int)) then bif decide (0<=a/\a<=(b.length:Int)) then some (List.take a.toNat b,List.drop a.toNat b) else none else none
def zdi(c:kq):kq:=fun b a=>bif decide (b<(a.length:Int)) then(ai a b).bind fun d=>(qmn d).bind fun e=>q2m fu c b e a else q2m fu c b false a
def qmm(fu:Nat):Nat->kq|0=>fun _ _=>none|n+1=>zdi fu (qmm fu n)
def qsn(b:Bs):Option (Bs×Bs):=(zp fu b).bind fun a=>qmm fu fu 0 a
abbrev zcd:=Int->Bs->Bs->Option (Bs×Bool×Bs)
def q2n(fu:Nat)(f:zcd):zcd:=fun c b a=>bif decide (c<(b.length:Int)) then(ai b c).bind fun d=>bif d==34 then bif decide (0<=ae (c+1)/\ae (c+1)<=(b.length:Int)) then some (a,(true,List.drop (ae (c+1)).toNat b)) else none else bif d==92 then bif(ae (c+1))==(b.length:Int) then some (([]:Bs),(false,b)) else(ai b (ae (c+1))).bind fun e=>bif decide (List.length (a++([e]:Bs))<=az) then f (ae ((ae (c+1))+1)) b (a++([e]:Bs)) else none else bif decide (List.length (a++([d]:Bs))<=az) then f (ae (c+1)) b (a++([d]:Bs)) else none else some (([]:Bs),(false,b))
def qmo(fu:Nat):Nat->zcd|0=>fun _ _ _=>none|n+1=>q2n fu (qmo fu n)
def qso(c:Bs):Option (Bs×Bool×Bs):=(qca fu 34 c).bind fun a=>bif !a.1 then(qsn fu a.2).bind fun b=>some (b.1,(true,b.2)) else qmo fu fu 0 a.2 []
abbrev zpy:=Bs->Bs->Int->Bool->Option Int
def qfo:zpy:=fun b d c a=>bif a then some 0 else bif c==1 then(ai d 0).bind fun e=>(ql3 b e).bind fun f=>some f else bif decide ((b.length:Int)<=c) then some (-1) else none
def qfn(b:Bs)(a:Bs):Option Int:=bif(a.length:Int)==0 then qfo b a (a.length:Int) true else qfo b a (a.length:Int) (a==b)
def ql2(b:Bs)(c:Bs):Option (Bs×Bs×Bool):=(qfn b c).bind fun a=>bif decide (0<=a) then bif decide (0<=a/\a<=(b.length:Int)) then bif decide (0<=ae (a+(c.length:Int))/\ae (a+(c.length:Int))<=(b.length:Int)) then some (List.take a.toNat b,(List.drop (ae (a+(c.length:Int))).toNat b,true)) else none else none else some (b,(([]:Bs),false))
def wy(c:Bs)(a:Bs):Option (Bs×Bs×Bool):=(ql2 c a).bind fun b=>some b
def q14(a:Bs)(b:Bs):Option (Bs×Bool):=(qb8 a b).bind fun c=>bif !c then some (a,false) else bif decide (0<=ae ((a.length:Int)-(b.length:Int))/\ae ((a.length:Int)-(b.length:Int))<=(a.length:Int)) then some (List.take (ae ((a.length:Int)-(b.length:Int))).toNat a,true) else none
def qtd(c:Bs)(a:Bs):Option (Bs×Bool):=(q14 c a).bind fun b=>some b
abbrev zq8:=(Bs×Int×Bool×Bs)×Bool×Bs
def qsl(g:Bs):Option zq8:=(qsm fu g).bind fun f=>(qca fu 61 f.2).bind fun e=>bif !e.1 then some ((([]:Bs),(0,(false,([]:Bs)))),(false,e.2)) else(qso fu e.2).bind fun a=>(wy f.1 [42]).bind fun b=>bif b.2.2 then(qtd b.2.1 [42]).bind fun d=>(qb3 d.1 1099511627776).bind fun c=>bif a.2.1 then bif c.2 then some ((b.1,(c.1,(d.2,a.1))),(!(b.1==([]:Bs)),a.2.2)) else some ((b.1,(c.1,(d.2,a.1))),(false,a.2.2)) else some ((b.1,(c.1,(d.2,a.1))),(false,a.2.2)) else bif a.2.1 then some ((b.1,((-1),(false,a.1))),(!(b.1==([]:Bs)),a.2.2)) else some ((b.1,((-1),(false,a.1))),(false,a.2.2))
abbrev zq7:=Bool×(Bs×Int×Bool×Bs)
def qmc(c:Bs×Int×Bool×Bs)(a:Bs×Int×Bool×Bs):Option zq7:=(fw fu c.1 a.1).bind fun b=>some (b,a)
abbrev zd6:=Int×(Bs×Int×Bool×Bs)
abbrev zce:=(List (Bs×Int×Bool×Bs))->Int->Int->(Bs×Int×Bool×Bs)->Option zd6
def q3f(g:zce):zce:=fun d e a c=>bif decide (a<e) then(ai d a).bind fun f=>(qmc fu f c).bind fun b=>bif b.1 then some (a,b.2) else g d e (ae (a+1)) b.2 else some ((-1),c)
def qm0(fu:Nat):Nat->zce|0=>fun _ _ _ _=>none|n+1=>q3f fu (qm0 fu n)
def q3e(a:List (Bs×Int×Bool×Bs))(b:Bs×Int×Bool×Bs):Option zd6:=qm0 fu fu a (a.length:Int) 0 b
abbrev zri:=Bool×(Bs×Int×Bool×Bs)
def qs9(c:List (Bs×Int×Bool×Bs))(b:Bs×Int×Bool×Bs):Option zri:=(q3e fu c b).bind fun a=>some (decide (0<=a.1),a.2)
abbrev zp2:=UInt8->Bool->Option (UInt8×Bool)
def q1c:zp2:=fun a b=>bif b then some ((a-65)+10,true) else bif decide (97<=a) then bif decide (a<=102) then some ((a-97)+10,true) else some (0,false) else some (0,false)
def q1b:zp2:=fun a b=>bif b then some (a-48,true) else bif decide (65<=a) then q1c a (decide (a<=70)) else q1c a false
def wq(a:UInt8):Option (UInt8×Bool):=bif decide (48<=a) then q1b a (decide (a<=57)) else q1b a false
def wt(a:Bs):Option (UInt8×Bool):=bif decide ((a.length:Int)<2) then some (0,false) else(ai a 0).bind fun e=>(wq e).bind fun c=>(ai a 1).bind fun d=>(wq d).bind fun b=>bif c.2 then some ((oc c.1 (min (4:Int).toNat 8))|||b.1,b.2) else some ((oc c.1 (min (4:Int).toNat 8))|||b.1,false)
abbrev gf:=Bs->Int->Bs->Option (Bs)
abbrev wg:=Bs->Option (Bs)
abbrev zp4:=Bs->Bool->Option (Bs)
def q2i(fu:Nat)(d:gf):gf:=fun c b a=>bif decide (b<(c.length:Int)) then(ai c b).bind fun h=>bif h==37 then bif decide (0<=ae (b+1)/\ae (b+1)<=(c.length:Int)) then(wt (List.drop (ae (b+1)).toNat c)).bind fun e=>bif e.2 then bif decide (List.length (a++([e.1]:Bs))<=az) then d c (ae ((ae (b+2))+1)) (a++([e.1]:Bs)) else none else(ai c b).bind fun f=>bif decide (List.length (a++([f]:Bs))<=az) then d c (ae (b+1)) (a++([f]:Bs)) else none else none else(ai c b).bind fun g=>bif decide (List.length (a++([g]:Bs))<=az) then d c (ae (b+1)) (a++([g]:Bs)) else none else some a
def qmg(fu:Nat):Nat->gf|0=>fun _ _ _=>none|n+1=>q2i fu (qmg fu n)
def qfv:wg:=fun a=>qmg fu fu a 0 []
def zo:zp4:=fun a b=>bif b then bif decide (0<=(6:Int)/\6<=(a.length:Int)) then qfv fu (List.drop (6:Int).toNat a) else none else qfv fu a
def qsj(a:Bs×Int×Bool×Bs):Option (Bs):=bif !a.2.2.1 then some a.2.2.2 else bif a.2.1==0 then bif decide (6<=(a.2.2.2.length:Int)) then bif decide (0<=(6:Int)/\6<=(a.2.2.2.length:Int)) then(fw fu (List.take (6:Int).toNat a.2.2.2) [117,116,102,56,39,39]).bind fun b=>zo fu a.2.2.2 b else none else zo fu a.2.2.2 false else zo fu a.2.2.2 false
abbrev zcg:=Int->Int->(Bs×Bs)->(Bs×Bs)->(List (Bs×Int×Bool×Bs))->Option ((Bs×Bs)×Bool)
def q2b(h:zcg):zcg:=fun d a e b c=>bif decide (a<d) then bif decide (0<=a/\a.toNat<c.length) then(c[a.toNat]?).bind fun f=>bif f.2.1 != a then some (b,false) else(qsj fu f).bind fun g=>bif decide (b.2.length+g.length<=ap) then h d (ae (a+1)) e (b.1,b.2++g) c else none else none else(qcn b.2 [239,191,189]).bind fun i=>some ((b.1,i),true)
def ql9(fu:Nat):Nat->zcg|0=>fun _ _ _ _ _=>none|n+1=>q2b fu (ql9 fu n)
def ql8(a:List (Bs×Int×Bool×Bs)):Option ((Bs×Bs)×Bool):=bif decide (0<=(0:Int)/\(0:Int).toNat<a.length) then(a[(0:Int).toNat]?).bind fun c=>bif decide (0<=(0:Int)/\(0:Int).toNat<a.length) then(a[(0:Int).toNat]?).bind fun d=>bif decide (0<=(0:Int)/\(0:Int).toNat<a.length) then(a[(0:Int).toNat]?).bind fun e=>bif decide (e.2.1<0) then some ((c.1,d.2.2.2),(a.length:Int)==1) else(qcl a).bind fun b=>ql9 fu fu (b.length:Int) 0 (([]:Bs),([]:Bs)) (c.1,([]:Bs)) b else none else none else none
abbrev qcr:=Bool×wV
abbrev qyj:=(List (Bs×Int×Bool×Bs))->(List (Bs×Int×Bool×Bs))->Int->Int->(List (Bs×Int×Bool×Bs))->Int->Int->(Bs×Int×Bool×Bs)->wV->(List (Bs×Int×Bool×Bs))->Option qcr
abbrev qi8:=(List (Bs×Int×Bool×Bs))->(List (Bs×Int×Bool×Bs))->Int->Int->wV->Option qcr
def qme(fu:Nat)(l:qi8)(k:qyj):(List (Bs×Int×Bool×Bs))->(List (Bs×Int×Bool×Bs))->Int->Int->(List (Bs×Int×Bool×Bs))->Int->Int->(Bs×Int×Bool×Bs)->(List (Bs×Int×Bool×Bs))->wV->Option qcr:=fun j f b c i h d e g a=>k j f b c i h (ae (d+1)) e a g
def q2f(l:qi8)(p:qyj):qyj:=fun k g d e i h b f c a=>bif decide (b<h) then(ai i b).bind fun j=>(qmc fu j f).bind fun o=>bif o.1 then bif decide (List.length (a++([j]:List (Bs×Int×Bool×Bs)))<=az) then qme fu l p k g d e i h b o.2 (a++([j]:List (Bs×Int×Bool×Bs))) c else none else qme fu l p k g d e i h b o.2 a c else(ql8 fu a).bind fun m=>bif !m.2 then some (false,[]) else bif decide (List.length (c++([(f.1,m.1.2)]:List (Bs×Bs)))<=az) then l k g d (ae (e+1)) (c++([(f.1,m.1.2)]:List (Bs×Bs))) else none
def qmd(fu:Nat)(a:qi8):Nat->qyj|0=>fun _ _ _ _ _ _ _ _ _ _=>none|n+1=>q2f fu a (qmd fu a n)
def q2e(f:qi8):qi8:=fun e d b a c=>bif decide (a<b) then(ai d a).bind fun h=>bif decide (0<=a/\a<=(e.length:Int)) then(qs9 fu (List.take a.toNat e) h).bind fun g=>bif g.1 then f e d b (ae (a+1)) c else qmd fu f fu e d b a e (e.length:Int) 0 g.2 c [] else none else some (true,c)
def qfu(fu:Nat):Nat->qi8|0=>fun _ _ _ _ _=>none|n+1=>q2e fu (qfu fu n)
def qft(a:List (Bs×Int×Bool×Bs)):Option qcr:=qfu fu fu a a (a.length:Int) 0 []
abbrev qnm:=(Bs×Bs×Bool) ⊕ (Bs×Bs×Bool×wV)
abbrev zch:=Bs->Bs->Bs->Bs->Bs->(List (Bs×Int×Bool×Bs))->Option qnm
def q2g(j:zch):zch:=fun d e i b a c=>(qca fu 59 i).bind fun h=>bif h.1 then(qsl fu h.2).bind fun f=>bif !f.2.1 then some (.inl (b,(a,false))) else bif decide (List.length (c++([f.1]:List (Bs×Int×Bool×Bs)))<=az) then j d e f.2.2 b a (c++([f.1]:List (Bs×Int×Bool×Bs))) else none else(zp fu h.2).bind fun k=>(qft fu c).bind fun g=>bif g.1 then some (.inr (b,(a,(k==([]:Bs),g.2)))) else some (.inr (b,(a,(false,g.2))))
def qmf(fu:Nat):Nat->zch|0=>fun _ _ _ _ _ _=>none|n+1=>q2g fu (qmf fu n)
def q2h:Bs->Bs->Bs->Bs->Bs->Option qnm:=fun a b e d c=>qmf fu fu a b e d c []
def zn:Bool->Bs->Bs->Bs->Bs->Bs->Option qnm:=fun e c d f b a=>bif e then some (.inl (b,(a,false))) else q2h fu c d f b a
def qsi(d:Bs):Option qnm:=(qmj fu d).bind fun b=>(qca fu 47 b.2).bind fun c=>(qmj fu c.2).bind fun a=>bif b.1==([]:Bs) then zn fu true [] [] a.2 b.1 a.1 else bif !c.1 then zn fu true [] [] a.2 b.1 a.1 else zn fu (a.1==([]:Bs)) [] [] a.2 b.1 a.1
def zc3(fu:Nat)(e:rl):rl:=fun b c a=>bif decide (a<c) then(ai b a).bind fun d=>(ry d).bind fun f=>bif !f then some false else e b c (ae (a+1)) else some true
def qli(fu:Nat):Nat->rl|0=>fun _ _ _=>none|n+1=>zc3 fu (qli fu n)
def qrw(a:Bs):Option Bool:=qli fu fu a (a.length:Int) 0
def qcb(a:Bs):Option Bool:=bif !(a==([]:Bs)) then bif decide ((a.length:Int)<=60) then(qrw fu a).bind fun b=>some b else some false else some false
def q18(c:Bs×Bs)(a:Bs×Bs):Option (Bool×(Bs×Bs)):=(fw fu c.1 a.1).bind fun b=>some (b,a)
abbrev zci:=wV->Int->Int->(Bs×Bs)->Option (Int×(Bs×Bs))
def q3c(g:zci):zci:=fun d e a c=>bif decide (a<e) then(ai d a).bind fun f=>(q18 fu f c).bind fun b=>bif b.1 then some (a,b.2) else g d e (ae (a+1)) b.2 else some ((-1),c)
def qmz(fu:Nat):Nat->zci|0=>fun _ _ _ _=>none|n+1=>q3c fu (qmz fu n)
def q3b(a:List (Bs×Bs))(b:Bs×Bs):Option (Int×(Bs×Bs)):=qmz fu fu a (a.length:Int) 0 b
def qs8(c:List (Bs×Bs))(b:Bs×Bs):Option (Bool×(Bs×Bs)):=(q3b fu c b).bind fun a=>some (decide (0<=a.1),a.2)
abbrev qyl:=wV->Int->Int->(Bs×Bs×wV)->(Int×Int)->Option ((Int×Int))
abbrev zqb:=(Bs×Bs×wV)->(Int×Int)->Option ((Int×Int))
abbrev zqa:=Bool->(Bs×Bs×wV)->(Int×Int)->Option ((Int×Int))
def qb9(k:qyl):(Int->wV->Int->Int->Bool->(Bs×Bs×wV)->(Int×Int)->(Bs×Bs)->Option ((Int×Int))):=fun a h g i c b e d=>bif c then(cd 10 a).bind fun m=>some m else bif decide (0<=a/\a<=(b.2.2.length:Int)) then(qs8 fu (List.take a.toNat b.2.2) d).bind fun f=>bif f.1 then(cd 7 a).bind fun j=>some j else bif decide (500<(f.2.2.length:Int)) then(cd 1 a).bind fun l=>some l else(qco f.2.2).bind fun o=>bif !o then(cd 5 a).bind fun p=>some p else k h g (ae (i+1)) b e else none
def q19(g:qyl):qyl:=fun b c a d e=>bif decide (a<c) then(ai b a).bind fun f=>(qcb fu f.1).bind fun i=>bif !i then qb9 fu g a b c a true d e f else qb9 fu g a b c a (decide (20<(f.1.length:Int))) d e f else(dh).bind fun h=>some h
def qfr(fu:Nat):Nat->qyl|0=>fun _ _ _ _ _=>none|n+1=>q19 fu (qfr fu n)
def q2a:zqb:=fun a b=>bif decide (60<(a.2.2.length:Int)) then(cd 2 (-3)).bind fun c=>some c else qfr fu fu a.2.2 (a.2.2.length:Int) 0 a b
def qfq:zqa:=fun a b c=>bif a then(cd 10 (-2)).bind fun d=>some d else q2a fu b c
def wv(a:Bs×Bs×wV):Option ((Int×Int)):=(qcb fu a.1).bind fun b=>bif !b then qfq fu true a (0,0) else(qcb fu a.2.1).bind fun c=>qfq fu (!c) a (0,0)
abbrev zd2:=(Bs×Bs×Int×Int) ⊕ (Bs×Bs×Int×Int×wV)
def ql6(h:Bs):Option zd2:=bif decide (4000<(h.length:Int)) then(cd 1 (-1)).bind fun k=>some (.inl (([]:Bs),(([]:Bs),k))) else(qsi fu h).bind fun p=>bz p (fun c=>bif !c.2.2 then(cd 11 (-5)).bind fun o=>some (.inl (([]:Bs),(([]:Bs),o))) else(wv fu (c.1,(c.2.1,[]))).bind fun i=>(ef i).bind fun l=>bif l then(cd i.1 (-6)).bind fun m=>some (.inl (([]:Bs),(([]:Bs),m))) else(dh).bind fun j=>some (.inl (c.1,(c.2.1,j)))) (fun a=>bif !a.2.2.1 then(cd 11 (-5)).bind fun f=>some (.inl (([]:Bs),(([]:Bs),f))) else(wv fu (a.1,(a.2.1,a.2.2.2))).bind fun b=>(ef b).bind fun e=>bif e then(cd b.1 (-6)).bind fun g=>some (.inl (([]:Bs),(([]:Bs),g))) else(dh).bind fun d=>some (.inr (a.1,(a.2.1,(d.1,(d.2,a.2.2.2))))))
abbrev q4i:=(Bs×Bs×Int×Bool) ⊕ (Bs×Bs×Int×Bool×wV)
abbrev qqf:=wV->Int->wV->Int->Int->Bs->Bs->Option q4i
def qfz(fu:Nat)(g:qqf):qqf:=fun f h e d c a b=>g f h e d (ae (c+1)) a b
def qss(j:qqf):qqf:=fun h f e d c a b=>bif decide (c<d) then(ai e c).bind fun p=>(fw fu p.1 [67,111,110,116,101,110,116,45,84,121,112,101]).bind fun k=>bif k then bif decide (0<=f) then some (.inl (([]:Bs),(([]:Bs),(0,false)))) else qfz fu j h c e d c a b else qfz fu j h f e d c a b else bif decide (f<0) then some (.inl (([]:Bs),(([]:Bs),(0,false)))) else(ai h f).bind fun q=>(ql6 fu q.2).bind fun l=>bz l (fun i=>(ef i.2.2).bind fun m=>some (.inl (i.1,(i.2.1,(f,!m))))) (fun g=>(ef (g.2.2.1,g.2.2.2.1)).bind fun o=>some (.inr (g.1,(g.2.1,(f,(!o,g.2.2.2.2))))))
def zq(fu:Nat):Nat->qqf|0=>fun _ _ _ _ _ _ _=>none|n+1=>qss fu (zq fu n)
def qfy(a:List (Bs×Bs)):Option q4i:=zq fu fu a (-1) a (a.length:Int) 0 [] ([]:Bs)
abbrev zcl:=Bs->wV->Int->Int->(Int×Int)->Option (Bs×Bool×(Int×Int))
def q16(h:zcl):zcl:=fun e c b a d=>bif decide (a<b) then(ai c a).bind fun f=>(fw fu f.1 e).bind fun j=>bif j then(dh).bind fun i=>some (f.2,(true,i)) else h e c b (ae (a+1)) d else(dh).bind fun g=>some (([]:Bs),(false,g))
def ql5(fu:Nat):Nat->zcl|0=>fun _ _ _ _ _=>none|n+1=>q16 fu (ql5 fu n)
def ql4(a:Bs×Bs×wV)(c:Bs):Option (Bs×Bool×(Int×Int)):=(wv fu a).bind fun b=>(ef b).bind fun d=>bif d then some (([]:Bs),(false,b)) else ql5 fu fu c a.2.2 (a.2.2.length:Int) 0 (0,0)
def qmq(a:UInt8):Option Bool:=bif decide (32<=a) then some (decide (a<=126)) else some false
def zc4(fu:Nat)(e:rl):rl:=fun b c a=>bif decide (a<c) then(ai b a).bind fun d=>(qmq d).bind fun f=>bif !f then some false else e b c (ae (a+1)) else some true
def qlj(fu:Nat):Nat->rl|0=>fun _ _ _=>none|n+1=>zc4 fu (qlj fu n)
def qrx(a:Bs):Option Bool:=qlj fu fu a (a.length:Int) 0
def qte(c:Bs)(a:Bs):Option Bool:=(qb8 c a).bind fun b=>some b
def q2w:Bs->Bs->wV->Option (Bs×Bool):=fun b c d=>(ql4 fu (b,(c,d)) [98,111,117,110,100,97,114,121]).bind fun a=>bif !(a.1==([]:Bs)) then bif decide ((a.1.length:Int)<=60) then(qrx fu a.1).bind fun f=>bif f then(qte a.1 [32]).bind fun e=>bif a.2.1 then some (a.1,!e) else some (a.1,false) else bif a.2.1 then some (a.1,false) else some (a.1,false) else bif a.2.1 then some (a.1,false) else some (a.1,false) else bif a.2.1 then some (a.1,false) else some (a.1,false)
def qcd:Bool->Bs->Bs->wV->Option (Bs×Bool):=fun d a b c=>bif d then some (([]:Bs),false) else q2w fu a b c
def qsu(c:List (Bs×Bs)):Option (Bs×Bool):=(qfy fu c).bind fun e=>bz e (fun b=>bif !b.2.2.2 then qcd fu true b.1 b.2.1 [] else(fw fu b.1 [109,117,108,116,105,112,97,114,116]).bind fun d=>qcd fu (!d) b.1 b.2.1 []) (fun a=>bif !a.2.2.2.1 then qcd fu true a.1 a.2.1 a.2.2.2.2 else(fw fu a.1 [109,117,108,116,105,112,97,114,116]).bind fun f=>qcd fu (!f) a.1 a.2.1 a.2.2.2.2)
def q21(a:Bs):Option (Bs):=some a
def zd0(fu:Nat)(d:yx):yx:=fun a b=>bif decide (0<(a.length:Int)) then(ai a (ae ((a.length:Int)-1))).bind fun c=>bif c==b then bif decide (0<=ae ((a.length:Int)-1)/\ae ((a.length:Int)-1)<=(a.length:Int)) then d (List.take (ae ((a.length:Int)-1)).toNat a) b else none else some a else some a
def q38(fu:Nat):Nat->yx|0=>fun _ _=>none|n+1=>zd0 fu (q38 fu n)
def q37(b:Bs)(a:UInt8):Option (Bs):=q38 fu fu b a
def q36(fu:Nat)(e:yy):yy:=fun a c=>bif decide (0<(a.length:Int)) then(ai a (ae ((a.length:Int)-1))).bind fun d=>(qf8 d c).bind fun b=>bif !b.1 then some (a,b.2) else bif decide (0<=ae ((a.length:Int)-1)/\ae ((a.length:Int)-1)<=(a.length:Int)) then e (List.take (ae ((a.length:Int)-1)).toNat a) b.2 else none else some (a,c)
def qng(fu:Nat):Nat->yy|0=>fun _ _=>none|n+1=>q36 fu (qng fu n)
def qnf(b:Bs)(a:List Bool):Option (Bs×(List Bool)):=qng fu fu b a
def q3w:qbc:=fun b d=>(qf9 fu d).bind fun a=>bif decide (a.1.length=List.length (List.replicate 256 false))&&decide (a.1.length=256) then bif a.2 then(qnf fu b a.1).bind fun c=>some c.1 else none else none
def qtn:qbb:=fun c b a=>bif a then(ai b 0).bind fun d=>(q37 fu c d).bind fun e=>some e else q3w fu c b
def q3v:qbc:=fun b a=>bif(a.length:Int)==1 then(ai a 0).bind fun c=>qtn fu b a (decide (c<128)) else qtn fu b a false
def qtm:qbb:=fun b c a=>bif a then some b else q3v fu b c
def qm8(b:Bs)(a:Bs):Option (Bs):=bif b==([]:Bs) then qtm fu b a true else qtm fu b a (a==([]:Bs))
def qs2(c:Bs)(a:Bs):Option Int:=(qm8 fu c [32,9]).bind fun b=>bif decide (List.length ([45,45]:Bs)+a.length<=ap) then bif b==(([45,45]:Bs)++a) then some 1 else bif decide (List.length ([45,45]:Bs)+a.length<=ap) then bif decide (List.length (([45,45]:Bs)++a)+List.length ([45,45]:Bs)<=ap) then bif b==((([45,45]:Bs)++a)++[45,45]) then some 2 else some 0 else none else none else none
abbrev zrd:=(Bs×Bs×Int×(List Bs)×(List Bs)) ⊕ (Bs×Bs×Int×(List Bs))
def qf1(b:Int)(f:Bs)(c:Bs)(d:Bs)(a:Int)(h:List Bs)(e:List Bs):Option zrd:=(qs2 fu f d).bind fun g=>bif g==0 then some (.inl (c,(d,(a,(h,e))))) else bif decide (0<=a) then bif decide (0<=a/\a<=(if ae (b-2)>a then ae (b-2) else a)/\(if ae (b-2)>a then ae (b-2) else a)<=(c.length:Int)) then bif decide (List.length (e++([List.take ((if ae (b-2)>a then ae (b-2) else a).toNat-a.toNat) (List.drop a.toNat c)]:List Bs))<=az) then bif g==2 then some (.inr (c,(d,(a,e++([List.take ((if ae (b-2)>a then ae (b-2) else a).toNat-a.toNat) (List.drop a.toNat c)]:List Bs))))) else some (.inl (c,(d,(if(c.length:Int)<ae ((ae (b+(f.length:Int)))+2) then(c.length:Int) else ae ((ae (b+(f.length:Int)))+2),(h,e++([List.take ((if ae (b-2)>a then ae (b-2) else a).toNat-a.toNat) (List.drop a.toNat c)]:List Bs)))))) else none else none else bif g==2 then some (.inr (c,(d,(a,e)))) else some (.inl (c,(d,(if(c.length:Int)<ae ((ae (b+(f.length:Int)))+2) then(c.length:Int) else ae ((ae (b+(f.length:Int)))+2),(h,e)))))
abbrev q4j:=(Bs×Bs×Bs×Int×(List Bs)) ⊕ (Bs×Bs×Bs×Int×(List Bs)×(List Bs))
abbrev zcn:=Int->Bs->Bs->Bs->Int->(List Bs)->(List Bs)->Option q4j
def q24(k:zcn):zcn:=fun a b h i j d c=>bif decide (a<(b.length:Int)) then bif decide (0<=a/\a<=(b.length:Int)) then bif decide (0<List.length ([13,10]:Bs)) then(uj (List.drop a.toNat b) ([13,10]:Bs)).bind fun f=>bif decide (0<=f) then bif decide (0<=a/\a<=ae (a+f)/\ae (a+f)<=(b.length:Int)) then(qf1 fu a (List.take ((ae (a+f)).toNat-a.toNat) (List.drop a.toNat b)) h i j d c).bind fun m=>bz m (fun e=>k (ae ((ae (a+f))+2)) b e.1 e.2.1 e.2.2.1 e.2.2.2.1 e.2.2.2.2) (fun l=>some (.inl (b,l))) else none else bif decide (0<=a/\a<=(b.length:Int)/\(b.length:Int)<=(b.length:Int)) then(qf1 fu a (List.take ((b.length:Int).toNat-a.toNat) (List.drop a.toNat b)) h i j d c).bind fun p=>bz p (fun g=>k (b.length:Int) b g.1 g.2.1 g.2.2.1 g.2.2.2.1 g.2.2.2.2) (fun o=>some (.inl (b,o))) else none else none else none else some (.inr (b,(h,(i,(j,(d,c))))))
def qcf(fu:Nat):Nat->zcn|0=>fun _ _ _ _ _ _ _=>none|n+1=>q24 fu (qcf fu n)
def q23(a:Bs)(f:Bs)(c:Bs)(b:Int)(d:List Bs)(e:List Bs):Option q4j:=qcf fu fu 0 a f c b d e
def qsw(b:Bs)(d:Bs):Option ((List Bs)):=(q21 b).bind fun c=>(q23 fu c b d (-1) [] []).bind fun f=>bz f (fun e=>some e.2.2.2.2) (fun a=>bif decide (0<=a.2.2.2.1) then bif decide (0<=a.2.2.2.1/\a.2.2.2.1<=(a.2.1.length:Int)) then bif decide (List.length (a.2.2.2.2.2++([List.drop a.2.2.2.1.toNat a.2.1]:List Bs))<=az) then some (a.2.2.2.2.2++([List.drop a.2.2.2.1.toNat a.2.1]:List Bs)) else none else none else some a.2.2.2.2.2)
def qce(b:List (Bs×Bs))(d:Bs)(c:Int):Option ((List Bs)):=(qsu fu b).bind fun a=>bif !a.2 then some [] else bif decide (8<=c) then some [] else(qsw fu d a.1).bind fun e=>some e
def qf0(b:Bs×Bs):Option Bool:=(fw fu b.1 [98,111,117,110,100,97,114,121]).bind fun a=>some a
abbrev zcq:=wV->Int->Int->Option Int
def q3d(e:zcq):zcq:=fun b c a=>bif decide (a<c) then(ai b a).bind fun d=>(qf0 fu d).bind fun f=>bif f then some a else e b c (ae (a+1)) else some (-1)
def qf6(fu:Nat):Nat->zcq|0=>fun _ _ _=>none|n+1=>q3d fu (qf6 fu n)
def qtb(a:List (Bs×Bs)):Option Int:=qf6 fu fu a (a.length:Int) 0
abbrev zcr:=wV->Int->Int->Option (wV)
def zdp(e:zcr):zcr:=fun a b c=>bif decide (c<(a.length:Int)) then(ai a c).bind fun d=>(qf0 fu d).bind fun f=>bif !f then(ai a b).bind fun g=>none else e a b (ae (c+1)) else bif decide (0<=b/\b<=(a.length:Int)) then none else none
def q29(fu:Nat):Nat->zcr|0=>fun _ _ _=>none|n+1=>zdp fu (q29 fu n)
def zdo(b:List (Bs×Bs)):Option (wV):=(qtb fu b).bind fun a=>bif a==(-1) then some b else q29 fu fu b a (ae (a+1))
def qma(a:UInt8):Option Bool:=bif decide (32<=a) then some (decide (a<=126)) else some false
def zc5(fu:Nat)(e:rl):rl:=fun b c a=>bif decide (a<c) then(ai b a).bind fun d=>(qma d).bind fun f=>bif !f then some false else e b c (ae (a+1)) else some true
def qlk(fu:Nat):Nat->rl|0=>fun _ _ _=>none|n+1=>zc5 fu (qlk fu n)
def qry(a:Bs):Option Bool:=qlk fu fu a (a.length:Int) 0
def qm6(a:List Bs):Option (Int×Int×Int×(List Bs)):=bif(Int.tmod (a.length:Int) 2)==1 then none else bif decide (a.length<=az) then some (0,(0,(0,a))) else none
abbrev qgc:=Int×Int×Int×Bs×(List Bs)
abbrev qqh:=Bool->Int->Int->Int->Int->(List Bs)->Option qgc
abbrev qja:=Int->Int->Int->Int->(List Bs)->Bs->Option qgc
abbrev zcs:=Int->Int->Int->Int->(List Bs)->(List Bs)->Option qgc
def q3p(fu:Nat)(f:qqh):qqh:=fun e g c a b d=>f e (ae (g+2)) c a b d
def zdv(fu:Nat)(k:qja):qja:=fun b e c d a f=>bif decide (0<=b) then bif decide (0<=b/\b.toNat<a.length) then(a[b.toNat]?).bind fun h=>(ai h 0).bind fun g=>bif decide (0<=ae (b+1)/\(ae (b+1)).toNat<a.length) then(a[(ae (b+1)).toNat]?).bind fun j=>(ai j 0).bind fun i=>(f[g.toNat]?).bind fun l=>k (ae (b-2)) e c d a (List.set f g.toNat i) else none else none else some (e,(c,(d,(f,a))))
def q3s(fu:Nat):Nat->qja|0=>fun _ _ _ _ _ _=>none|n+1=>zdv fu (q3s fu n)
def zdt(g:qja):qja:=fun a d b c e f=>bif decide (a<256) then bif decide (0<=a)&&decide (a<256) then(f[a.toNat]?).bind fun h=>g (ae (a+1)) d b c e (List.set f a.toNat (d9 a)) else none else q3s fu fu (ae ((e.length:Int)-2)) d b c e f
def q3q(fu:Nat):Nat->qja|0=>fun _ _ _ _ _ _=>none|n+1=>zdt fu (q3q fu n)
def zdu(fu:Nat)(i:zcs):zcs:=fun a e c d b f=>bif decide (0<=a) then bif decide (0<=a/\a.toNat<b.length) then(b[a.toNat]?).bind fun g=>(ai g 0).bind fun h=>bif decide (0<=ae (a+1)/\(ae (a+1)).toNat<b.length) then(b[(ae (a+1)).toNat]?).bind fun j=>none else none else none else none
def q3r(fu:Nat):Nat->zcs|0=>fun _ _ _ _ _ _=>none|n+1=>zdu fu (q3r fu n)
def zds(g:qqh):qqh:=fun f e d b c a=>bif decide (e<(a.length:Int)) then bif decide (0<=e/\e.toNat<a.length) then(a[e.toNat]?).bind fun i=>bif(i.length:Int) != 1 then none else bif decide (0<=ae (e+1)/\(ae (e+1)).toNat<a.length) then(a[(ae (e+1)).toNat]?).bind fun h=>bif(h.length:Int) != 1 then q3p fu g false e d b c a else q3p fu g f e d b c a else none else none else bif f then bif decide (List.length (List.replicate 256 0)=List.length (List.replicate 256 0))&&decide (List.length (List.replicate 256 0)=256) then q3q fu fu 0 d b c a (List.replicate 256 0) else none else bif decide (0<=(0:Int)/\0=ae (Int.tdiv (a.length:Int) 2)/\(0:Int)<=4294967296) then q3r fu fu (ae ((a.length:Int)-2)) d b c a (List.replicate (0:Int).toNat []) else none
def q3o(fu:Nat):Nat->qqh|0=>fun _ _ _ _ _ _=>none|n+1=>zds fu (q3o fu n)
def zdw:Int->Int->Int->(List Bs)->Option qgc:=fun c a b d=>q3o fu fu true 0 c a b d
def q3n:Bool->Int->Int->Int->(List Bs)->Option qgc:=fun e d b c a=>bif e then bif decide (0<=(0:Int)/\(0:Int).toNat<a.length) then(a[(0:Int).toNat]?).bind fun g=>bif decide (0<=(1:Int)/\(1:Int).toNat<a.length) then(a[(1:Int).toNat]?).bind fun f=>none else none else none else zdw fu d b c a
def zdr(b:Int)(d:Int)(c:Int)(a:List Bs):Option qgc:=bif(a.length:Int)==2 then bif decide (0<=(0:Int)/\(0:Int).toNat<a.length) then(a[(0:Int).toNat]?).bind fun e=>q3n fu (decide (1<(e.length:Int))) b d c a else none else q3n fu false b d c a
abbrev zrj:=Int×Int×Int×Bs×(List Bs)
def qti(b:Int)(e:Int)(d:Int)(c:List Bs):Option zrj:=(zdr fu b e d c).bind fun a=>some (a.1,(a.2.1,(a.2.2.1,(a.2.2.2.1,[]))))
abbrev qyn:=Bs->Int->Bs->Bs->Option (Bs×Bs)
abbrev zcv:=Bs->Int->Bs->Option (Bs×Bs)
def qnb(fu:Nat)(d:qyn):Bs->Int->UInt8->Bs->Bs->Option (Bs×Bs):=fun e b g c a=>(c[g.toNat]?).bind fun f=>bif decide (0<=b/\b.toNat<a.length) then(a[b.toNat]?).bind fun h=>d e (ae (b+1)) c (List.set a b.toNat f) else none
def q30(f:qyn):qyn:=fun d b c a=>bif decide (b<(d.length:Int)) then(ai d b).bind fun e=>(c[e.toNat]?).bind fun g=>bif g != e then bif decide (0<a.length) then qnb fu f d b e c a else none else f d (ae (b+1)) c a else bif decide (0<a.length) then some (a,c) else none
def qnc(fu:Nat):Nat->qyn|0=>fun _ _ _ _=>none|n+1=>q30 fu (qnc fu n)
def q3z(f:zcv):zcv:=fun a b c=>bif decide (b<(a.length:Int)) then(ai a b).bind fun d=>(c[d.toNat]?).bind fun e=>bif e != d then bif decide (a.length<=maxLen) then qnb fu (qnc fu fu) a b d c a else none else f a (ae (b+1)) c else some (a,c)
def qna(fu:Nat):Nat->zcv|0=>fun _ _ _=>none|n+1=>q3z fu (qna fu n)
def qm9(b:Bs)(a:Bs):Option (Bs×Bs):=qna fu fu b 0 a
def qcj(fu:Nat)(s:Bs)(p0 p1 p2:Int)(on:List Bs):Option (Bs×Int×Int×Int×Bs):=
 bif decide (p0=0)&&decide (p1=0) then
 (qti fu 0 1 p2 on).bind fun x=>
 bif decide (x.1=0)&&decide (x.2.1=1) then
 (qm9 fu s x.2.2.2.1).bind fun y=>
 some (y.1,1,0,x.2.2.1,y.2)
 else none else none
def qck(fu:Nat)(s:Bs)(p0 p1 p2:Int)(tab:Bs):Option (Bs×Int×Int×Int×Bs):=
 bif !decide (p0=0) then
 (qm9 fu s tab).bind fun y=>
 some (y.1,p0,p1,p2,y.2)
 else none
def rx(b:UInt8):Option UInt8:=(([48,49,50,51,52,53,54,55,56,57,65,66,67,68,69,70]:Bs)[(b&&&15).toNat]?).bind fun a=>some a
abbrev pw:=Bs->Bs->Int->Int->(List Bs)->Option ((List Bs))
abbrev qyp:=Bs->Int->Int->(List Bs)->Option ((List Bs))
def qmh(fu:Nat)(g:qyp):pw:=fun f b e c a=>bif decide (0<=ae ((a.length:Int)-1)/\(ae ((a.length:Int)-1)).toNat<a.length) then(a[(ae ((a.length:Int)-1)).toNat]?).bind fun h=>bif decide ((ae ((h.length:Int)+(b.length:Int)))<=60) then bif decide (0<=ae ((a.length:Int)-1)/\(ae ((a.length:Int)-1)).toNat<a.length) then(a[(ae ((a.length:Int)-1)).toNat]?).bind fun d=>bif decide (d.length+b.length<=ap) then bif decide (0<=ae ((a.length:Int)-1)/\(ae ((a.length:Int)-1)).toNat<a.length) then(a[(ae ((a.length:Int)-1)).toNat]?).bind fun i=>g f e (ae (c+1)) (List.set a ((ae ((a.length:Int)-1)).toNat) (d++b)) else none else none else none else bif decide (List.length (a++([b]:List Bs))<=az) then g f e (ae (c+1)) (a++([b]:List Bs)) else none else none
def q2j(e:qyp):qyp:=fun b d a c=>bif decide (a<d) then bif decide (0<=a/\a<=ae (a+1)/\ae (a+1)<=(b.length:Int)) then(ai b a).bind fun j=>(ry j).bind fun g=>bif !g then(ai b a).bind fun f=>(rx (yi f (min (4:Int).toNat 8))).bind fun h=>(ai b a).bind fun k=>(rx k).bind fun i=>qmh fu e b ([37,h,i]:Bs) d a c else qmh fu e b (List.take ((ae (a+1)).toNat-a.toNat) (List.drop a.toNat b)) d a c else none else some c
def qfw(fu:Nat):Nat->qyp|0=>fun _ _ _ _=>none|n+1=>q2j fu (qfw fu n)
def qsk(a:Bs):Option ((List Bs)):=qfw fu fu a (a.length:Int) 0 ([([117,116,102,56,39,39]:Bs)]:List Bs)
abbrev zak:=Bs->Int->Int->(Bs×Bs)->(List Bs)->Option (Bs)
def q2c(fu:Nat)(h:zak):zak:=fun g e b a c=>bif decide (b<e) then bif decide (0<=b/\b.toNat<c.length) then(c[b.toNat]?).bind fun f=>bif decide (List.length ([59,32]:Bs)+a.1.length<=ap) then bif decide (List.length (([59,32]:Bs)++a.1)+List.length ([42]:Bs)<=ap) then(om b).bind fun d=>bif decide (List.length ((([59,32]:Bs)++a.1)++[42])+d.length<=ap) then bif decide (List.length (((([59,32]:Bs)++a.1)++[42])++d)+List.length ([42,61]:Bs)<=ap) then bif decide (List.length ((((([59,32]:Bs)++a.1)++[42])++d)++[42,61])+f.length<=ap) then bif decide (g.length+List.length (((((([59,32]:Bs)++a.1)++[42])++d)++[42,61])++f)<=ap) then h (g++(((((([59,32]:Bs)++a.1)++[42])++d)++[42,61])++f)) e (ae (b+1)) a c else none else none else none else none else none else none else none else some g
def qmb(fu:Nat):Nat->zak|0=>fun _ _ _ _ _=>none|n+1=>q2c fu (qmb fu n)
def q2d:(Bs×Bs)->Option (Bs):=fun a=>(qsk fu a.2).bind fun b=>qmb fu fu [] (b.length:Int) 0 a b
def qfs:Bool->(Bs×Bs)->Option (Bs):=fun d a=>bif d then bif decide (List.length ([59,32]:Bs)+a.1.length<=ap) then bif decide (List.length (([59,32]:Bs)++a.1)+List.length ([61,34]:Bs)<=ap) then(qm6 ([([92]:Bs),([92,92]:Bs),([34]:Bs),([92,34]:Bs)]:List Bs)).bind fun b=>(zu a.2 b.1 b.2.1 b.2.2.1 b.2.2.2).bind fun c=>bif decide (List.length ((([59,32]:Bs)++a.1)++[61,34])+c.length<=ap) then bif decide (List.length (((([59,32]:Bs)++a.1)++[61,34])++c)+List.length ([34]:Bs)<=ap) then some ((((([59,32]:Bs)++a.1)++[61,34])++c)++[34]) else none else none else none else none else q2d fu a
def qsh(a:Bs×Bs):Option (Bs):=(qcb fu a.2).bind fun b=>bif b then bif decide (List.length ([59,32]:Bs)+a.1.length<=ap) then bif decide (List.length (([59,32]:Bs)++a.1)+List.length ([61]:Bs)<=ap) then bif decide (List.length ((([59,32]:Bs)++a.1)++[61])+a.2.length<=ap) then some (((([59,32]:Bs)++a.1)++[61])++a.2) else none else none else none else bif decide ((a.2.length:Int)<=60) then(qry fu a.2).bind fun c=>qfs fu c a else qfs fu false a
abbrev zal:=Bs->wV->Int->Int->(Int×Int)->Option (Bs×(Int×Int))
def q17(i:zal):zal:=fun d b c a e=>bif decide (a<c) then(ai b a).bind fun h=>(qsh fu h).bind fun f=>bif decide (d.length+f.length<=ap) then i (d++f) b c (ae (a+1)) e else none else bif decide (4000<(d.length:Int)) then(cd 1 (-4)).bind fun j=>some (([]:Bs),j) else(dh).bind fun g=>some (d,g)
def ql7(fu:Nat):Nat->zal|0=>fun _ _ _ _ _=>none|n+1=>q17 fu (ql7 fu n)
def qfp(a:Bs×Bs×wV):Option (Bs×(Int×Int)):=(wv fu a).bind fun b=>(ef b).bind fun c=>bif c then some (([]:Bs),b) else bif decide (a.1.length+List.length ([47]:Bs)<=ap) then bif decide (List.length (a.1++[47])+a.2.1.length<=ap) then ql7 fu fu ((a.1++[47])++a.2.1) a.2.2 (a.2.2.length:Int) 0 (0,0) else none else none
abbrev zam:=Int->Int->wV->Option (wV)
def q3a(e:zam):zam:=fun b c a=>bif decide (c<(a.length:Int)) then bif decide (0<=c/\c.toNat<a.length) then(a[c.toNat]?).bind fun d=>(qf0 fu d).bind fun f=>bif !f then bif decide (0<=b/\b.toNat<a.length) then(a[b.toNat]?).bind fun g=>e (ae (b+1)) (ae (c+1)) (List.set a b.toNat d) else none else e b (ae (c+1)) a else none else bif decide (0<=b/\b.toNat<a.length) then bif decide (0<=b/\b<=(List.length (List.take b.toNat a++List.replicate (a.length-b.toNat) (([]:Bs),([]:Bs))):Int)) then some (List.take b.toNat (List.take b.toNat a++List.replicate (a.length-b.toNat) (([]:Bs),([]:Bs)))) else none else none
def qmy(fu:Nat):Nat->zam|0=>fun _ _ _=>none|n+1=>q3a fu (qmy fu n)
def qta(b:List (Bs×Bs)):Option (wV):=(qtb fu b).bind fun a=>bif a==(-1) then some b else qmy fu fu a (ae (a+1)) b
abbrev zrc:=Bool×wV
def qmp(g:List (Bs×Bs)):Option zrc:=(qfy fu g).bind fun l=>bz l (fun c=>(zdo fu []).bind fun k=>(qfp fu (c.1,(c.2.1,k))).bind fun i=>(ef i.2).bind fun m=>bif m then some (false,[]) else(gv g).bind fun h=>bif decide (0<=c.2.2.1/\c.2.2.1.toNat<h.length) then(h[c.2.2.1.toNat]?).bind fun o=>some (true,List.set h c.2.2.1.toNat (o.1,i.1)) else none) (fun a=>(qta fu a.2.2.2.2).bind fun j=>(qfp fu (a.1,(a.2.1,j))).bind fun d=>(ef d.2).bind fun e=>bif e then some (false,[]) else(gv g).bind fun b=>bif decide (0<=a.2.2.1/\a.2.2.1.toNat<b.length) then(b[a.2.2.1.toNat]?).bind fun f=>some (true,List.set b a.2.2.1.toNat (f.1,d.1)) else none)
def wu(c:Bs)(a:UInt8):Option Int:=(zi c a).bind fun b=>some b
def qll(b:Bs)(a:Bs):Option Bool:=some (b==a)
def qfj(a:Bs)(b:Bs):Option Bool:=bif decide ((b.length:Int)<=(a.length:Int)) then bif decide (0<=ae ((a.length:Int)-(b.length:Int))/\ae ((a.length:Int)-(b.length:Int))<=(a.length:Int)) then(qll (List.drop (ae ((a.length:Int)-(b.length:Int))).toNat a) b).bind fun c=>some c else none else some false
def zj(a:Bs)(b:Bs):Option (Bs):=(qfj a b).bind fun c=>bif c then bif decide (0<=ae ((a.length:Int)-(b.length:Int))/\ae ((a.length:Int)-(b.length:Int))<=(a.length:Int)) then some (List.take (ae ((a.length:Int)-(b.length:Int))).toNat a) else none else some a
def qsf(a:Bs):Option (Bs×Int):=(wu a 10).bind fun b=>bif decide (b<0) then some (a,(a.length:Int)) else bif decide (0<=b/\b<=(a.length:Int)) then bif decide (0<List.length ([13]:Bs)) then(zj (List.take b.toNat a) ([13]:Bs)).bind fun c=>some (c,ae (b+1)) else none else none
def qsg(c:Bs):Option Bool:=(qfk fu c []).bind fun a=>(ef a.1).bind fun b=>some (!b)
def qse(d:Bs):Option ((Bs×Bs)×Bool):=(wy d [58]).bind fun a=>(qm8 fu a.1 [32,9]).bind fun b=>bif a.2.2 then(qsg fu b).bind fun c=>some ((b,a.2.1),c) else some ((b,a.2.1),false)
def q3y:qbc:=fun d c=>(qf9 fu c).bind fun a=>bif decide (a.1.length=List.length (List.replicate 256 false))&&decide (a.1.length=256) then bif a.2 then(qnf fu d a.1).bind fun b=>(qnd fu b.1 b.2).bind fun e=>some e.1 else none else none
def qtq:qbb:=fun c a b=>bif b then(ai a 0).bind fun f=>(q37 fu c f).bind fun g=>(ai a 0).bind fun d=>(q34 fu g d).bind fun e=>some e else q3y fu c a
def q3x:qbc:=fun b a=>bif(a.length:Int)==1 then(ai a 0).bind fun c=>qtq fu b a (decide (c<128)) else qtq fu b a false
def qtp:qbb:=fun b c a=>bif a then some b else q3x fu b c
def qm7(b:Bs)(a:Bs):Option (Bs):=bif b==([]:Bs) then qtp fu b a true else qtp fu b a (a==([]:Bs))
abbrev qcq:=Int×(Int×Int)×wV
abbrev zaq:=Int->Int->Int->(Int×Int)->wV->Int->Int->Int->Bs->Option qcq
abbrev zap:=Int->Int->(Int×Int)->Int->Int->Int->(List Bs)->wV->Option qcq
abbrev qp0:=Bs->Int->(Int×Int)->wV->Option qcq
def q12(p:zaq):zaq:=fun j f a i b c e d h=>bif decide (a<f) then bif decide (0<=a/\a.toNat<b.length) then(b[a.toNat]?).bind fun m=>(qck fu m.2 c e d h).bind fun g=>(qm7 fu g.1 [32,9]).bind fun k=>bif decide (4000<(k.length:Int)) then(cd 1 a).bind fun o=>some (0,(o,[])) else bif decide (0<=a/\a.toNat<b.length) then(b[a.toNat]?).bind fun l=>p j f (ae (a+1)) i (List.set b a.toNat (l.1,k)) g.2.1 g.2.2.1 g.2.2.2.1 g.2.2.2.2 else none else none else(dh).bind fun q=>some (j,(q,b))
def ql0(fu:Nat):Nat->zaq|0=>fun _ _ _ _ _ _ _ _ _=>none|n+1=>q12 fu (ql0 fu n)
def qlz(p:zap):zap:=fun i e h d c b g a=>bif decide (0<e) then bif decide (0<=(0:Int)/\(0:Int).toNat<a.length) then(a[(0:Int).toNat]?).bind fun o=>(qcj fu o.2 d c b g).bind fun f=>(qm7 fu f.1 [32,9]).bind fun j=>bif decide (4000<(j.length:Int)) then(cd 1 0).bind fun l=>some (0,(l,[])) else bif decide (0<=(0:Int)/\(0:Int).toNat<a.length) then(a[(0:Int).toNat]?).bind fun k=>ql0 fu fu i e 1 h (List.set a ((0:Int).toNat) (k.1,j)) f.2.1 f.2.2.1 f.2.2.2.1 f.2.2.2.2 else none else none else(dh).bind fun m=>some (i,(m,a))
def zm(fu:Nat):Nat->zap|0=>fun _ _ _ _ _ _ _ _=>none|n+1=>qlz fu (zm fu n)
def qfl:Int->(Int×Int)->wV->Option qcq:=fun e c a=>bif decide (60<(a.length:Int)) then(cd 2 (-2)).bind fun d=>some (0,(d,[])) else(qm6 ([([0]:Bs),([32]:Bs),([13]:Bs),([32]:Bs)]:List Bs)).bind fun b=>zm fu fu e (a.length:Int) c b.1 b.2.1 b.2.2.1 b.2.2.2 a
def qsd(g:qp0):Bs->Int->Bs->Int->(Int×Int)->wV->Option qcq:=fun f d h e b a=>(qse fu h).bind fun c=>bif !c.2 then qfl fu d b a else bif decide (List.length (a++([c.1]:List (Bs×Bs)))<=az) then g f (ae (d+e)) b (a++([c.1]:List (Bs×Bs))) else none
def qb7(i:qp0):Bs->Int->Bs->Int->Bool->(Int×Int)->wV->Option qcq:=fun h f d e c b a=>bif c then bif decide (0<=ae ((a.length:Int)-1)/\(ae ((a.length:Int)-1)).toNat<a.length) then(a[(ae ((a.length:Int)-1)).toNat]?).bind fun g=>bif decide (g.2.length+d.length<=ap) then bif decide (0<=ae ((a.length:Int)-1)/\(ae ((a.length:Int)-1)).toNat<a.length) then(a[(ae ((a.length:Int)-1)).toNat]?).bind fun j=>i h (ae (f+e)) b (List.set a ((ae ((a.length:Int)-1)).toNat) (j.1,g.2++d)) else none else none else none else qsd fu i h f d e b a
def q11(f:qp0):qp0:=fun e c b a=>bif decide (c<(e.length:Int)) then bif decide (0<=c/\c<=(e.length:Int)) then(qsf (List.drop c.toNat e)).bind fun d=>bif d.1==([]:Bs) then qfl fu (ae (c+d.2)) b a else(ai d.1 0).bind fun g=>(ru g).bind fun h=>bif h then qb7 fu f e c d.1 d.2 (decide (0<(a.length:Int))) b a else qb7 fu f e c d.1 d.2 false b a else none else qfl fu c b a
def qb6(fu:Nat):Nat->qp0|0=>fun _ _ _ _=>none|n+1=>q11 fu (qb6 fu n)
def qsc(a:Bs):Option qcq:=bif decide (12000<(a.length:Int)) then(cd 1 (-1)).bind fun b=>some (0,(b,[])) else qb6 fu fu a 0 (0,0) []
abbrev qnn:=wU×Bool×(Int×Int×Int)
abbrev qp1:=Bs->Int->(Int×Int×Int)->Option qnn
abbrev zd5:=wU×Bool×(Int×Int×Int)
abbrev zar:=Int->Int->Int->(Int×Int×Int)->(List Bs)->wV->(List wU)->Option zd5
def q25(d:qp1)(fu:Nat)(k:zar):zar:=fun i g a h b f c=>bif decide (a<g) then bif decide (0<=a/\a.toNat<b.length) then(b[a.toNat]?).bind fun j=>(d j (ae (i+1)) h).bind fun e=>bif !e.2.1 then some ((Tree.node ([],[]) []),(false,e.2.2)) else bif decide (List.length (c++([(Tree.node e.1.val e.1.kids)]:List wU))<=az) then k i g (ae (a+1)) e.2.2 b f (c++([(Tree.node e.1.val e.1.kids)]:List wU)) else none else none else some ((Tree.node (f,[]) c),(true,h))
def qcg(a:qp1)(fu:Nat):Nat->zar|0=>fun _ _ _ _ _ _ _=>none|n+1=>q25 a fu (qcg a fu n)
def zt(a:qp1)(fu:Nat)(e:Bs)(h:Int)(b:Int×Int×Int)(c:List (Bs×Bs)):Option zd5:=(gv c).bind fun g=>(gv e).bind fun i=>(qce fu c e h).bind fun d=>bif(d.length:Int)==0 then some ((Tree.node (g,i) []),(true,(ae (b.1+1),b.2))) else(qmp fu c).bind fun f=>bif !f.1 then some ((Tree.node (g,i) []),(true,(ae (b.1+1),b.2))) else qcg a fu fu h (d.length:Int) 0 (ae (b.1+1),b.2) d f.2 []
def qs4(a:qp1)(fu:Nat)(d:Bs)(g:Int)(c:Int×Int×Int):Option qnn:=(qsc fu d).bind fun b=>(ef b.2.1).bind fun i=>bif i then(cd b.2.1.1 (-8)).bind fun h=>some ((Tree.node ([],[]) []),(false,(c.1,h))) else bif c.1==40 then(cd 2 (-7)).bind fun f=>some ((Tree.node ([],[]) []),(false,(c.1,f))) else bif decide (0<=b.1/\b.1<=(d.length:Int)) then(zt a fu (List.drop b.1.toNat d) g c b.2.2).bind fun e=>some ((Tree.node e.1.val e.1.kids),e.2) else none
def ww(fu:Nat):Nat->qp1|0=>fun _ _ _=>none|n+1=>qs4 (ww fu n) fu
def zq1(c:Bs)(a:Int)(b:Int×Int×Int):Option qnn:=ww fu fu c a b
abbrev zd4:=wU×Bool×(Int×Int×Int)
abbrev zas:=Int->Int->Int->(Int×Int×Int)->(List Bs)->wV->(List wU)->Option zd4
def zdn(j:zas):zas:=fun h f a g b e c=>bif decide (a<f) then bif decide (0<=a/\a.toNat<b.length) then(b[a.toNat]?).bind fun i=>(zq1 fu i (ae (h+1)) g).bind fun d=>bif !d.2.1 then some ((Tree.node ([],[]) []),(false,d.2.2)) else bif decide (List.length (c++([(Tree.node d.1.val d.1.kids)]:List wU))<=az) then j h f (ae (a+1)) d.2.2 b e (c++([(Tree.node d.1.val d.1.kids)]:List wU)) else none else none else some ((Tree.node (e,[]) c),(true,g))
def qmu(fu:Nat):Nat->zas|0=>fun _ _ _ _ _ _ _=>none|n+1=>zdn fu (qmu fu n)
def qs3(b:List (Bs×Bs))(g:Bs)(f:Int)(a:Int×Int×Int):Option zd4:=(gv b).bind fun e=>(gv g).bind fun h=>(qce fu b g f).bind fun c=>bif(c.length:Int)==0 then some ((Tree.node (e,h) []),(true,(ae (a.1+1),a.2))) else(qmp fu b).bind fun d=>bif !d.1 then some ((Tree.node (e,h) []),(true,(ae (a.1+1),a.2))) else qmu fu fu f (c.length:Int) 0 (ae (a.1+1),a.2) c d.2 []
abbrev zre:=wU
def qf2(a:Tree (wV×Bs)):Option zre:=some (Tree.node a.val a.kids)
abbrev zd3:=((Int×Int)×Bool) ⊕ ((Int×Int)×Bool)
def q2u(c:Int)(h:List (Bs×Bs))(g:Bs)(f:List wU)(e:Int)(b:Int×Int)(a:Bool):Option zd3:=bif decide (40<=c) then(cd 2 (-1)).bind fun d=>some (.inl (d,a)) else bif a then some (.inr (b,true)) else some (.inr (b,decide (8<e)))
abbrev qtx:=(Int×(Int×Int)×Bool) ⊕ (Int×(Int×Int)×Bool)
abbrev qxz:=wU->Int->Int->(Int×Int)->Bool->Option qtx
abbrev zat:=Int->(List wU)->Int->Int->Int->(Int×Int)->Bool->Option qtx
def q2x(b:qxz)(fu:Nat)(k:zat):zat:=fun g c d a j f i=>bif decide (a<d) then(ai c a).bind fun h=>(b (Tree.node h.val h.kids) (ae (g+1)) j f i).bind fun m=>bz m (fun l=>some (.inl l)) (fun e=>k g c d (ae (a+1)) e.1 e.2.1 e.2.2) else some (.inr (j,(f,i)))
def qmr(a:qxz)(fu:Nat):Nat->zat|0=>fun _ _ _ _ _ _ _=>none|n+1=>q2x a fu (qmr a fu n)
def qsy(a:qxz)(fu:Nat)(b:Tree (wV×Bs))(e:Int)(c:Int)(g:Int×Int)(i:Bool):Option qtx:=(q2u c b.val.1 b.val.2 b.kids e g i).bind fun h=>bz h (fun f=>some (.inl (c,f))) (fun d=>qmr a fu fu e b.kids (b.kids.length:Int) 0 (ae (c+1)) d.1 d.2)
def qf3(fu:Nat):Nat->qxz|0=>fun _ _ _ _ _=>none|n+1=>qsy (qf3 fu n) fu
def zdk(a:Tree (wV×Bs))(e:Int)(c:Int)(b:Int×Int)(d:Bool):Option qtx:=qf3 fu fu a e c b d
abbrev zrf:=(wU×(Int×Int)×Bool) ⊕ (wU×(Int×Int)×Bool)
def qsx(a:Tree (wV×Bs))(f:Int×Int)(e:Bool):Option zrf:=(zdk fu (Tree.node a.val a.kids) 0 0 f e).bind fun d=>bz d (fun b=>some (.inl ((Tree.node a.val a.kids),b.2))) (fun c=>some (.inr ((Tree.node a.val a.kids),c.2)))
def q26:(Int->wU->Bs->Bs->wV->Option Int):=fun f d b a c=>(ql4 fu (b,(a,c)) [98,111,117,110,100,97,114,121]).bind fun g=>(qfp fu (b,(a,c))).bind fun e=>bif g.2.1 then some 5 else bif decide (60<=(c.length:Int)) then some 5 else(ef e.2).bind fun h=>bif h then some 5 else(ai d.val.1 f).bind fun i=>bif !(e.1==i.2) then some 5 else bif decide (2000<(e.1.length:Int)) then some 5 else some 0
def rz:(Int->Bool->wU->Bs->Bs->wV->Option Int):=fun f e c b a d=>bif e then some 5 else q26 fu f (Tree.node c.val c.kids) b a d
def qs5(a:Tree (wV×Bs)):Option Int:=(qfy fu a.val.1).bind fun e=>bz e (fun c=>bif decide (0<(a.val.2.length:Int)) then rz fu c.2.2.1 true (Tree.node a.val a.kids) c.1 c.2.1 [] else bif !c.2.2.2 then rz fu c.2.2.1 true (Tree.node a.val a.kids) c.1 c.2.1 [] else(fw fu c.1 [109,117,108,116,105,112,97,114,116]).bind fun d=>rz fu c.2.2.1 (!d) (Tree.node a.val a.kids) c.1 c.2.1 []) (fun b=>bif decide (0<(a.val.2.length:Int)) then rz fu b.2.2.1 true (Tree.node a.val a.kids) b.1 b.2.1 b.2.2.2.2 else bif !b.2.2.2.1 then rz fu b.2.2.1 true (Tree.node a.val a.kids) b.1 b.2.1 b.2.2.2.2 else(fw fu b.1 [109,117,108,116,105,112,97,114,116]).bind fun f=>rz fu b.2.2.1 (!f) (Tree.node a.val a.kids) b.1 b.2.1 b.2.2.2.2)
def qsv(a:wU×Int):Option Int:=(qfm fu a.1.val.1).bind fun c=>(ef c).bind fun f=>bif f then some c.1 else bif decide (0<(a.1.kids.length:Int)) then(qs5 fu (Tree.node a.1.val a.1.kids)).bind fun e=>some e else bif decide (12000<(a.1.val.2.length:Int)) then some 1 else(qfg fu a.1.val.2).bind fun b=>bif b != 0 then some b else(qce fu a.1.val.1 a.1.val.2 a.2).bind fun d=>bif decide (0<(d.length:Int)) then some 5 else some 0
def q2v(b:Int)(g:List (Bs×Bs))(d:Bs)(c:List wU)(e:Int)(f:Int×Int):Option (((Int×Int)) ⊕ ((Int×Int))):=(qsv fu ((Tree.node (g,d) c),e)).bind fun a=>bif a != 0 then(cd a b).bind fun h=>some (.inl h) else some (.inr f)
abbrev qty:=(Int×(Int×Int)) ⊕ (Int×(Int×Int))
abbrev qx0:=wU->Int->Int->(Int×Int)->Option qty
abbrev zax:=Int->(List wU)->Int->Int->Int->(Int×Int)->Option qty
def q2y(a:qx0)(fu:Nat)(j:zax):zax:=fun g c d b i f=>bif decide (b<d) then(ai c b).bind fun h=>(a (Tree.node h.val h.kids) (ae (g+1)) i f).bind fun l=>bz l (fun k=>some (.inl k)) (fun e=>j g c d (ae (b+1)) e.1 e.2) else some (.inr (i,f))
def qms(a:qx0)(fu:Nat):Nat->zax|0=>fun _ _ _ _ _ _=>none|n+1=>q2y a fu (qms a fu n)
def qsz(a:qx0)(fu:Nat)(b:Tree (wV×Bs))(d:Int)(c:Int)(g:Int×Int):Option qty:=(q2v fu c b.val.1 b.val.2 b.kids d g).bind fun h=>bz h (fun e=>some (.inl (c,e))) (fun f=>qms a fu fu d b.kids (b.kids.length:Int) 0 (ae (c+1)) f)
def qf4(fu:Nat):Nat->qx0|0=>fun _ _ _ _=>none|n+1=>qsz (qf4 fu n) fu
def zdl(c:Tree (wV×Bs))(a:Int)(b:Int)(d:Int×Int):Option qty:=qf4 fu fu c a b d
abbrev zrg:=(wU×(Int×Int)) ⊕ (wU×(Int×Int))
def qs1(a:Tree (wV×Bs))(e:Int×Int):Option zrg:=(zdl fu (Tree.node a.val a.kids) 0 0 e).bind fun d=>bz d (fun b=>some (.inl ((Tree.node a.val a.kids),b.2))) (fun c=>some (.inr ((Tree.node a.val a.kids),c.2)))
def qst(a:Tree (wV×Bs)):Option ((Int×Int)):=(qf2 (Tree.node a.val a.kids)).bind fun d=>(qsx fu (Tree.node d.val d.kids) (0,0) false).bind fun j=>bz j (fun i=>some i.2.1) (fun c=>bif c.2.2 then(cd 2 (-2)).bind fun h=>some h else(qf2 (Tree.node a.val a.kids)).bind fun e=>(qs1 fu (Tree.node e.val e.kids) c.2.1).bind fun f=>bz f (fun g=>some g.2) (fun k=>(dh).bind fun b=>some b))
abbrev zrb:=wU×(Int×Int)
def qsr(b:wV×Bs):Option zrb:=(qsp fu b).bind fun d=>(ef d).bind fun h=>bif h then some ((Tree.node ([],[]) []),d) else(qs3 fu b.1 b.2 0 (0,(0,0))).bind fun a=>bif !a.2.1 then some ((Tree.node ([],[]) []),a.2.2.2) else(qst fu (Tree.node a.1.val a.1.kids)).bind fun c=>(ef c).bind fun g=>bif g then(cd c.1 (-9)).bind fun f=>some ((Tree.node ([],[]) []),f) else(dh).bind fun e=>some ((Tree.node a.1.val a.1.kids),e)
abbrev zq9:=wU
def q2r(a:Tree (wV×Bs)):Option zq9:=some (Tree.node a.val a.kids)
def qtt(b:Bs)(a:UInt8):Option (Bs×UInt8):=some (b,a)
abbrev zrk:=(Bs×Bool×UInt8) ⊕ ((Bs×Bool) ⊕ ((Bs×Bool) ⊕ (Bs×Bool)))
def qts(a:Bs):Option zrk:=(qtt [55,98,105,116] 127).bind fun b=>(qtt [56,98,105,116] 255).bind fun c=>(fw fu b.1 a).bind fun g=>bif g then some (.inl (b.1,(true,b.2))) else(fw fu c.1 a).bind fun d=>bif d then some (.inl (c.1,(true,c.2))) else(fw fu [98,97,115,101,54,52] a).bind fun f=>bif f then some (.inr (.inl (([98,97,115,101,54,52]:Bs),true))) else(fw fu [113,117,111,116,101,100,45,112,114,105,110,116,97,98,108,101] a).bind fun e=>bif e then some (.inr (.inr (.inl (([113,117,111,116,101,100,45,112,114,105,110,116,97,98,108,101]:Bs),true)))) else some (.inr (.inr (.inr (([]:Bs),false))))
abbrev zrl:=(Bs×(Int×Int)×UInt8) ⊕ ((Bs×(Int×Int)) ⊕ ((Bs×(Int×Int)) ⊕ (Bs×(Int×Int))))
def q39(b:Bs)(q:Bs):Option zrl:=(qts fu q).bind fun s=>bz s (fun a=>bif !a.2.1 then(cd 18 (-3)).bind fun r=>some (.inl (a.1,(r,a.2.2))) else bif decide (12000<(b.length:Int)) then(cd 1 (-1)).bind fun v=>some (.inl (a.1,(v,a.2.2))) else(dh).bind fun m=>some (.inl (a.1,(m,a.2.2)))) (fun u=>bz u (fun d=>bif !d.2 then(cd 18 (-3)).bind fun i=>some (.inr (.inl (d.1,i))) else bif decide (12000<(b.length:Int)) then(cd 1 (-1)).bind fun j=>some (.inr (.inl (d.1,j))) else(dh).bind fun p=>some (.inr (.inl (d.1,p)))) (fun t=>bz t (fun e=>bif !e.2 then(cd 18 (-3)).bind fun g=>some (.inr (.inr (.inl (e.1,g)))) else bif decide (12000<(b.length:Int)) then(cd 1 (-1)).bind fun o=>some (.inr (.inr (.inl (e.1,o)))) else(dh).bind fun f=>some (.inr (.inr (.inl (e.1,f))))) (fun c=>bif !c.2 then(cd 18 (-3)).bind fun l=>some (.inr (.inr (.inr (c.1,l)))) else bif decide (12000<(b.length:Int)) then(cd 1 (-1)).bind fun h=>some (.inr (.inr (.inr (c.1,h)))) else(dh).bind fun k=>some (.inr (.inr (.inr (c.1,k)))))))
def qtr(a:Bs):Option ((Int×Int)×Bs):=bif decide (a.length<=az) then(dh).bind fun b=>some (b,a) else none
abbrev zay:=Int->Int->Bs->Int->Int->(Int×Int)->Bs->Option ((Int×Int)×Bs)
def qrv(fu:Nat)(i:zay):zay:=fun h c d e b f a=>bif decide (b<e) then(ai d b).bind fun j=>bif j==61 then(dh).bind fun l=>some (l,a) else bif decide (0<List.length ([65,66,67,68,69,70,71,72,73,74,75,76,77,78,79,80,81,82,83,84,85,86,87,88,89,90,97,98,99,100,101,102,103,104,105,106,107,108,109,110,111,112,113,114,115,116,117,118,119,120,121,122,48,49,50,51,52,53,54,55,56,57,43,47]:Bs)) then(wu ([65,66,67,68,69,70,71,72,73,74,75,76,77,78,79,80,81,82,83,84,85,86,87,88,89,90,97,98,99,100,101,102,103,104,105,106,107,108,109,110,111,112,113,114,115,116,117,118,119,120,121,122,48,49,50,51,52,53,54,55,56,57,43,47]:Bs) j).bind fun g=>bif decide (g<0) then i h c d e (ae (b+1)) f a else bif decide (8<=(ae (c+6))) then bif decide (0<=ae ((ae (c+6))-8)) then bif decide (List.length (a++([d9 (Int.fdiv (ae (((BitVec.ofInt 64 (ae (h*2 ^ min (6:Int).toNat 64))|||BitVec.ofInt 64 g).toNat:Int))) (2 ^ min (ae ((ae (c+6))-8)).toNat 64))]:Bs))<=az) then bif decide (0<=ae ((ae (c+6))-8)) then i (ae (((BitVec.ofInt 64 (ae (((BitVec.ofInt 64 (ae (h*2 ^ min (6:Int).toNat 64))|||BitVec.ofInt 64 g).toNat:Int)))&&&BitVec.ofInt 64 (ae ((ae (1*2 ^ min (ae ((ae (c+6))-8)).toNat 64))-1))).toNat:Int))) (ae ((ae (c+6))-8)) d e (ae (b+1)) f (a++([d9 (Int.fdiv (ae (((BitVec.ofInt 64 (ae (h*2 ^ min (6:Int).toNat 64))|||BitVec.ofInt 64 g).toNat:Int))) (2 ^ min (ae ((ae (c+6))-8)).toNat 64))]:Bs)) else none else none else none else i (ae (((BitVec.ofInt 64 (ae (h*2 ^ min (6:Int).toNat 64))|||BitVec.ofInt 64 g).toNat:Int))) (ae (c+6)) d e (ae (b+1)) f a else none else(dh).bind fun k=>some (k,a)
def qb1(fu:Nat):Nat->zay|0=>fun _ _ _ _ _ _ _=>none|n+1=>qrv fu (qb1 fu n)
def qru(a:Bs):Option ((Int×Int)×Bs):=bif decide (24000<(a.length:Int)) then(cd 1 (-1)).bind fun b=>some (b,[]) else qb1 fu fu 0 0 a (a.length:Int) 0 (0,0) []
def zc9(fu:Nat)(d:yx):yx:=fun a b=>bif decide (0<(a.length:Int)) then(ai a (ae ((a.length:Int)-1))).bind fun c=>bif c==b then bif decide (0<=ae ((a.length:Int)-1)/\ae ((a.length:Int)-1)<=(a.length:Int)) then d (List.take (ae ((a.length:Int)-1)).toNat a) b else none else some a else some a
def q1q(fu:Nat):Nat->yx|0=>fun _ _=>none|n+1=>zc9 fu (q1q fu n)
def zc8(b:Bs)(a:UInt8):Option (Bs):=q1q fu fu b a
def zc6(fu:Nat)(e:qi7):qi7:=fun d b a=>bif decide (b<(d.length:Int)) then(ai d b).bind fun c=>bif decide (128<=c) then bif decide (a.length=256) then bif decide (a.length=a.length)&&decide (a.length=256) then bif decide (a.length=256)&&(true&&true) then some (a,false) else none else none else none else(a[c.toNat]?).bind fun f=>e d (ae (b+1)) (List.set a c.toNat true) else bif decide (a.length=256) then bif decide (a.length=a.length)&&decide (a.length=256) then bif decide (a.length=256)&&(true&&true) then some (a,true) else none else none else none
def q1j(fu:Nat):Nat->qi7|0=>fun _ _ _=>none|n+1=>zc6 fu (q1j fu n)
def q1i(a:Bs):Option ((List Bool)×Bool):=q1j fu fu a 0 (List.replicate 256 false)
def qr2(c:UInt8)(a:List Bool):Option (Bool×(List Bool)):=(a[c.toNat]?).bind fun b=>some (b,a)
def q1p(fu:Nat)(e:yy):yy:=fun a c=>bif decide (0<(a.length:Int)) then(ai a (ae ((a.length:Int)-1))).bind fun d=>(qr2 d c).bind fun b=>bif !b.1 then some (a,b.2) else bif decide (0<=ae ((a.length:Int)-1)/\ae ((a.length:Int)-1)<=(a.length:Int)) then e (List.take (ae ((a.length:Int)-1)).toNat a) b.2 else none else some (a,c)
def qln(fu:Nat):Nat->yy|0=>fun _ _=>none|n+1=>q1p fu (qln fu n)
def q1o(b:Bs)(a:List Bool):Option (Bs×(List Bool)):=qln fu fu b a
def q1h:qbc:=fun b d=>(q1i fu d).bind fun a=>bif decide (a.1.length=List.length (List.replicate 256 false))&&decide (a.1.length=256) then bif a.2 then(q1o fu b a.1).bind fun c=>some c.1 else none else none
def qr1:qbb:=fun c b a=>bif a then(ai b 0).bind fun d=>(zc8 fu c d).bind fun e=>some e else q1h fu c b
def q1g:qbc:=fun b a=>bif(a.length:Int)==1 then(ai a 0).bind fun c=>qr1 fu b a (decide (c<128)) else qr1 fu b a false
def qr0:qbb:=fun b c a=>bif a then some b else q1g fu b c
def qrz(b:Bs)(a:Bs):Option (Bs):=bif(b.length:Int)==0 then qr0 fu b a true else qr0 fu b a (a==([]:Bs))
def qs7(fu:Nat)(d:gf):gf:=fun b a c=>bif decide (a<(b.length:Int)) then(ai b a).bind fun h=>bif h==61 then bif decide (0<=ae (a+1)/\ae (a+1)<=(if(b.length:Int)<ae (a+3) then(b.length:Int) else ae (a+3))/\(if(b.length:Int)<ae (a+3) then(b.length:Int) else ae (a+3))<=(b.length:Int)) then(wt (List.take ((if(b.length:Int)<ae (a+3) then(b.length:Int) else ae (a+3)).toNat-(ae (a+1)).toNat) (List.drop (ae (a+1)).toNat b))).bind fun e=>bif e.2 then bif decide (List.length (c++([e.1]:Bs))<=az) then d b (ae ((ae (a+2))+1)) (c++([e.1]:Bs)) else none else(ai b a).bind fun f=>bif decide (List.length (c++([f]:Bs))<=az) then d b (ae (a+1)) (c++([f]:Bs)) else none else none else(ai b a).bind fun g=>bif decide (List.length (c++([g]:Bs))<=az) then d b (ae (a+1)) (c++([g]:Bs)) else none else some c
def qci(fu:Nat):Nat->gf|0=>fun _ _ _=>none|n+1=>qs7 fu (qci fu n)
def q28(a:Bs):Option (Bs):=qci fu fu a 0 []
abbrev qig:=Bs->(Int×Int)->Bs->Option ((Int×Int)×Bs)
def qmx(h:qig):Bs->Int->Bs->Bs->(Int×Int)->Bs->Option ((Int×Int)×Bs):=fun e d g f c a=>(q28 fu g).bind fun b=>bif decide (List.length (a++b)<=az) then bif decide (List.length ((a++b)++f)<=az) then bif decide (0<=d/\d<=(e.length:Int)) then h (List.drop d.toNat e) c ((a++b)++f) else none else none else none
def qmw(g:qig):Bs->Int->Bs->(Int×Int)->Bs->Option ((Int×Int)×Bs):=fun f e b c d=>bif decide (0<=(b.length:Int)/\(b.length:Int)<=e/\e<=(f.length:Int)) then(qrz fu b [32,9]).bind fun a=>bif decide (0<List.length ([61]:Bs)) then(qfj a ([61]:Bs)).bind fun h=>bif h then bif decide (0<=ae ((a.length:Int)-1)/\ae ((a.length:Int)-1)<=(a.length:Int)) then qmx fu g f e (List.take (ae ((a.length:Int)-1)).toNat a) [] c d else none else qmx fu g f e a (List.take (e.toNat-(b.length:Int).toNat) (List.drop (b.length:Int).toNat f)) c d else none else none
def qch(f:qig):Bs->Int->(Int×Int)->Bs->Option ((Int×Int)×Bs):=fun d a b c=>bif decide (0<=a/\a<=(d.length:Int)) then bif decide (0<List.length ([10]:Bs)) then(zj (List.take a.toNat d) ([10]:Bs)).bind fun e=>bif decide ((e.length:Int)<a) then bif decide (0<List.length ([13]:Bs)) then(zj e ([13]:Bs)).bind fun g=>qmw fu f d a g b c else none else qmw fu f d a e b c else none else none
def q27(e:qig):qig:=fun b c a=>bif decide (0<(b.length:Int)) then(wu b 10).bind fun d=>bif(ae (d+1))==0 then qch fu e b (b.length:Int) c a else qch fu e b (ae (d+1)) c a else(dh).bind fun f=>some (f,a)
def qmv(fu:Nat):Nat->qig|0=>fun _ _ _=>none|n+1=>q27 fu (qmv fu n)
def qs6(a:Bs):Option ((Int×Int)×Bs):=bif decide (48000<(a.length:Int)) then(cd 1 (-1)).bind fun b=>some (b,[]) else qmv fu fu a (0,0) []
def qnh(a:Bs)(q:Bs):Option ((Int×Int)×Bs):=(q39 fu a q).bind fun m=>bz m (fun g=>(ef g.2.1).bind fun o=>bif o then some (g.2.1,[]) else(qtr a).bind fun l=>some l) (fun k=>bz k (fun j=>(ef j.2).bind fun d=>bif d then some (j.2,[]) else(qru fu a).bind fun b=>some b) (fun p=>bz p (fun i=>(ef i.2).bind fun c=>bif c then some (i.2,[]) else(qs6 fu a).bind fun f=>some f) (fun h=>(ef h.2).bind fun e=>bif e then some (h.2,[]) else none)))
abbrev zaz:=wV->Int->Int->wU->Option (Bs)
def q4a(f:zaz):zaz:=fun d c b a=>bif decide (b<c) then(ai d b).bind fun e=>(fw fu e.1 [67,111,110,116,101,110,116,45,84,114,97,110,115,102,101,114,45,69,110,99,111,100,105,110,103]).bind fun h=>bif !h then f d c (ae (b+1)) (Tree.node a.val a.kids) else(qnh fu a.val.2 e.2).bind fun g=>bif g.1.1 != 18 then some g.2 else f d c (ae (b+1)) (Tree.node a.val a.kids) else(qnh fu a.val.2 [55,98,105,116]).bind fun i=>some i.2
def qni(fu:Nat):Nat->zaz|0=>fun _ _ _ _=>none|n+1=>q4a fu (qni fu n)
def qtv(a:Tree (wV×Bs)):Option (Bs):=qni fu fu a.val.1 (a.val.1.length:Int) 0 (Tree.node a.val a.kids)
abbrev qih:=wV->Int->Int->wU->Bs->Bs->Option (Bs)
def qlp(fu:Nat)(g:qih):qih:=fun f c d a e b=>g f c (ae (d+1)) (Tree.node a.val a.kids) b e
def qb4(j:qih):(wV->Int->Int->Bool->wU->(Bs×Bs)->Bs->Bs->Option (Bs)):=fun f d e g a h c b=>bif g then(qlt fu h).bind fun i=>bif decide (List.length (b++i)<=az) then qlp fu j f d e (Tree.node a.val a.kids) (b++i) c else none else qlp fu j f d e (Tree.node a.val a.kids) b c
def qlo(fu:Nat):(wU->Bs->Bs->Bs->Option (Bs)):=fun g e a b=>(om (g.kids.length:Int)).bind fun c=>bif decide (c.length+List.length ([32]:Bs)<=ap) then(om (b.length:Int)).bind fun d=>bif decide (List.length (c++[32])+d.length<=ap) then bif decide (List.length ((c++[32])++d)+List.length ([32]:Bs)<=ap) then(om (e.length:Int)).bind fun f=>bif decide (List.length (((c++[32])++d)++[32])+f.length<=ap) then bif decide (List.length ((((c++[32])++d)++[32])++f)+List.length ([13,10]:Bs)<=ap) then bif decide (List.length (a++(((((c++[32])++d)++[32])++f)++[13,10]))<=az) then bif decide (List.length ((a++(((((c++[32])++d)++[32])++f)++[13,10]))++b)<=az) then bif decide (List.length (((a++(((((c++[32])++d)++[32])++f)++[13,10]))++b)++e)<=az) then some (((a++(((((c++[32])++d)++[32])++f)++[13,10]))++b)++e) else none else none else none else none else none else none else none else none
def q1v(h:qih):qih:=fun f e c a d b=>bif decide (c<e) then(ai f c).bind fun g=>(fw fu g.1 [82,101,99,101,105,118,101,100]).bind fun l=>bif !l then(fw fu g.1 [67,111,110,116,101,110,116,45,84,114,97,110,115,102,101,114,45,69,110,99,111,100,105,110,103]).bind fun k=>qb4 fu h f e c (!k) (Tree.node a.val a.kids) g d b else qb4 fu h f e c false (Tree.node a.val a.kids) g d b else bif(a.kids.length:Int)==0 then(qtv fu (Tree.node a.val a.kids)).bind fun i=>(qlr fu i).bind fun j=>qlo fu (Tree.node a.val a.kids) j d b else qlo fu (Tree.node a.val a.kids) [] d b
def zl(fu:Nat):Nat->qih|0=>fun _ _ _ _ _ _=>none|n+1=>q1v fu (zl fu n)
def qr3(e:Int)(a:List (Bs×Bs))(c:Bs)(b:List wU)(d:Bs):Option (Bs):=zl fu fu a (a.length:Int) 0 (Tree.node (a,c) b) d []
def q2t(a:Int)(f:List (Bs×Bs))(d:Bs)(b:List wU)(g:Int)(e:Bs):Option (Bs):=(qr3 fu a f d b e).bind fun c=>some c
abbrev qx1:=wU->Int->Int->Bs->Option (Int×Bs)
abbrev za0:=Int->(List wU)->Int->Int->Int->Bs->Option (Int×Bs)
def q2z(b:qx1)(fu:Nat)(j:za0):za0:=fun f c e a h d=>bif decide (a<e) then(ai c a).bind fun g=>(b (Tree.node g.val g.kids) (ae (f+1)) h d).bind fun i=>j f c e (ae (a+1)) i.1 i.2 else some (h,d)
def qmt(a:qx1)(fu:Nat):Nat->za0|0=>fun _ _ _ _ _ _=>none|n+1=>q2z a fu (qmt a fu n)
def qs0(a:qx1)(fu:Nat)(b:Tree (wV×Bs))(d:Int)(c:Int)(e:Bs):Option (Int×Bs):=(q2t fu c b.val.1 b.val.2 b.kids d e).bind fun f=>qmt a fu fu d b.kids (b.kids.length:Int) 0 (ae (c+1)) f
def qf5(fu:Nat):Nat->qx1|0=>fun _ _ _ _=>none|n+1=>qs0 (qf5 fu n) fu
def zdm(c:Tree (wV×Bs))(a:Int)(b:Int)(d:Bs):Option (Int×Bs):=qf5 fu fu c a b d
abbrev zrh:=wU×Bs
def q20(a:Tree (wV×Bs))(b:Bs):Option zrh:=(zdm fu (Tree.node a.val a.kids) 0 0 b).bind fun c=>some ((Tree.node a.val a.kids),c.2)
abbrev zra:=wU×Bs
def q2s(a:Tree (wV×Bs))(c:Bs):Option zra:=(qf2 (Tree.node a.val a.kids)).bind fun b=>(q20 fu (Tree.node b.val b.kids) c).bind fun d=>some ((Tree.node a.val a.kids),d.2)
def zk(c:wV×Bs):Option ((Int×Int)×Bs):=(qsr fu c).bind fun a=>(ef a.2).bind fun f=>bif f then some (a.2,[]) else(q2r (Tree.node a.1.val a.1.kids)).bind fun b=>(q2s fu (Tree.node b.val b.kids) []).bind fun d=>(dh).bind fun e=>some (e,d.2)
def qrt:Option Bool:=(zdb fu ([(([65]:Bs),([98,32,32,99]:Bs))]:List (Bs×Bs)) ([([97]:Bs)]:List Bs)).bind fun a=>bif decide (0<List.length ([97,32,13,10,13,10]:Bs)) then(zda fu ([97,32,13,10,13,10]:Bs)).bind fun c=>(zk fu ([],[])).bind fun b=>bif a.1.1==0 then bif c.1.1==0 then bif b.1.1==0 then bif a.2==([97,58,98,32,99,13,10]:Bs) then bif c.2==([97,13,10]:Bs) then some (b.2==([48,32,48,32,48,13,10]:Bs)) else some false else some false else some false else some false else some false else none
def qr4(c:wV×Bs)(h:wV×Bs):Option (Bool×(Int×Int)):=(zk fu c).bind fun a=>(ef a.1).bind fun i=>bif i then some (false,a.1) else(zk fu h).bind fun b=>(ef b.1).bind fun d=>bif d then(cd b.1.1 (-10)).bind fun g=>some (false,g) else(qll a.2 b.2).bind fun f=>(dh).bind fun e=>some (f,e)
def fa(b:Int)(a:Int):Option ((Int×Int)):=some (b,a)
def gg(a:Int)(b:Int)(c:Int):Option Bool:=bif decide (b<=a) then some (decide (a<=c)) else some false
abbrev yq:=Bs->Int->Option Bool
def qys(fu:Nat)(f:yq):yq:=fun a b=>bif decide (b<(a.length:Int)) then(ai a b).bind fun e=>(gg (e.toNat:Int) 33 126).bind fun g=>bif !g then some false else(ai a b).bind fun c=>bif c==58 then some false else f a (ae (b+1)) else(gg (a.length:Int) 1 60).bind fun d=>some d
def qje(fu:Nat):Nat->yq|0=>fun _ _=>none|n+1=>qys fu (qje fu n)
def qjd(a:Bs):Option Bool:=qje fu fu a 0
abbrev za2:=UInt8->Bs->Int->Option Bool
def qq0(fu:Nat)(e:za2):za2:=fun c a b=>bif decide (b<(a.length:Int)) then(ai a b).bind fun d=>bif d==c then some true else e c a (ae (b+1)) else some false
def qes(fu:Nat):Nat->za2|0=>fun _ _ _=>none|n+1=>qq0 fu (qes fu n)
def y8(b:UInt8)(a:Bs):Option Bool:=qes fu fu b a 0
def iw(a:UInt8):Option Bool:=bif a==32 then some true else some (a==9)
def qzy(fu:Nat)(b:wg):wg:=fun a=>bif decide (0<=(1:Int)/\1<=(a.length:Int)) then b (List.drop (1:Int).toNat a) else none
def qzx(fu:Nat)(b:wg):wg:=fun a=>bif decide (0<(a.length:Int)) then(ai a (ae ((a.length:Int)-1))).bind fun c=>(iw c).bind fun d=>bif d then bif decide (0<=ae ((a.length:Int)-1)/\ae ((a.length:Int)-1)<=(a.length:Int)) then b (List.take (ae ((a.length:Int)-1)).toNat a) else none else some a else some a
def qke(fu:Nat):Nat->wg|0=>fun _=>none|n+1=>qzx fu (qke fu n)
def qkd(c:wg):zp4:=fun b a=>bif a then qzy fu c b else qke fu fu b
def qzw(b:wg):wg:=fun a=>bif decide (0<(a.length:Int)) then(ai a 0).bind fun c=>(iw c).bind fun d=>qkd fu b a d else qkd fu b a false
def qkc(fu:Nat):Nat->wg|0=>fun _=>none|n+1=>qzw fu (qkc fu n)
def qq9(a:Bs):Option (Bs):=qkc fu fu a
def qyr(d:qd0):qd0:=fun a b=>bif decide (b<(a.length:Int)) then(ai a b).bind fun c=>(y8 fu c [13,10,0]).bind fun f=>bif f then some 11 else d a (ae (b+1)) else(qq9 fu a).bind fun e=>bif !(e==a) then some 11 else some 0
def qec(fu:Nat):Nat->qd0|0=>fun _ _=>none|n+1=>qyr fu (qec fu n)
def qjc(b:Bs)(a:Bs):Option Int:=(qjd fu b).bind fun c=>bif !c then some 10 else bif decide (4000<(a.length:Int)) then some 1 else qec fu fu a 0
abbrev qij:=Bs->Int->(List Int)->Option ((List Bs))
abbrev qik:=Bs->Int->Int->Int->(List Int)->(List Bs)->Option ((List Bs))
abbrev qd4:=Bs->Int->(List Int)->(List Bs)->Option ((List Bs))
def qqs(fu:Nat)(b:qij):qij:=fun d c a=>b d (ae (c+1)) a
def qqr(d:qij):Bs->Int->Bool->(List Int)->Option ((List Bs)):=fun e b c a=>bif c then bif decide (List.length (a++([b]:List Int))<=az) then qqs fu d e b (a++([b]:List Int)) else none else qqs fu d e b a
def qqt(fu:Nat)(h:qd4)(e:qik):qik:=fun g f d b a c=>e g f d (ae (b+1)) a c
def qjj(h:qd4)(g:qik):Bs->Int->Int->Int->Int->Bool->(List Int)->(List Bs)->Option ((List Bs)):=fun j i f b d e a c=>bif e then qqt fu h g j i d b a c else qqt fu h g j i f b a c
def qyv(h:qd4)(i:qik):qik:=fun f b a d c e=>bif decide (d<(c.length:Int)) then bif decide (0<=d/\d.toNat<c.length) then(c[d.toNat]?).bind fun g=>bif decide (b<g) then bif decide ((ae (g-b))<=78) then qjj fu h i f b a d g true c e else qjj fu h i f b a d g (decide (a<0)) c e else qjj fu h i f b a d g false c e else none else bif decide (a<0) then bif decide (0<=b/\b<=(f.length:Int)) then bif decide (List.length (e++([List.drop b.toNat f]:List Bs))<=az) then some (e++([List.drop b.toNat f]:List Bs)) else none else none else bif decide (0<=b/\b<=a/\a<=(f.length:Int)) then bif decide (List.length (e++([List.take (a.toNat-b.toNat) (List.drop b.toNat f)]:List Bs))<=az) then h f a c (e++([List.take (a.toNat-b.toNat) (List.drop b.toNat f)]:List Bs)) else none else none
def qbf(fu:Nat)(a:qd4):Nat->qik|0=>fun _ _ _ _ _ _=>none|n+1=>qyv fu a (qbf fu a n)
def qqq(e:qd4):qd4:=fun c b d a=>bif decide (78<(ae ((c.length:Int)-b))) then qbf fu e fu c b (-1) 0 d a else bif decide (0<=b/\b<=(c.length:Int)) then bif decide (List.length (a++([List.drop b.toNat c]:List Bs))<=az) then some (a++([List.drop b.toNat c]:List Bs)) else none else none
def wi(fu:Nat):Nat->qd4|0=>fun _ _ _ _=>none|n+1=>qqq fu (wi fu n)
def qqp(d:qij):qij:=fun b c a=>bif decide (c<(b.length:Int)) then(ai b c).bind fun g=>(iw g).bind fun h=>bif h then(ai b (ae (c-1))).bind fun e=>(iw e).bind fun f=>qqr fu d b c (!f) a else qqr fu d b c false a else wi fu fu b 0 a []
def qed(fu:Nat):Nat->qij|0=>fun _ _ _=>none|n+1=>qqp fu (qed fu n)
def qji(a:Bs)(b:Bs):Option ((List Bs)):=bif decide (a.length+List.length ([58,32]:Bs)<=ap) then bif decide (List.length (a++[58,32])+b.length<=ap) then qed fu fu ((a++[58,32])++b) (ae ((a.length:Int)+3)) [] else none else none
abbrev za3:=Int->(Int×Int)->(List Bs)->Option ((Int×Int))
def qyu(fu:Nat)(e:za3):za3:=fun b c a=>bif decide (b<(a.length:Int)) then bif decide (0<=b/\b.toNat<a.length) then(a[b.toNat]?).bind fun d=>bif decide (998<(d.length:Int)) then(fa 1 b).bind fun f=>some f else e (ae (b+1)) c a else none else some (0,0)
def qjh(fu:Nat):Nat->za3|0=>fun _ _ _=>none|n+1=>qyu fu (qjh fu n)
def qqo(a:Bs)(b:Bs):Option ((Int×Int)):=(qjc fu a b).bind fun d=>bif d != 0 then(qjc fu a b).bind fun f=>(fa f (-1)).bind fun e=>some e else(qji fu a b).bind fun c=>qjh fu fu 0 (0,0) c
abbrev za4:=wV->Int->(Int×Int)->Option ((Int×Int))
def qyt(h:za4):za4:=fun b a c=>bif decide (a<(b.length:Int)) then(ai b a).bind fun g=>(ai b a).bind fun e=>(qqo fu g.1 e.2).bind fun d=>bif d.1 != 0 then(fa d.1 a).bind fun f=>some f else h b (ae (a+1)) c else some (0,0)
def qjg(fu:Nat):Nat->za4|0=>fun _ _ _=>none|n+1=>qyt fu (qjg fu n)
def qjf(a:List (Bs×Bs)):Option ((Int×Int)):=bif decide (60<(a.length:Int)) then(fa 2 (-1)).bind fun b=>some b else qjg fu fu a 0 (0,0)
abbrev za5:=wV->Bs->Int->Int->(List Bs)->Option (Bs)
abbrev qp3:=wV->Bs->Int->Option (Bs)
def qyy(fu:Nat)(g:qp3)(h:za5):za5:=fun f c e b a=>bif decide (b<(a.length:Int)) then bif decide (0<=b/\b.toNat<a.length) then(a[b.toNat]?).bind fun d=>bif decide (c.length+d.length<=ap) then bif decide (List.length (c++d)+List.length ([13,10]:Bs)<=ap) then h f ((c++d)++[13,10]) e (ae (b+1)) a else none else none else none else g f c (ae (e+1))
def qee(fu:Nat)(a:qp3):Nat->za5|0=>fun _ _ _ _ _=>none|n+1=>qyy fu a (qee fu a n)
def qyx(f:qp3):qp3:=fun b c a=>bif decide (a<(b.length:Int)) then(ai b a).bind fun e=>(ai b a).bind fun d=>(qji fu e.1 d.2).bind fun g=>qee fu f fu b c a 0 g else bif decide (c.length+List.length ([13,10]:Bs)<=ap) then bif decide (List.length (c++[13,10])<=maxLen) then some (c++[13,10]) else none else none
def qbg(fu:Nat):Nat->qp3|0=>fun _ _ _=>none|n+1=>qyx fu (qbg fu n)
def qyw(a:List (Bs×Bs)):Option (Bs):=qbg fu fu a [] 0
def ue(a:Bs)(b:Int):Option Bool:=bif decide ((ae (b+1))<(a.length:Int)) then(ai a b).bind fun d=>bif d==13 then(ai a (ae (b+1))).bind fun c=>some (c==10) else some false else some false
abbrev qx7:=Bs->Int->Int->(Int×Int)->Option ((Int×Int))
def qrg(fu:Nat)(g:qx7):Bs->Int->Int->Bool->(Int×Int)->Option ((Int×Int)):=fun f d c b a=>bif b then(fa 11 (-5)).bind fun e=>some e else bif decide (998<=(ae (c-d))) then(fa 1 (-6)).bind fun h=>some h else g f d (ae (c+1)) a
def q0g(d:qx7):qx7:=fun b e a c=>bif decide (a<(b.length:Int)) then(ue b a).bind fun g=>bif g then d b (ae ((ae (a+1))+1)) (ae ((ae (a+1))+1)) c else(ai b a).bind fun f=>bif f==13 then qrg fu d b e a true c else(ai b a).bind fun h=>qrg fu d b e a (h==10) c else some (0,0)
def qkt(fu:Nat):Nat->qx7|0=>fun _ _ _ _=>none|n+1=>q0g fu (qkt fu n)
def qrf(a:Bs):Option ((Int×Int)):=qkt fu fu a 0 0 (0,0)
def qrn(a:wV×Bs):Option ((Int×Int)):=(qjf fu a.1).bind fun b=>bif b.1 != 0 then some b else bif decide (12000<(a.2.length:Int)) then(fa 1 (-4)).bind fun f=>some f else(qyw fu a.1).bind fun e=>bif decide (12000<(ae ((e.length:Int)+(a.2.length:Int)))) then(fa 1 (-4)).bind fun c=>some c else(qrf fu a.2).bind fun d=>some d
abbrev za7:=Int->Bs->Option (Bs)
def qek(fu:Nat)(c:za7):za7:=fun b a=>bif decide (b<(a.length:Int)) then bif decide (0<=b/\b.toNat<a.length) then(a[b.toNat]?).bind fun d=>(gg (d.toNat:Int) 65 90).bind fun f=>bif f then bif decide (0<=b/\b.toNat<a.length) then(a[b.toNat]?).bind fun e=>bif decide (0<=b/\b.toNat<a.length) then(a[b.toNat]?).bind fun g=>c (ae (b+1)) (List.set a b.toNat (e+32)) else none else none else c (ae (b+1)) a else none else some a
def wl(fu:Nat):Nat->za7|0=>fun _ _=>none|n+1=>qek fu (wl fu n)
def rq(a:Bs):Option (Bs):=bif decide (a.length<=maxLen) then wl fu fu 0 a else none
def fg(d:Bs)(a:Bs):Option Bool:=(rq fu d).bind fun b=>(rq fu a).bind fun c=>some (b==c)
abbrev za9:=wV->Bs->Int->(List Bs)->Option ((List Bs))
def qz3(e:za9):za9:=fun c d b a=>bif decide (b<(c.length:Int)) then(ai c b).bind fun g=>(fg fu g.1 d).bind fun h=>bif h then(ai c b).bind fun f=>bif decide (List.length (a++([f.2]:List Bs))<=az) then e c d (ae (b+1)) (a++([f.2]:List Bs)) else none else e c d (ae (b+1)) a else some a
def qe0(fu:Nat):Nat->za9|0=>fun _ _ _ _=>none|n+1=>qz3 fu (qe0 fu n)
def qkh(b:List (Bs×Bs))(a:Bs):Option ((List Bs)):=qe0 fu fu b a 0 []
def qz9(fu:Nat)(d:qd0):qd0:=fun b a=>bif decide (a<(b.length:Int)) then(ai b a).bind fun c=>(iw c).bind fun e=>bif e then d b (ae (a+1)) else some a else some a
def qkp(fu:Nat):Nat->qd0|0=>fun _ _=>none|n+1=>qz9 fu (qkp fu n)
def ui(b:Bs)(a:Int):Option Int:=qkp fu fu b a
def qez(a:UInt8):Option Bool:=(gg (a.toNat:Int) 33 126).bind fun b=>bif b then(y8 fu a [40,41,60,62,64,44,59,58,92,34,47,91,93,63,61,42,37,39]).bind fun c=>some (!c) else some false
abbrev zbb:=Bs->Int->Bs->Option Int
def qz8(d:zbb):zbb:=fun b a c=>bif decide (a<(b.length:Int)) then(ai b a).bind fun g=>(qez fu g).bind fun h=>bif h then d b (ae (a+1)) c else(ai b a).bind fun e=>(y8 fu e c).bind fun f=>bif f then d b (ae (a+1)) c else some a else some a
def qko(fu:Nat):Nat->zbb|0=>fun _ _ _=>none|n+1=>qz8 fu (qko fu n)
def qe2(c:Bs)(a:Int)(b:Bs):Option Int:=qko fu fu c a b
abbrev yt:=Bs->Bs->Int->Option Int
def qqn(fu:Nat)(d:yt):yt:=fun c b a=>bif decide ((ae (a+(b.length:Int)))<=(c.length:Int)) then bif decide (0<=a/\a<=ae (a+(b.length:Int))/\ae (a+(b.length:Int))<=(c.length:Int)) then bif(List.take ((ae (a+(b.length:Int))).toNat-a.toNat) (List.drop a.toNat c))==b then some a else d c b (ae (a+1)) else none else some (-1)
def qbe(fu:Nat):Nat->yt|0=>fun _ _ _=>none|n+1=>qqn fu (qbe fu n)
def y6(c:Bs)(a:Bs)(b:Int):Option Int:=qbe fu fu c a b
abbrev qim:=Bs->Int->Int->Int->Int->Option Int
def qz6(fu:Nat)(f:qim):qim:=fun b d c g a=>(ai b a).bind fun e=>f b d c (ae ((ae (10*g))+((e-48).toNat:Int))) (ae (a+1))
def qkl(f:qim):Bs->Int->Int->Int->Int->Bool->Option Int:=fun e d b g c a=>bif a then some (-1) else qz6 fu f e d b g c
def qz5(f:qim):qim:=fun b d c e a=>bif decide (a<(b.length:Int)) then(ai b a).bind fun g=>(gg (g.toNat:Int) 48 57).bind fun i=>bif !i then qkl fu f b d c e a true else qkl fu f b d c e a (decide (9<=a)) else(gg (b.length:Int) d c).bind fun h=>bif !h then some (-1) else some e
def qkk(fu:Nat):Nat->qim|0=>fun _ _ _ _ _=>none|n+1=>qz5 fu (qkk fu n)
def qkj(c:Bs)(a:Int)(b:Int):Option Int:=qkk fu fu c a b 0 0
abbrev zbc:=Int->Option (Bs)
def qra(b:zbc)(fu:Nat)(a:Int):Option (Bs):=bif decide (a<10) then bif decide (0<=a/\a<=IntKind.u64.wrap (a+1)/\IntKind.u64.wrap (a+1)<=(List.length ([48,49,50,51,52,53,54,55,56,57]:Bs):Int)) then some (List.take ((IntKind.u64.wrap (a+1)).toNat-a.toNat) (List.drop a.toNat [48,49,50,51,52,53,54,55,56,57])) else none else(b (IntKind.u64.wrap (Int.tdiv a 10))).bind fun c=>bif decide (0<=Int.tmod a 10/\Int.tmod a 10<=IntKind.u64.wrap ((Int.tmod a 10)+1)/\IntKind.u64.wrap ((Int.tmod a 10)+1)<=(List.length ([48,49,50,51,52,53,54,55,56,57]:Bs):Int)) then bif decide (c.length+List.length (List.take ((IntKind.u64.wrap ((Int.tmod a 10)+1)).toNat-(Int.tmod a 10).toNat) (List.drop (Int.tmod a 10).toNat ([48,49,50,51,52,53,54,55,56,57]:Bs)))<=ap) then some (c++(List.take ((IntKind.u64.wrap ((Int.tmod a 10)+1)).toNat-(Int.tmod a 10).toNat) (List.drop (Int.tmod a 10).toNat [48,49,50,51,52,53,54,55,56,57]))) else none else none
def qki(fu:Nat):Nat->zbc|0=>fun _=>none|n+1=>qra (qki fu n) fu
def qz4(a:Int):Option (Bs):=qki fu fu a
def rr(a:Int):Option (Bs):=bif decide (a<0) then(qz4 fu (IntKind.u64.wrap ((IntKind.u64.wrap (ae (0-(ae (a+1)))))+1))).bind fun b=>bif decide (List.length ([45]:Bs)+b.length<=ap) then some (([45]:Bs)++b) else none else(qz4 fu (IntKind.u64.wrap (a))).bind fun c=>some c
abbrev q4g:=(Bs×Bs×Int×Bool)×Bool
def qe1:Bs->(Bs×Bs×Int×Bool)->(Bs×Bs×Int×Bool)->Option q4g:=fun c d a=>(qkj fu c 1 9).bind fun b=>bif !(a.1==([]:Bs)) then bif decide (0<=b) then(rr fu b).bind fun e=>some ((a.1,(a.2.1,(b,a.2.2.2))),e==c) else some ((a.1,(a.2.1,(b,a.2.2.2))),false) else some ((a.1,(a.2.1,(b,a.2.2.2))),false)
def qkm:Bs->Bool->(Bs×Bs×Int×Bool)->(Bs×Bs×Int×Bool)->Option q4g:=fun b d c a=>bif d then bif decide (0<=ae ((b.length:Int)-1)/\ae ((b.length:Int)-1)<=(b.length:Int)) then qe1 fu (List.take (ae ((b.length:Int)-1)).toNat b) c (a.1,(a.2.1,(a.2.2.1,true))) else none else qe1 fu b c a
def qrb(a:Bs)(c:Bs):Option q4g:=(y6 fu a [42] 0).bind fun b=>bif decide (b<0) then some ((a,(c,((-1),false))),!(a==([]:Bs))) else bif decide (0<=ae (b+1)/\ae (b+1)<=(a.length:Int)) then bif decide (0<=b/\b<=(a.length:Int)) then bif decide (0<(List.length (List.drop (ae (b+1)).toNat a):Int)) then(ai (List.drop (ae (b+1)).toNat a) (ae ((List.length (List.drop (ae (b+1)).toNat a):Int)-1))).bind fun d=>qkm fu (List.drop (ae (b+1)).toNat a) (d==42) (([]:Bs),(([]:Bs),(0,false))) (List.take b.toNat a,(c,((-1),false))) else qkm fu (List.drop (ae (b+1)).toNat a) false (([]:Bs),(([]:Bs),(0,false))) (List.take b.toNat a,(c,((-1),false))) else none else none
abbrev zbf:=Bs->Int->Int->Int->Int->Int->Option (Int×Int)
abbrev zon:=Bs->Int->Int->Int->Int->Option (Int×Int)
def qq8(fu:Nat)(h:zbf):zbf:=fun g e c b d a=>bif decide (a<c) then(ai g (ae (e+a))).bind fun f=>(gg (f.toNat:Int) 128 191).bind fun i=>bif !i then some ((-1),1) else h g e c (ae ((ae ((ae (64*b))+(f.toNat:Int)))-128)) d (ae (a+1)) else bif decide (b<d) then some ((-1),1) else bif decide (1114111<b) then some ((-1),1) else(gg b 55296 57343).bind fun j=>bif j then some ((-1),1) else some (b,c)
def wn(fu:Nat):Nat->zbf|0=>fun _ _ _ _ _ _=>none|n+1=>qq8 fu (wn fu n)
def zc0:zon:=fun d c e a b=>wn fu fu d c e a b 1
def qka:Bs->Int->Int->Int->Int->Bool->Option (Int×Int):=fun e d f b c a=>bif a then some ((-1),1) else zc0 fu e d f b c
def wm:zon:=fun c b a d e=>bif a==0 then qka fu c b a d e true else qka fu c b a d e (decide ((c.length:Int)<(ae (b+a))))
def qj9(b:Bs)(c:Int):Option (Int×Int):=(ai b c).bind fun a=>bif decide ((a.toNat:Int)<128) then some ((a.toNat:Int),1) else(gg (a.toNat:Int) 192 223).bind fun f=>bif f then wm fu b c 2 (ae ((a.toNat:Int)-192)) 128 else(gg (a.toNat:Int) 224 239).bind fun d=>bif d then wm fu b c 3 (ae ((a.toNat:Int)-224)) 2048 else(gg (a.toNat:Int) 240 247).bind fun e=>bif e then wm fu b c 4 (ae ((a.toNat:Int)-240)) 65536 else wm fu b c 0 0 0
def qz1:zbc:=fun a=>bif decide (a<128) then some ([d9 a]:Bs) else bif decide (a<2048) then some ([d9 (ae (192+(ae (Int.tdiv a 64)))),d9 (ae (128+(Int.tmod a 64)))]:Bs) else bif decide (a<65536) then some ([d9 (ae (224+(ae (Int.tdiv a 4096)))),d9 (ae (128+(Int.tmod (ae (Int.tdiv a 64)) 64))),d9 (ae (128+(Int.tmod a 64)))]:Bs) else some ([d9 (ae (240+(ae (Int.tdiv a 262144)))),d9 (ae (128+(Int.tmod (ae (Int.tdiv a 4096)) 64))),d9 (ae (128+(Int.tmod (ae (Int.tdiv a 64)) 64))),d9 (ae (128+(Int.tmod a 64)))]:Bs)
def qz0:Int->Bool->Option (Bs):=fun b a=>bif a then qz1 65533 else qz1 b
def qzz(a:Int):Option (Bs):=(gg a 0 1114111).bind fun b=>bif !b then qz0 a true else(gg a 55296 57343).bind fun c=>qz0 a c
abbrev zbh:=Bs->Bs->Bool->Int->Option (Bs)
def qz7(e:zbh):zbh:=fun c d g a=>bif decide (a<(c.length:Int)) then(qj9 fu c a).bind fun b=>bif decide (0<=b.1) then bif decide (0<=a/\a<=ae (a+b.2)/\ae (a+b.2)<=(c.length:Int)) then bif decide (d.length+List.length (List.take ((ae (a+b.2)).toNat-a.toNat) (List.drop a.toNat c))<=ap) then e c (d++(List.take ((ae (a+b.2)).toNat-a.toNat) (List.drop a.toNat c))) (decide (b.1<0)) (ae (a+b.2)) else none else none else bif !g then(qzz (-1)).bind fun f=>bif decide (d.length+f.length<=ap) then e c (d++f) (decide (b.1<0)) (ae (a+b.2)) else none else e c d (decide (b.1<0)) (ae (a+b.2)) else some d
def qkn(fu:Nat):Nat->zbh|0=>fun _ _ _ _=>none|n+1=>qz7 fu (qkn fu n)
def qrc(a:Bs):Option (Bs):=qkn fu fu a [] false 0
abbrev qin:=UInt8->Int->Option Int
def qef(e:qin):qin:=fun b a=>bif decide (a<16) then(ai [48,49,50,51,52,53,54,55,56,57,65,66,67,68,69,70] a).bind fun d=>bif d==b then some a else(rq fu [48,49,50,51,52,53,54,55,56,57,65,66,67,68,69,70]).bind fun f=>(ai f a).bind fun c=>bif c==b then some a else e b (ae (a+1)) else some (-1)
def wj(fu:Nat):Nat->qin|0=>fun _ _=>none|n+1=>qef fu (wj fu n)
def oh(a:UInt8):Option Int:=wj fu fu a 0
abbrev zbi:=Bs->Bs->Int->Bool->Option (Bs)
abbrev oe:=Bs->Bs->Int->Option (Bs)
def zb(f:oe):zbi:=fun b c a d=>bif d then(ai b (ae (a+1))).bind fun i=>(oh fu i).bind fun g=>(ai b (ae (a+2))).bind fun h=>(oh fu h).bind fun e=>bif decide (c.length+List.length ([d9 (ae ((ae (16*g))+e))]:Bs)<=ap) then f b (c++([d9 (ae ((ae (16*g))+e))]:Bs)) (ae ((ae (a+2))+1)) else none else bif decide (0<=a/\a<=ae (a+1)/\ae (a+1)<=(b.length:Int)) then bif decide (c.length+List.length (List.take ((ae (a+1)).toNat-a.toNat) (List.drop a.toNat b))<=ap) then f b (c++(List.take ((ae (a+1)).toNat-a.toNat) (List.drop a.toNat b))) (ae (a+1)) else none else none
def q0b(d:oe):oe:=fun b c a=>bif decide (a<(b.length:Int)) then(ai b a).bind fun g=>bif g==37 then bif decide ((ae (a+2))<(b.length:Int)) then(ai b (ae (a+1))).bind fun e=>(oh fu e).bind fun i=>bif decide (0<=i) then(ai b (ae (a+2))).bind fun h=>(oh fu h).bind fun f=>zb fu d b c a (decide (0<=f)) else zb fu d b c a false else zb fu d b c a false else zb fu d b c a false else some c
def qe4(fu:Nat):Nat->oe|0=>fun _ _ _=>none|n+1=>q0b fu (qe4 fu n)
def qre(a:Bs):Option (Bs):=qe4 fu fu a [] 0
abbrev gw:=(Bs×Bs×wV)×Bool
abbrev v8:=Bs->Int->Bs->Bs->Bs->Bs->Bs->Bs->(List (Bs×Bs×Int×Bool))->Option gw
abbrev zbj:=Bs->Int->Bs->Bs->Bool->Bs->Bs->Bs->Bs->(List (Bs×Bs×Int×Bool))->Option gw
abbrev qp7:=Int->Bool->Int->Bs->Bs->Bs->Bs->(List (Bs×Bs×Int×Bool))->wV->Option gw
abbrev qp6:=Int->Bool->Int->Int->Bs->Bs->Bs->Bs->(List (Bs×Bs×Int×Bool))->wV->Option gw
abbrev qio:=Int->Int->Bs->Int->Int->Int->Bs->Bs->Bs->Bs->(List (Bs×Bs×Int×Bool))->wV->Option gw
abbrev qz:=Int->Int->Bs->Int->Bs->Bs->Bs->Bs->(List (Bs×Bs×Int×Bool))->wV->Option gw
abbrev zot:=Int->Int->Bs->Int->Bs->Bs->Bs->Bs->Bs->(List (Bs×Bs×Int×Bool))->wV->Option gw
abbrev jt:=Int->Bs->Bs->Bs->Bs->(List (Bs×Bs×Int×Bool))->wV->Option gw
abbrev pu:=Bs->Int->Bs->Bs->Bs->Bs->(List (Bs×Bs×Int×Bool))->Option gw
def qjv(fu:Nat)(k:pu)(j:v8):v8:=fun f a i h b c e d g=>bif decide (0<=a/\a<=ae (a+1)/\ae (a+1)<=(f.length:Int)) then bif decide (h.length+List.length (List.take ((ae (a+1)).toNat-a.toNat) (List.drop a.toNat f))<=ap) then j f (ae (a+1)) i (h++(List.take ((ae (a+1)).toNat-a.toNat) (List.drop a.toNat f))) b c e d g else none else none
def qeo(i:pu)(k:v8):zbj:=fun l g h j f a b d c e=>bif f then qjv fu i k l (ae (g+1)) h j a b d c e else qjv fu i k l g h j a b d c e
def qzg(i:pu)(k:v8):v8:=fun g f h j a b d c e=>(ai g f).bind fun l=>bif l==92 then qeo fu i k g f h j (decide ((ae (f+1))<(g.length:Int))) a b d c e else qeo fu i k g f h j false a b d c e
def qbp(j:pu):v8:=fun g h i k a b d c e=>(qrb fu i k).bind fun f=>bif !f.2 then some ((([]:Bs),(([]:Bs),[])),false) else bif decide (List.length (e++([f.1]:List (Bs×Bs×Int×Bool)))<=az) then(ui fu g h).bind fun l=>j g l a b d c (e++([f.1]:List (Bs×Bs×Int×Bool))) else none
def qen(j:pu)(l:v8):zbj:=fun h g i k f a b d c e=>bif f then qzg fu j l h g i k a b d c e else bif g==(h.length:Int) then some ((([]:Bs),(([]:Bs),[])),false) else qbp fu j h (ae (g+1)) i k a b d c e
def qqz(i:pu)(k:v8):v8:=fun g f h j a b d c e=>bif decide (f<(g.length:Int)) then(ai g f).bind fun l=>qen fu i k g f h j (l != 34) a b d c e else qen fu i k g f h j false a b d c e
def y7(fu:Nat)(a:pu):Nat->v8|0=>fun _ _ _ _ _ _ _ _ _=>none|n+1=>qqz fu a (y7 fu a n)
def qj0(k:pu):zbj:=fun h e j l f a b d c g=>bif f then y7 fu k fu h (ae (e+1)) j l a b d c g else(qe2 fu h e [37,39,42]).bind fun i=>bif decide (0<=e/\e<=i/\i<=(h.length:Int)) then qbp fu k h i j (List.take (i.toNat-e.toNat) (List.drop e.toNat h)) a b d c g else none
def qzi(i:pu):Bs->Int->Bs->Bs->Bs->Bs->Bs->(List (Bs×Bs×Int×Bool))->Option gw:=fun f j h a b d c e=>(ui fu f (ae (j+1))).bind fun g=>bif decide (g<(f.length:Int)) then(ai f g).bind fun k=>qj0 fu i f g h [] (k==34) a b d c e else qj0 fu i f g h [] false a b d c e
def qjy(i:pu):Bs->Int->Bs->Bool->Bs->Bs->Bs->Bs->(List (Bs×Bs×Int×Bool))->Option gw:=fun j g h e a b d c f=>bif e then some ((([]:Bs),(([]:Bs),[])),false) else qzi fu i j g h a b d c f
def qju(fu:Nat)(k:jt)(j:qp7):qp7:=fun h i f a b d c e g=>j h i (ae (f+1)) a b d c e g
def qjt(fu:Nat)(l:jt)(k:qp6):qp6:=fun i j g h a b d c e f=>k i j g (ae (h+1)) a b d c e f
def qeq(fu:Nat)(p:jt)(o:qz)(m:qio):qio:=fun i h g k j l a b d c e f=>m i h g k j (ae (l+1)) a b d c e f
def qjw(q:jt)(f:qz)(o:qio):Int->Int->Bs->Int->Int->Int->Bool->Bs->Bs->Bs->Bs->(List (Bs×Bs×Int×Bool))->wV->Option gw:=fun k j i l p e m a b c d g h=>bif m then qeq fu q f o k j i l e e a b c d g h else qeq fu q f o k j i l p e a b c d g h
def qzh(fu:Nat)(l:jt)(e:qz):qz:=fun j i h k a b d c f g=>e j i h (ae (k+1)) a b d c f g
def qer(m:jt)(g:qz):zot:=fun k j e l f a b d c h i=>bif decide (e.length+f.length<=ap) then qzh fu m g k j (e++f) l a b d c h i else none
def qjx(m:jt)(e:qz):zot:=fun j i h k l a b d c f g=>(qre fu l).bind fun o=>qer fu m e j i h k o a b d c f g
def uf(o:jt)(f:qz):Int->Int->Bs->Int->Bs->Bool->Bs->Bs->Bs->Bs->(List (Bs×Bs×Int×Bool))->wV->Option gw:=fun k j i l e m a b d c g h=>bif m then bif decide (0<=(6:Int)/\6<=(e.length:Int)) then qjx fu o f k j i l (List.drop (6:Int).toNat e) a b d c g h else none else qjx fu o f k j i l e a b d c g h
def qbn(p:jt)(m:qz)(q:qio):qio:=fun f j l i g h b c d e a k=>bif decide (h<(a.length:Int)) then bif decide (0<=f/\f.toNat<a.length) then(a[f.toNat]?).bind fun r=>bif decide (0<=h/\h.toNat<a.length) then(a[h.toNat]?).bind fun w=>(fg fu r.1 w.1).bind fun s=>bif s then bif decide (0<=h/\h.toNat<a.length) then(a[h.toNat]?).bind fun v=>qjw fu p m q f j l i g h (v.2.2.1==i) b c d e a k else none else qjw fu p m q f j l i g h false b c d e a k else none else none else bif decide (g<0) then some ((([]:Bs),(([]:Bs),[])),false) else bif decide (0<=g/\g.toNat<a.length) then(a[g.toNat]?).bind fun o=>bif decide (0<=g/\g.toNat<a.length) then(a[g.toNat]?).bind fun t=>bif t.2.2.2 then bif i==0 then bif decide (6<=(o.2.1.length:Int)) then bif decide (0<=(6:Int)/\6<=(o.2.1.length:Int)) then(rq fu (List.take (6:Int).toNat o.2.1)).bind fun u=>uf fu p m f j l i o.2.1 (u==([117,116,102,56,39,39]:Bs)) b c d e a k else none else uf fu p m f j l i o.2.1 false b c d e a k else uf fu p m f j l i o.2.1 false b c d e a k else qer fu p m f j l i o.2.1 b c d e a k else none else none
def mu(fu:Nat)(b:jt)(a:qz):Nat->qio|0=>fun _ _ _ _ _ _ _ _ _ _ _ _=>none|n+1=>qbn fu b a (mu fu b a n)
def qbm(l:jt)(k:qz):qz:=fun c i h j a b e d f g=>bif decide (j<i) then mu fu l k fu c i h j (-1) 0 a b e d f g else bif decide (0<=c/\c.toNat<f.length) then(f[c.toNat]?).bind fun m=>(qrc fu h).bind fun o=>bif decide (List.length (g++([(m.1,o)]:List (Bs×Bs)))<=az) then l (ae (c+1)) a b e d f (g++([(m.1,o)]:List (Bs×Bs))) else none else none
def ol(fu:Nat)(a:jt):Nat->qz|0=>fun _ _ _ _ _ _ _ _ _ _=>none|n+1=>qbm fu a (ol fu a n)
def qem(k:jt)(o:qp6):qp6:=fun a j i g c d e f b h=>bif decide (g<(b.length:Int)) then bif decide (0<=a/\a.toNat<b.length) then(b[a.toNat]?).bind fun p=>bif decide (0<=g/\g.toNat<b.length) then(b[g.toNat]?).bind fun s=>(fg fu p.1 s.1).bind fun q=>bif q then qjt fu k o a j (ae (i+1)) g c d e f b h else qjt fu k o a j i g c d e f b h else none else none else bif j then k (ae (a+1)) c d e f b h else bif decide (0<=a/\a.toNat<b.length) then(b[a.toNat]?).bind fun r=>bif decide (r.2.2.1<0) then bif i != 1 then some ((([]:Bs),(([]:Bs),[])),false) else bif decide (0<=a/\a.toNat<b.length) then(b[a.toNat]?).bind fun l=>bif decide (0<=a/\a.toNat<b.length) then(b[a.toNat]?).bind fun m=>bif decide (List.length (h++([(l.1,m.2.1)]:List (Bs×Bs)))<=az) then k (ae (a+1)) c d e f b (h++([(l.1,m.2.1)]:List (Bs×Bs))) else none else none else none else ol fu k fu a i [] 0 c d e f b h else none
def ug(fu:Nat)(a:jt):Nat->qp6|0=>fun _ _ _ _ _ _ _ _ _ _=>none|n+1=>qem fu a (ug fu a n)
def qze(j:jt)(k:qp7):qp7:=fun d i g b c f e a h=>bif decide (g<d) then bif i then qju fu j k d true g b c f e a h else bif decide (0<=d/\d.toNat<a.length) then(a[d.toNat]?).bind fun m=>bif decide (0<=g/\g.toNat<a.length) then(a[g.toNat]?).bind fun l=>(fg fu m.1 l.1).bind fun o=>qju fu j k d o g b c f e a h else none else none else ug fu j fu d i 0 0 b c f e a h
def qjz(fu:Nat)(a:jt):Nat->qp7|0=>fun _ _ _ _ _ _ _ _ _=>none|n+1=>qze fu a (qjz fu a n)
def qzd(h:jt):jt:=fun g c d b a e f=>bif decide (g<(e.length:Int)) then qjz fu h fu g false 0 c d b a e f else some ((b,(a,f)),true)
def py(fu:Nat):Nat->jt|0=>fun _ _ _ _ _ _ _=>none|n+1=>qzd fu (py fu n)
def qzc(k:pu):pu:=fun e j a b d c f=>bif decide (j<(e.length:Int)) then(ai e j).bind fun l=>bif l != 59 then some ((([]:Bs),(([]:Bs),[])),false) else(ui fu e (ae (j+1))).bind fun g=>(qe2 fu e g [42]).bind fun h=>bif decide (0<=g/\g<=h/\h<=(e.length:Int)) then(ui fu e h).bind fun i=>bif i==(e.length:Int) then qjy fu k e i (List.take (h.toNat-g.toNat) (List.drop g.toNat e)) true a b d c f else(ai e i).bind fun m=>qjy fu k e i (List.take (h.toNat-g.toNat) (List.drop g.toNat e)) (m != 61) a b d c f else none else py fu fu 0 a b d c f []
def qep(fu:Nat):Nat->pu|0=>fun _ _ _ _ _ _ _=>none|n+1=>qzc fu (qep fu n)
def qzf:Bs->Int->Bs->Bs->Bs->Bs->Option gw:=fun d h a c e g=>(ui fu d (ae (h+1))).bind fun b=>(qe2 fu d b []).bind fun f=>bif decide (0<=b/\b<=f/\f<=(d.length:Int)) then bif(List.take (f.toNat-b.toNat) (List.drop b.toNat d))==([]:Bs) then some ((([]:Bs),(([]:Bs),[])),false) else(ui fu d f).bind fun i=>qep fu fu d i a c e (List.take (f.toNat-b.toNat) (List.drop b.toNat d)) [] else none
def qbo:Bs->Int->Bool->Bs->Bs->Bs->Bs->Option gw:=fun g f e a b d c=>bif e then some ((([]:Bs),(([]:Bs),[])),false) else qzf fu g f a b d c
def qjs(a:Bs):Option gw:=(ui fu a 0).bind fun b=>(qe2 fu a b []).bind fun c=>bif decide (0<=b/\b<=c/\c<=(a.length:Int)) then(ui fu a c).bind fun d=>bif(List.take (c.toNat-b.toNat) (List.drop b.toNat a))==([]:Bs) then qbo fu a d true [] [] (List.take (c.toNat-b.toNat) (List.drop b.toNat a)) [] else bif d==(a.length:Int) then qbo fu a d true [] [] (List.take (c.toNat-b.toNat) (List.drop b.toNat a)) [] else(ai a d).bind fun e=>qbo fu a d (e != 47) [] [] (List.take (c.toNat-b.toNat) (List.drop b.toNat a)) [] else none
def qzv(d:yq):yq:=fun a b=>bif decide (b<(a.length:Int)) then(ai a b).bind fun c=>(qez fu c).bind fun f=>bif !f then some false else d a (ae (b+1)) else(gg (a.length:Int) 1 60).bind fun e=>some e
def qkb(fu:Nat):Nat->yq|0=>fun _ _=>none|n+1=>qzv fu (qkb fu n)
def qbw(a:Bs):Option Bool:=qkb fu fu a 0
def qz2(d:yq):yq:=fun a b=>bif decide (b<(a.length:Int)) then(qj9 fu a b).bind fun c=>bif decide (c.1<0) then some false else d a (ae (b+c.2)) else some true
def qkg(fu:Nat):Nat->yq|0=>fun _ _=>none|n+1=>qz2 fu (qkg fu n)
def qkf(a:Bs):Option Bool:=qkg fu fu a 0
abbrev zbk:=Int->Int->(Bs×Bs×wV)->(Int×Int)->(Bs×Bs)->Option ((Int×Int))
abbrev qd5:=Int->(Bs×Bs×wV)->(Int×Int)->Option ((Int×Int))
def qy9(f:qd5)(h:zbk):zbk:=fun c e b d a=>bif decide (e<c) then(ai b.2.2 e).bind fun j=>(fg fu j.1 a.1).bind fun m=>bif m then(fa 7 c).bind fun l=>some l else h c (ae (e+1)) b d a else bif decide (500<(a.2.length:Int)) then(fa 1 c).bind fun g=>some g else(qkf fu a.2).bind fun k=>bif !k then(fa 5 c).bind fun i=>some i else f (ae (c+1)) b d
def qjr(fu:Nat)(a:qd5):Nat->zbk|0=>fun _ _ _ _ _=>none|n+1=>qy9 fu a (qjr fu a n)
def qzb(d:qd5):(Int->(Bs×Bs×wV)->(Int×Int)->(Bs×Bs)->Option ((Int×Int))):=fun e b c a=>qjr fu d fu e 0 b c a
def qbl(f:qd5):(Int->Bool->(Bs×Bs×wV)->(Int×Int)->(Bs×Bs)->Option ((Int×Int))):=fun e b c d a=>bif b then(fa 10 e).bind fun g=>some g else qzb fu f e c d a
def qy8(e:qd5):qd5:=fun d a b=>bif decide (d<(a.2.2.length:Int)) then(ai a.2.2 d).bind fun c=>(qbw fu c.1).bind fun f=>bif !f then qbl fu e d true a b c else qbl fu e d (decide (20<(c.1.length:Int))) a b c else some (0,0)
def qbk(fu:Nat):Nat->qd5|0=>fun _ _ _=>none|n+1=>qy8 fu (qbk fu n)
def qza:zqb:=fun a b=>bif decide (60<(a.2.2.length:Int)) then(fa 2 (-3)).bind fun c=>some c else qbk fu fu 0 a b
def qel:zqa:=fun a b c=>bif a then(fa 10 (-2)).bind fun d=>some d else qza fu b c
def qqy(a:Bs×Bs×wV):Option ((Int×Int)):=(qbw fu a.1).bind fun b=>bif !b then qel fu true a (0,0) else(qbw fu a.2.1).bind fun c=>qel fu (!c) a (0,0)
abbrev q4h:=(Bs×Bs×wV)×Bool
def q00:Bs->Bs->(List Bs)->Option q4h:=fun b c a=>bif decide (0<=(0:Int)/\(0:Int).toNat<a.length) then(a[(0:Int).toNat]?).bind fun e=>(qjs fu e).bind fun d=>bif !d.2 then some ((([]:Bs),(([]:Bs),[])),false) else(qqy fu d.1).bind fun f=>bif f.1 != 0 then some ((([]:Bs),(([]:Bs),[])),false) else some (d.1,true) else none
def qrr:Bool->Bs->Bs->(List Bs)->Option q4h:=fun d a b c=>bif d then some ((([]:Bs),(([]:Bs),[])),false) else q00 fu a b c
def qfd(c:List (Bs×Bs)):Option q4h:=(qkh fu c [99,111,110,116,101,110,116,45,116,121,112,101]).bind fun a=>bif(a.length:Int) != 1 then qrr fu true [] [] a else bif decide (0<=(0:Int)/\(0:Int).toNat<a.length) then(a[(0:Int).toNat]?).bind fun b=>qrr fu (decide (4000<(b.length:Int))) [] [] a else none
abbrev zbn:=Bs->Int->(Bs×Bs×wV)->Option (Bs×Bool)
def qzk(e:zbn):zbn:=fun c b a=>bif decide (b<(a.2.2.length:Int)) then(ai a.2.2 b).bind fun d=>(fg fu d.1 c).bind fun g=>bif g then(ai a.2.2 b).bind fun f=>some (f.2,true) else e c (ae (b+1)) a else some (([]:Bs),false)
def qj3(fu:Nat):Nat->zbn|0=>fun _ _ _=>none|n+1=>qzk fu (qj3 fu n)
def qq1(b:Bs×Bs×wV)(a:Bs):Option (Bs×Bool):=qj3 fu fu a 0 b
abbrev zbo:=Bs->Bool->Int->Option (Bs×Bool)
def q0e(fu:Nat)(d:zbo):zbo:=fun a c b=>bif decide (b<(a.length:Int)) then(ai a b).bind fun e=>(gg (e.toNat:Int) 32 126).bind fun h=>bif !h then some (([]:Bs),false) else d a c (ae (b+1)) else bif c then(gg (a.length:Int) 1 60).bind fun g=>bif g then(ai a (ae ((a.length:Int)-1))).bind fun f=>some (a,f != 32) else some (a,false) else some (a,false)
def qks(fu:Nat):Nat->zbo|0=>fun _ _ _=>none|n+1=>q0e fu (qks fu n)
def q0f:((Bs×Bs×wV)->Option (Bs×Bool)):=fun a=>(qq1 fu a [98,111,117,110,100,97,114,121]).bind fun b=>qks fu fu b.1 b.2 0
def qkr:(Bool->(Bs×Bs×wV)->Option (Bs×Bool)):=fun a b=>bif a then some (([]:Bs),false) else q0f fu b
def qkq(c:List (Bs×Bs)):Option (Bs×Bool):=(qfd fu c).bind fun a=>bif !a.2 then qkr fu true a.1 else(fg fu a.1.1 [109,117,108,116,105,112,97,114,116]).bind fun b=>qkr fu (!b) a.1
def q0w(fu:Nat)(b:yt):yt:=fun c a d=>b c a (ae (d-1))
def qfb(e:yt):zpy:=fun c b a d=>bif d then q0w fu e c b a else bif decide (0<=a/\a<=(c.length:Int)) then bif decide (List.length ([45,45]:Bs)+b.length<=ap) then bif(List.take a.toNat c)==(([45,45]:Bs)++b) then some 1 else bif decide (0<=a/\a<=(c.length:Int)) then bif decide (List.length ([45,45]:Bs)+b.length<=ap) then bif decide (List.length (([45,45]:Bs)++b)+List.length ([45,45]:Bs)<=ap) then bif(List.take a.toNat c)==((([45,45]:Bs)++b)++[45,45]) then some 2 else some 0 else none else none else none else none else none
def q0v(d:yt):yt:=fun b c a=>bif decide (0<a) then(ai b (ae (a-1))).bind fun e=>(iw e).bind fun f=>qfb fu d b c a f else qfb fu d b c a false
def qfa(fu:Nat):Nat->yt|0=>fun _ _ _=>none|n+1=>q0v fu (qfa fu n)
def q0u(a:Bs)(b:Bs):Option Int:=qfa fu fu a b (a.length:Int)
abbrev qd6:=Bs->Bs->Int->Int->Int->(List Bs)->Option ((List Bs))
abbrev zo3:=Bs->Bs->Int->Int->Int->Int->(List Bs)->Option ((List Bs))
def q0n(fu:Nat)(h:pw)(f:qd6):qd6:=fun e d c g b a=>f e d c g (ae (b+1)) a
def qe6(fu:Nat)(g:pw):qd6:=fun f e d c b a=>bif b==2 then some a else g f e d c a
def qbx(f:pw):pw:=fun e d c b a=>qe6 fu f e d c c b a
def qby(h:pw):zo3:=fun d g b f e a c=>bif decide (0<=b/\b<=a/\a<=(d.length:Int)) then bif decide (List.length (c++([List.take (a.toNat-b.toNat) (List.drop b.toNat d)]:List Bs))<=az) then qbx fu h d g f e (c++([List.take (a.toNat-b.toNat) (List.drop b.toNat d)]:List Bs)) else none else none
def qkz(h:pw):zo3:=fun c f b d i g a=>bif decide (0<=d/\d<=i/\i<=(c.length:Int)) then(q0u fu (List.take (i.toNat-d.toNat) (List.drop d.toNat c)) f).bind fun e=>bif decide (0<e) then bif decide (0<=b) then bif decide ((ae (d-2))<b) then qby fu h c f b g e b a else qby fu h c f b g e (ae (d-2)) a else qbx fu h c f g e a else qe6 fu h c f b g e a else none
def qky(f:pw)(i:qd6):Bs->Bs->Int->Int->Int->Bool->(List Bs)->Option ((List Bs)):=fun c e d g b h a=>bif h then q0n fu f i c e d g b a else bif b==(c.length:Int) then qkz fu f c e d g b b a else qkz fu f c e d g b (ae (b+2)) a
def q0m(f:pw)(g:qd6):qd6:=fun c e d h b a=>bif decide (b<(c.length:Int)) then(ue c b).bind fun i=>qky fu f g c e d h b (!i) a else qky fu f g c e d h b false a
def qkx(fu:Nat)(a:pw):Nat->qd6|0=>fun _ _ _ _ _ _=>none|n+1=>q0m fu a (qkx fu a n)
def q0l(f:pw):pw:=fun c e b d a=>bif decide (d<(c.length:Int)) then qkx fu f fu c e b d d a else bif decide (0<=b) then bif decide (0<=b/\b<=(c.length:Int)) then bif decide (List.length (a++([List.drop b.toNat c]:List Bs))<=az) then some (a++([List.drop b.toNat c]:List Bs)) else none else none else some a
def zf(fu:Nat):Nat->pw|0=>fun _ _ _ _ _=>none|n+1=>q0l fu (zf fu n)
def qri(b:Bs)(a:Bs):Option ((List Bs)):=zf fu fu b a (-1) 0 []
def qbr(fu:Nat)(e:oe):zbi:=fun b c a d=>bif d then bif decide (c.length+List.length ([92]:Bs)<=ap) then bif decide (0<=a/\a<=ae (a+1)/\ae (a+1)<=(b.length:Int)) then bif decide (List.length (c++[92])+List.length (List.take ((ae (a+1)).toNat-a.toNat) (List.drop a.toNat b))<=ap) then e b ((c++[92])++(List.take ((ae (a+1)).toNat-a.toNat) (List.drop a.toNat b))) (ae (a+1)) else none else none else none else bif decide (0<=a/\a<=ae (a+1)/\ae (a+1)<=(b.length:Int)) then bif decide (c.length+List.length (List.take ((ae (a+1)).toNat-a.toNat) (List.drop a.toNat b))<=ap) then e b (c++(List.take ((ae (a+1)).toNat-a.toNat) (List.drop a.toNat b))) (ae (a+1)) else none else none
def qzn(d:oe):oe:=fun b c a=>bif decide (a<(b.length:Int)) then(ai b a).bind fun f=>bif f==34 then qbr fu d b c a true else(ai b a).bind fun e=>qbr fu d b c a (e==92) else bif decide (c.length+List.length ([34]:Bs)<=ap) then some (c++[34]) else none
def qbq(fu:Nat):Nat->oe|0=>fun _ _ _=>none|n+1=>qzn fu (qbq fu n)
def qq4(a:Bs):Option (Bs):=qbq fu fu a [34] 0
def uh(a:UInt8):Option (Bs):=bif decide (0<=((a/16).toNat:Int)/\((a/16).toNat:Int)<=(((a/16)+1).toNat:Int)/\(((a/16)+1).toNat:Int)<=(List.length ([48,49,50,51,52,53,54,55,56,57,65,66,67,68,69,70]:Bs):Int)) then bif decide (0<=((a%16).toNat:Int)/\((a%16).toNat:Int)<=(((a%16)+1).toNat:Int)/\(((a%16)+1).toNat:Int)<=(List.length ([48,49,50,51,52,53,54,55,56,57,65,66,67,68,69,70]:Bs):Int)) then bif decide (List.length (List.take ((((a/16)+1).toNat:Int).toNat-((a/16).toNat:Int).toNat) (List.drop ((a/16).toNat:Int).toNat ([48,49,50,51,52,53,54,55,56,57,65,66,67,68,69,70]:Bs)))+List.length (List.take ((((a%16)+1).toNat:Int).toNat-((a%16).toNat:Int).toNat) (List.drop ((a%16).toNat:Int).toNat ([48,49,50,51,52,53,54,55,56,57,65,66,67,68,69,70]:Bs)))<=ap) then some ((List.take ((((a/16)+1).toNat:Int).toNat-((a/16).toNat:Int).toNat) (List.drop ((a/16).toNat:Int).toNat [48,49,50,51,52,53,54,55,56,57,65,66,67,68,69,70]))++(List.take ((((a%16)+1).toNat:Int).toNat-((a%16).toNat:Int).toNat) (List.drop ((a%16).toNat:Int).toNat [48,49,50,51,52,53,54,55,56,57,65,66,67,68,69,70]))) else none else none else none
abbrev qp8:=Bool->Int->(Bs×Bs)->Option (Bs)
abbrev qd7:=Bs->Bs->Int->Int->(Bs×Bs)->Option (Bs)
abbrev zo4:=Bs->Bs->Int->Int->Bs->(Bs×Bs)->Option (Bs)
def qj5(fu:Nat)(c:qp8):qp8:=fun d b a=>c d (ae (b+1)) a
def qq3(fu:Nat)(c:qd7):qd7:=fun f d e b a=>c f d e (ae (b+1)) a
def qj7(e:qd7):zo4:=fun g c f d b a=>bif decide (c.length+b.length<=ap) then qq3 fu e g (c++b) f d a else none
def qj6(h:qd7):zo4:=fun b d f g e a=>bif decide (60<(ae ((d.length:Int)+(e.length:Int)))) then bif decide (b.length+List.length ([59,32]:Bs)<=ap) then bif decide (List.length (b++[59,32])+a.1.length<=ap) then bif decide (List.length ((b++[59,32])++a.1)+List.length ([42]:Bs)<=ap) then(rr fu f).bind fun c=>bif decide (List.length (((b++[59,32])++a.1)++[42])+c.length<=ap) then bif decide (List.length ((((b++[59,32])++a.1)++[42])++c)+List.length ([42,61]:Bs)<=ap) then bif decide (List.length (((((b++[59,32])++a.1)++[42])++c)++[42,61])+d.length<=ap) then qj7 fu h ((((((b++[59,32])++a.1)++[42])++c)++[42,61])++d) [] (ae (f+1)) g e a else none else none else none else none else none else none else qj7 fu h b d f g e a
def qzm(g:qd7):qd7:=fun c d f b a=>bif decide (b<(a.2.length:Int)) then(ai a.2 b).bind fun k=>(uh k).bind fun h=>bif decide (List.length ([37]:Bs)+h.length<=ap) then(ai a.2 b).bind fun i=>(qez fu i).bind fun j=>bif j then bif decide (0<=b/\b<=ae (b+1)/\ae (b+1)<=(a.2.length:Int)) then qj6 fu g c d f b (List.take ((ae (b+1)).toNat-b.toNat) (List.drop b.toNat a.2)) a else none else qj6 fu g c d f b (([37]:Bs)++h) a else none else bif decide (c.length+List.length ([59,32]:Bs)<=ap) then bif decide (List.length (c++[59,32])+a.1.length<=ap) then bif decide (List.length ((c++[59,32])++a.1)+List.length ([42]:Bs)<=ap) then(rr fu f).bind fun e=>bif decide (List.length (((c++[59,32])++a.1)++[42])+e.length<=ap) then bif decide (List.length ((((c++[59,32])++a.1)++[42])++e)+List.length ([42,61]:Bs)<=ap) then bif decide (List.length (((((c++[59,32])++a.1)++[42])++e)++[42,61])+d.length<=ap) then some ((((((c++[59,32])++a.1)++[42])++e)++[42,61])++d) else none else none else none else none else none else none
def qet(fu:Nat):Nat->qd7|0=>fun _ _ _ _ _=>none|n+1=>qzm fu (qet fu n)
def qzl(c:qp8):qp8:=fun e b a=>bif decide (b<(a.2.length:Int)) then bif e then(ai a.2 b).bind fun f=>(gg (f.toNat:Int) 32 126).bind fun g=>qj5 fu c g b a else qj5 fu c false b a else bif e then bif decide (List.length ([59,32]:Bs)+a.1.length<=ap) then bif decide (List.length (([59,32]:Bs)++a.1)+List.length ([61]:Bs)<=ap) then(qq4 fu a.2).bind fun d=>bif decide (List.length ((([59,32]:Bs)++a.1)++[61])+d.length<=ap) then some (((([59,32]:Bs)++a.1)++[61])++d) else none else none else none else qet fu fu [] [117,116,102,56,39,39] 0 0 a
def qj4(fu:Nat):Nat->qp8|0=>fun _ _ _=>none|n+1=>qzl fu (qj4 fu n)
def qq2(a:Bs×Bs):Option (Bs):=(qbw fu a.2).bind fun b=>bif b then bif decide (List.length ([59,32]:Bs)+a.1.length<=ap) then bif decide (List.length (([59,32]:Bs)++a.1)+List.length ([61]:Bs)<=ap) then bif decide (List.length ((([59,32]:Bs)++a.1)++[61])+a.2.length<=ap) then some (((([59,32]:Bs)++a.1)++[61])++a.2) else none else none else none else qj4 fu fu (decide ((a.2.length:Int)<=60)) 0 a
abbrev zbs:=Bs->Int->(Bs×Bs×wV)->Option (Bs)
def qzj(f:zbs):zbs:=fun c b a=>bif decide (b<(a.2.2.length:Int)) then(ai a.2.2 b).bind fun e=>(qq2 fu e).bind fun d=>bif decide (c.length+d.length<=ap) then f (c++d) (ae (b+1)) a else none else some c
def qj2(fu:Nat):Nat->zbs|0=>fun _ _ _=>none|n+1=>qzj fu (qj2 fu n)
def qj1(a:Bs×Bs×wV):Option (Bs):=bif decide (a.1.length+List.length ([47]:Bs)<=ap) then bif decide (List.length (a.1++[47])+a.2.1.length<=ap) then qj2 fu fu ((a.1++[47])++a.2.1) 0 a else none else none
abbrev zbt:=wV->Bs->Int->wV->Option (wV)
def q06(f:zbt):zbt:=fun e d c a=>bif decide (c<(e.length:Int)) then(ai e c).bind fun b=>(fg fu b.1 [99,111,110,116,101,110,116,45,116,121,112,101]).bind fun g=>bif g then bif decide (List.length (a++([(b.1,d)]:List (Bs×Bs)))<=az) then f e d (ae (c+1)) (a++([(b.1,d)]:List (Bs×Bs))) else none else bif decide (List.length (a++([b]:List (Bs×Bs)))<=az) then f e d (ae (c+1)) (a++([b]:List (Bs×Bs))) else none else some a
def qlg(fu:Nat):Nat->zbt|0=>fun _ _ _ _=>none|n+1=>q06 fu (qlg fu n)
def q05(b:List (Bs×Bs))(a:Bs):Option (wV):=qlg fu fu b a 0 []
abbrev ju:=Int×(Int×Int)×wV
abbrev qis:=Bs->Int->Int->(Int×Int)->wV->Option ju
abbrev qir:=Int->Int->Int->(Int×Int)->wV->Bs->Option ju
abbrev qd8:=Int->Int->(Int×Int)->wV->Option ju
abbrev qiq:=Bs->Int->Int->Bs->Int->Bs->(Int×Int)->wV->Option ju
abbrev zo8:=Bs->Int->Int->Int->(Int×Int)->wV->Option ju
abbrev l8:=Bs->Int->(Int×Int)->wV->Option ju
def zcz(fu:Nat)(g:l8)(e:qis):qis:=fun d c f a b=>e d c (ae (f+1)) a b
def qq7(fu:Nat)(h:qd8)(c:qir):qir:=fun g e b d f a=>c g e (ae (b+1)) d f a
def qq6(h:qd8)(c:qir):Int->Int->Int->Bool->(Int×Int)->wV->Bs->Option ju:=fun i f a d e g b=>bif d then bif decide (0<=a/\a.toNat<b.length) then(b[a.toNat]?).bind fun j=>qq7 fu h c i f a e g (List.set b a.toNat 32) else none else qq7 fu h c i f a e g b
def qzr(g:qd8)(f:qir):qir:=fun h a b e d c=>bif decide (b<(c.length:Int)) then bif decide (0<=b/\b.toNat<c.length) then(c[b.toNat]?).bind fun o=>bif o==0 then qq6 fu g f h a b true e d c else bif decide (0<=b/\b.toNat<c.length) then(c[b.toNat]?).bind fun l=>qq6 fu g f h a b (l==13) e d c else none else none else(qq9 fu c).bind fun i=>bif decide (0<=a/\a.toNat<d.length) then(d[a.toNat]?).bind fun j=>bif decide (0<=a/\a.toNat<List.length (List.set d a.toNat (j.1,i))) then((List.set d a.toNat (j.1,i))[a.toNat]?).bind fun k=>bif decide (4000<(k.2.length:Int)) then(fa 1 a).bind fun m=>some (0,(m,[])) else g h (ae (a+1)) e (List.set d a.toNat (j.1,i)) else none else none
def qbs(fu:Nat)(a:qd8):Nat->qir|0=>fun _ _ _ _ _ _=>none|n+1=>qzr fu a (qbs fu a n)
def qzs(f:qd8):qd8:=fun d a c b=>bif decide (a<(b.length:Int)) then bif decide (0<=a/\a.toNat<b.length) then(b[a.toNat]?).bind fun e=>bif decide (e.2.length<=maxLen) then qbs fu f fu d a 0 c b e.2 else none else none else some (d,((0,0),b))
def qbv(fu:Nat):Nat->qd8|0=>fun _ _ _ _=>none|n+1=>qzs fu (qbv fu n)
def qbt:Int->(Int×Int)->wV->Option ju:=fun d b a=>bif decide (60<(a.length:Int)) then(fa 2 (-2)).bind fun c=>some (0,(c,[])) else qbv fu fu d 0 b a
def qzu(fu:Nat)(j:l8)(c:qiq):qiq:=fun i h g f d a b e=>bif decide (0<=ae ((a.length:Int)-1)/\ae ((a.length:Int)-1)<=(a.length:Int)) then c i h g f d (List.take (ae ((a.length:Int)-1)).toNat a) b e else none
def qeu(k:l8)(g:qiq):Bs->Int->Int->Bs->Int->Bs->Bool->(Int×Int)->wV->Option ju:=fun j i h d a b f e c=>bif f then qzu fu k g j i h d a b e c else(qjd fu b).bind fun l=>bif !l then qbt fu i e c else bif decide (0<=ae (a+1)/\ae (a+1)<=(d.length:Int)) then bif decide (List.length (c++([(b,List.drop (ae (a+1)).toNat d)]:List (Bs×Bs)))<=az) then k j h e (c++([(b,List.drop (ae (a+1)).toNat d)]:List (Bs×Bs))) else none else none
def qzq(j:l8)(c:qiq):qiq:=fun i h g f d a b e=>bif decide (0<(a.length:Int)) then(ai a (ae ((a.length:Int)-1))).bind fun l=>(iw l).bind fun k=>qeu fu j c i h g f d a k b e else qeu fu j c i h g f d a false b e
def qj8(fu:Nat)(a:l8):Nat->qiq|0=>fun _ _ _ _ _ _ _ _=>none|n+1=>qzq fu a (qj8 fu a n)
def qzt(h:l8):Bs->Int->Int->Bs->(Int×Int)->wV->Option ju:=fun g e f a c d=>(y6 fu a [58] 0).bind fun b=>bif decide (b<0) then qbt fu e c d else bif decide (0<=b/\b<=(a.length:Int)) then qj8 fu h fu g e f a b (List.take b.toNat a) c d else none
def qey(h:l8):Bs->Int->Int->Bs->Bool->(Int×Int)->wV->Option ju:=fun g j e b d c a=>bif d then bif decide (0<=ae ((a.length:Int)-1)/\(ae ((a.length:Int)-1)).toNat<a.length) then(a[(ae ((a.length:Int)-1)).toNat]?).bind fun f=>bif decide (f.2.length+b.length<=ap) then bif decide (0<=ae ((a.length:Int)-1)/\(ae ((a.length:Int)-1)).toNat<a.length) then(a[(ae ((a.length:Int)-1)).toNat]?).bind fun i=>h g e c (List.set a ((ae ((a.length:Int)-1)).toNat) (i.1,f.2++b)) else none else none else none else qzt fu h g j e b c a
def qex(g:l8):zo8:=fun c a e f d b=>bif decide (0<=a/\a<=e/\e<=(c.length:Int)) then bif(List.take (e.toNat-a.toNat) (List.drop a.toNat c))==([]:Bs) then qbt fu f d b else bif decide (0<(b.length:Int)) then(ai (List.take (e.toNat-a.toNat) (List.drop a.toNat c)) 0).bind fun h=>(iw h).bind fun i=>qey fu g c a f (List.take (e.toNat-a.toNat) (List.drop a.toNat c)) i d b else qey fu g c a f (List.take (e.toNat-a.toNat) (List.drop a.toNat c)) false d b else none
def qew(g:l8):zo8:=fun c f d e a b=>bif d==(c.length:Int) then qex fu g c f e d a b else qex fu g c f e (ae (d+1)) a b
def qev(g:l8):Bs->Int->Int->Int->Bool->(Int×Int)->wV->Option ju:=fun f e h d c a b=>bif c then qew fu g f e h (ae (d-1)) a b else qew fu g f e h d a b
def qbu(f:l8)(i:qis):Bs->Int->Int->Bool->(Int×Int)->wV->Option ju:=fun d e a g b c=>bif g then zcz fu f i d e a b c else bif decide (a<(d.length:Int)) then bif decide (e<a) then(ai d (ae (a-1))).bind fun h=>qev fu f d e a a (h==13) b c else qev fu f d e a a false b c else qev fu f d e a a false b c
def qzp(f:l8)(g:qis):qis:=fun c e d a b=>bif decide (d<(c.length:Int)) then(ai c d).bind fun h=>qbu fu f g c e d (h != 10) a b else qbu fu f g c e d false a b
def za(fu:Nat)(a:l8):Nat->qis|0=>fun _ _ _ _ _=>none|n+1=>qzp fu a (za fu a n)
def qzo(e:l8):l8:=fun d c a b=>bif decide (c<(d.length:Int)) then za fu e fu d c c a b else qbt fu c a b
def y9(fu:Nat):Nat->l8|0=>fun _ _ _ _=>none|n+1=>qzo fu (y9 fu n)
def qq5(a:Bs):Option ju:=bif decide (12000<(a.length:Int)) then(fa 1 (-1)).bind fun b=>some (0,(b,[])) else y9 fu fu a 0 (0,0) []
abbrev p9:=wU×Int×(Int×Int)
abbrev uc:=wV->Bs->Int->Int->Option p9
abbrev qp9:=wV->Int->Int->Int->(Int×Int)->wV->Bs->(List Bs)->(Bs×Bs×wV)->Bs->Bs->wV->Option p9
abbrev zbu:=Int->Int->Int->(Int×Int)->wV->Bs->(List Bs)->wV->(List wU)->Option p9
def qld(f:uc)(fu:Nat)(l:qp9):qp9:=fun m k o h j b a e g d c i=>l m k o (ae (h+1)) j b a e g d c i
def q02(f:uc)(fu:Nat)(q:zbu):zbu:=fun l e a k b c d j g=>bif decide (a<(d.length:Int)) then bif decide (0<=a/\a.toNat<d.length) then(d[a.toNat]?).bind fun o=>(qq5 fu o).bind fun i=>bif i.2.1.1 != 0 then(fa i.2.1.1 (-8)).bind fun p=>some ((Tree.node (b,c) []),(e,p)) else bif decide (0<=a/\a.toNat<d.length) then(d[a.toNat]?).bind fun m=>bif decide (0<=i.1/\i.1<=(m.length:Int)) then(f i.2.2 (List.drop i.1.toNat m) (ae (l+1)) e).bind fun h=>bif h.2.2.1 != 0 then some ((Tree.node (b,c) []),h.2) else bif decide (List.length (g++([(Tree.node h.1.val h.1.kids)]:List wU))<=az) then q l h.2.1 (ae (a+1)) k b c d j (g++([(Tree.node h.1.val h.1.kids)]:List wU)) else none else none else none else none else some ((Tree.node (j,[]) g),(e,(0,0)))
def qlf(a:uc)(fu:Nat):Nat->zbu|0=>fun _ _ _ _ _ _ _ _ _=>none|n+1=>q02 a fu (qlf a fu n)
def q04(a:uc)(fu:Nat):wV->Int->Int->Bs->(Int×Int)->wV->Bs->(List Bs)->Option p9:=fun i g j e f b c d=>(q05 fu i e).bind fun h=>qlf a fu fu g (ae (j+1)) 0 f b c d h []
def qle(c:uc)(fu:Nat):wV->Int->Int->Bs->Bool->(Int×Int)->wV->Bs->(List Bs)->Option p9:=fun j i h f d g a b e=>bif d then some ((Tree.node (a,b) []),(ae (h+1),(0,0))) else q04 c fu j i h f g a b e
def q01(b:uc)(fu:Nat)(q:qp9):qp9:=fun l k m h i a c g f d e j=>bif decide (h<(f.2.2.length:Int)) then(ai f.2.2 h).bind fun r=>(fg fu r.1 [98,111,117,110,100,97,114,121]).bind fun s=>bif !s then(ai f.2.2 h).bind fun p=>bif decide (List.length (j++([p]:List (Bs×Bs)))<=az) then qld b fu q l k m h i a c g f d e (j++([p]:List (Bs×Bs))) else none else qld b fu q l k m h i a c g f d e j else(qj1 fu (d,(e,j))).bind fun o=>bif(g.length:Int)==0 then qle b fu l k m o true i a c g else qle b fu l k m o (decide (4000<(o.length:Int))) i a c g
def qlc(a:uc)(fu:Nat):Nat->qp9|0=>fun _ _ _ _ _ _ _ _ _ _ _ _=>none|n+1=>q01 a fu (qlc a fu n)
def q03(a:uc)(fu:Nat):wV->Bs->Int->Int->Bs->(Int×Int)->wV->Bs->Option p9:=fun g j h k d e c b=>(qri fu j d).bind fun i=>(qfd fu g).bind fun f=>qlc a fu fu g h k 0 e c b i f.1 f.1.1 f.1.2.1 []
def wo(c:uc)(fu:Nat):wV->Bs->Int->Int->Bs->Bool->(Int×Int)->wV->Bs->Option p9:=fun j i h g e d f b a=>bif d then some ((Tree.node (b,a) []),(ae (g+1),(0,0))) else q03 c fu j i h g e f b a
def qlb(a:uc)(fu:Nat)(b:List (Bs×Bs))(c:Bs)(e:Int)(d:Int):Option p9:=bif decide (40<=d) then(fa 2 (-7)).bind fun g=>some ((Tree.node (b,c) []),(ae (d+1),g)) else(qkq fu b).bind fun f=>bif !f.2 then wo a fu b c e d f.1 true (0,0) b c else wo a fu b c e d f.1 (e==8) (0,0) b c
def pz(fu:Nat):Nat->uc|0=>fun _ _ _ _=>none|n+1=>qlb (pz fu n) fu
def zc2(c:List (Bs×Bs))(a:Bs)(b:Int)(d:Int):Option p9:=pz fu fu c a b d
abbrev qtw:=(List wU)×(List Int)
abbrev qye:=wU->Int->Option qtw
abbrev zbv:=Int->Int->wU->(List wU)->(List Int)->Option qtw
def q0p(c:qye)(fu:Nat)(i:zbv):zbv:=fun g f a d b=>bif decide (f<(a.kids.length:Int)) then(ai a.kids f).bind fun h=>(c (Tree.node h.val h.kids) (ae (g+1))).bind fun e=>bif decide (List.length (d++e.1)<=az) then bif decide (List.length (b++e.2)<=az) then i g (ae (f+1)) (Tree.node a.val a.kids) (d++e.1) (b++e.2) else none else none else some (d,b)
def qk1(a:qye)(fu:Nat):Nat->zbv|0=>fun _ _ _ _ _=>none|n+1=>q0p a fu (qk1 a fu n)
def qrm(a:qye)(fu:Nat)(b:Tree (wV×Bs))(c:Int):Option qtw:=qk1 a fu fu c 0 (Tree.node b.val b.kids) ([(Tree.node b.val b.kids)]:List wU) ([c]:List Int)
def qe7(fu:Nat):Nat->qye|0=>fun _ _=>none|n+1=>qrm (qe7 fu n) fu
def qrl(b:Tree (wV×Bs))(a:Int):Option qtw:=qe7 fu fu b a
def zc1(fu:Nat):(Option Int):=some 0
def qk5:Bool->Option Int:=fun a=>bif a then some 5 else zc1 fu
def q0x:(wU->(Bs×Bs×wV)->Option Int):=fun a b=>(qj1 fu b).bind fun c=>bif decide (2000<(c.length:Int)) then qk5 fu true else(qkh fu a.val.1 [99,111,110,116,101,110,116,45,116,121,112,101]).bind fun d=>bif decide (0<=(0:Int)/\(0:Int).toNat<d.length) then(d[(0:Int).toNat]?).bind fun e=>qk5 fu (!(e==c)) else none
def rt:(Bool->wU->(Bs×Bs×wV)->Option Int):=fun c a b=>bif c then some 5 else q0x fu (Tree.node a.val a.kids) b
def qro(a:Tree (wV×Bs))(h:Int):Option Int:=(qjf fu a.val.1).bind fun c=>bif c.1 != 0 then some c.1 else bif decide (0<(a.kids.length:Int)) then(qfd fu a.val.1).bind fun b=>(qq1 fu b.1 [98,111,117,110,100,97,114,121]).bind fun i=>bif !b.2 then rt fu true (Tree.node a.val a.kids) b.1 else bif i.2 then rt fu true (Tree.node a.val a.kids) b.1 else(fg fu b.1.1 [109,117,108,116,105,112,97,114,116]).bind fun f=>bif !f then rt fu true (Tree.node a.val a.kids) b.1 else bif decide (0<(a.val.2.length:Int)) then rt fu true (Tree.node a.val a.kids) b.1 else rt fu (decide (60<=(b.1.2.2.length:Int))) (Tree.node a.val a.kids) b.1 else bif decide (12000<(a.val.2.length:Int)) then some 1 else(qrf fu a.val.2).bind fun e=>bif e.1 != 0 then some e.1 else(qkq fu a.val.1).bind fun d=>bif d.2 then bif decide (h<8) then(qri fu a.val.2 d.1).bind fun g=>bif decide (0<(g.length:Int)) then some 5 else some 0 else some 0 else some 0
abbrev qiu:=(List wU)->(List Int)->Int->(Int×Int)->Option ((Int×Int))
def q0z(i:qiu):qiu:=fun c d a b=>bif decide (a<(c.length:Int)) then(ai c a).bind fun e=>(ai d a).bind fun g=>(qro fu (Tree.node e.val e.kids) g).bind fun f=>bif f != 0 then(fa f a).bind fun h=>some h else i c d (ae (a+1)) b else some (0,0)
def qk7(fu:Nat):Nat->qiu|0=>fun _ _ _ _=>none|n+1=>q0z fu (qk7 fu n)
def q0y(f:qiu):qiu:=fun d b c a=>bif decide (c<(d.length:Int)) then(ai b c).bind fun e=>bif decide (8<e) then(fa 2 (-2)).bind fun g=>some g else f d b (ae (c+1)) a else qk7 fu fu d b 0 a
def qk6(fu:Nat):Nat->qiu|0=>fun _ _ _ _=>none|n+1=>q0y fu (qk6 fu n)
def qrp(b:Tree (wV×Bs)):Option ((Int×Int)):=(qrl fu (Tree.node b.val b.kids) 0).bind fun a=>bif decide (40<(a.1.length:Int)) then(fa 2 (-1)).bind fun c=>some c else qk6 fu fu a.1 a.2 0 (0,0)
abbrev zq6:=wU×(Int×Int)
def qfc(b:wV×Bs):Option zq6:=(qrn fu b).bind fun d=>bif d.1 != 0 then some ((Tree.node ([],[]) []),d) else(zc2 fu b.1 b.2 0 0).bind fun a=>bif a.2.2.1 != 0 then some ((Tree.node ([],[]) []),a.2.2) else(qrp fu (Tree.node a.1.val a.1.kids)).bind fun c=>bif c.1 != 0 then(fa c.1 (-9)).bind fun e=>some ((Tree.node ([],[]) []),e) else some ((Tree.node a.1.val a.1.kids),c)
def qkw(a:Bs):Option Int:=bif decide (0<=(0:Int)/\(0:Int).toNat<List.length ([([55,98,105,116]:Bs),([56,98,105,116]:Bs),([98,97,115,101,54,52]:Bs),([113,117,111,116,101,100,45,112,114,105,110,116,97,98,108,101]:Bs)]:List Bs)) then(([([55,98,105,116]:Bs),([56,98,105,116]:Bs),([98,97,115,101,54,52]:Bs),([113,117,111,116,101,100,45,112,114,105,110,116,97,98,108,101]:Bs)]:List Bs)[(0:Int).toNat]?).bind fun g=>(fg fu g a).bind fun i=>bif i then some 0 else bif decide (0<=(1:Int)/\(1:Int).toNat<List.length ([([55,98,105,116]:Bs),([56,98,105,116]:Bs),([98,97,115,101,54,52]:Bs),([113,117,111,116,101,100,45,112,114,105,110,116,97,98,108,101]:Bs)]:List Bs)) then(([([55,98,105,116]:Bs),([56,98,105,116]:Bs),([98,97,115,101,54,52]:Bs),([113,117,111,116,101,100,45,112,114,105,110,116,97,98,108,101]:Bs)]:List Bs)[(1:Int).toNat]?).bind fun h=>(fg fu h a).bind fun d=>bif d then some 1 else bif decide (0<=(2:Int)/\(2:Int).toNat<List.length ([([55,98,105,116]:Bs),([56,98,105,116]:Bs),([98,97,115,101,54,52]:Bs),([113,117,111,116,101,100,45,112,114,105,110,116,97,98,108,101]:Bs)]:List Bs)) then(([([55,98,105,116]:Bs),([56,98,105,116]:Bs),([98,97,115,101,54,52]:Bs),([113,117,111,116,101,100,45,112,114,105,110,116,97,98,108,101]:Bs)]:List Bs)[(2:Int).toNat]?).bind fun b=>(fg fu b a).bind fun f=>bif f then some 2 else bif decide (0<=(3:Int)/\(3:Int).toNat<List.length ([([55,98,105,116]:Bs),([56,98,105,116]:Bs),([98,97,115,101,54,52]:Bs),([113,117,111,116,101,100,45,112,114,105,110,116,97,98,108,101]:Bs)]:List Bs)) then(([([55,98,105,116]:Bs),([56,98,105,116]:Bs),([98,97,115,101,54,52]:Bs),([113,117,111,116,101,100,45,112,114,105,110,116,97,98,108,101]:Bs)]:List Bs)[(3:Int).toNat]?).bind fun c=>(fg fu c a).bind fun e=>bif e then some 3 else some (-1) else none else none else none else none
def q0d(fu:Nat)(d:qin):qin:=fun b a=>bif decide (a<64) then(ai [65,66,67,68,69,70,71,72,73,74,75,76,77,78,79,80,81,82,83,84,85,86,87,88,89,90,97,98,99,100,101,102,103,104,105,106,107,108,109,110,111,112,113,114,115,116,117,118,119,120,121,122,48,49,50,51,52,53,54,55,56,57,43,47] a).bind fun c=>bif c==b then some a else d b (ae (a+1)) else some (-1)
def zd(fu:Nat):Nat->qin|0=>fun _ _=>none|n+1=>q0d fu (zd fu n)
def q0c(a:UInt8):Option Int:=zd fu fu a 0
abbrev zbx:=(List Int)->Int->Int->Option Int
def qrd(fu:Nat)(e:zbx):zbx:=fun b c a=>bif decide (a<(b.length:Int)) then(ai b a).bind fun d=>e b (ae ((ae (2*c))+d)) (ae (a+1)) else some c
def qe3(fu:Nat):Nat->zbx|0=>fun _ _ _=>none|n+1=>qrd fu (qe3 fu n)
def q0a(a:List Int):Option Int:=qe3 fu fu a 0 0
abbrev qiv:=Bs->Int->Int->Int->(List Int)->Option (Bs)
abbrev we:=Bs->Int->(List Int)->Option (Bs)
abbrev zby:=(List Int)->Int->Bs->Option (Bs)
def qy2(fu:Nat)(g:we)(e:qiv):qiv:=fun f d c b a=>bif decide (0<=IntKind.u64.wrap (b)) then bif decide (List.length (a++([Int.tmod (Int.fdiv c (2 ^ min (IntKind.u64.wrap (b)).toNat 64)) 2]:List Int))<=az) then e f d c (ae (b-1)) (a++([Int.tmod (Int.fdiv c (2 ^ min (IntKind.u64.wrap (b)).toNat 64)) 2]:List Int)) else none else none
def qqv(e:we)(f:qiv):Bs->Int->Int->Int->Bool->(List Int)->Option (Bs):=fun d c h g b a=>bif b then qy2 fu e f d c h g a else e d (ae (c+1)) a
def qjk(g:we)(e:qiv):qiv:=fun f d c b a=>bif decide (0<=b) then qqv fu g e f d c b (decide (0<=c)) a else qqv fu g e f d c b false a
def rp(fu:Nat)(a:we):Nat->qiv|0=>fun _ _ _ _ _=>none|n+1=>qjk fu a (rp fu a n)
def qy1(e:we):we:=fun c b a=>(ai c b).bind fun d=>(q0c fu d).bind fun f=>rp fu e fu c b f 5 a
def qy0(e:zby):zby:=fun c a b=>bif decide ((ae (a+8))<=(c.length:Int)) then bif decide (0<=a/\a<=ae (a+8)/\ae (a+8)<=(c.length:Int)) then(q0a fu (List.take ((ae (a+8)).toNat-a.toNat) (List.drop a.toNat c))).bind fun d=>bif decide (List.length (b++([d9 d]:Bs))<=az) then e c (ae (a+8)) (b++([d9 d]:Bs)) else none else none else some b
def qeh(fu:Nat):Nat->zby|0=>fun _ _ _=>none|n+1=>qy0 fu (qeh fu n)
def qjl(d:we):Bs->Int->Bool->(List Int)->Option (Bs):=fun e c b a=>bif b then qy1 fu d e c a else qeh fu fu a 0 []
def qqu(d:we):we:=fun c b a=>bif decide (b<(c.length:Int)) then(ai c b).bind fun e=>qjl fu d c b (e != 61) a else qjl fu d c b false a
def qeg(fu:Nat):Nat->we|0=>fun _ _ _=>none|n+1=>qqu fu (qeg fu n)
def qyz(a:Bs):Option (Bs):=qeg fu fu a 0 []
abbrev qix:=Bs->Int->Int->Int->Int->Bs->Option (Bs)
abbrev qiw:=Bs->Int->Int->Int->Bool->Int->Bs->Option (Bs)
abbrev zbz:=Bs->Int->Int->Int->Int->Bool->Bs->Option (Bs)
def qy6(fu:Nat)(f:gf)(d:yw):yw:=fun c b e a=>d c b (ae (e+1)) a
def qy7(fu:Nat)(h:gf)(g:qix):qix:=fun d b f c e a=>g d b f c (ae (e-1)) a
def qjn(fu:Nat)(i:gf)(b:qiw):qiw:=fun f h e g c d a=>b f h e g c (ae (d+1)) a
def wk(j:gf)(d:qiw):Bs->Int->Int->Int->Bool->Int->Bool->Bs->Option (Bs):=fun c l i k g b e a=>bif e then(ai c (ae (b+1))).bind fun o=>(oh fu o).bind fun m=>(ai c (ae (b+2))).bind fun p=>(oh fu p).bind fun h=>bif decide (List.length (a++([d9 (ae ((ae (16*m))+h))]:Bs))<=az) then qjn fu j d c l i k g (ae (b+2)) (a++([d9 (ae ((ae (16*m))+h))]:Bs)) else none else(ai c b).bind fun f=>bif decide (List.length (a++([f]:Bs))<=az) then qjn fu j d c l i k g b (a++([f]:Bs)) else none
def qqx(g:gf)(f:qiw):qiw:=fun b c d h i e a=>bif decide (e<h) then(ai b e).bind fun k=>bif k==61 then bif decide ((ae (e+2))<h) then(ai b (ae (e+1))).bind fun j=>(oh fu j).bind fun m=>bif decide (0<=m) then(ai b (ae (e+2))).bind fun o=>(oh fu o).bind fun l=>wk fu g f b c d h i e (decide (0<=l)) a else wk fu g f b c d h i e false a else wk fu g f b c d h i e false a else wk fu g f b c d h i e false a else bif decide (c<(b.length:Int)) then bif !i then bif decide (0<=d/\d<=ae (c+1)/\ae (c+1)<=(b.length:Int)) then bif decide (List.length (a++(List.take ((ae (c+1)).toNat-d.toNat) (List.drop d.toNat b)))<=az) then g b (ae (c+1)) (a++(List.take ((ae (c+1)).toNat-d.toNat) (List.drop d.toNat b))) else none else none else g b (ae (c+1)) a else g b (ae (c+1)) a
def px(fu:Nat)(a:gf):Nat->qiw|0=>fun _ _ _ _ _ _ _=>none|n+1=>qqx fu a (px fu a n)
def qjm(f:gf):zbz:=fun e b h d g c a=>px fu f fu e h d g c b a
def qjq(f:gf):zbz:=fun e c h d g b a=>bif b then qjm fu f e c h d (ae (g-1)) b a else qjm fu f e c h d g b a
def qej(f:gf)(j:qix):zbz:=fun d c g e b h a=>bif h then qy7 fu f j d c g e b a else bif decide (c<b) then(ai d (ae (b-1))).bind fun i=>qjq fu f d c g e b (i==61) a else qjq fu f d c g e b false a
def qy5(f:gf)(g:qix):qix:=fun d c h e b a=>bif decide (c<b) then(ai d (ae (b-1))).bind fun i=>(iw i).bind fun j=>qej fu f g d c h e b j a else qej fu f g d c h e b false a
def qjp(fu:Nat)(a:gf):Nat->qix|0=>fun _ _ _ _ _ _=>none|n+1=>qy5 fu a (qjp fu a n)
def qjo(e:gf):Bs->Int->Int->Int->Bs->Option (Bs):=fun d c f b a=>qjp fu e fu d c f b b a
def qbj(f:gf):Bs->Int->Int->Int->Bool->Bs->Option (Bs):=fun e c g d b a=>bif b then qjo fu f e c g (ae (d-1)) a else qjo fu f e c g d a
def qbi(e:gf)(h:yw):Bs->Int->Int->Bool->Bs->Option (Bs):=fun c d a f b=>bif f then qy6 fu e h c d a b else bif decide (a<(c.length:Int)) then bif decide (d<a) then(ai c (ae (a-1))).bind fun g=>qbj fu e c d a a (g==13) b else qbj fu e c d a a false b else qbj fu e c d a a false b
def qy4(e:gf)(f:yw):yw:=fun b d c a=>bif decide (c<(b.length:Int)) then(ai b c).bind fun g=>qbi fu e f b d c (g != 10) a else qbi fu e f b d c false a
def qbh(fu:Nat)(a:gf):Nat->yw|0=>fun _ _ _ _=>none|n+1=>qy4 fu a (qbh fu a n)
def qqw(d:gf):gf:=fun c b a=>bif decide (b<(c.length:Int)) then qbh fu d fu c b b a else some a
def qei(fu:Nat):Nat->gf|0=>fun _ _ _=>none|n+1=>qqw fu (qei fu n)
def qy3(a:Bs):Option (Bs):=qei fu fu a 0 []
def qrs(a:Bs)(b:Int):Option (Bs):=bif b==2 then(qyz fu a).bind fun c=>some c else bif b==3 then(qy3 fu a).bind fun d=>some d else some a
abbrev zb0:=Int->wU->(List Bs)->Option (Bs)
def q0o(g:zb0):zb0:=fun c b a=>bif decide (c<(a.length:Int)) then bif decide (0<=c/\c.toNat<a.length) then(a[c.toNat]?).bind fun e=>(qkw fu e).bind fun i=>bif decide (0<=i) then bif decide (0<=c/\c.toNat<a.length) then(a[c.toNat]?).bind fun h=>(qkw fu h).bind fun d=>(qrs fu b.val.2 d).bind fun f=>some f else none else g (ae (c+1)) (Tree.node b.val b.kids) a else none else some b.val.2
def qk0(fu:Nat):Nat->zb0|0=>fun _ _ _=>none|n+1=>q0o fu (qk0 fu n)
def qrj(a:Tree (wV×Bs)):Option (Bs):=(qkh fu a.val.1 [99,111,110,116,101,110,116,45,116,114,97,110,115,102,101,114,45,101,110,99,111,100,105,110,103]).bind fun b=>qk0 fu fu 0 (Tree.node a.val a.kids) b
def qk9(fu:Nat)(b:oe):oe:=fun c d a=>b c d (ae (a+1))
def qla(d:oe):zbi:=fun e b c a=>bif a then bif decide (b.length+List.length ([32]:Bs)<=ap) then qk9 fu d e (b++[32]) c else none else qk9 fu d e b c
def qrq(d:oe):oe:=fun c a b=>bif decide (b<(c.length:Int)) then(ai c b).bind fun g=>(iw g).bind fun j=>bif !j then bif decide (0<=b/\b<=ae (b+1)/\ae (b+1)<=(c.length:Int)) then bif decide (a.length+List.length (List.take ((ae (b+1)).toNat-b.toNat) (List.drop b.toNat c))<=ap) then qk9 fu d c (a++(List.take ((ae (b+1)).toNat-b.toNat) (List.drop b.toNat c))) b else none else none else bif a==([]:Bs) then qla fu d c a b true else(ai a (ae ((a.length:Int)-1))).bind fun e=>bif e != 32 then qla fu d c a b true else(ai c (ae (b-1))).bind fun h=>(iw h).bind fun f=>qla fu d c a b (!f) else bif !(a==([]:Bs)) then(ai a (ae ((a.length:Int)-1))).bind fun i=>bif i==32 then bif decide (0<=ae ((a.length:Int)-1)/\ae ((a.length:Int)-1)<=(a.length:Int)) then some (List.take (ae ((a.length:Int)-1)).toNat a) else none else some a else some a
def qb0(fu:Nat):Nat->oe|0=>fun _ _ _=>none|n+1=>qrq fu (qb0 fu n)
def qk8(a:Bs):Option (Bs):=qb0 fu fu a [] 0
abbrev qiz:=Bs->Bs->Int->Int->Int->Option (Bs)
abbrev zb1:=Bs->Bs->Int->Int->Bs->Option (Bs)
abbrev yv:=Bs->Bs->Int->Int->Option (Bs)
def q0k(fu:Nat)(g:yv)(d:qiz):qiz:=fun c f a e b=>d c f a e (ae (b+1))
def q0j(fu:Nat)(g:yv)(f:zb1):zb1:=fun e a c d b=>bif decide (0<c) then bif decide (a.length+List.length ([13,10]:Bs)<=ap) then f e (a++[13,10]) (ae (c-1)) d b else none else bif decide (a.length+b.length<=ap) then bif decide (List.length (a++b)+List.length ([13,10]:Bs)<=ap) then bif d==(e.length:Int) then some ((a++b)++[13,10]) else g e ((a++b)++[13,10]) c (ae (d+2)) else none else none
def qkv(fu:Nat)(a:yv):Nat->zb1|0=>fun _ _ _ _ _=>none|n+1=>q0j fu a (qkv fu a n)
def ze(g:yv)(i:qiz):Bs->Bs->Int->Int->Int->Bool->Option (Bs):=fun b d e c a f=>bif f then q0k fu g i b d e c a else bif decide (0<=c/\c<=a/\a<=(b.length:Int)) then(qk8 fu (List.take (a.toNat-c.toNat) (List.drop c.toNat b))).bind fun h=>bif h==([]:Bs) then bif a==(b.length:Int) then some d else g b d (ae (e+1)) (ae (a+2)) else qkv fu g fu b d e a h else none
def q0i(d:yv)(e:qiz):qiz:=fun b g c f a=>bif decide (a<(b.length:Int)) then(ue b a).bind fun h=>ze fu d e b g c f a (!h) else ze fu d e b g c f a false
def qku(fu:Nat)(a:yv):Nat->qiz|0=>fun _ _ _ _ _=>none|n+1=>q0i fu a (qku fu a n)
def q0h(e:yv):yv:=fun b c d a=>bif decide (a<=(b.length:Int)) then qku fu e fu b c d a a else some c
def qe5(fu:Nat):Nat->yv|0=>fun _ _ _ _=>none|n+1=>q0h fu (qe5 fu n)
def qrh(a:Bs):Option (Bs):=qe5 fu fu a [] 0 0
def qrk(c:Bs×Bs):Option (Bs):=(rq fu c.1).bind fun a=>bif decide (a.length+List.length ([58]:Bs)<=ap) then(qk8 fu c.2).bind fun b=>bif decide (List.length (a++[58])+b.length<=ap) then bif decide (List.length ((a++[58])++b)+List.length ([13,10]:Bs)<=ap) then some (((a++[58])++b)++[13,10]) else none else none else none
abbrev qi0:=(List wU)->Bs->Int->Bs->Int->Option (Bs)
abbrev qba:=(List wU)->Bs->Int->Option (Bs)
def qk3(fu:Nat)(g:qba)(c:qi0):qi0:=fun f e b d a=>c f e b d (ae (a+1))
def qbz(g:qba)(h:qi0):((List wU)->Bs->Int->Bs->Int->Bool->(Bs×Bs)->Option (Bs)):=fun j i f c d a b=>bif a then(qrk fu b).bind fun e=>bif decide (c.length+e.length<=ap) then qk3 fu g h j i f (c++e) d else none else qk3 fu g h j i f c d
def qk2(j:qba):((List wU)->Bs->Int->Bs->Bs->Option (Bs)):=fun h b g f d=>(ai h g).bind fun i=>(rr fu (i.kids.length:Int)).bind fun a=>bif decide (b.length+a.length<=ap) then bif decide (List.length (b++a)+List.length ([32]:Bs)<=ap) then(rr fu (f.length:Int)).bind fun c=>bif decide (List.length ((b++a)++[32])+c.length<=ap) then bif decide (List.length (((b++a)++[32])++c)+List.length ([32]:Bs)<=ap) then(rr fu (d.length:Int)).bind fun e=>bif decide (List.length ((((b++a)++[32])++c)++[32])+e.length<=ap) then bif decide (List.length (((((b++a)++[32])++c)++[32])++e)+List.length ([13,10]:Bs)<=ap) then bif decide (List.length ((((((b++a)++[32])++c)++[32])++e)++[13,10])+f.length<=ap) then bif decide (List.length (((((((b++a)++[32])++c)++[32])++e)++[13,10])++f)+d.length<=ap) then j h ((((((((b++a)++[32])++c)++[32])++e)++[13,10])++f)++d) (ae (g+1)) else none else none else none else none else none else none else none else none
def q0r(d:qba)(i:qi0):qi0:=fun b g a f c=>(ai b a).bind fun p=>bif decide (c<(p.val.1.length:Int)) then(ai b a).bind fun j=>(ai j.val.1 c).bind fun e=>(fg fu e.1 [114,101,99,101,105,118,101,100]).bind fun l=>bif !l then(fg fu e.1 [99,111,110,116,101,110,116,45,116,114,97,110,115,102,101,114,45,101,110,99,111,100,105,110,103]).bind fun q=>qbz fu d i b g a f c (!q) e else qbz fu d i b g a f c false e else(ai b a).bind fun m=>bif(m.kids.length:Int)==0 then(ai b a).bind fun h=>(qrj fu (Tree.node h.val h.kids)).bind fun o=>(qrh fu o).bind fun k=>qk2 fu d b g a f k else qk2 fu d b g a f ([]:Bs)
def zg(fu:Nat)(a:qba):Nat->qi0|0=>fun _ _ _ _ _=>none|n+1=>q0r fu a (zg fu a n)
def q0q(d:qba):qba:=fun c b a=>bif decide (a<(c.length:Int)) then zg fu d fu c b a [] 0 else some b
def qe9(fu:Nat):Nat->qba|0=>fun _ _ _=>none|n+1=>q0q fu (qe9 fu n)
def qe8(a:Tree (wV×Bs)):Option (Bs):=(qrl fu (Tree.node a.val a.kids) 0).bind fun b=>qe9 fu fu b.1 [] 0
def qff(d:wV×Bs)(f:wV×Bs):Option Bool:=(qrt fu).bind fun g=>bif !g then some false else(qr4 fu d f).bind fun a=>(qfc fu d).bind fun b=>bif b.2.1 != 0 then bif((a.2.1==b.2.1)&&((a.2.2==b.2.2)&&true)) then some (!a.1) else some false else(qfc fu f).bind fun c=>bif c.2.1 != 0 then(fa c.2.1 (-10)).bind fun e=>bif((a.2.1==e.1)&&((a.2.2==e.2)&&true)) then some (!a.1) else some false else bif a.2.1==0 then(qe8 fu (Tree.node b.1.val b.1.kids)).bind fun i=>(qe8 fu (Tree.node c.1.val c.1.kids)).bind fun h=>some (a.1==(i==h)) else some false
abbrev zb5:=Int->Bs->Int->Int->Option Int
def q1w(fu:Nat)(f:zb5):zb5:=fun d b c a=>bif decide (a<c) then(ai b a).bind fun e=>f (IntKind.u64.wrap ((IntKind.u64.wrap (((BitVec.ofInt 64 d ^^^ BitVec.ofInt 64 (e.toNat:Int)).toNat:Int)))*1099511628211)) b c (ae (a+1)) else some d
def qlq(fu:Nat):Nat->zb5|0=>fun _ _ _ _=>none|n+1=>q1w fu (qlq fu n)
def qr5(a:Bs):Option Int:=qlq fu fu 14695981039346656037 a (a.length:Int) 0
def q1r(b:wV×Bs):Option (Int×(Int×Int)):=(zk fu b).bind fun a=>(ef a.1).bind fun e=>bif e then some (0,a.1) else(qr5 fu a.2).bind fun d=>(dh).bind fun c=>some (d,c)
def q0t(fu:Nat)(e:qy):qy:=fun b c a=>bif decide (a<(b.length:Int)) then(ai b a).bind fun d=>e b (IntKind.u64.wrap ((IntKind.u64.wrap (((BitVec.ofInt 64 c ^^^ BitVec.ofInt 64 (d.toNat:Int)).toNat:Int)))*1099511628211)) (ae (a+1)) else some c
def qk4(fu:Nat):Nat->qy|0=>fun _ _ _=>none|n+1=>q0t fu (qk4 fu n)
def q0s(a:Bs):Option Int:=qk4 fu fu a 14695981039346656037 0
def qfe(d:wV×Bs):Option Bool:=(qrt fu).bind fun f=>bif !f then some false else(zk fu d).bind fun c=>(q1r fu d).bind fun b=>(qfc fu d).bind fun a=>bif a.2.1 != 0 then bif((c.1.1==a.2.1)&&((c.1.2==a.2.2)&&true)) then bif((b.2.1==a.2.1)&&((b.2.2==a.2.2)&&true)) then bif(c.2.length:Int)==0 then some (b.1==0) else some false else some false else some false else(qe8 fu (Tree.node a.1.val a.1.kids)).bind fun e=>bif c.1.1==0 then bif b.2.1==0 then bif c.2==e then(q0s fu e).bind fun g=>some (b.1==g) else some false else some false else some false
end
end Go.Sym

